/-
  The walks of flipped and MirrorFlipped.
-/
import Derived.Test.YtpbiminbhihjnaaDoorLawD
import Derived.StillTailTactics
import Derived.Lib.SlBytesRow
namespace Go.Proofs.YtpbiminbhihjnaaDoor
open Go.RowKit Tri Go.Maps Go.WideMaps Dist
set_option linter.unusedSimpArgs false
set_option linter.unusedVariables false

/-- The cells of a list of bytes. -/
def u8s (l : List UInt8) : Array Value := (l.map fun c => Value.int .u8 (c.toNat : Int)).toArray

theorem u8s_get (l : List UInt8) (i : Nat) (h : i < l.length) : (u8s l)[i]? = some (.int .u8 ((l.getD i 0).toNat : Int)) := by
  unfold u8s
  simp [List.getElem?_map, List.getElem?_eq_getElem h]
theorem u8s_set (l : List UInt8) (i : Nat) (x : UInt8) : (u8s l).setIfInBounds i (.int .u8 (x.toNat : Int)) = u8s (l.set i x) := by
  unfold u8s
  simp [List.map_set]

theorem info5 : (Tryd.prog.info? 5).map (fun i => (i.zero, i.size, i.bytes)) = some (some (.int .u8 0), 1, 1) := by kernel_rfl

theorem make_u8s (n : Nat) (hn : n ≤ 100000) (k1 k2 : IntKind) (w : World) :
    (Instr.makeSlice 65 (.int k1 (n : Int)) (.int k2 (n : Int))).run Tryd.prog w = .ok (.slice (some ⟨w.heap.size, 0, none⟩) n n) (w.alloc (.cells (u8s (List.replicate n 0)) 5)) := by
  obtain ⟨i, hi, hz, hs, hb⟩ := info_parts info5
  have h := run_make w (P := Tryd.prog) 65 5 i (.int .u8 0) Tryd.underlying65 hi hz k1 k2 n n (by omega) (Int.le_refl _) (by rw [hb]; omega) (by omega)
  rw [h, hs]
  have e : madeCells (Value.int .u8 0).cells (n * 1) = u8s (List.replicate n 0) := by
    apply Array.toList_inj.1
    have : (Value.int .u8 0).cells = #[Value.int .u8 0] := rfl
    rw [this, Nat.mul_one, toList_madeCells_one]
    simp [u8s]
  simp only [Int.toNat_natCast]
  rw [e]

/-- The byte of the other player. -/
def flB (c : UInt8) : UInt8 := if c = 120 then 111 else if c = 111 then 120 else c

theorem flB_val (c : UInt8) : ((flB c).toNat : Int) = fl (c.toNat : Int) := by
  unfold flB fl
  have e1 : c = 120 ↔ (c.toNat : Int) = 120 := by
    rw [← UInt8.toNat_inj]
    show c.toNat = 120 ↔ _
    omega
  have e2 : c = 111 ↔ (c.toNat : Int) = 111 := by
    rw [← UInt8.toNat_inj]
    show c.toNat = 111 ↔ _
    omega
  by_cases h1 : c = 120
  · rw [if_pos h1, if_pos (e1.1 h1)]; rfl
  · rw [if_neg h1, if_neg (fun h => h1 (e1.2 h))]
    by_cases h2 : c = 111
    · rw [if_pos h2, if_pos (e2.1 h2)]; rfl
    · rw [if_neg h2, if_neg (fun h => h2 (e2.2 h))]

/-- The board while it is flipped. -/
def flTo (n : Nat) (s : ByteArray) : Nat → List UInt8
  | 0 => List.replicate s.size 0
  | i + 1 => (flTo n s i).set (tr n i) (flB (s.data.toList.getD i 0))

theorem flTo_len (n : Nat) (s : ByteArray) : ∀ i, (flTo n s i).length = s.size
  | 0 => by simp [flTo]
  | i + 1 => by simp [flTo, flTo_len n s i]

theorem flTo_at (n : Nat) (s : ByteArray) (hs : s.size = n * n) : ∀ i, i ≤ n * n → ∀ a, a < i → (flTo n s i).getD (tr n a) 0 = flB (s.data.toList.getD a 0)
  | 0, _, a, h => by omega
  | i + 1, hi, a, h => by
    have hl : tr n i < (flTo n s i).length := by rw [flTo_len, hs]; exact (tr_at (n := n) (a := i) (by omega)).1
    unfold flTo
    by_cases e : a = i
    · subst e
      simp only [List.getD_eq_getElem?_getD]
      rw [List.getElem?_set_self hl]
      rfl
    · have hne : tr n i ≠ tr n a := by
        intro h2
        have h3 := (tr_at (n := n) (a := i) (by omega)).2.2.2
        have h4 := (tr_at (n := n) (a := a) (by omega)).2.2.2
        rw [h2, h4] at h3
        exact e h3
      have := flTo_at n s hs i (by omega) a (by omega)
      simp only [List.getD_eq_getElem?_getD] at this ⊢
      rw [List.getElem?_set_ne hne]
      exact this

def flAll (n : Nat) (s : ByteArray) : ByteArray := ⟨(flTo n s s.size).toArray⟩

theorem flAll_flip {n : Nat} {s : ByteArray} (hs : s.size = n * n) : FlipOf n s (flAll n s) := by
  intro a ha
  have := flTo_at n s hs s.size (by omega) a (by omega)
  unfold bt flAll
  simp only [List.toList_toArray]
  rw [this, flB_val]

theorem flAll_size {n : Nat} {s : ByteArray} : (flAll n s).size = s.size := by
  show (flTo n s s.size).toArray.size = s.size
  rw [List.size_toArray, flTo_len]

theorem flAll_ok {n : Nat} {s : ByteArray} {b : Bool} (h : boardErr n s b = 0) : boardErr n (flAll n s) b = 0 := by
  obtain ⟨m, e, h1, h2, h3, h4⟩ := board_ok h
  obtain rfl : n = m := by omega
  unfold boardErr
  rw [if_neg (by omega), flAll_size, if_neg (by rw [h3]; simp), if_pos]
  have hF := (flAll_flip h3).symm
  unfold okBytes
  rw [List.all_eq_true]
  intro c hc
  rw [List.take_of_length_le (by show (flTo n s s.size).length ≤ _; rw [flTo_len]; exact Nat.le_refl _)] at hc
  obtain ⟨i, hi, rfl⟩ := List.getElem_of_mem hc
  have hi' : i < (flAll n s).size := by simpa using hi
  have hi2 : i < n * n := by rw [← h3, ← flAll_size (n := n)]; exact hi'
  have e : bt (flAll n s) i = (((flAll n s).data.toList[i].toNat : Nat) : Int) := by rw [← bt_eq _ i hi']; rfl
  have hb := hF i hi2
  have hv := okBytes_at h4 (tr n i) (by rw [h3]; exact (tr_at hi2).1)
  unfold okByte
  rw [← e]
  rw [hb] at hv
  have hx : fl (bt (flAll n s) i) = 120 ∨ fl (bt (flAll n s) i) = 111 ∨ (fl (bt (flAll n s) i) = 46 ∧ b = true) := hv
  generalize bt (flAll n s) i = x at hx ⊢
  unfold fl at hx
  by_cases e1 : x = 120
  · simp [e1]
  · by_cases e2 : x = 111
    · simp [e2]
    · rw [if_neg e1, if_neg e2] at hx
      rcases hx with h | h | ⟨h, h'⟩
      · exact absurd h e1
      · exact absurd h e2
      · simp [h, h']

def FlPost (n : Nat) (s : ByteArray) (w : World) (e : Ending) (w' : World) : Prop := e = .returned (.string (flAll n s)) ∧ Below w.heap.size w w'

theorem bytes_blk {w : World} {g : Nat} {t : ByteArray} {l : List UInt8} (h : Blk w g 5 (u8s l)) (ht : t = ⟨l.toArray⟩) : Lib.Bytes w g 0 t := by
  subst ht
  intro i hi
  have hi' : i < l.length := by simpa [ByteArray.size] using hi
  rw [Nat.zero_add, h.cell, u8s_get l i hi']
  rw [List.getD_eq_getElem?_getD, List.getElem?_eq_getElem hi']
  rfl

theorem flStep {wr : World} {g n k a : Nat} {s : ByteArray} {x : Int} (h : Blk wr g 5 (u8s (flTo n s k))) (hk : k < s.size) (ha : tr n k = a) (hx : x = ((flB s[k]).toNat : Int)) :
    Blk (wr.drew.setCell ⟨g, a, none⟩ (.int .u8 x)) g 5 (u8s (flTo n s (k + 1))) := by
  have := (h.drew).set_ a (.int .u8 x)
  subst hx
  rw [u8s_set, ← ha] at this
  have e : s.data.toList.getD k 0 = s[k] := by
    rw [List.getD_eq_getElem?_getD, List.getElem?_eq_getElem (by simpa using hk)]
    rfl
  have e2 : flTo n s (k + 1) = (flTo n s k).set (tr n k) (flB s[k]) := by
    show (flTo n s k).set (tr n k) (flB (s.data.toList.getD k 0)) = _
    rw [e]
  rw [e2, ← ha]
  exact this

set_option maxHeartbeats 2000000 in
set_option maxRecDepth 100000 in
theorem flipped21 (n : Nat) (s : ByteArray) (w : World) (h1 : 1 ≤ n) (h2 : n ≤ 11) (hs : s.size = n * n) : Calls Tryd.prog 21 #[.int .i64 (n : Int), .string s] w (FlPost n s w) := by
  have hs121 : s.size ≤ 121 := by have := Nat.mul_le_mul h2 h2; omega
  have HSZ := Lib.hid hs
  have hmk := fun k1 k2 W => make_u8s s.size (by omega) k1 k2 W
  have hsn : s.size ≤ n * n := by omega
  clear hs
  go_enter Tryd.func21, Tryd.ntmps21
  go_wp2_with fail
  clear hmk
  go_loopg [6] s.size (fun q i wr => ∃ k : Nat, i = .int .i64 k ∧ k ≤ s.size ∧ Hid (q = s.size - k) ∧ Blk wr w.heap.size 5 (u8s (flTo n s k)) ∧ Below w.heap.size w wr)
  case atStart => exact ⟨0, rfl, Nat.zero_le _, rfl, Blk.new w 5 _, (Below.refl _ _).alloc (Nat.le_refl _) _⟩
  case round =>
    obtain ⟨k, rfl, hk, hq, hB, hL⟩ := hrel
    have HB := Lib.hid hB
    have HL := Lib.hid hL
    clear hB hL
    by_cases hlt : k < s.size
    · have hkn : k < n * n := by omega
      have ht := (tr_at hkn).1
      have hkk : k ≤ 121 := by omega
      have y1 : k % n < n := Nat.mod_lt _ (by omega)
      have y2 : k / n < n := Nat.div_lt_of_lt_mul hkn
      obtain ⟨r, hr⟩ : ∃ r, r = k % n := ⟨_, rfl⟩
      obtain ⟨d, hd⟩ : ∃ d, d = k / n := ⟨_, rfl⟩
      have y3 : r * n ≤ 121 := by have := Nat.mul_le_mul (show r ≤ 11 by omega) h2; omega
      obtain ⟨m, hm⟩ : ∃ m, m = r * n := ⟨_, rfl⟩
      have HT := Lib.hid (show tr n k = m + d by rw [hm, hr, hd]; rfl)
      have z0 : ((k : Int).tmod (n : Int)) = (r : Int) := by rw [hr]; exact Int.ofNat_tmod k n
      have z1 : ((k : Int) % (n : Int)) = (r : Int) := by rw [hr]; exact (Int.natCast_emod k n).symm
      have z2 : ((k : Int).tdiv (n : Int)) = (d : Int) := by rw [hd]; exact Int.ofNat_tdiv k n
      have z3 : ((k : Int) / (n : Int)) = (d : Int) := by rw [hd]; exact (Int.natCast_ediv k n).symm
      have z4 : IntKind.i64.wrap ((r : Int) * (n : Int)) = (m : Int) := by rw [hm, Int.natCast_mul]; exact IntWalk.i64_in _ (by constructor <;> omega)
      have z5 : IntKind.i64.wrap ((m : Int) + (d : Int)) = (m : Int) + (d : Int) := by exact IntWalk.i64_in _ (by omega)
      have z6 : IntKind.i64.wrap (d : Int) = (d : Int) := IntWalk.i64_in _ (by omega)
      have hlen : m + d < s.size := by rw [← HT.out, HSZ.out]; exact ht
      have z7 : (m : Int) + (d : Int) < (s.size : Int) := by omega
      have z8 : 0 ≤ (m : Int) + (d : Int) := by omega
      have z9 : ((m : Int) + (d : Int)).toNat = m + d := by omega
      have hcl : wr.cell? ⟨w.heap.size, m + d, none⟩ = some (.int .u8 (((flTo n s k).getD (m + d) 0).toNat : Int)) := by rw [HB.out.cell, u8s_get _ _ (by rw [flTo_len]; exact hlen)]
      have hfr : wr.frozen? ⟨w.heap.size, m + d, none⟩ = false := HB.out.frozen _
      clear hr hd hm
      have hn0 : ((n : Int) == 0) = false := by rw [beq_eq_false_iff_ne]; omega
      have hn1 : ¬ (n : Int) = 0 := by omega
      have hn2 : ¬ n = 0 := by omega
      have fin : ∀ x : Int, x = ((flB s[k]).toNat : Int) → Blk (wr.drew.setCell ⟨w.heap.size, m + d, none⟩ (.int .u8 x)) w.heap.size 5 (u8s (flTo n s (k + 1))) := fun x hx => flStep HB.out hlt HT.out hx
      have FIN := Lib.hid fin
      have finL : ∀ x : Int, Below w.heap.size w (wr.drew.setCell ⟨w.heap.size, m + d, none⟩ (.int .u8 x)) := fun x => (HL.out.drew).setCell (Nat.le_refl _) _
      have FINL := Lib.hid finL
      clear fin finL
      by_cases c1 : s[k] = 120
      · have d1 : (((s[k].toNat : Nat) : Int) == 120) = true := by rw [c1]; rfl
        have FX := Lib.hid (show (111 : Int) = ((flB s[k]).toNat : Int) by rw [c1]; rfl)
        clear c1
        go_wp2_with fail
        go_still_tail 12, (by kernel_rfl)
        clear z0 z1 z2 z3 z4 z5 z6 z7 z8 z9
        go_wp2_with fail
        go_roundg (s.size - (k + 1))
        case measure => have := hq.out; omega
        case rel => exact ⟨k + 1, by go_num, by omega, rfl, FIN.out _ FX.out, FINL.out _⟩
      · have d1 : (((s[k].toNat : Nat) : Int) == 120) = false := by
          rw [beq_eq_false_iff_ne]
          intro e
          apply c1
          apply UInt8.toNat_inj.1
          show s[k].toNat = 120
          omega
        by_cases c2 : s[k] = 111
        · have d2 : (((s[k].toNat : Nat) : Int) == 111) = true := by rw [c2]; rfl
          have FX := Lib.hid (show (120 : Int) = ((flB s[k]).toNat : Int) by rw [c2]; rfl)
          clear c1 c2
          go_wp2_with fail
          go_still_tail 12, (by kernel_rfl)
          clear z0 z1 z2 z3 z4 z5 z6 z7 z8 z9
          go_wp2_with fail
          go_roundg (s.size - (k + 1))
          case measure => have := hq.out; omega
          case rel => exact ⟨k + 1, by go_num, by omega, rfl, FIN.out _ FX.out, FINL.out _⟩
        · have d2 : (((s[k].toNat : Nat) : Int) == 111) = false := by
            rw [beq_eq_false_iff_ne]
            intro e
            apply c2
            apply UInt8.toNat_inj.1
            show s[k].toNat = 111
            omega
          have FX := Lib.hid (show ((s[k].toNat : Nat) : Int) = ((flB s[k]).toNat : Int) by unfold flB; rw [if_neg c1, if_neg c2])
          clear c1 c2
          go_wp2_with fail
          go_still_tail 12, (by kernel_rfl)
          clear z0 z1 z2 z3 z4 z5 z6 z7 z8 z9
          go_wp2_with fail
          go_roundg (s.size - (k + 1))
          case measure => have := hq.out; omega
          case rel => exact ⟨k + 1, by go_num, by omega, rfl, FIN.out _ FX.out, FINL.out _⟩
    · obtain rfl : k = s.size := by omega
      have kb := Lib.run_convert_whole (P := Tryd.prog) wr 65 5 9 Tryd.underlying65 Tryd.underlying5 Tryd.underlying9 w.heap.size 0 (flAll n s) (bytes_blk HB.out rfl) s.size
      rw [flAll_size] at kb
      go_wp2_with fail
      go_ret
      exact ⟨rfl, HL.out⟩

theorem needsX_val (n : Nat) (s : ByteArray) (r : Option Nat) (hs : s.size ≤ 1000) (he : boardErr n s true = 0) (hr : Best n s 120 0 1 r) : ∀ W, StepsAt W → Calls Tryd.prog 16 #[.int .i64 (n : Int), .string s, .string ⟨#[120]⟩] W (ValPost (r.getD 0 : Nat) (errOf r) W) := by
  intro W hS
  cases r with
  | none => exact needsX_none n s W hs he hr hS
  | some k => exact needsX_some n s k W hs he hr hS
theorem needsO_val (n : Nat) (s : ByteArray) (r : Option Nat) (hs : s.size ≤ 1000) (he : boardErr n s true = 0) (hr : Best n s 111 0 1 r) : ∀ W, StepsAt W → Calls Tryd.prog 16 #[.int .i64 (n : Int), .string s, .string ⟨#[111]⟩] W (ValPost (r.getD 0 : Nat) (errOf r) W) := by
  intro W hS
  cases r with
  | none => exact needsO_none n s W hs he hr hS
  | some k => exact needsO_some n s k W hs he hr hS

set_option maxHeartbeats 4000000 in
set_option maxRecDepth 100000 in
theorem lawFlipped (n : Int) (s : ByteArray) (w : World) (hS : StepsAt w) (hM : MaxAt w) : Calls Tryd.prog 5 #[.int .i64 n, .string s] w (AlivePost w) := by
  have HS := Lib.hid hS
  have HM := Lib.hid hM
  clear hS hM
  by_cases h1 : 200 < s.size
  · go_enter Tryd.func5, Tryd.ntmps5
    go_wp2_with (go_at_call 15; refine (alive15 _ HS.out HM.out).mono ?_; rintro e w1 ⟨rfl, hL⟩)
    go_ret
    exact ⟨rfl, hL⟩
  · by_cases he : boardErr n s true = 0
    · obtain ⟨m, rfl, q1, q2, q3, q4⟩ := board_ok he
      have hsm : s.size ≤ 200 := by omega
      have hb0 : (boardErr m s true != 0) = false := by simp [he]
      have hF := flAll_flip q3
      obtain ⟨t, ht⟩ : ∃ t, t = flAll m s := ⟨_, rfl⟩
      have Q3 := Lib.hid q3
      obtain ⟨A, hA⟩ := best_exists m s 120 0 1
      obtain ⟨C, hC⟩ := best_exists m s 111 0 1
      have hts : (flAll m s).size ≤ 1000 := by rw [flAll_size]; omega
      have N1 := Lib.hid (needsX_val m s A (by omega) he hA)
      have N2 := Lib.hid (needsO_val m (flAll m s) A hts (flAll_ok he) (flip_best q1 hF (.inl rfl) hA))
      have N3 := Lib.hid (needsO_val m s C (by omega) he hC)
      have N4 := Lib.hid (needsX_val m (flAll m s) C hts (flAll_ok he) (flip_best q1 hF (.inr rfl) hC))
      generalize ((A.getD 0 : Nat) : Int) = a at *
      generalize errOf A = ae at *
      generalize ((C.getD 0 : Nat) : Int) = c at *
      generalize errOf C = ce at *
      clear hA hC q4 q3 he
      by_cases hf : boardErr m s false = 0
      · have hf0 : (boardErr m s false != 0) = false := by simp [hf]
        obtain ⟨r, hr⟩ := who_exists m s
        have hn1 := hex_nobody hf
        rw [Int.toNat_natCast] at hn1
        have hr2 := who_two hr (fun e => hn1 (e ▸ hr))
        have hr' := flip_who q1 hF hr2 hr
        have HR := Lib.hid hr
        have HR' := Lib.hid hr'
        have HF := Lib.hid hf
        have HFT := Lib.hid (flAll_ok hf)
        have SH := Lib.hid (fun (l l' : List Nat) (h : Short m s r l) (h' : Short m (flAll m s) (231 - r) l') => flip_short q1 hF hr2 h h')
        have HTS := Lib.hid hts
        have TX := Lib.hid (show tx r ≠ tx (231 - r) by rcases hr2 with rfl | rfl <;> decide)
        obtain ⟨x, hx⟩ : ∃ x, x = tx r := ⟨_, rfl⟩
        obtain ⟨y, hy⟩ : ∃ y, y = tx (231 - r) := ⟨_, rfl⟩
        have W1 := Lib.hid (show ∀ W, StepsAt W → Calls Tryd.prog 22 #[.int .i64 (m : Int), .string s] W (WinnerPost m s x r W) from fun W h => by rw [hx]; exact winner_val m s r W (by omega) HF.out HR.out h)
        have W2 := Lib.hid (show ∀ W, StepsAt W → Calls Tryd.prog 22 #[.int .i64 (m : Int), .string (flAll m s)] W (WinnerPost m (flAll m s) y (231 - r) W) from fun W h => by rw [hy]; exact winner_val m _ _ W HTS.out HFT.out HR'.out h)
        have XY := Lib.hid (show x ≠ y by rw [hx, hy]; exact TX.out)
        clear hf hr hn1 hr2 hr' hF ht hx hy hts
        go_enter Tryd.func5, Tryd.ntmps5
        go_wp2_with (first
          | (go_at_call 20; refine (board_any _ _ _ _ (by omega)).mono ?_; rintro e w' ⟨rfl, rfl⟩)
          | (go_at_call 21; refine (flipped21 _ _ _ q1 q2 Q3.out).mono ?_; rintro e w1 ⟨rfl, hL1⟩; have HL1 := Lib.hid hL1; have HS1 := Lib.hid (HS.out.below hL1); have HM1 := Lib.hid (HM.out.more hL1); clear hL1))
        skip
        refine (N1.out _ HS1.out).mono ?_
        rintro e w2 ⟨rfl, hL2⟩
        have HL2 := Lib.hid (HL1.out.trans (hL2.mono HL1.out.size))
        have HS2 := Lib.hid (HS1.out.below hL2)
        have HM2 := Lib.hid (HM1.out.more hL2)
        clear hL2
        go_wp2_with fail
        refine (N2.out _ HS2.out).mono ?_
        rintro e w3 ⟨rfl, hL3⟩
        have HL3 := Lib.hid (HL2.out.trans (hL3.mono HL2.out.size))
        have HS3 := Lib.hid (HS2.out.below hL3)
        have HM3 := Lib.hid (HM2.out.more hL3)
        clear hL3
        go_wp2_with fail
        refine (N3.out _ HS3.out).mono ?_
        rintro e w4 ⟨rfl, hL4⟩
        have HL4 := Lib.hid (HL3.out.trans (hL4.mono HL3.out.size))
        have HS4 := Lib.hid (HS3.out.below hL4)
        have HM4 := Lib.hid (HM3.out.more hL4)
        clear hL4
        go_wp2_with fail
        refine (N4.out _ HS4.out).mono ?_
        rintro e w5 ⟨rfl, hL5⟩
        have HL5 := Lib.hid (HL4.out.trans (hL5.mono HL4.out.size))
        have HS5 := Lib.hid (HS4.out.below hL5)
        have HM5 := Lib.hid (HM4.out.more hL5)
        clear hL5
        go_wp2_with (go_at_call 20; refine (board_any _ _ _ _ (by omega)).mono ?_; rintro e w' ⟨rfl, rfl⟩)
        skip
        refine (W1.out _ HS5.out).mono ?_
        rintro e w6 ⟨A6, c6, l6, rfl, hs6, -, -, hL6⟩
        have HL6 := Lib.hid (HL5.out.trans (hL6.mono HL5.out.size))
        have HS6 := Lib.hid (HS5.out.below hL6)
        have HM6 := Lib.hid (HM5.out.more hL6)
        clear hL6
        have S6 := Lib.hid hs6
        clear hs6
        go_wp2_with fail
        refine (W2.out _ HS6.out).mono ?_
        rintro e w7 ⟨A7, c7, l7, rfl, hs7, -, -, hL7⟩
        have HL7 := Lib.hid (HL6.out.trans (hL7.mono HL6.out.size))
        have HS7 := Lib.hid (HS6.out.below hL7)
        have HM7 := Lib.hid (HM6.out.more hL7)
        clear hL7
        have E7 : ((l6.length : Int) == l7.length) = true := by rw [SH.out l6 l7 S6.out hs7]; simp
        have X7 : (x.toList == y.toList) = false := by
          rw [beq_eq_false_iff_ne]
          intro e
          apply XY.out
          apply ByteArray.ext
          apply Array.toList_inj.1
          rw [ByteArray.toList_eq, ByteArray.toList_eq] at e
          exact e
        clear hs7
        go_wp2_with (go_at_call 15; refine (alive15 _ HS7.out HM7.out).mono ?_; rintro e w8 ⟨rfl, hL8⟩)
        go_ret
        exact ⟨rfl, HL7.out.trans (hL8.mono HL7.out.size)⟩
      · have hf0 : (boardErr m s false != 0) = true := by simp [hf]
        clear hf hF ht hts
        go_enter Tryd.func5, Tryd.ntmps5
        go_wp2_with (first
          | (go_at_call 20; refine (board_any _ _ _ _ (by omega)).mono ?_; rintro e w' ⟨rfl, rfl⟩)
          | (go_at_call 21; refine (flipped21 _ _ _ q1 q2 Q3.out).mono ?_; rintro e w1 ⟨rfl, hL1⟩; have HL1 := Lib.hid hL1; have HS1 := Lib.hid (HS.out.below hL1); have HM1 := Lib.hid (HM.out.more hL1); clear hL1))
        skip
        refine (N1.out _ HS1.out).mono ?_
        rintro e w2 ⟨rfl, hL2⟩
        have HL2 := Lib.hid (HL1.out.trans (hL2.mono HL1.out.size))
        have HS2 := Lib.hid (HS1.out.below hL2)
        have HM2 := Lib.hid (HM1.out.more hL2)
        clear hL2
        go_wp2_with fail
        refine (N2.out _ HS2.out).mono ?_
        rintro e w3 ⟨rfl, hL3⟩
        have HL3 := Lib.hid (HL2.out.trans (hL3.mono HL2.out.size))
        have HS3 := Lib.hid (HS2.out.below hL3)
        have HM3 := Lib.hid (HM2.out.more hL3)
        clear hL3
        go_wp2_with fail
        refine (N3.out _ HS3.out).mono ?_
        rintro e w4 ⟨rfl, hL4⟩
        have HL4 := Lib.hid (HL3.out.trans (hL4.mono HL3.out.size))
        have HS4 := Lib.hid (HS3.out.below hL4)
        have HM4 := Lib.hid (HM3.out.more hL4)
        clear hL4
        go_wp2_with fail
        refine (N4.out _ HS4.out).mono ?_
        rintro e w5 ⟨rfl, hL5⟩
        have HL5 := Lib.hid (HL4.out.trans (hL5.mono HL4.out.size))
        have HS5 := Lib.hid (HS4.out.below hL5)
        have HM5 := Lib.hid (HM4.out.more hL5)
        clear hL5
        go_wp2_with (first
          | (go_at_call 20; refine (board_any _ _ _ _ (by omega)).mono ?_; rintro e w' ⟨rfl, rfl⟩)
          | (go_at_call 15; refine (alive15 _ HS5.out HM5.out).mono ?_; rintro e w8 ⟨rfl, hL8⟩))
        go_ret
        exact ⟨rfl, HL5.out.trans (hL8.mono HL5.out.size)⟩
    · have hb0 : (boardErr n s true != 0) = true := by simp [he]
      clear he
      go_enter Tryd.func5, Tryd.ntmps5
      go_wp2_with (first
        | (go_at_call 20; refine (board_any _ _ _ _ (by omega)).mono ?_; rintro e w' ⟨rfl, rfl⟩)
        | (go_at_call 15; refine (alive15 _ HS.out HM.out).mono ?_; rintro e w1 ⟨rfl, hL⟩))
      go_ret
      exact ⟨rfl, hL⟩

end Go.Proofs.YtpbiminbhihjnaaDoor
