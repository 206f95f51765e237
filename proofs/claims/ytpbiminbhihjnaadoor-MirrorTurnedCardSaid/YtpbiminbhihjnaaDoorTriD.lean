/-
  A part of the proofs over the mirror (layer 4): TriD.
-/
import Derived.Test.YtpbiminbhihjnaaDoorTriC
import Derived.Test.YtpbiminbhihjnaaDoorRunA
import Derived.Test.YtpbiminbhihjnaaDoorGame
import Derived.StillTailTactics
namespace Go.Proofs.YtpbiminbhihjnaaDoor
open Go.RowKit Tri Go.Maps Go.WideMaps Dist
set_option linter.unusedSimpArgs false
set_option linter.unusedVariables false

def triB (b : UInt8) : Bool := decide (48 ≤ (b.toNat : Int)) && decide ((b.toNat : Int) ≤ 50)
def triOk (s : ByteArray) : Bool := s.data.toList.all triB
/-- The error of a size and colours. -/
def triErr (n : Int) (s : ByteArray) : Int :=
  if n < 1 ∨ 20 < n then 2 else if (s.size : Int) ≠ ((n + 1) * (n + 2)).tdiv 2 then 5 else if triOk s then 0 else 5

/-- How many points stand ahead of a row. -/
def rowAt (n : Nat) : Nat → Nat
  | 0 => 0
  | i + 1 => rowAt n i + (n + 1 - i)
/-- The place of a point. -/
def pos (n i j : Nat) : Nat := rowAt n i + j

theorem rowAt_all (n : Nat) : ∀ i, i ≤ n + 1 → 2 * rowAt n i = i * (2 * n + 3 - i) := by
  intro i
  induction i with
  | zero => intro _; simp [rowAt]
  | succ i ih =>
    intro h
    have := ih (by omega)
    obtain ⟨d, rfl⟩ : ∃ d, n = i + d := ⟨n - i, by omega⟩
    rw [rowAt]
    have e1 : i + d + 1 - i = d + 1 := by omega
    have e2 : 2 * (i + d) + 3 - i = i + 2 * d + 3 := by omega
    have e3 : 2 * (i + d) + 3 - (i + 1) = i + 2 * d + 2 := by omega
    rw [e1, e3]
    rw [e2] at this
    rw [Nat.mul_add, this]
    simp only [Nat.mul_add, Nat.add_mul]
    omega

theorem tri_ok {n : Int} {s : ByteArray} (h : triErr n s = 0) : ∃ m : Nat, n = m ∧ 1 ≤ m ∧ m ≤ 20 ∧ s.size = rowAt m (m + 1) ∧ triOk s = true := by
  unfold triErr at h
  split at h
  · omega
  · rename_i h1
    split at h
    · omega
    · rename_i h2
      split at h
      · rename_i h3
        refine ⟨n.toNat, by omega, by omega, by omega, ?_, h3⟩
        have h2' : (s.size : Int) = ((n + 1) * (n + 2)).tdiv 2 := by simpa using h2
        obtain ⟨m, rfl⟩ : ∃ m : Nat, n = m := ⟨n.toNat, by omega⟩
        have e := rowAt_all m (m + 1) (Nat.le_refl _)
        have e2 : 2 * m + 3 - (m + 1) = m + 2 := by omega
        rw [e2] at e
        have e3 : ((m : Int) + 1) * (m + 2) = ((2 * rowAt m (m + 1) : Nat) : Int) := by rw [e]; push_cast; rfl
        rw [e3] at h2'
        have : (((2 * rowAt m (m + 1) : Nat) : Int)).tdiv 2 = (rowAt m (m + 1) : Nat) := by
          rw [Int.tdiv_eq_ediv_of_nonneg (by omega)]; omega
        rw [this] at h2'
        simp
        omega
      · omega

theorem pos_lt {n i j : Nat} (h : i + j ≤ n) : pos n i j < rowAt n (n + 1) := by
  have mono : ∀ k, i + 1 + k ≤ n + 1 → rowAt n (i + 1) ≤ rowAt n (i + 1 + k) := by
    intro k
    induction k with
    | zero => intro _; exact Nat.le_refl _
    | succ k ih =>
      intro hk
      have := ih (by omega)
      have e : rowAt n (i + 1 + (k + 1)) = rowAt n (i + 1 + k) + (n + 1 - (i + 1 + k)) := rfl
      omega
  have := mono (n - i) (by omega)
  have e : i + 1 + (n - i) = n + 1 := by omega
  rw [e] at this
  have e2 : rowAt n (i + 1) = rowAt n i + (n + 1 - i) := rfl
  unfold pos
  omega

/-- A triangle behind a pointer. -/
def TriAt (w : World) (t m : Nat) (n : Nat) (s : ByteArray) : Prop :=
  Blk w t 116 #[.int .i64 (n : Int), .map (some m)] ∧ ∃ (c : Nat) (D : DataW Unit), w.ownsMap Tryd.prog 94 (plainElem Tryd.prog 5) m c D ∧ IsMap D ∧
    (∀ i j, i + j ≤ n → D.atKey (kp i j) (.lit (.int .u8 0)) = .lit (.int .u8 (bt s (pos n i j)))) ∧ ∀ l, has D l = true → ∃ i j, i + j ≤ n ∧ l = kp i j

def OfPost (n : Int) (s : ByteArray) (w : World) (e : Ending) (w' : World) : Prop :=
  Below w.heap.size w w' ∧ ((triErr n s ≠ 0 ∧ e = .returned (.tuple #[.pointer none, .int .i64 (triErr n s)])) ∨
    (triErr n s = 0 ∧ ∃ t m, e = .returned (.tuple #[.pointer (some ⟨t, 0, none⟩), .int .i64 0]) ∧ w.heap.size ≤ t ∧ w.heap.size ≤ m ∧ TriAt w' t m n.toNat s))

def triSet : ByteArray := ⟨#[48, 49, 50]⟩

theorem trim_tri (s : ByteArray) : Lib.trimS s.data.toList triSet.data.toList = [] ↔ triOk s = true := by
  rw [trim_nil]
  unfold triOk
  rw [List.all_eq_true]
  have key : ∀ c : UInt8, (triSet.data.toList.contains c = true ↔ triB c = true) := by
    intro c
    have e : triSet.data.toList = [48, 49, 50] := rfl
    rw [e]
    unfold triB
    have h1 : c.toNat < 256 := c.toNat_lt
    simp only [List.contains_cons, List.contains_nil, Bool.or_false, Bool.or_eq_true, beq_iff_eq, Bool.and_eq_true, decide_eq_true_eq]
    constructor
    · rintro (rfl | rfl | rfl) <;> decide
    · rintro ⟨a, b⟩
      have : c.toNat = 48 ∨ c.toNat = 49 ∨ c.toNat = 50 := by omega
      rcases this with h | h | h
      · left; exact UInt8.toNat_inj.1 h
      · right; left; exact UInt8.toNat_inj.1 h
      · right; right; exact UInt8.toNat_inj.1 h
  exact ⟨fun h c hc => (key c).1 (h c hc), fun h c hc => (key c).2 (h c hc)⟩

theorem tri_bytes {s : ByteArray} (h : triOk s = true) {k : Nat} (hk : k < s.size) : 48 ≤ bt s k ∧ bt s k ≤ 50 := by
  have hk' : k < s.data.toList.length := by simpa using hk
  unfold triOk at h
  rw [List.all_eq_true] at h
  have := h _ (List.getElem_mem hk')
  unfold bt
  rw [List.getD_eq_getElem?_getD, List.getElem?_eq_getElem hk']
  simpa [triB] using this

theorem tri_set_ascii : ∀ (j : Nat) (b : UInt8), triSet.data.toList[j]? = some b → b.toNat < 128 := ascii_of_all (by decide)

/-- What the map holds, when the points ahead of (i, j) are laid. -/
def FilledT (n : Nat) (s : ByteArray) (i j : Nat) (D : DataW Unit) : Prop :=
  IsMap D ∧ (∀ a b, a + b ≤ n → (a < i ∨ (a = i ∧ b < j)) → D.atKey (kp a b) (.lit (.int .u8 0)) = .lit (.int .u8 (bt s (pos n a b)))) ∧ ∀ l, has D l = true → ∃ a b, a + b ≤ n ∧ l = kp a b

theorem FilledT.start (n : Nat) (s : ByteArray) : FilledT n s 0 0 (.map []) := ⟨isMap_empty, fun a b _ h => by omega, fun l h => by cases h⟩
theorem FilledT.next {n : Nat} {s : ByteArray} {i j : Nat} {D : DataW Unit} (h : FilledT n s i j D) (hn : n ≤ 20) (hij : i + j ≤ n) {v : Int} (hv : v = bt s (pos n i j)) : FilledT n s i (j + 1) (D.put (kp i j) (.lit (.int .u8 v))) := by
  refine ⟨h.1.put _ _, fun a b hab hl => ?_, fun l hl => ?_⟩
  · by_cases e : kp a b = kp i j
    · obtain ⟨rfl, rfl⟩ := kp_inj (by omega) (by omega) (by omega) (by omega) e
      rw [atKey_put_same h.1 (kp_key _ _), hv]
    · rw [atKey_put_other e]
      refine h.2.1 a b hab ?_
      by_cases e2 : a = i ∧ b = j
      · obtain ⟨rfl, rfl⟩ := e2; exact absurd rfl e
      · omega
  · by_cases e : l = kp i j
    · exact ⟨i, j, hij, e⟩
    · rw [has_put_other e] at hl
      exact h.2.2 l hl
theorem FilledT.row {n : Nat} {s : ByteArray} {i : Nat} {D : DataW Unit} (h : FilledT n s i (n + 1 - i) D) (hi : i ≤ n) : FilledT n s (i + 1) 0 D :=
  ⟨h.1, fun a b hab hl => h.2.1 a b hab (by omega), h.2.2⟩

set_option maxHeartbeats 4000000 in
set_option maxRecDepth 100000 in
theorem of_any (n : Int) (s : ByteArray) (w : World) (hs : s.size ≤ 1000) :
    Calls Tryd.prog 50 #[.int .i64 n, .string s] w (OfPost n s w) := by
  have hmm := @run_makeMap Tryd.prog
  by_cases h1 : n < 1 ∨ 20 < n
  · have e := Lib.hid (show triErr n s = 2 by unfold triErr; rw [if_pos h1])
    by_cases h2 : n < 1
    · clear h1
      go_enter Tryd.func50, Tryd.ntmps50
      go_wp2_with fail
      go_ret2
      exact ⟨Below.refl _ _, .inl ⟨by rw [e.out]; decide, by rw [e.out]; rfl⟩⟩
    · have h3 : 20 < n := by omega
      clear h1
      go_enter Tryd.func50, Tryd.ntmps50
      go_wp2_with fail
      go_ret2
      exact ⟨Below.refl _ _, .inl ⟨by rw [e.out]; decide, by rw [e.out]; rfl⟩⟩
  · have a1 : ¬ n < 1 := by omega
    have a2 : ¬ 20 < n := by omega
    have a3 : n ≤ 20 := by omega
    have a4 : 1 ≤ n := by omega
    have hb := mul_bd (a := n + 1) (b := n + 2) (A := 21) (B := 22) (by omega) (by omega) (by omega) (by omega)
    have hq : 0 ≤ ((n + 1) * (n + 2)).tdiv 2 ∧ ((n + 1) * (n + 2)).tdiv 2 ≤ 231 := by
      rw [Int.tdiv_eq_ediv_of_nonneg hb.1]; omega
    by_cases h4 : (s.size : Int) = ((n + 1) * (n + 2)).tdiv 2
    · have e := Lib.hid (show triErr n s = if triOk s then 0 else 5 by unfold triErr; rw [if_neg h1, if_neg (by simp [h4])])
      have h4b : ((s.size : Int) != ((n + 1) * (n + 2)).tdiv 2) = false := by simp [h4]
      have TB := Lib.hid (trim_tri s)
      have hT := fun W => Tryd.strings_Trim_set s triSet W (by omega) (by decide) tri_set_ascii
      generalize Lib.trimS s.data.toList triSet.data.toList = r at hT TB
      have HT := Lib.hid hT
      clear h4 h1 hT
      by_cases hr : r = []
      · subst hr
        have OK := Lib.hid (TB.out.1 rfl)
        have HE0 := Lib.hid (show triErr n s = 0 by rw [e.out, OK.out]; rfl)
        obtain ⟨m, rfl, -, -, hsz, -⟩ := tri_ok HE0.out
        have HSZ := Lib.hid hsz
        have a5 : m ≤ 20 := by omega
        have a6 : 1 ≤ m := by omega
        clear hsz TB e
        go_enter Tryd.func50, Tryd.ntmps50
        go_wp2_with (go_at_call 74; refine (HT.out _).mono ?_; rintro e w' ⟨rfl, hB⟩)
        have hBlk := Lib.hid (show Blk ((w'.alloc (.map #[] 0)).alloc (.cells #[.int .i64 (m : Int), .map (some w'.heap.size)] 116)) (w'.heap.size + 1) 116 #[.int .i64 (m : Int), .map (some w'.heap.size)] from by
          have := Blk.new (w'.alloc (.map #[] 0)) 116 #[.int .i64 (m : Int), .map (some w'.heap.size)]
          rwa [show (w'.alloc (.map #[] 0)).heap.size = w'.heap.size + 1 by simp] at this)
        have hOM := Lib.hid (show ((w'.alloc (.map #[] 0)).alloc (.cells #[.int .i64 (m : Int), .map (some w'.heap.size)] 116)).ownsMap Tryd.prog 94 (plainElem Tryd.prog 5) w'.heap.size 0 (.map [] : DataW Unit) from
          om_below (World.ownsMap_made _ _ _ _) ((Below.refl _ _).alloc (Nat.le_refl _) _) (by simp))
        have hLw := Lib.hid (show Below w.heap.size w ((w'.alloc (.map #[] 0)).alloc (.cells #[.int .i64 (m : Int), .map (some w'.heap.size)] 116)) from
          ((hB.alloc hB.size _).alloc (by simp; have := hB.size; omega) _))
        have hmb : w.heap.size ≤ w'.heap.size := hB.size
        generalize ((w'.alloc (.map #[] 0)).alloc (.cells #[.int .i64 (m : Int), .map (some w'.heap.size)] 116)) = w2 at *
        generalize w'.heap.size = mb at *
        clear hB HT hmm
        go_loopg [7, 38] (m + 1) (fun q kv x wr => ∃ (i p c : Nat) (D : DataW Unit), x = .int .i64 i ∧ kv = .int .i64 p ∧ i ≤ m + 1 ∧ Hid (q = m + 1 - i) ∧ Hid (p = rowAt m i) ∧ p ≤ 1000 ∧ c ≤ p ∧ Hid (FilledT m s i 0 D) ∧ Hid (wr.ownsMap Tryd.prog 94 (plainElem Tryd.prog 5) mb c D) ∧ Hid (Blk wr (mb + 1) 116 #[.int .i64 (m : Int), .map (some mb)]) ∧ Hid (Below w.heap.size w wr))
        case atStart => exact ⟨0, 0, 0, _, rfl, rfl, Nat.zero_le _, rfl, rfl, by omega, by omega, FilledT.start m s, hOM, hBlk, hLw⟩
        case round =>
          obtain ⟨i, p, c, D, rfl, rfl, hi, hq1, HP, hp, hc, HF, HM, HBk, HL⟩ := hrel
          by_cases hlt : i < m + 1
          · have hb1 : decide ((i : Int) < (m : Int) + 1) = true := by simp; omega
            have i20 : i ≤ 20 := by omega
            go_wp2_with fail
            go_loopg [7, 45] (m + 1 - i) (fun q kv x wr => ∃ (j p c : Nat) (D : DataW Unit), x = .int .i64 j ∧ kv = .int .i64 p ∧ j ≤ m + 1 - i ∧ Hid (q = m + 1 - i - j) ∧ Hid (p = pos m i j) ∧ p ≤ 1000 ∧ c ≤ p ∧ Hid (FilledT m s i j D) ∧ Hid (wr.ownsMap Tryd.prog 94 (plainElem Tryd.prog 5) mb c D) ∧ Hid (Blk wr (mb + 1) 116 #[.int .i64 (m : Int), .map (some mb)]) ∧ Hid (Below w.heap.size w wr))
            case atStart => exact ⟨0, p, c, D, rfl, rfl, Nat.zero_le _, (Nat.sub_zero _).symm, HP, hp, hc, HF, HM, HBk, HL⟩
            case round =>
              obtain ⟨j, p2, c2, D2, rfl, rfl, hj, hq2, HP2, hp2, hc2, HF2, HM2, HBk2, HL2⟩ := hrel
              by_cases hj2 : j < m + 1 - i
              · have hij : i + j ≤ m := by omega
                have hps : p2 < s.size := by rw [HP2.out, HSZ.out]; exact pos_lt hij
                have hcm : wr.cell? ⟨mb + 1, 1, none⟩ = some (.map (some mb)) := by rw [HBk2.out.cell]; rfl
                have hcm0 : wr.cell? ⟨mb + 1, 0, none⟩ = some (.int .i64 (m : Int)) := by rw [HBk2.out.cell]; rfl
                have HBT := Lib.hid (bt_eq s p2 hps)
                have hkey := key94 i j (by omega) (by omega)
                have hbw : (Lit.int .u8 (s[p2].toNat : Int)).wf = true := by
                  have := s[p2].toNat_lt
                  apply WalkArith.wf_u8 <;> omega
                have HN := Lib.hid (HF2.out.next a5 hij (v := (s[p2].toNat : Int)) (by rw [HBT.out, HP2.out]))
                go_wp2_with fail
                go_still_tail 10, (by kernel_rfl)
                refine wpList_mapUpdate_own _ rfl _ _ _ 114 rfl 94 5 keyed94 Tryd.underlying114 (plainElem Tryd.prog 5) mb c2 D2 rfl (show wr.drew.ownsMap Tryd.prog 94 (plainElem Tryd.prog 5) mb c2 D2 from HM2.out) (by unfold maxLen; omega) _ _ _ rfl rfl hkey _ [] (plainElem_int Tryd.underlying5 hbw) ?_
                intro w3 hM3 hg3
                have hL3 : Below w.heap.size w w3 := (HL2.out.drew).grown hg3 (HL2.out.size) (fun k hk => by cases hk; exact hmb)
                have hBk3 : Blk w3 (mb + 1) 116 #[.int .i64 (m : Int), .map (some mb)] := (HBk2.out.drew).grown hg3 (by simp)
                go_wp2_with fail
                go_roundg (m + 1 - i - (j + 1))
                case measure => have := hq2.out; omega
                case rel => exact ⟨j + 1, p2 + 1, c2 + 1, _, by go_num, by go_num, by omega, rfl, by show p2 + 1 = pos m i (j + 1); rw [HP2.out]; rfl, by omega, by omega, HN.out, hM3, hBk3, hL3⟩
              · obtain rfl : j = m + 1 - i := by omega
                go_wp2_with fail
                go_roundg (m + 1 - (i + 1))
                case measure => have := hq1.out; omega
                case rel => exact ⟨i + 1, p2, c2, D2, by go_num, rfl, by omega, rfl, by show p2 = rowAt m (i + 1); rw [HP2.out]; rfl, hp2, hc2, HF2.out.row (by omega), HM2, HBk2, HL2⟩
          · obtain rfl : i = m + 1 := by omega
            go_wp2_with fail
            go_ret2
            exact ⟨HL.out, .inr ⟨HE0.out, mb + 1, mb, rfl, by omega, hmb, by rw [show ((m : Int)).toNat = m by omega]; exact ⟨HBk.out, c, D, HM.out, HF.out.1, fun a b hab => HF.out.2.1 a b hab (by omega), HF.out.2.2⟩⟩⟩
      · have NOK := Lib.hid (show triOk s = false from Bool.eq_false_iff.2 fun h => hr (TB.out.2 h))
        have hr' : (r == []) = false := by simpa using hr
        go_enter Tryd.func50, Tryd.ntmps50
        go_wp2_with (go_at_call 74; refine (HT.out _).mono ?_; rintro e w' ⟨rfl, hB⟩)
        go_ret2
        exact ⟨hB, .inl ⟨by rw [e.out, NOK.out]; decide, by rw [e.out, NOK.out]; rfl⟩⟩
    · have e := Lib.hid (show triErr n s = 5 by unfold triErr; rw [if_neg h1, if_pos h4])
      have h4b : ((s.size : Int) != ((n + 1) * (n + 2)).tdiv 2) = true := by simp [h4]
      clear h4 h1
      go_enter Tryd.func50, Tryd.ntmps50
      go_wp2_with fail
      go_ret2
      exact ⟨Below.refl _ _, .inl ⟨by rw [e.out]; decide, by rw [e.out]; rfl⟩⟩

end Go.Proofs.YtpbiminbhihjnaaDoor
