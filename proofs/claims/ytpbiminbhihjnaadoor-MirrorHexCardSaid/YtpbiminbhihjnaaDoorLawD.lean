/-
  The walks of Needs and Winner at boards whose answers are known; the walk of MirrorMore.
-/
import Derived.Test.YtpbiminbhihjnaaDoorLawB
import Derived.Test.YtpbiminbhihjnaaDoorHexC
import Derived.IntWalk
namespace Go.Proofs.YtpbiminbhihjnaaDoor
open Go.RowKit Tri Go.Maps Go.WideMaps Dist
set_option linter.unusedSimpArgs false
set_option linter.unusedVariables false

theorem tx_isX : isX ⟨#[120]⟩ = true ∧ isO ⟨#[120]⟩ = false ∧ isX ⟨#[111]⟩ = false ∧ isO ⟨#[111]⟩ = true := by decide +kernel

def errOf : Option Nat → Int
  | none => 10
  | some _ => 0

/-- What Needs returns for a player. -/
theorem needs_of {n : Nat} {s : ByteArray} {p v er : Int} (hp : p = 120 ∨ p = 111) (he : boardErr n s true = 0) (h : NeedsIs n s (tx p) v er) {r : Option Nat} (hr : Best n s p 0 1 r) : v = (r.getD 0 : Nat) ∧ er = errOf r := by
  rcases h with ⟨h, _⟩ | ⟨_, h1, h2, _⟩ | ⟨_, q, hq, r', hr', hv, her⟩
  · exact absurd he h
  · rcases hp with rfl | rfl
    · rw [show tx 120 = ⟨#[120]⟩ from rfl, tx_isX.1] at h1; cases h1
    · rw [show tx 111 = ⟨#[111]⟩ from rfl, tx_isX.2.2.2] at h2; cases h2
  · have e : q = p := by
      rcases hp with rfl | rfl
      · rcases hq with ⟨_, rfl⟩ | ⟨h1, _, _⟩
        · rfl
        · rw [show tx 120 = ⟨#[120]⟩ from rfl, tx_isX.1] at h1; cases h1
      · rcases hq with ⟨h1, _⟩ | ⟨_, _, rfl⟩
        · rw [show tx 111 = ⟨#[111]⟩ from rfl, tx_isX.2.2.1] at h1; cases h1
        · rfl
    subst e
    rw [Int.toNat_natCast] at hr'
    have := best_unique hr hr'
    subst this
    refine ⟨hv, her.trans ?_⟩
    cases r <;> rfl

def ValPost (v er : Int) (w : World) (e : Ending) (w' : World) : Prop := e = .returned (.tuple #[.int .i64 v, .int .i64 er]) ∧ Below w.heap.size w w'

theorem needsX_some (n : Nat) (s : ByteArray) (k : Nat) (w : World) (hs : s.size ≤ 1000) (he : boardErr n s true = 0) (hr : Best n s 120 0 1 (some k)) (hS : StepsAt w) : Calls Tryd.prog 16 #[.int .i64 (n : Int), .string s, .string ⟨#[120]⟩] w (ValPost k 0 w) := by
  refine (needs_any n s ⟨#[120]⟩ w hs (by decide) hS).mono ?_
  rintro e w' ⟨v, er, rfl, hN, hL⟩
  obtain ⟨rfl, rfl⟩ := needs_of (.inl rfl) he hN hr
  exact ⟨rfl, hL⟩
theorem needsX_none (n : Nat) (s : ByteArray) (w : World) (hs : s.size ≤ 1000) (he : boardErr n s true = 0) (hr : Best n s 120 0 1 none) (hS : StepsAt w) : Calls Tryd.prog 16 #[.int .i64 (n : Int), .string s, .string ⟨#[120]⟩] w (ValPost 0 10 w) := by
  refine (needs_any n s ⟨#[120]⟩ w hs (by decide) hS).mono ?_
  rintro e w' ⟨v, er, rfl, hN, hL⟩
  obtain ⟨rfl, rfl⟩ := needs_of (.inl rfl) he hN hr
  exact ⟨rfl, hL⟩
theorem needsO_some (n : Nat) (s : ByteArray) (k : Nat) (w : World) (hs : s.size ≤ 1000) (he : boardErr n s true = 0) (hr : Best n s 111 0 1 (some k)) (hS : StepsAt w) : Calls Tryd.prog 16 #[.int .i64 (n : Int), .string s, .string ⟨#[111]⟩] w (ValPost k 0 w) := by
  refine (needs_any n s ⟨#[111]⟩ w hs (by decide) hS).mono ?_
  rintro e w' ⟨v, er, rfl, hN, hL⟩
  obtain ⟨rfl, rfl⟩ := needs_of (.inr rfl) he hN hr
  exact ⟨rfl, hL⟩
theorem needsO_none (n : Nat) (s : ByteArray) (w : World) (hs : s.size ≤ 1000) (he : boardErr n s true = 0) (hr : Best n s 111 0 1 none) (hS : StepsAt w) : Calls Tryd.prog 16 #[.int .i64 (n : Int), .string s, .string ⟨#[111]⟩] w (ValPost 0 10 w) := by
  refine (needs_any n s ⟨#[111]⟩ w hs (by decide) hS).mono ?_
  rintro e w' ⟨v, er, rfl, hN, hL⟩
  obtain ⟨rfl, rfl⟩ := needs_of (.inr rfl) he hN hr
  exact ⟨rfl, hL⟩

def WinnerPost (n : Nat) (s t : ByteArray) (r : Int) (w : World) (e : Ending) (w' : World) : Prop :=
  ∃ (A : Option Addr) (cap : Nat) (l : List Nat), e = .returned (.tuple #[.string t, .slice A l.length cap, .int .i64 0]) ∧ Short n s r l ∧ Own w' w.heap.size (.slice A l.length cap) (asInts l) ∧ l.length ≤ 121 ∧ Below w.heap.size w w'

theorem winner_val (n : Nat) (s : ByteArray) (r : Int) (w : World) (hs : s.size ≤ 1000) (he : boardErr n s false = 0) (hr : WhoIs n s r) (hS : StepsAt w) : Calls Tryd.prog 22 #[.int .i64 (n : Int), .string s] w (WinnerPost n s (tx r) r w) := by
  refine (winner22 n s w hs hS hex_nobody).mono ?_
  rintro e w' ⟨v, t, l, er, rfl, hW, hO, hnil, hlen, hL⟩
  rcases hW with ⟨h, _⟩ | ⟨_, q, h0, hq, rfl, hl, rfl⟩
  · exact absurd he h
  · rw [Int.toNat_natCast] at hq hl
    have := who_unique hq hr
    subst this
    obtain ⟨A, cap, rfl⟩ := hO.shape
    rw [asInts_len] at hO ⊢
    exact ⟨A, cap, l, rfl, hl, hO, hlen, hL⟩

theorem winner_x (n : Nat) (s : ByteArray) (w : World) (hs : s.size ≤ 1000) (he : boardErr n s false = 0) (hr : WhoIs n s 120) (hS : StepsAt w) : Calls Tryd.prog 22 #[.int .i64 (n : Int), .string s] w (WinnerPost n s ⟨#[120]⟩ 120 w) := winner_val n s 120 w hs he hr hS
theorem winner_o (n : Nat) (s : ByteArray) (w : World) (hs : s.size ≤ 1000) (he : boardErr n s false = 0) (hr : WhoIs n s 111) (hS : StepsAt w) : Calls Tryd.prog 22 #[.int .i64 (n : Int), .string s] w (WinnerPost n s ⟨#[111]⟩ 111 w) := winner_val n s 111 w hs he hr hS

/-- The board with one stone more, as the law makes it. -/
theorem more_put (s : ByteArray) (i : Nat) (hi : i < s.size) : s.extract 0 i ++ ⟨#[120]⟩ ++ s.extract (i + 1) s.size = put s i 120 := by
  apply ByteArray.ext
  apply Array.toList_inj.1
  rw [put_list]
  have e : ∀ a b : ByteArray, (a ++ b).data.toList = a.data.toList ++ b.data.toList := by intro a b; simp
  rw [e, e]
  simp only [ByteArray.data_extract, Array.toList_extract, List.extract_eq_take_drop]
  have hl : s.data.toList.length = s.size := by simp
  rw [List.set_eq_take_append_cons_drop, if_pos (by rw [hl]; exact hi)]
  simp only [List.drop_zero, Nat.sub_zero, List.append_assoc]
  congr 1
  show [120] ++ _ = 120 :: _
  rw [List.singleton_append, List.take_of_length_le (by rw [List.length_drop, hl]; exact Nat.le_refl _)]

theorem put_err {n : Nat} {s : ByteArray} {b : Bool} (h : boardErr n s b = 0) {i : Nat} : boardErr n (put s i 120) b = 0 := by
  obtain ⟨m, e, h1, h2, h3, h4⟩ := board_ok h
  obtain rfl : n = m := by omega
  unfold boardErr
  rw [if_neg (by omega), put_size, if_neg (by rw [h3]; simp), if_pos]
  unfold okBytes at h4 ⊢
  rw [put_list, List.all_eq_true]
  rw [List.all_eq_true] at h4
  intro c hc
  have hc' := List.mem_of_mem_take hc
  rcases List.mem_or_eq_of_mem_set hc' with h5 | rfl
  · exact h4 c (by rw [List.take_of_length_le (by simp)]; exact h5)
  · rfl

set_option maxHeartbeats 4000000 in
set_option maxRecDepth 100000 in
theorem lawMore (n : Int) (s : ByteArray) (c : Int) (wc : (Lit.int .u8 c).wf = true) (w : World) (hS : StepsAt w) (hM : MaxAt w) : Calls Tryd.prog 6 #[.int .i64 n, .string s, .int .u8 c] w (AlivePost w) := by
  have HS := Lib.hid hS
  have HM := Lib.hid hM
  clear hS hM
  by_cases h1 : 200 < s.size
  · go_enter Tryd.func6, Tryd.ntmps6
    go_wp2_with (go_at_call 15; refine (alive15 _ HS.out HM.out).mono ?_; rintro e w1 ⟨rfl, hL⟩)
    go_ret
    exact ⟨rfl, hL⟩
  · by_cases he : boardErr n s true = 0
    · obtain ⟨m, rfl, q1, q2, q3, q4⟩ := board_ok he
      have hc0 : 0 ≤ c ∧ c ≤ 255 := by simpa [Lit.wf, IntKind.min, IntKind.max, IntKind.signed, IntKind.bits] using wc
      have hs0 : 0 < s.size := by rw [q3]; exact Nat.mul_pos q1 q1
      have hsm : s.size ≤ 200 := by omega
      obtain ⟨i, hi⟩ : ∃ i : Nat, c % (s.size : Int) = i := ⟨(c % s.size).toNat, by have := Int.emod_nonneg c (b := (s.size : Int)) (by omega); omega⟩
      have hi2 : i < s.size := by have := Int.emod_lt_of_pos c (b := (s.size : Int)) (by omega); omega
      have HE := Lib.hid he
      have HEP := Lib.hid (put_err (i := i) he)
      have hsp : (put s i 120).size ≤ 200 := by rw [put_size]; exact hsm
      have HPUT := Lib.hid (more_put s i hi2)
      have hb0 : (boardErr m s true != 0) = false := by simp [he]
      have z1 : IntKind.i64.wrap ((i : Int) + 1) = i + 1 := IntWalk.i64_in _ (by omega)
      have z2 : 0 ≤ (i : Int) + 1 := by omega
      have z3 : ((i : Int) + 1).toNat = i + 1 := by omega
      obtain ⟨A, hA⟩ := best_exists m s 120 0 1
      obtain ⟨B, hB⟩ := best_exists m (put s i 120) 120 0 1
      have hAB : ∀ k, A = some k → ∃ k', B = some k' ∧ k' ≤ k := by
        rintro k rfl
        obtain ⟨k', h1, h2⟩ := best_put (n := m) hi2 hA
        exact ⟨k', best_unique hB h2, h1⟩
      have hB3 : boardErr m s false = 0 → WhoIs m s 120 → WhoIs m (put s i 120) 120 := fun _ h => (who_x q1).2 (bridged_put hi2 ((who_x q1).1 h))
      by_cases hf : boardErr m s false = 0
      · have hf0 : (boardErr m s false != 0) = false := by simp [hf]
        have HF := Lib.hid hf
        have HFP := Lib.hid (put_err (i := i) hf)
        obtain ⟨r, hr⟩ := who_exists m s
        obtain ⟨r', hr'⟩ := who_exists m (put s i 120)
        have hn1 := hex_nobody hf
        rw [Int.toNat_natCast] at hn1
        have hn2 := hex_nobody (put_err (i := i) hf)
        rw [Int.toNat_natCast] at hn2
        have fx := full_best hf (p := 120) (.inl rfl)
        have fo := full_best hf (p := 111) (.inr rfl)
        rw [Int.toNat_natCast] at fx fo
        rcases who_two hr (fun e => hn1 (e ▸ hr)) with rfl | rfl
        · have hb1 := (who_x q1).1 hr
          obtain rfl := best_unique hA (fx.1 hb1)
          obtain ⟨k', rfl, hk'⟩ := hAB 0 rfl
          obtain rfl : k' = 0 := by omega
          have hC := fo.2 fun h => own_both q1 ⟨hb1, h⟩
          obtain rfl := who_unique hr' (hB3 hf hr)
          have HA := Lib.hid hA
          have HB := Lib.hid hB
          have HC := Lib.hid hC
          have HR := Lib.hid hr
          have HR' := Lib.hid hr'
          clear he q3 q4 wc hA hB hC hAB hB3 hf hr hr' hn1 hn2 fx fo hb1
          go_enter Tryd.func6, Tryd.ntmps6
          go_wp2_with (first
            | (go_at_call 20; refine (board_any _ _ _ _ (by omega)).mono ?_; rintro e w' ⟨rfl, rfl⟩)
            | (go_at_call 16; refine (needsX_some _ _ _ _ (by omega) HE.out HA.out HS.out).mono ?_; rintro e w1 ⟨rfl, hL1⟩; have HL1 := Lib.hid hL1; have HS1 := Lib.hid (HS.out.below hL1); have HM1 := Lib.hid (HM.out.more hL1); clear hL1))
          go_quiet (fail)
          rw [HPUT.out]
          clear z1 z2 z3 hi
          have HS2 := Lib.hid (show StepsAt (w1.drewN nq) from HS1.out)
          have HM2 := Lib.hid (show MaxAt (w1.drewN nq) from HM1.out)
          have HL2 := Lib.hid (below_drewN' HL1.out nq)
          generalize w1.drewN nq = w2 at *
          go_wp2_with fail
          refine (needsX_some _ _ _ _ (by omega) HEP.out HB.out HS2.out).mono ?_
          rintro e w3 ⟨rfl, hL3⟩
          have HL3 := Lib.hid (HL2.out.trans (hL3.mono HL2.out.size))
          have HS3 := Lib.hid (HS2.out.below hL3)
          have HM3 := Lib.hid (HM2.out.more hL3)
          clear hL3
          go_wp2_with (go_at_call 20; refine (board_any _ _ _ _ (by omega)).mono ?_; rintro e w' ⟨rfl, rfl⟩)
          refine (needsO_none _ _ _ (by omega) HE.out HC.out HS3.out).mono ?_
          rintro e w4 ⟨rfl, hL4⟩
          have HL4 := Lib.hid (HL3.out.trans (hL4.mono HL3.out.size))
          have HS4 := Lib.hid (HS3.out.below hL4)
          have HM4 := Lib.hid (HM3.out.more hL4)
          clear hL4
          go_wp2_with fail
          refine (winner_x _ _ _ (by omega) HF.out HR.out HS4.out).mono ?_
          rintro e w5 ⟨A5, c5, l5, rfl, -, -, -, hL5⟩
          have HL5 := Lib.hid (HL4.out.trans (hL5.mono HL4.out.size))
          have HS5 := Lib.hid (HS4.out.below hL5)
          have HM5 := Lib.hid (HM4.out.more hL5)
          clear hL5
          go_wp2_with fail
          refine (winner_x _ _ _ (by omega) HFP.out HR'.out HS5.out).mono ?_
          rintro e w6 ⟨A6, c6, l6, rfl, -, -, -, hL6⟩
          have HL6 := Lib.hid (HL5.out.trans (hL6.mono HL5.out.size))
          have HS6 := Lib.hid (HS5.out.below hL6)
          have HM6 := Lib.hid (HM5.out.more hL6)
          clear hL6
          go_wp2_with (go_at_call 15; refine (alive15 _ HS6.out HM6.out).mono ?_; rintro e w7 ⟨rfl, hL7⟩)
          go_ret
          exact ⟨rfl, HL6.out.trans (hL7.mono HL6.out.size)⟩
        · have nb : ¬ Bridged m s 120 1 1000 := fun h => own_both q1 ⟨h, (who_o q1).1 hr⟩
          obtain rfl := best_unique hA (fx.2 nb)
          have hC := fo.1 ((who_o q1).1 hr)
          have HA := Lib.hid hA
          have HC := Lib.hid hC
          have HR := Lib.hid hr
          have HR' := Lib.hid hr'
          clear he q3 q4 wc hA hB hC hAB hB3 hf hr hr' hn1 hn2 fx fo nb
          go_enter Tryd.func6, Tryd.ntmps6
          go_wp2_with (first
            | (go_at_call 20; refine (board_any _ _ _ _ (by omega)).mono ?_; rintro e w' ⟨rfl, rfl⟩)
            | (go_at_call 16; refine (needsX_none _ _ _ (by omega) HE.out HA.out HS.out).mono ?_; rintro e w1 ⟨rfl, hL1⟩; have HL1 := Lib.hid hL1; have HS1 := Lib.hid (HS.out.below hL1); have HM1 := Lib.hid (HM.out.more hL1); clear hL1))
          go_quiet (fail)
          rw [HPUT.out]
          clear z1 z2 z3 hi
          have HS2 := Lib.hid (show StepsAt (w1.drewN nq) from HS1.out)
          have HM2 := Lib.hid (show MaxAt (w1.drewN nq) from HM1.out)
          have HL2 := Lib.hid (below_drewN' HL1.out nq)
          generalize w1.drewN nq = w2 at *
          go_wp2_with fail
          refine (needs_any _ _ _ _ (by omega) (by decide) HS2.out).mono ?_
          rintro e w3 ⟨v3, e3, rfl, -, hL3⟩
          have HL3 := Lib.hid (HL2.out.trans (hL3.mono HL2.out.size))
          have HS3 := Lib.hid (HS2.out.below hL3)
          have HM3 := Lib.hid (HM2.out.more hL3)
          clear hL3
          go_wp2_with (go_at_call 20; refine (board_any _ _ _ _ (by omega)).mono ?_; rintro e w' ⟨rfl, rfl⟩)
          refine (needsO_some _ _ _ _ (by omega) HE.out HC.out HS3.out).mono ?_
          rintro e w4 ⟨rfl, hL4⟩
          have HL4 := Lib.hid (HL3.out.trans (hL4.mono HL3.out.size))
          have HS4 := Lib.hid (HS3.out.below hL4)
          have HM4 := Lib.hid (HM3.out.more hL4)
          clear hL4
          go_wp2_with fail
          refine (winner_o _ _ _ (by omega) HF.out HR.out HS4.out).mono ?_
          rintro e w5 ⟨A5, c5, l5, rfl, -, -, -, hL5⟩
          have HL5 := Lib.hid (HL4.out.trans (hL5.mono HL4.out.size))
          have HS5 := Lib.hid (HS4.out.below hL5)
          have HM5 := Lib.hid (HM4.out.more hL5)
          clear hL5
          go_wp2_with fail
          refine (winner_val _ _ _ _ (by omega) HFP.out HR'.out HS5.out).mono ?_
          rintro e w6 ⟨A6, c6, l6, rfl, -, -, -, hL6⟩
          have HL6 := Lib.hid (HL5.out.trans (hL6.mono HL5.out.size))
          have HS6 := Lib.hid (HS5.out.below hL6)
          have HM6 := Lib.hid (HM5.out.more hL6)
          clear hL6
          go_wp2_with (go_at_call 15; refine (alive15 _ HS6.out HM6.out).mono ?_; rintro e w7 ⟨rfl, hL7⟩)
          go_ret
          exact ⟨rfl, HL6.out.trans (hL7.mono HL6.out.size)⟩
      · have hf0 : (boardErr m s false != 0) = true := by simp [hf]
        cases A with
        | none =>
          have HA := Lib.hid hA
          clear he q3 q4 wc hA hB hAB hB3 hf
          go_enter Tryd.func6, Tryd.ntmps6
          go_wp2_with (first
            | (go_at_call 20; refine (board_any _ _ _ _ (by omega)).mono ?_; rintro e w' ⟨rfl, rfl⟩)
            | (go_at_call 16; refine (needsX_none _ _ _ (by omega) HE.out HA.out HS.out).mono ?_; rintro e w1 ⟨rfl, hL1⟩; have HL1 := Lib.hid hL1; have HS1 := Lib.hid (HS.out.below hL1); have HM1 := Lib.hid (HM.out.more hL1); clear hL1))
          go_quiet (fail)
          rw [HPUT.out]
          clear z1 z2 z3 hi
          have HS2 := Lib.hid (show StepsAt (w1.drewN nq) from HS1.out)
          have HM2 := Lib.hid (show MaxAt (w1.drewN nq) from HM1.out)
          have HL2 := Lib.hid (below_drewN' HL1.out nq)
          generalize w1.drewN nq = w2 at *
          go_wp2_with fail
          refine (needs_any _ _ _ _ (by omega) (by decide) HS2.out).mono ?_
          rintro e w3 ⟨v3, e3, rfl, -, hL3⟩
          have HL3 := Lib.hid (HL2.out.trans (hL3.mono HL2.out.size))
          have HS3 := Lib.hid (HS2.out.below hL3)
          have HM3 := Lib.hid (HM2.out.more hL3)
          clear hL3
          go_wp2_with (first
            | (go_at_call 20; refine (board_any _ _ _ _ (by omega)).mono ?_; rintro e w' ⟨rfl, rfl⟩)
            | (go_at_call 15; refine (alive15 _ HS3.out HM3.out).mono ?_; rintro e w7 ⟨rfl, hL7⟩))
          go_ret
          exact ⟨rfl, HL3.out.trans (hL7.mono HL3.out.size)⟩
        | some k =>
          obtain ⟨k', rfl, hk'⟩ := hAB k rfl
          have HA := Lib.hid hA
          have HB := Lib.hid hB
          clear he q3 q4 wc hA hB hAB hB3 hf
          go_enter Tryd.func6, Tryd.ntmps6
          go_wp2_with (first
            | (go_at_call 20; refine (board_any _ _ _ _ (by omega)).mono ?_; rintro e w' ⟨rfl, rfl⟩)
            | (go_at_call 16; refine (needsX_some _ _ _ _ (by omega) HE.out HA.out HS.out).mono ?_; rintro e w1 ⟨rfl, hL1⟩; have HL1 := Lib.hid hL1; have HS1 := Lib.hid (HS.out.below hL1); have HM1 := Lib.hid (HM.out.more hL1); clear hL1))
          go_quiet (fail)
          rw [HPUT.out]
          clear z1 z2 z3 hi
          have HS2 := Lib.hid (show StepsAt (w1.drewN nq) from HS1.out)
          have HM2 := Lib.hid (show MaxAt (w1.drewN nq) from HM1.out)
          have HL2 := Lib.hid (below_drewN' HL1.out nq)
          generalize w1.drewN nq = w2 at *
          go_wp2_with fail
          refine (needsX_some _ _ _ _ (by omega) HEP.out HB.out HS2.out).mono ?_
          rintro e w3 ⟨rfl, hL3⟩
          have HL3 := Lib.hid (HL2.out.trans (hL3.mono HL2.out.size))
          have HS3 := Lib.hid (HS2.out.below hL3)
          have HM3 := Lib.hid (HM2.out.more hL3)
          clear hL3
          go_wp2_with (first
            | (go_at_call 20; refine (board_any _ _ _ _ (by omega)).mono ?_; rintro e w' ⟨rfl, rfl⟩)
            | (go_at_call 15; refine (alive15 _ HS3.out HM3.out).mono ?_; rintro e w7 ⟨rfl, hL7⟩))
          go_ret
          exact ⟨rfl, HL3.out.trans (hL7.mono HL3.out.size)⟩
    · have hb0 : (boardErr n s true != 0) = true := by simp [he]
      clear he
      go_enter Tryd.func6, Tryd.ntmps6
      go_wp2_with (first
        | (go_at_call 20; refine (board_any _ _ _ _ (by omega)).mono ?_; rintro e w' ⟨rfl, rfl⟩)
        | (go_at_call 15; refine (alive15 _ HS.out HM.out).mono ?_; rintro e w1 ⟨rfl, hL⟩))
      go_ret
      exact ⟨rfl, hL⟩

end Go.Proofs.YtpbiminbhihjnaaDoor
