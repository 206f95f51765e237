/-
  The reference's Triangle, colour and Door.
-/
import Derived.Test.YtpbiminbhihjnaaDoorTriI
import Derived.Test.YtpbiminbhihjnaaDoorRefA
import Derived.BigQuiet
namespace Go.Proofs.YtpbiminbhihjnaaDoor
open Go.RowKit Tri Go.Maps Go.WideMaps Dist
set_option linter.unusedSimpArgs false
set_option linter.unusedVariables false

theorem triOk_iff (s : ByteArray) : triOk s = true ↔ ∀ k, k < s.size → 48 ≤ bt s k ∧ bt s k ≤ 50 := by
  constructor
  · exact fun h k hk => tri_bytes h hk
  · intro h
    unfold triOk
    rw [List.all_eq_true]
    intro c hc
    obtain ⟨i, hi, rfl⟩ := List.getElem_of_mem hc
    have hi' : i < s.size := by simpa using hi
    have e : bt s i = ((s.data.toList[i].toNat : Nat) : Int) := by rw [← bt_eq s i hi']; rfl
    have := h i hi'
    unfold triB
    rw [← e]
    simp [this]

set_option maxHeartbeats 1000000 in
theorem tri28 (n : Int) (s : ByteArray) (w : World) (hs : s.size ≤ 1000) :
    Calls Tryd.prog 28 #[.int .i64 n, .string s] w fun e w' => e = .returned (.int .i64 (triErr n s)) ∧ w = w' := by
  by_cases h1 : n < 1 ∨ 20 < n
  · have e := Lib.hid (show triErr n s = 2 by unfold triErr; rw [if_pos h1])
    by_cases h2 : n < 1
    · clear h1
      go_enter Tryd.func28, Tryd.ntmps28
      go_wp2
      go_ret
      exact ⟨ret_int e.out.symm, rfl⟩
    · have h3 : 20 < n := by omega
      clear h1
      go_enter Tryd.func28, Tryd.ntmps28
      go_wp2
      go_ret
      exact ⟨ret_int e.out.symm, rfl⟩
  · have a1 : ¬ n < 1 := by omega
    have a2 : ¬ 20 < n := by omega
    have a3 : n ≤ 20 := by omega
    have a4 : 1 ≤ n := by omega
    have hpe : ((n + 1) * (n + 2)).tdiv 2 = (n + 1) * (n + 2) / 2 := Int.tdiv_eq_ediv_of_nonneg (Int.mul_nonneg (by omega) (by omega))
    obtain ⟨P, hP⟩ : ∃ P, P = (n + 1) * (n + 2) / 2 := ⟨_, rfl⟩
    have HP := Lib.hid hP
    rw [← hP] at hpe
    have F59 := Lib.hid (show ∀ W : World, Calls Tryd.prog 59 #[.int .i64 n] W fun e w' => e = .returned (.int .i64 P) ∧ W = w' from fun W => by rw [hP]; exact points_any n W (by omega) (by omega))
    by_cases h4 : (s.size : Int) = P
    · have e := Lib.hid (show triErr n s = if triOk s then 0 else 5 by unfold triErr; rw [if_neg h1, hpe, if_neg (by simp [h4])])
      have h4b : ((s.size : Int) != P) = false := by simp [h4]
      clear h4 h1 hP hpe
      go_enter Tryd.func28, Tryd.ntmps28
      go_wp2_with (go_at_call 59; refine (F59.out _).mono ?_; rintro e w' ⟨rfl, rfl⟩)
      go_loop [5] (fun i => ∃ k : Nat, k ≤ s.size ∧ i = .int .i64 k ∧ Hid (∀ j, j < k → 48 ≤ bt s j ∧ bt s j ≤ 50)) (fun i => s.size - (intOf i).toNat)
      case atStart => exact ⟨0, Nat.zero_le _, rfl, fun j hj => by omega⟩
      case round =>
        obtain ⟨k, hk, rfl, hok⟩ := hrel
        by_cases hlt : k < s.size
        · have hbt := Lib.hid (bt_eq s k hlt)
          by_cases c1 : (s[k].toNat : Int) < 48
          · have R := Lib.hid (show triOk s = false by
              rw [Bool.eq_false_iff]
              intro h
              have := (triOk_iff s).1 h k hlt
              have := hbt.out
              omega)
            go_wp2
            go_ret
            exact ⟨ret_int (by rw [e.out, R.out]; rfl), rfl⟩
          · by_cases c2 : 50 < (s[k].toNat : Int)
            · have R := Lib.hid (show triOk s = false by
                rw [Bool.eq_false_iff]
                intro h
                have := (triOk_iff s).1 h k hlt
                have := hbt.out
                omega)
              go_wp2
              go_ret
              exact ⟨ret_int (by rw [e.out, R.out]; rfl), rfl⟩
            · go_wp2
              go_round
              case rel => exact ⟨k + 1, by omega, by go_num, fun j hj => by
                by_cases e : j = k
                · subst e; have := hbt.out; omega
                · exact hok.out j (by omega)⟩
              case measure => simp [intOf]; omega
        · have R := Lib.hid (show triOk s = true from (triOk_iff s).2 fun j hj => hok.out j (by omega))
          go_wp2
          go_ret
          exact ⟨ret_int (by rw [e.out, R.out]; rfl), rfl⟩
    · have e := Lib.hid (show triErr n s = 5 by unfold triErr; rw [if_neg h1, hpe, if_pos h4])
      have h4b : ((s.size : Int) != P) = true := by simp [h4]
      clear h4 h1 hP hpe
      go_enter Tryd.func28, Tryd.ntmps28
      go_wp2_with (go_at_call 59; refine (F59.out _).mono ?_; rintro e w' ⟨rfl, rfl⟩)
      go_ret
      exact ⟨ret_int e.out.symm, rfl⟩

/-- The colour of a point. -/
def ColPost (n : Nat) (s : ByteArray) (i j : Nat) (w : World) (e : Ending) (w' : World) : Prop := e = .returned (.int .u8 (bt s (pos n i j))) ∧ Below w.heap.size w w'

theorem rowAt_le (n : Nat) (hn : n ≤ 20) (i : Nat) (hi : i ≤ n + 1) : rowAt n i ≤ 441 := by
  have h : ∀ i, rowAt n i ≤ i * (n + 1) := by
    intro i
    induction i with
    | zero => simp [rowAt]
    | succ i ih =>
      rw [rowAt, Nat.add_mul]
      omega
  have h1 := h i
  have h2 : i * (n + 1) ≤ 21 * 21 := Nat.mul_le_mul (by omega) (by omega)
  omega

set_option maxHeartbeats 1000000 in
theorem colour70 (n i j : Nat) (s : ByteArray) (w : World) (hn : n ≤ 20) (hij : i + j ≤ n) (hs : s.size = rowAt n (n + 1)) :
    Calls Tryd.prog 70 #[.int .i64 (n : Int), .string s, .agg #[.int .i64 (i : Int), .int .i64 (j : Int)]] w (ColPost n s i j w) := by
  have hlt : pos n i j < s.size := by rw [hs]; exact pos_lt hij
  have hsz : s.size ≤ 441 := by rw [hs]; exact rowAt_le n hn (n + 1) (Nat.le_refl _)
  have RB := Lib.hid (fun k (hk : k ≤ i) => rowAt_le n hn k (by omega))
  clear hs
  go_enter Tryd.func70, Tryd.ntmps70
  go_wp2_with fail
  go_loopg [7, 8] i (fun q x y wr => ∃ k : Nat, y = .int .i64 k ∧ x = .int .i64 ((j : Int) + (rowAt n k : Nat)) ∧ k ≤ i ∧ Hid (q = i - k) ∧ wr = w.alloc (.cells #[.int .i64 i, .int .i64 j] 52))
  case atStart => exact ⟨0, rfl, by simp [rowAt], Nat.zero_le _, rfl, rfl⟩
  case round =>
    obtain ⟨k, rfl, rfl, hk, hq, rfl⟩ := hrel
    have rb := RB.out k hk
    by_cases hlt2 : k < i
    · have R := Lib.hid (show rowAt n (k + 1) = rowAt n k + (n + 1 - k) from rfl)
      have hkn : k ≤ n := by omega
      go_wp2_with fail
      go_roundg (i - (k + 1))
      case measure => have := hq.out; omega
      case rel => exact ⟨k + 1, by go_num, by rw [R.out]; congr 1; omega, by omega, rfl, rfl⟩
    · have HKI := Lib.hid (show k = i by omega)
      obtain ⟨P, hP⟩ : ∃ P : Nat, (j : Int) + (rowAt n k : Nat) = P := ⟨j + rowAt n k, by omega⟩
      have HPP := Lib.hid (show P = pos n i j by unfold pos; rw [← HKI.out]; omega)
      have hPs : P < s.size := by rw [HPP.out]; exact hlt
      rw [hP]
      have HBT := Lib.hid (bt_eq s P hPs)
      clear hP
      go_wp2_with fail
      go_ret
      exact ⟨by rw [← HPP.out, ← HBT.out]; rfl, (Below.refl _ _).alloc (Nat.le_refl _) _⟩

end Go.Proofs.YtpbiminbhihjnaaDoor
