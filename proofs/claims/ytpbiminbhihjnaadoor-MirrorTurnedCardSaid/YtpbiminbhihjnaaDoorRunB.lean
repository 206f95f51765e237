/-
  A part of the proofs over the mirror (layer 4): RunB.
-/
import Derived.Test.YtpbiminbhihjnaaDoorRunA
namespace Go.Proofs.YtpbiminbhihjnaaDoor
open Go.RowKit Dist
set_option linter.unusedSimpArgs false
set_option linter.unusedVariables false

theorem begins_row {n i : Nat} (h : 1 ≤ n) : ((i : Int) / n == 0) = beginsB n 120 i := by
  unfold beginsB
  rw [if_pos (by rfl), Bool.eq_iff_iff, beq_iff_eq, decide_eq_true_eq]
  constructor
  · intro h1
    have := Int.lt_ediv_add_one_mul_self (i : Int) (show (0 : Int) < n by omega)
    rw [h1] at this
    omega
  · intro h1
    exact Int.ediv_eq_zero_of_lt (by omega) h1

theorem ends_row {n i : Nat} (h : 1 ≤ n) (hi : i < n * n) : ((i : Int) / n == (n : Int) - 1) = endsB n 120 i := by
  unfold endsB
  rw [if_pos (by rfl), Bool.eq_iff_iff, beq_iff_eq, decide_eq_true_eq]
  have hn : (0 : Int) < n := by omega
  have hlt : (i : Int) / n < n := Int.ediv_lt_of_lt_mul hn (by have : ((n * n : Nat) : Int) = (n : Int) * n := Int.natCast_mul n n; omega)
  constructor
  · intro h1
    have := Int.mul_ediv_self_le (x := (i : Int)) (k := (n : Int)) (by omega)
    rw [h1] at this
    exact this
  · intro h1
    have := Int.le_ediv_of_mul_le hn (by rw [Int.mul_comm] at h1; exact h1)
    omega

/-- Two bools handed back; the world is as it was but for draws. -/
def BoolsPost (x y : Bool) (w : World) (e : Ending) (w' : World) : Prop := e = .returned (.tuple #[.bool x, .bool y]) ∧ ∃ k, w' = w.drewN k

theorem pends_any (b g cap n i : Nat) (s : ByteArray) (p : Int) (w : World) (hB : BoardAt w b g cap n s) (h1 : 1 ≤ n) (h2 : n ≤ 11) (hi : i < n * n) (hp : p = 120 ∨ p = 111) :
    Calls Tryd.prog 43 #[.pointer (some ⟨b, 0, none⟩), .int .i64 (i : Int), .int .u8 p] w (BoolsPost (beginsB n p i) (endsB n p i) w) := by
  have c0 := hB.n_
  have hi' : i ≤ 121 := by have := Nat.mul_le_mul h2 h2; omega
  have q3 : 0 ≤ (i : Int) / n := Int.ediv_nonneg (by omega) (by omega)
  have q4 : (i : Int) / n ≤ i := Int.ediv_le_self _ (by omega)
  have q7 : 0 ≤ (i : Int) % n := Int.emod_nonneg _ (by omega)
  have q8 : (i : Int) % n < n := Int.emod_lt_of_pos _ (by omega)
  clear hB
  rcases hp with rfl | rfl
  · have E1 := Lib.hid (begins_row (n := n) (i := i) h1)
    have E2 := Lib.hid (ends_row (n := n) (i := i) h1 hi)
    clear hi
    go_enter Tryd.func43, Tryd.ntmps43
    go_wp2_with fail
    go_quiet (fail)
    go_wp2_with fail
    go_ret2
    exact ⟨by rw [← E1.out, ← E2.out]; rfl, _, rfl⟩
  · have E1 := Lib.hid (show ((i : Int) % n == 0) = beginsB n 111 i from rfl)
    have E2 := Lib.hid (show ((i : Int) % n == (n : Int) - 1) = endsB n 111 i from rfl)
    clear hi
    go_enter Tryd.func43, Tryd.ntmps43
    go_wp2_with fail
    go_quiet (fail)
    go_wp2_with fail
    go_ret2
    exact ⟨by rw [← E1.out, ← E2.out]; rfl, _, rfl⟩

end Go.Proofs.YtpbiminbhihjnaaDoor
