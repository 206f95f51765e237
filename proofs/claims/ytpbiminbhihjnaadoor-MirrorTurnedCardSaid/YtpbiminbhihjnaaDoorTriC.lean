/-
  A part of the proofs over the mirror (layer 4): TriC.
-/
import Derived.Test.YtpbiminbhihjnaaDoorTriB
import Derived.Maps.OwnSet
import Derived.Maps.OwnOps
import Derived.DeepKeys4
namespace Go.Proofs.YtpbiminbhihjnaaDoor
open Go.RowKit Tri Go.Maps Go.WideMaps
set_option linter.unusedSimpArgs false
set_option linter.unusedVariables false

theorem laid94 : laidOutB Tryd.prog = true := by kernel_rfl
theorem law94 : KeyLaw Tryd.prog 94 := deep_law_laid laid94 (m := 2) (by omega) (of_decide_eq_true (by kernel_rfl)) (by kernel_rfl) (by rw [Tryd.underlying94])
theorem keyed94 : Keyed Tryd.prog 94 := Keyed.of_law law94

/-- What a point reads as, as a key. -/
def kp (a b : Nat) : Lit := .string (keyBytes [.int .i64 (a : Int), .int .i64 (b : Int)])
def ptV (a b : Nat) : Value := .agg #[.int .i64 (a : Int), .int .i64 (b : Int)]

theorem wf_small (a : Nat) (h : a < 1000) : (Lit.int .i64 (a : Int)).wf = true := by
  apply WalkArith.wf_i64 <;> omega

theorem types_size : ∃ N, Tryd.prog.types.size = N + 1 := ⟨Tryd.prog.types.size - 1, by
  have : 0 < Tryd.prog.types.size := of_decide_eq_true (by kernel_rfl)
  omega⟩

theorem key94 (a b : Nat) (ha : a < 1000) (hb : b < 1000) : keyOf Tryd.prog 94 (ptV a b) = some (kp a b) := by
  obtain ⟨N, hN⟩ := types_size
  have h1 : Tryd.prog.keyType 94 = true := by kernel_rfl
  have h2 : Tryd.prog.cellsOf 94 = 2 := by kernel_rfl
  have h3 : Tryd.prog.cellsOf 3 = 1 := by kernel_rfl
  have wa := wf_small a ha
  have wb := wf_small b hb
  have e1 : ∀ x : Nat, (Lit.int .i64 (x : Int)).wf = true → Tryd.prog.keyLits (N + 1) 3 [.int .i64 (x : Int)] = some [.int .i64 (x : Int)] := fun x hx => by
    simp [Program.keyLits, Tryd.underlying3, hx]
  have hf : (ptV a b).formed Tryd.prog 94 = true := by simp [ptV, Value.formed, Tryd.underlying94, h2]
  unfold keyOf
  rw [Tryd.underlying94]
  simp only [h1, hf, Bool.and_self, if_true]
  rw [hN]
  unfold Program.keyLits
  rw [Tryd.underlying94]
  simp [ptV, Value.cells, h2, h3, List.range_succ, e1 a wa, e1 b wb, kp]

theorem kp_inj {a b c d : Nat} (ha : a < 1000) (hb : b < 1000) (hc : c < 1000) (hd : d < 1000) (h : kp a b = kp c d) : a = c ∧ b = d := by
  have k1 := key94 a b ha hb
  have k2 := key94 c d hc hd
  rw [← h] at k2
  have := law94.inj k1 k2
  simp [ptV] at this
  omega

theorem kp_key (a b : Nat) : WideAt.IsKeyLit (kp a b) := trivial

end Go.Proofs.YtpbiminbhihjnaaDoor
