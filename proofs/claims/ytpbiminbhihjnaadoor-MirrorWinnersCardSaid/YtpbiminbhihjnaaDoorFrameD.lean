/-
  An argument that is a slice of integers is nil or lies somewhere.
-/
import Derived.Test.YtpbiminbhihjnaaDoorFrameC
namespace Go.Proofs.YtpbiminbhihjnaaDoor
open Go.ChangeShapes Go.WideShapes Go.ChangeAt Go.RowKit Go.ChangeMaps
set_option linter.unusedSimpArgs false
set_option linter.unusedVariables false

set_option maxRecDepth 100000 in
theorem nil_arg {H : Type} {enc : TypeId × Value → H} {W : World} {base : Nat} {v : Value} {d : DataW H} {ps : List MemPlace} (hval : Value.okWide Tryd.prog W .any base 33 v) (hd : DataW.Trod enc Tryd.prog W 0 (fun _ => true) true 33 v d ps) :
    v = .slice none 0 0 ∨ ∃ a n c, v = .slice (some a) n c := by
  obtain ⟨a0, len0, cap0, rfl⟩ := okWide_slice Tryd.underlying33 hval
  obtain ⟨fuel, hf⟩ := hd
  rcases open_ints Tryd.underlying33 Tryd.underlying3 cells3 hf with ⟨hcs, hx⟩ | ⟨a, len, cap, zs, hcs, _, hl, hm, hz, hx, hcell, hwz⟩
  · simp [Value.cells] at hcs
    obtain ⟨rfl, rfl, rfl⟩ := hcs
    exact .inl rfl
  · simp [Value.cells] at hcs
    obtain ⟨rfl, rfl, rfl⟩ := hcs
    exact .inr ⟨_, _, _, rfl⟩

end Go.Proofs.YtpbiminbhihjnaaDoor
