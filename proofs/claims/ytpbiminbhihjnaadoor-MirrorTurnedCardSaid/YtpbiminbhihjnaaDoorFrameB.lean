/-
  A part of the proofs over the mirror (layer 4): FrameB.
-/
import Derived.Test.YtpbiminbhihjnaaDoorFrameA
namespace Go.Proofs.YtpbiminbhihjnaaDoor
open Go.ChangeShapes Go.WideShapes Go.ChangeAt Go.RowKit Go.ChangeMaps
set_option linter.unusedSimpArgs false
set_option linter.unusedVariables false

mutual
/-- The cells of a plain datum. -/
def flatD : DataW Unit → List Value
  | .lit l => [l.value]
  | .agg ds => flatAll ds
  | _ => []
def flatAll : List (DataW Unit) → List Value
  | [] => []
  | d :: ds => flatD d ++ flatAll ds
end

def relay (k : Nat) (d : DataW Unit) (h : Array Obj) : Array Obj := h.modify k fun
  | .cells _ t frozen => .cells (flatD d).toArray t frozen
  | o => o

/-- A world for the witness. -/
noncomputable def laidW (os : Os) : World :=
  { World.holding Tryd.prog os ⟨#[], #[], []⟩ with heap := relay 3 Rows.laid_unicode_utf8_acceptRanges (relay 2 Rows.laid_unicode_utf8_first (relay 0 Rows.laid_pomade_mirror_steps (World.holding Tryd.prog os ⟨#[], #[], []⟩).heap)) }

def nArgs : Array Value := #[.int .i64 0, .string ByteArray.empty, .string ByteArray.empty]
theorem laid_met (os : Os) : laidMet Tryd.prog Rows.mirrorNeedsRow.laid ((laidW os).forCall (fun _ _ => 0) ⟨#[], nArgs, []⟩).memory :=
  laidMet_of_run' 8 (by kernel_rfl) (by kernel_rfl)

end Go.Proofs.YtpbiminbhihjnaaDoor
