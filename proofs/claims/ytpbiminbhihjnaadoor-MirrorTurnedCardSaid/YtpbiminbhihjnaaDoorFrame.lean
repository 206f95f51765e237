/-
  A part of the proofs over the mirror (layer 4): Frame.
-/
import Derived.Test.YtpbiminbhihjnaaDoorLawC
import Derived.Test.YtpbiminbhihjnaaDoorCards
import Derived.Test.YtpbiminbhihjnaaDoorTie
import Derived.ProofKit
import Derived.OpenShut
import Derived.Deep.DeepHandedRow
import Derived.Lib.LaidTab
import Derived.HandedShaped
namespace Go.Proofs.YtpbiminbhihjnaaDoor
open Go.ChangeShapes Go.WideShapes Go.ChangeAt Go.RowKit
set_option linter.unusedSimpArgs false
set_option linter.unusedVariables false

theorem own : ownKnob Tryd.prog.godebug = none := by kernel_rfl
theorem gSteps : Tryd.prog.globalNamed "pomade/mirror.steps" = some 0 := by kernel_rfl
theorem gType : (Tryd.prog.globals[0]?).map (·.type) = some 120 := by kernel_rfl

theorem maxAt_of {W : World} (h : W.ShapedOpen Tryd.prog) : MaxAt W := by
  obtain ⟨m, hm⟩ := cell_of_shapedOpen_int (P := Tryd.prog) (g := 1) (t := 3) (zero := #[.int .i64 0]) h (of_decide_eq_true (by kernel_rfl)) (by kernel_rfl) rfl (by kernel_rfl) (by kernel_rfl) Tryd.underlying3
  refine ⟨?_, m, hm⟩
  apply Classical.byContradiction
  intro hn
  have : W.cell? ⟨1, 0, none⟩ = none := by
    have h0 : W.heap[1]? = none := Array.getElem?_eq_none (by omega)
    simp [World.cell?, h0]
  rw [this] at hm
  cases hm

theorem stepsAt_of {W : World} (h : laidMetH Tryd.prog Rows.mirrorNeedsRow.laid W) : StepsAt W := by
  have h' : laidMet Tryd.prog Rows.mirrorNeedsRow.laid W := h
  obtain ⟨ps, hl, _⟩ := h'
  obtain ⟨_, _, _, _, _, _, _, _, _, _, hrest, _⟩ := hl
  obtain ⟨g, t, cs, fuel, p, q, hg, ht, hv, hd, _, _⟩ := hrest
  obtain rfl := Option.some.inj (gSteps.symm.trans hg)
  obtain rfl := Option.some.inj (gType.symm.trans ht)
  obtain ⟨xs, m, _, ex, hcl, hl, hel⟩ := DataW.trod_array Tryd.underlying120 hd
  have D1 : xs.map (·.1) = _ := (DataW.agg.inj (Prod.mk.inj ex).1).symm
  have c1 : Tryd.prog.cellsOf 94 = 2 := by kernel_rfl
  have c3 : Tryd.prog.cellsOf 3 = 1 := by kernel_rfl
  have hlt : 0 < W.heap.size := by
    apply Classical.byContradiction
    intro hn
    have h0 : W.heap[0]? = none := Array.getElem?_eq_none (by omega)
    have := World.var?_cell gSteps hv 0
    have e : W.cell? ⟨0, 0, none⟩ = none := by simp [World.cell?, h0]
    rw [e] at this
    have hcs : cs.toList.length = 12 := hcl.trans (by kernel_rfl)
    have : cs.size = 12 := by simpa using hcs
    simp_all
  refine ⟨hlt, fun j hj => ?_⟩
  have hE := hel (j / 2) (by omega)
  obtain ⟨xi, hxi⟩ : ∃ xi, xs[j / 2]? = some xi := ⟨_, List.getElem?_eq_getElem (by omega)⟩
  rw [hxi] at hE
  obtain ⟨ys, m2, _, ex2, _, hl2, hel2⟩ := DataW.trod_array Tryd.underlying94 hE
  have hE2 := hel2 (j % 2) (by omega)
  obtain ⟨yj, hyj⟩ : ∃ yj, ys[j % 2]? = some yj := ⟨_, List.getElem?_eq_getElem (by omega)⟩
  rw [hyj] at hE2
  obtain ⟨z, e1, e2, _⟩ := DataW.trod_int Tryd.underlying3 hE2
  have F1 : (xs.map (·.1))[j / 2]? = some (.agg (ys.map (·.1))) := by rw [List.getElem?_map, hxi, ex2]; rfl
  have F2 : (ys.map (·.1))[j % 2]? = some (.lit (.int .i64 z)) := by rw [List.getElem?_map, hyj, e2]; rfl
  rw [D1] at F1
  have C : cs.toList[j]? = some (.int .i64 z) := by
    have e3 := congrArg (·[0]?) e1
    simp only [c1, c3] at e3
    rw [List.getElem?_take, if_pos (by omega), List.getElem?_drop, List.getElem?_take, if_pos (by omega), List.getElem?_drop] at e3
    have e4 : j / 2 * 2 + (j % 2 * 1 + 0) = j := by omega
    rw [e4] at e3
    exact e3
  have hz : z = stepL.getD j 0 := by
    have hj' : j = 0 ∨ j = 1 ∨ j = 2 ∨ j = 3 ∨ j = 4 ∨ j = 5 ∨ j = 6 ∨ j = 7 ∨ j = 8 ∨ j = 9 ∨ j = 10 ∨ j = 11 := by omega
    clear hxi hyj hE hE2 e1 e2 C hel hel2 D1 ex ex2
    rcases hj' with rfl | rfl | rfl | rfl | rfl | rfl | rfl | rfl | rfl | rfl | rfl | rfl <;>
      (simp at F1; rw [← F1] at F2; simp at F2; rw [← F2]; rfl)
  rw [World.var?_cell gSteps hv j, ← hz]
  simpa using C

end Go.Proofs.YtpbiminbhihjnaaDoor
