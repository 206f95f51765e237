/-
  A part of the proofs over the mirror (layer 4): TriA.
-/
import Derived.Test.YtpbiminbhihjnaaDoorWords
import Derived.Test.YtpbiminbhihjnaaDoorShelf
import Derived.Test.YtpbiminbhihjnaaDoorTri
import Derived.BigQuiet
namespace Go.Proofs.YtpbiminbhihjnaaDoor
open Go.RowKit Tri
set_option linter.unusedSimpArgs false
set_option linter.unusedVariables false

/-- A cell as a value. -/
def cellV (x : Cell) : Value := .agg #[.int .i64 (x.1 : Int), .int .i64 (x.2.1 : Int), .int .i64 (x.2.2 : Int)]
/-- The points of a cell as a value. -/
def ptsV (x : Cell) : Array Value := #[.int .i64 ((p0 x).1 : Int), .int .i64 ((p0 x).2 : Int), .int .i64 ((p1 x).1 : Int), .int .i64 ((p1 x).2 : Int), .int .i64 ((p2 x).1 : Int), .int .i64 ((p2 x).2 : Int)]

theorem points80 (x : Cell) (h : x.1 < 2 ∧ x.2.1 < 100 ∧ x.2.2 < 100) (w : World) :
    Calls Tryd.prog 80 #[cellV x] w fun e w' => e = .returned (.agg (ptsV x)) ∧ Below w.heap.size w w' := by
  obtain ⟨k, i, j⟩ := x
  obtain ⟨hk, hi, hj⟩ := h
  have hi' : i < 100 := hi
  have hj' : j < 100 := hj
  have hk' : k < 2 := hk
  clear hk hi hj
  by_cases h0 : k = 0
  · subst h0
    have hP : ptsV (0, i, j) = #[.int .i64 (i : Int), .int .i64 (j : Int), .int .i64 ((i : Int) + 1), .int .i64 (j : Int), .int .i64 (i : Int), .int .i64 ((j : Int) + 1)] := by
      simp [ptsV, p0, p1, p2]
    rw [hP]
    show Calls Tryd.prog 80 #[.agg #[.int .i64 0, .int .i64 (i : Int), .int .i64 (j : Int)]] w _
    go_enter Tryd.func80, Tryd.ntmps80
    go_wp2_with (go_quiet (fail))
    have hb := ((((((((Blk.new (w.alloc (.cells #[.int .i64 0, .int .i64 (i : Int), .int .i64 (j : Int)] 80)) 117 #[.int .i64 0, .int .i64 0, .int .i64 0, .int .i64 0, .int .i64 0, .int .i64 0]).drewN nq).set_ 0 (.int .i64 (i : Int))).set_ 1 (.int .i64 (j : Int))).set_ 2 (.int .i64 ((i : Int) + 1))).set_ 3 (.int .i64 (j : Int))).set_ 4 (.int .i64 (i : Int))).set_ 5 (.int .i64 ((j : Int) + 1)))
    have hsz : (w.alloc (.cells #[.int .i64 0, .int .i64 (i : Int), .int .i64 (j : Int)] 80)).heap.size = w.heap.size + 1 := by simp
    rw [hsz] at hb
    have hL : Below w.heap.size w ((w.alloc (.cells #[.int .i64 0, .int .i64 (i : Int), .int .i64 (j : Int)] 80)).alloc (.cells #[.int .i64 0, .int .i64 0, .int .i64 0, .int .i64 0, .int .i64 0, .int .i64 0] 117)) := ((Below.refl _ _).alloc (Nat.le_refl _) _).alloc (by simp) _
    refine bodyPost_ret (results_cell_row rfl _ _ (w.heap.size + 1) 117 _ (0, 0) _ rfl hb Tryd.underlying117 rfl (by kernel_rfl)) rfl ⟨rfl, ?_⟩
    exact ((((((below_drewN' hL nq).setCell (p := ⟨w.heap.size + 1, 0, none⟩) (by simp) _).setCell (p := ⟨w.heap.size + 1, 1, none⟩) (by simp) _).setCell (p := ⟨w.heap.size + 1, 2, none⟩) (by simp) _).setCell (p := ⟨w.heap.size + 1, 3, none⟩) (by simp) _).setCell (p := ⟨w.heap.size + 1, 4, none⟩) (by simp) _).setCell (p := ⟨w.heap.size + 1, 5, none⟩) (by simp) _
  · obtain rfl : k = 1 := by omega
    have hP : ptsV (1, i, j) = #[.int .i64 ((i : Int) + 1), .int .i64 (j : Int), .int .i64 (i : Int), .int .i64 ((j : Int) + 1), .int .i64 ((i : Int) + 1), .int .i64 ((j : Int) + 1)] := by
      simp [ptsV, p0, p1, p2]
    rw [hP]
    show Calls Tryd.prog 80 #[.agg #[.int .i64 1, .int .i64 (i : Int), .int .i64 (j : Int)]] w _
    go_enter Tryd.func80, Tryd.ntmps80
    go_wp2_with (go_quiet (fail))
    have hb := ((((((((Blk.new (w.alloc (.cells #[.int .i64 1, .int .i64 (i : Int), .int .i64 (j : Int)] 80)) 117 #[.int .i64 0, .int .i64 0, .int .i64 0, .int .i64 0, .int .i64 0, .int .i64 0]).drewN nq).set_ 0 (.int .i64 ((i : Int) + 1))).set_ 1 (.int .i64 (j : Int))).set_ 2 (.int .i64 (i : Int))).set_ 3 (.int .i64 ((j : Int) + 1))).set_ 4 (.int .i64 ((i : Int) + 1))).set_ 5 (.int .i64 ((j : Int) + 1)))
    have hsz : (w.alloc (.cells #[.int .i64 1, .int .i64 (i : Int), .int .i64 (j : Int)] 80)).heap.size = w.heap.size + 1 := by simp
    rw [hsz] at hb
    have hL : Below w.heap.size w ((w.alloc (.cells #[.int .i64 1, .int .i64 (i : Int), .int .i64 (j : Int)] 80)).alloc (.cells #[.int .i64 0, .int .i64 0, .int .i64 0, .int .i64 0, .int .i64 0, .int .i64 0] 117)) := ((Below.refl _ _).alloc (Nat.le_refl _) _).alloc (by simp) _
    refine bodyPost_ret (results_cell_row rfl _ _ (w.heap.size + 1) 117 _ (0, 0) _ rfl hb Tryd.underlying117 rfl (by kernel_rfl)) rfl ⟨rfl, ?_⟩
    exact ((((((below_drewN' hL nq).setCell (p := ⟨w.heap.size + 1, 0, none⟩) (by simp) _).setCell (p := ⟨w.heap.size + 1, 1, none⟩) (by simp) _).setCell (p := ⟨w.heap.size + 1, 2, none⟩) (by simp) _).setCell (p := ⟨w.heap.size + 1, 3, none⟩) (by simp) _).setCell (p := ⟨w.heap.size + 1, 4, none⟩) (by simp) _).setCell (p := ⟨w.heap.size + 1, 5, none⟩) (by simp) _

end Go.Proofs.YtpbiminbhihjnaaDoor
