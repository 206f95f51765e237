/-
  A part of the proofs over the mirror (layer 4): RunC.
-/
import Derived.Test.YtpbiminbhihjnaaDoorRunB
import Derived.Test.YtpbiminbhihjnaaDoorSort
import Derived.Test.YtpbiminbhihjnaaDoorPlain
namespace Go.Proofs.YtpbiminbhihjnaaDoor
open Go.RowKit Dist
set_option linter.unusedSimpArgs false
set_option linter.unusedVariables false

/-- The table of steps lies in its variable. -/
def StepsAt (w : World) : Prop := 0 < w.heap.size ∧ ∀ j, j < 12 → w.cell? ⟨0, j, none⟩ = some (.int .i64 (stepL.getD j 0))

def stepAgg : Value := .agg #[.int .i64 0, .int .i64 (-1), .int .i64 0, .int .i64 1, .int .i64 (-1), .int .i64 0, .int .i64 (-1), .int .i64 1, .int .i64 1, .int .i64 (-1), .int .i64 1, .int .i64 0]

theorem step_index (k : Nat) (hk : k < 6) (w : World) : (Instr.index 120 stepAgg (.int .i64 (k : Int))).run Tryd.prog w = .ok (.agg #[.int .i64 (stepR k), .int .i64 (stepC k)]) w := by
  have h' : k = 0 ∨ k = 1 ∨ k = 2 ∨ k = 3 ∨ k = 4 ∨ k = 5 := by omega
  have h0 : ∀ w, (Instr.index 120 stepAgg (.int .i64 0)).run Tryd.prog w = .ok (.agg #[.int .i64 (0), .int .i64 (-1)]) w := fun _ => by kernel_rfl
  have h1 : ∀ w, (Instr.index 120 stepAgg (.int .i64 1)).run Tryd.prog w = .ok (.agg #[.int .i64 (0), .int .i64 (1)]) w := fun _ => by kernel_rfl
  have h2 : ∀ w, (Instr.index 120 stepAgg (.int .i64 2)).run Tryd.prog w = .ok (.agg #[.int .i64 (-1), .int .i64 (0)]) w := fun _ => by kernel_rfl
  have h3 : ∀ w, (Instr.index 120 stepAgg (.int .i64 3)).run Tryd.prog w = .ok (.agg #[.int .i64 (-1), .int .i64 (1)]) w := fun _ => by kernel_rfl
  have h4 : ∀ w, (Instr.index 120 stepAgg (.int .i64 4)).run Tryd.prog w = .ok (.agg #[.int .i64 (1), .int .i64 (-1)]) w := fun _ => by kernel_rfl
  have h5 : ∀ w, (Instr.index 120 stepAgg (.int .i64 5)).run Tryd.prog w = .ok (.agg #[.int .i64 (1), .int .i64 (0)]) w := fun _ => by kernel_rfl
  rcases h' with rfl | rfl | rfl | rfl | rfl | rfl
  · exact h0 w
  · exact h1 w
  · exact h2 w
  · exact h3 w
  · exact h4 w
  · exact h5 w

def NbPost (n i : Nat) (w : World) (e : Ending) (w' : World) : Prop :=
  ∃ u, e = .returned u ∧ Own w' w.heap.size u (nbs n i) ∧ Below w.heap.size w w'

set_option maxHeartbeats 1000000 in
theorem nb_any (b g cap n i : Nat) (s : ByteArray) (w : World) (hB : BoardAt w b g cap n s) (h1 : 1 ≤ n) (h2 : n ≤ 11) (hi : i < n * n) (hS : StepsAt w) :
    Calls Tryd.prog 64 #[.pointer (some ⟨b, 0, none⟩), .int .i64 (i : Int)] w (NbPost n i w) := by
  have s0 := hS.2 0 (by omega)
  have s1 := hS.2 1 (by omega)
  have s2 := hS.2 2 (by omega)
  have s3 := hS.2 3 (by omega)
  have s4 := hS.2 4 (by omega)
  have s5 := hS.2 5 (by omega)
  have s6 := hS.2 6 (by omega)
  have s7 := hS.2 7 (by omega)
  have s8 := hS.2 8 (by omega)
  have s9 := hS.2 9 (by omega)
  have s10 := hS.2 10 (by omega)
  have s11 := hS.2 11 (by omega)
  simp only [stepL, List.getD_cons_zero, List.getD_cons_succ] at s0 s1 s2 s3 s4 s5 s6 s7 s8 s9 s10 s11
  have hi' : i ≤ 121 := by have := Nat.mul_le_mul h2 h2; omega
  have q3 : 0 ≤ (i : Int) / n := Int.ediv_nonneg (by omega) (by omega)
  have q4 : (i : Int) / n ≤ i := Int.ediv_le_self _ (by omega)
  have q7 : 0 ≤ (i : Int) % n := Int.emod_nonneg _ (by omega)
  have q8 : (i : Int) % n < n := Int.emod_lt_of_pos _ (by omega)
  go_enter Tryd.func64, Tryd.ntmps64
  go_wp2_with fail
  clear s0 s1 s2 s3 s4 s5 s6 s7 s8 s9 s10 s11
  go_loopg [5, 11] 6 (fun q v x wr => ∃ (k : Nat) (u : Value), v = u ∧ x = .int .i64 k ∧ k ≤ 6 ∧ Hid (q = 6 - k) ∧ Own wr w.heap.size u (nbTo n i k) ∧ Below w.heap.size w wr)
  case atStart => exact ⟨0, _, rfl, rfl, by omega, rfl, (Own.nil _ _ : Own _ _ _ (nbTo n i 0)), Below.refl _ _⟩
  case round =>
    obtain ⟨k, u, hu, rfl, hk, hq, hO, hBel⟩ := hrel
    subst hu
    by_cases hlt : k < 6
    · have hx := step_index k hlt
      unfold stepAgg at hx
      have bd := step_bd k
      have NS := Lib.hid (show nbTo n i (k + 1) = if nbOk n i k then nbTo n i k ++ [nbAt n i k] else nbTo n i k from rfl)
      have NO : nbOk n i k = (decide (0 ≤ (i : Int) / n + stepR k) && decide ((i : Int) / n + stepR k < n) && decide (0 ≤ (i : Int) % n + stepC k) && decide ((i : Int) % n + stepC k < n)) := rfl
      have NA : nbAt n i k = ((i : Int) / n + stepR k) * n + ((i : Int) % n + stepC k) := rfl
      have hlen := nbTo_len n i k
      obtain ⟨A, cap', rfl⟩ := hO.shape
      generalize stepR k = dr at *
      generalize stepC k = dc at *
      have NO' := Lib.hid NO
      have NA' := Lib.hid NA
      clear NO NA
      generalize hL : nbTo n i k = L at *
      clear hL
      have hB' := hB.below hBel hB.1.lt hB.2.1.lt
      have c0 : (wr.alloc (.cells #[.int .i64 dr, .int .i64 dc] 94)).cell? ⟨b, 0, none⟩ = some (.int .i64 (n : Int)) := by rw [World.cell?_alloc_lt _ _ _ hB'.1.lt]; exact hB'.n_
      have x0 : (wr.alloc (.cells #[.int .i64 dr, .int .i64 dc] 94)).cell? ⟨wr.heap.size, 0, none⟩ = some (.int .i64 dr) := by rw [(Blk.new wr 94 _).cell]; rfl
      have x1 : (wr.alloc (.cells #[.int .i64 dr, .int .i64 dc] 94)).cell? ⟨wr.heap.size, 1, none⟩ = some (.int .i64 dc) := by rw [(Blk.new wr 94 _).cell]; rfl
      have hO1 := (hO.alloc (.cells #[.int .i64 dr, .int .i64 dc] 94))
      have hBel1 := hBel.alloc hBel.size (.cells #[.int .i64 dr, .int .i64 dc] 94)
      clear hO
      have hz : w.heap.size ≤ (wr.alloc (.cells #[.int .i64 dr, .int .i64 dc] 94)).heap.size := hBel1.size
      go_wp2_with fail
      generalize wr.alloc (.cells #[.int .i64 dr, .int .i64 dc] 94) = w1 at *
      go_quiet (fail)
      by_cases hv : 0 ≤ (i : Int) / n + dr ∧ (i : Int) / n + dr < n ∧ 0 ≤ (i : Int) % n + dc ∧ (i : Int) % n + dc < n
      · obtain ⟨v1, v2, v3, v4⟩ := hv
        have YES := Lib.hid (show nbOk n i k = true by rw [NO'.out]; simp [v1, v2, v3, v4])
        have hm := mul_bd (a := (i : Int) / n + dr) (b := n) (A := 11) (B := 11) (by omega) (by omega) (by omega) (by omega)
        go_wp2_with (at_builtin; refine app_int rfl _ _ rfl w.heap.size _ L rfl (hO1.drewN nq) (((i : Int) / n + dr) * n + ((i : Int) % n + dc)) rfl (by omega) hz ?_; intro v' w2 hO2 hb2)
        go_roundg (6 - (k + 1))
        case measure => have := hq.out; omega
        case rel =>
          refine ⟨k + 1, _, rfl, by go_num, by omega, rfl, ?_, Below.trans (below_drewN' hBel1 nq) hb2⟩
          rw [NS.out, if_pos YES.out, NA'.out]
          exact hO2
      · have NOT := Lib.hid (show ¬ nbOk n i k = true by
          rw [NO'.out]
          intro h
          simp only [Bool.and_eq_true, decide_eq_true_eq] at h
          exact hv ⟨h.1.1.1, h.1.1.2, h.1.2, h.2⟩)
        have HV := Lib.hid hv
        clear hv
        go_wp2_with fail
        all_goals first
          | (exfalso; have := HV.out; omega)
          | (go_roundg (6 - (k + 1))
             case measure => have := hq.out; omega
             case rel =>
               refine ⟨k + 1, _, rfl, by go_num, by omega, rfl, ?_, below_drewN' hBel1 nq⟩
               rw [NS.out, if_neg NOT.out]
               exact hO1.drewN nq)
    · obtain rfl : k = 6 := by omega
      have hlen := nbTo_len n i 6
      go_wp2_with (go_at_call 82; refine (sort_any w.heap.size _ _ _ hO (by omega)).mono ?_; rintro e w2 ⟨rfl, hO2, hb2⟩)
      go_ret
      exact ⟨_, rfl, hO2, hBel.trans hb2⟩

end Go.Proofs.YtpbiminbhihjnaaDoor
