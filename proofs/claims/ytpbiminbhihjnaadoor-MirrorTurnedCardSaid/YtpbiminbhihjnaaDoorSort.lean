/-
  A part of the proofs over the mirror (layer 4): Sort.
-/
import Derived.Test.YtpbiminbhihjnaaDoorWords
import Derived.Test.YtpbiminbhihjnaaDoorShelf
namespace Go.Proofs.YtpbiminbhihjnaaDoor
open Go.RowKit Go.Sort
set_option linter.unusedSimpArgs false
set_option linter.unusedVariables false

theorem mapBlock_other (w : World) (blk k : Nat) (f : Array Value → Array Value) (h : k ≠ blk) : (mapBlock w blk f).heap[k]? = w.heap[k]? := by
  unfold mapBlock
  simp only [Array.getElem?_modify]
  rw [if_neg (fun e => h e.symm)]

theorem mapBlock_at (w : World) (blk : Nat) (f : Array Value → Array Value) {cs : Array Value} {t : TypeId} {fr : Nat × Nat} (h : w.heap[blk]? = some (.cells cs t fr)) :
    (mapBlock w blk f).heap[blk]? = some (.cells (f cs) t fr) := by
  unfold mapBlock
  simp only [Array.getElem?_modify]
  rw [if_pos trivial, h]
  rfl

theorem grow_old (w : World) (os : Array Obj) {k : Nat} (h : k < w.heap.size) : (grow w os).heap[k]? = w.heap[k]? := by
  unfold grow
  rw [Array.getElem?_append_left h]

def SortPost (base : Nat) (v : Value) (l : List Int) (w : World) (e : Ending) (w' : World) : Prop :=
  e = .returned (.tuple #[]) ∧ Own w' base v (l.mergeSort fun x y => decide (x ≤ y)) ∧ Below base w w'

/-- slices.Sort of a row of the call's own. -/
theorem sort_any (base : Nat) (v : Value) (l : List Int) (w : World) (hO : Own w base v l) (hl : l.length ≤ 1000000) : Calls Tryd.prog 82 #[v] w (SortPost base v l w) := by
  rcases Nat.eq_zero_or_pos l.length with h0 | h0
  · have hnil := List.eq_nil_of_length_eq_zero h0
    subst hnil
    obtain ⟨A, cap, rfl⟩ := hO.shape
    refine (Tryd.slices_Sort_int_none A cap w).mono ?_
    rintro e w' ⟨rfl, rfl⟩
    exact ⟨rfl, by simpa using hO, Below.refl _ _⟩
  · have hO' := hO
    obtain ⟨h1, h2⟩ := hO
    rcases h2 with ⟨_, h⟩ | ⟨g, cap, cur, rfl, hbase, hh, hnc, hmx, hsz, htk⟩
    · omega
    · have hlen : (l.mergeSort fun x y => decide (x ≤ y)).length = l.length := List.length_mergeSort _
      refine (Tryd.slices_Sort_int g 0 cap l w ?_ (lt_of_block hh) (by omega)).mono ?_
      · intro j hj
        have hj' : j < l.length := by simpa using hj
        have hc := hO'.cellAt hj'
        refine ⟨?_, ?_⟩
        · rw [Nat.zero_add, hc]
          congr 2
          rw [getElem!_pos _ j hj]
          simp [List.getElem?_eq_getElem hj']
        · simp [World.frozen?, hh]
      · rintro e w' ⟨rfl, n, os, rfl⟩
        have hlt : g < w.heap.size := lt_of_block hh
        have hsize : (putRow (Value.int .i64) (Sort.ahead w n) g 0 (l.mergeSort fun x y => decide (x ≤ y)).toArray).heap.size = w.heap.size := by
          unfold putRow mapBlock Sort.ahead
          simp
        refine ⟨rfl, ⟨by simp, .inr ⟨g, cap, putCells (Value.int .i64) 0 (l.mergeSort fun x y => decide (x ≤ y)).toArray cur, by rw [hlen], hbase, ?_, by rw [hlen]; exact hnc, hmx, ?_, ?_⟩⟩, ?_⟩
        · rw [grow_old _ _ (by rw [hsize]; exact hlt)]
          unfold putRow
          exact mapBlock_at _ _ _ hh
        · unfold putCells
          simp [hsz]
        · apply List.ext_getElem?
          intro j
          rw [List.getElem?_take, List.getElem?_map]
          by_cases hj : j < (l.mergeSort fun x y => decide (x ≤ y)).length
          · rw [if_pos (by omega), List.getElem?_eq_getElem hj]
            unfold putCells
            have hjc : j < cur.size := by rw [hlen] at hj; omega
            rw [Array.getElem?_toList, Array.getElem?_mapIdx, Array.getElem?_eq_getElem hjc, Option.map_some, if_pos ⟨by omega, by simpa using hj⟩]
            rw [getElem!_pos _ _ (by simpa using hj)]
            simp
          · rw [if_neg (by omega), List.getElem?_eq_none (by omega)]
            rfl
        · refine ⟨rfl, rfl, rfl, ?_, fun k hk => ?_⟩
          · unfold grow
            simp only [Array.size_append]
            omega
          · have hk' : k ≠ g := by omega
            by_cases hkw : k < w.heap.size
            · rw [grow_old _ _ (by rw [hsize]; exact hkw)]
              unfold putRow
              exact mapBlock_other _ _ _ _ hk'
            · omega

end Go.Proofs.YtpbiminbhihjnaaDoor
