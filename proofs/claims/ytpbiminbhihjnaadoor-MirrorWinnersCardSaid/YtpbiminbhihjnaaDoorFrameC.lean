/-
  An argument that is a slice of integers: what it reads as, before the call and behind it.
-/
import Derived.Test.YtpbiminbhihjnaaDoorFrameB
namespace Go.Proofs.YtpbiminbhihjnaaDoor
open Go.ChangeShapes Go.WideShapes Go.ChangeAt Go.RowKit Go.ChangeMaps
set_option linter.unusedSimpArgs false
set_option linter.unusedVariables false

theorem cells3 : Tryd.prog.cellsOf 3 = 1 := by kernel_rfl

set_option maxRecDepth 100000 in
theorem ints_arg {H : Type} {enc : TypeId × Value → H} {W : World} {base : Nat} {v : Value} {d : DataW H} {ps : List MemPlace} (hval : Value.okWide Tryd.prog W .any base 33 v) (hd : DataW.Trod enc Tryd.prog W 0 (fun _ => true) true 33 v d ps) :
    ∃ l, SL W v l ∧ ∀ W', Below W.heap.size W W' → DataW.Trod enc Tryd.prog W' 0 (fun b => decide (b < W.heap.size)) true 33 v d ps := by
  obtain ⟨a0, len0, cap0, rfl⟩ := okWide_slice Tryd.underlying33 hval
  obtain ⟨fuel, hf⟩ := hd
  rcases open_ints Tryd.underlying33 Tryd.underlying3 cells3 hf with ⟨hcs, hx⟩ | ⟨a, len, cap, zs, hcs, _, hl, hm, hz, hx, hcell, hwz⟩
  · simp [Value.cells] at hcs
    obtain ⟨rfl, rfl, rfl⟩ := hcs
    simp only [Prod.mk.injEq] at hx
    obtain ⟨rfl, rfl⟩ := hx
    exact ⟨[], ⟨none, 0, rfl, Nat.le_refl _, fun h => by cases h⟩, fun W' hb => shut_slice_nil Tryd.underlying33⟩
  · simp [Value.cells] at hcs
    obtain ⟨rfl, rfl, rfl⟩ := hcs
    simp only [Prod.mk.injEq] at hx
    obtain ⟨rfl, rfl⟩ := hx
    simp only [if_true] at hz
    have hlt : 0 < zs.length → a.block < W.heap.size := by
      intro h0
      have hc := hcell 0 h0
      apply Classical.byContradiction
      intro hn
      have : W.cell? (a.add 0) = none := by
        have h1 : W.heap[(a.add 0).block]? = none := Array.getElem?_eq_none (by rw [block_add]; omega)
        simp [World.cell?, h1]
      rw [this] at hc
      cases hc
    refine ⟨zs.take len0, ⟨some a, cap0, ?_, ?_, fun h0 => ?_⟩, fun W' hb => ?_⟩
    · rw [List.length_take, Nat.min_eq_left (by omega)]
    · rw [List.length_take]; omega
    · rw [List.length_take] at h0
      obtain ⟨b, off, spot⟩ := a
      have hspot : spot = none := by simpa [Addr.add] using World.cell?_spot (hcell 0 (by omega))
      subst hspot
      refine ⟨b, off, rfl, hlt (by omega), fun i hi => ?_⟩
      rw [List.length_take] at hi
      have := hcell i (by omega)
      rw [add_plain] at this
      rw [this]
      congr 2
      simp only [List.getD_eq_getElem?_getD]
      rw [List.getElem?_take, if_pos (by omega)]
    · have hcell' : ∀ i, i < zs.length → W'.cell? (a.add i) = some (.int .i64 (zs.getD i 0)) := by
        intro i hi
        rw [hb.cell (p := a.add i) (by rw [block_add]; exact hlt (by omega))]
        exact hcell i hi
      have hlen : zs.length = (if (fun b => decide (b < W.heap.size)) a.block = true then cap0 else len0) := by
        by_cases h0 : 0 < zs.length
        · simp only [decide_eq_true_eq]
          rw [if_pos (hlt h0)]; exact hz
        · split <;> omega
      have t0 := shut_ints (enc := enc) (w := W') (base := 0) (spare := fun b => decide (b < W.heap.size)) (held := true) (a := a) (len := len0) (cap := cap0) (zs := zs) 0 Tryd.underlying33 Tryd.underlying3 cells3 (Nat.zero_le _) hl hm hlen hcell' hwz
      exact ⟨2, by simpa [Value.cells] using t0⟩

end Go.Proofs.YtpbiminbhihjnaaDoor
