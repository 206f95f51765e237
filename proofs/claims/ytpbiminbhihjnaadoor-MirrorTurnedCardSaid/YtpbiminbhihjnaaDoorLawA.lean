/-
  A part of the proofs over the mirror (layer 4): LawA.
-/
import Derived.Test.YtpbiminbhihjnaaDoorTriI
import Derived.Test.YtpbiminbhihjnaaDoorRunJ
import Derived.BigQuiet
namespace Go.Proofs.YtpbiminbhihjnaaDoor
open Go.RowKit Tri Go.Maps Go.WideMaps Dist
set_option linter.unusedSimpArgs false
set_option linter.unusedVariables false

def SamePost (a b : List Int) (w : World) (e : Ending) (w' : World) : Prop := e = .returned (.bool (decide (a = b))) ∧ ∃ k, w' = w.drewN k

theorem same_at {a b : List Int} {i : Nat} (hl : a.length = b.length) (h : ∀ j, j < i → a.getD j 0 = b.getD j 0) (hi : a.length ≤ i) : a = b := by
  apply List.ext_getElem hl
  intro j h1 h2
  have := h j (by omega)
  simpa [List.getD_eq_getElem?_getD, List.getElem?_eq_getElem h1, List.getElem?_eq_getElem h2] using this

set_option maxHeartbeats 2000000 in
set_option maxRecDepth 100000 in
theorem same31 (v1 v2 : Value) (a b : List Int) (w : World) (hv1 : SL w v1 a) (hv2 : SL w v2 b) (ha : a.length ≤ 1000) (hb : b.length ≤ 1000) :
    Calls Tryd.prog 31 #[v1, v2] w (SamePost a b w) := by
  obtain ⟨A, c1, rfl, hc1, hr1⟩ := hv1
  obtain ⟨B, c2, rfl, hc2, hr2⟩ := hv2
  by_cases hl : a.length = b.length
  · rcases Nat.eq_zero_or_pos a.length with h0 | h0
    · have e1 : a = b := by rw [List.length_eq_zero_iff.1 h0, List.length_eq_zero_iff.1 (by omega : b.length = 0)]
      have RES := Lib.hid (show decide (a = b) = true by simp [e1])
      rw [← hl, h0]
      clear hl h0 hr1 hr2 e1 hc1 hc2 ha hb
      go_enter Tryd.func31, Tryd.ntmps31
      go_wp2_with fail
      go_loopg [5] 0 (fun q x wr => x = .int .i64 0 ∧ wr = w)
      case atStart => exact ⟨rfl, rfl⟩
      case round =>
        obtain ⟨rfl, rfl⟩ := hrel
        go_wp2_with fail
        go_ret
        exact ⟨by rw [RES.out]; rfl, 0, rfl⟩
    · obtain ⟨b1, o1, rfl, hb1, hcell1⟩ := hr1 h0
      obtain ⟨b2, o2, rfl, hb2, hcell2⟩ := hr2 (by omega)
      have C1 := Lib.hid hcell1
      have C2 := Lib.hid hcell2
      have HLN := Lib.hid hl
      obtain ⟨N, hN⟩ : ∃ N, N = a.length := ⟨_, rfl⟩
      have HN := Lib.hid hN
      rw [← hl, ← hN]
      rw [← hN] at ha hc1 h0
      rw [← hl, ← hN] at hc2
      clear hr1 hr2 hcell1 hcell2 hl hb hN
      go_enter Tryd.func31, Tryd.ntmps31
      go_wp2_with fail
      go_loopg [5] N (fun q x wr => ∃ k nd : Nat, x = .int .i64 k ∧ k ≤ N ∧ Hid (q = N - k) ∧ wr = w.drewN nd ∧ Hid (∀ j, j < k → a.getD j 0 = b.getD j 0))
      case atStart => exact ⟨0, 0, rfl, Nat.zero_le _, rfl, rfl, fun j hj => by omega⟩
      case round =>
        obtain ⟨k, nd, rfl, hk, hq, rfl, EQ⟩ := hrel
        by_cases hlt : k < N
        · obtain ⟨x, hx⟩ : ∃ x, x = a.getD k 0 := ⟨_, rfl⟩
          obtain ⟨y, hy⟩ : ∃ y, y = b.getD k 0 := ⟨_, rfl⟩
          have cx : w.cell? ⟨b1, o1 + k, none⟩ = some (.int .i64 x) := by rw [hx]; exact C1.out k (HN.out ▸ hlt)
          have cy : w.cell? ⟨b2, o2 + k, none⟩ = some (.int .i64 y) := by rw [hy]; exact C2.out k (by rw [← HLN.out, ← HN.out]; exact hlt)
          have HX := Lib.hid hx
          have HY := Lib.hid hy
          clear hx hy
          by_cases hxy : x = y
          · have hb0 : (x != y) = false := by simp [hxy]
            go_wp2_with (go_quiet (fail))
            go_roundg (N - (k + 1))
            case measure => have := hq.out; omega
            case rel => exact ⟨k + 1, nd + nq, by go_num, by omega, rfl, by first | rfl | simp, fun j hj => by
              by_cases e : j = k
              · subst e; rw [← HX.out, ← HY.out]; exact hxy
              · exact EQ.out j (by omega)⟩
          · have hb0 : (x != y) = true := by simp [hxy]
            have RES := Lib.hid (show decide (a = b) = false from decide_eq_false fun e => hxy (by rw [HX.out, HY.out, e]))
            go_wp2_with (go_quiet (fail))
            go_ret
            exact ⟨by rw [RES.out]; rfl, nd + nq, by first | rfl | simp⟩
        · obtain rfl : k = N := by omega
          have RES := Lib.hid (show decide (a = b) = true from decide_eq_true (same_at HLN.out EQ.out (by rw [← HN.out]; exact Nat.le_refl _)))
          go_wp2_with fail
          go_ret
          exact ⟨by rw [RES.out]; rfl, _, rfl⟩
  · have RES := Lib.hid (show decide (a = b) = false from decide_eq_false fun e => hl (by rw [e]))
    have hb0 : ((a.length : Int) != b.length) = true := by simp; omega
    clear hl hr1 hr2
    go_enter Tryd.func31, Tryd.ntmps31
    go_wp2_with fail
    go_ret
    exact ⟨by rw [RES.out]; rfl, 0, rfl⟩

end Go.Proofs.YtpbiminbhihjnaaDoor
