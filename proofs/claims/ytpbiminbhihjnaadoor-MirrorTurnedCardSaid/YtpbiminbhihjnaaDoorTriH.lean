/-
  A part of the proofs over the mirror (layer 4): TriH.
-/
import Derived.Test.YtpbiminbhihjnaaDoorTriG
namespace Go.Proofs.YtpbiminbhihjnaaDoor
open Go.RowKit Tri Go.Maps Go.WideMaps Dist
set_option linter.unusedSimpArgs false
set_option linter.unusedVariables false

theorem OwnLL.base {w : World} {base base' : Nat} {v : Value} {ls : List (List Int)} (h : OwnLL w base v ls) (hb : base' ≤ base) : OwnLL w base' v ls := by
  obtain ⟨vs, ⟨h1, h2⟩, h3⟩ := h
  refine ⟨vs, ⟨h1, h2.imp id fun ⟨g, cap, cur, q1, q2, q3⟩ => ⟨g, cap, cur, q1, Nat.le_trans hb q2, q3⟩⟩, fun k hk => ?_⟩
  obtain ⟨u, hu, hO⟩ := h3 k hk
  exact ⟨u, hu, hO.base hb⟩

/-- The full cells, or an error. -/
def FullIs (n : Int) (s : ByteArray) (ls : List (List Int)) (er : Int) : Prop :=
  (triErr n s ≠ 0 ∧ ls = [] ∧ er = triErr n s) ∨ (triErr n s = 0 ∧ ls = fullList n.toNat s ∧ er = 0)

def FullPost (n : Int) (s : ByteArray) (w : World) (e : Ending) (w' : World) : Prop :=
  ∃ v ls er, e = .returned (.tuple #[v, .int .i64 er]) ∧ FullIs n s ls er ∧ OwnLL w' w.heap.size v ls ∧ Below w.heap.size w w'

theorem of_err (n : Int) (s : ByteArray) (w : World) (hs : s.size ≤ 1000) (h : triErr n s ≠ 0) :
    Calls Tryd.prog 50 #[.int .i64 n, .string s] w fun e w' => e = .returned (.tuple #[.pointer none, .int .i64 (triErr n s)]) ∧ Below w.heap.size w w' := by
  refine (of_any n s w hs).mono ?_
  rintro e w' ⟨hL, hp⟩
  rcases hp with ⟨_, he⟩ | ⟨h0, _⟩
  · exact ⟨he, hL⟩
  · exact absurd h0 h

def OfOk (m : Nat) (s : ByteArray) (w : World) (e : Ending) (w' : World) : Prop :=
  Below w.heap.size w w' ∧ ∃ t mb, e = .returned (.tuple #[.pointer (some ⟨t, 0, none⟩), .int .i64 0]) ∧ w.heap.size ≤ t ∧ w.heap.size ≤ mb ∧ TriAt w' t mb m s

theorem of_ok (m : Nat) (s : ByteArray) (w : World) (hs : s.size ≤ 1000) (h : triErr m s = 0) : Calls Tryd.prog 50 #[.int .i64 (m : Int), .string s] w (OfOk m s w) := by
  refine (of_any m s w hs).mono ?_
  rintro e w' ⟨hL, hp⟩
  rcases hp with ⟨hne, _⟩ | ⟨_, t, mb, he, h1, h2, h3⟩
  · exact absurd h hne
  · exact ⟨hL, t, mb, he, h1, h2, by simpa using h3⟩

theorem cells_len {n : Nat} (h : n ≤ 20) : (cells n).length ≤ 400 := by
  have : ∀ k : Fin 21, (cells k.val).length ≤ 400 := by decide +kernel
  exact this ⟨n, by omega⟩

set_option maxHeartbeats 2000000 in
set_option maxRecDepth 100000 in
theorem full26 (n : Int) (s : ByteArray) (w : World) (hs : s.size ≤ 1000) :
    Calls Tryd.prog 26 #[.int .i64 n, .string s] w (FullPost n s w) := by
  by_cases he : triErr n s = 0
  · obtain ⟨m, rfl, h1, h2, h3, h4⟩ := tri_ok he
    have HE := Lib.hid he
    clear he h3 h4
    have HLEN := cells_len h2
    go_enter Tryd.func26, Tryd.ntmps26
    go_wp2_with (first
      | (go_at_call 50; refine (of_ok m s _ hs HE.out).mono ?_; rintro e w1 ⟨hL1, t, mb, rfl, ht, hmb, hT⟩; have HT := Lib.hid hT; clear hT)
      | (go_at_call 56; refine (cells56 t m _ HT.out.1.lt HT.out.n_ h1 h2).mono ?_; rintro e w2 ⟨v, rfl, hO, hL2⟩; have HT2 := Lib.hid (HT.out.more hL2); obtain ⟨A, cap, rfl⟩ := hO.shape; have HO := Lib.hid hO; clear hO))
    have hpos : 0 < (cells m).length := List.length_pos_of_mem (mem_cells (k := 0) (i := 0) (j := 0) |>.2 ⟨by omega, by omega⟩)
    obtain ⟨g0, cap', hv, hcl, hgb, hgl, hcells⟩ := HO.out.form hpos
    injection hv with hA _ hcap
    subst hA
    subst hcap
    have MEM := Lib.hid (fun k (hk : k < (cells m).length) => show (cells m).getD k (0, 0, 0) ∈ cells m by rw [List.getD_eq_getElem?_getD, List.getElem?_eq_getElem hk]; exact List.getElem_mem hk)
    have NEXT := Lib.hid (fun k (hk : k < (cells m).length) => fullTo_next (s := s) hk)
    have LAST := Lib.hid (show fullTo m s (cells m).length = fullList m s by unfold fullTo fullList; rw [List.take_length])
    have HCELLS := Lib.hid hcells
    have hsz1 : w.heap.size ≤ w1.heap.size := hL1.size
    have hsz2 : w1.heap.size ≤ w2.heap.size := hL2.size
    have HL2 := Lib.hid (hL1.trans (hL2.mono hsz1))
    clear hcells HO HT hL1 hL2
    obtain ⟨N, hN⟩ : ∃ N, N = (cells m).length := ⟨_, rfl⟩
    have HN := Lib.hid hN
    rw [← hN]
    rw [← hN] at HLEN hpos
    clear hN hcl
    go_loopg [8, 23] N (fun q v x wr => ∃ (k : Nat) (ls : List (List Int)), x = .int .i64 k ∧ k ≤ N ∧ Hid (q = N - k) ∧ Hid (ls = fullTo m s k) ∧ ls.length ≤ k ∧ Hid (OwnLL wr w2.heap.size v ls) ∧ Hid (Below w2.heap.size w2 wr))
    case atStart => exact ⟨0, [], rfl, Nat.zero_le _, rfl, rfl, by simp, OwnLL.nil _ _, Below.refl _ _⟩
    case round =>
      obtain ⟨k, ls, rfl, hk, hq, HLS, hlen, HO, HL⟩ := hrel
      by_cases hlt : k < N
      · obtain ⟨x, hx⟩ : ∃ x, x = (cells m).getD k (0, 0, 0) := ⟨_, rfl⟩
        have hxm := MEM.out k (HN.out ▸ hlt)
        have hnx := NEXT.out k (HN.out ▸ hlt)
        obtain ⟨e0, e1, e2⟩ := HCELLS.out k (HN.out ▸ hlt)
        rw [← hx] at hxm hnx e0 e1 e2
        have f0 : wr.cell? ⟨g0, k * 3, none⟩ = some (.int .i64 (x.1 : Int)) := by rw [HL.out.cell (p := ⟨g0, k * 3, none⟩) hgl]; exact e0
        have f1 : wr.cell? ⟨g0, k * 3 + 1, none⟩ = some (.int .i64 (x.2.1 : Int)) := by rw [HL.out.cell (p := ⟨g0, k * 3 + 1, none⟩) hgl]; exact e1
        have f2 : wr.cell? ⟨g0, k * 3 + 2, none⟩ = some (.int .i64 (x.2.2 : Int)) := by rw [HL.out.cell (p := ⟨g0, k * 3 + 2, none⟩) hgl]; exact e2
        clear e0 e1 e2 hx
        have HXM := Lib.hid hxm
        have HNX := Lib.hid hnx
        clear hxm hnx
        obtain ⟨x0, x1, x2⟩ := x
        simp only at f0 f1 f2
        have HTr := Lib.hid ((HT2.out.more HL.out))
        have FU := Lib.hid (show ∀ W, TriAt W t mb m s → Calls Tryd.prog 57 #[.pointer (some ⟨t, 0, none⟩), .agg #[.int .i64 (x0 : Int), .int .i64 (x1 : Int), .int .i64 (x2 : Int)]] W (fun e w' => e = .returned (.bool (fullB m s (x0, x1, x2))) ∧ Below W.heap.size W w') from fun W h => full57 t mb m s (x0, x1, x2) W h h2 HXM.out)
        have hA : Below wr.heap.size wr (wr.alloc (.cells #[.int .i64 (x0 : Int), .int .i64 (x1 : Int), .int .i64 (x2 : Int)] 80)) := (Below.refl _ _).alloc (Nat.le_refl _) _
        have HTA := Lib.hid (HTr.out.more hA)
        by_cases hfull : fullB m s (x0, x1, x2) = true
        · rw [hfull] at FU
          have HNX' := Lib.hid (show fullTo m s (k + 1) = fullTo m s k ++ [cellL (x0, x1, x2)] from by rw [HNX.out, if_pos hfull])
          clear hfull HNX
          have hwl : w2.heap.size ≤ wr.heap.size := HL.out.size
          have hl3 : (cellL (x0, x1, x2)).length = 3 := rfl
          go_wp2_with (first
            | (go_at_call 57; refine (FU.out _ HTA.out).mono ?_; rintro e w4 ⟨rfl, hL4⟩; have hz4 : wr.heap.size < w4.heap.size := (by have := hL4.size; simp at this; omega); have hb4 := (Blk.new wr 80 #[.int .i64 (x0 : Int), .int .i64 (x1 : Int), .int .i64 (x2 : Int)]).below hL4 (by simp); have HC4 := Lib.hid (show ∀ j, j < (cellL (x0, x1, x2)).length → w4.cell? ⟨wr.heap.size, 0 + j, none⟩ = some (.int .i64 ((cellL (x0, x1, x2)).getD j 0)) from (fun j hj => by rw [Nat.zero_add, hb4.cell]; have : j = 0 ∨ j = 1 ∨ j = 2 := (by omega); rcases this with rfl | rfl | rfl <;> rfl)); have HL4 := Lib.hid (hA.trans (hL4.mono (by simp))); clear hL4 hb4)
            | (go_at_call 58; refine (Tryd.slices_Clone_int wr.heap.size 0 3 3 (cellL (x0, x1, x2)) w4 (by omega) (by omega) HC4.out).mono ?_; rintro e w5 ⟨v5, rfl, hO5, -, hL5⟩; have hO5' := (show Own w5 w2.heap.size v5 (cellL (x0, x1, x2)) from Own.base (base := w4.heap.size) hO5 (by omega)); obtain ⟨A5, cp5, rfl⟩ := hO5'.shape; rw [hl3] at hO5'; have HO5 := Lib.hid hO5'; rw [hl3]; have HL5 := Lib.hid (HL4.out.trans (hL5.mono (by omega))); have HOX := Lib.hid (HO.out.below HL5.out); have hz5 : w2.heap.size ≤ w5.heap.size := (by have := HL5.out.size; omega); clear hO5 hO5' hL5)
            | (at_builtin; refine app_row rfl _ _ rfl w2.heap.size _ ls rfl HOX.out _ (cellL (x0, x1, x2)) HO5.out rfl (by omega) hz5 ?_; intro v6 w6 hO6 hb6; have HO6 := Lib.hid hO6; have HB6 := Lib.hid hb6; clear hO6 hb6))
          go_roundg (N - (k + 1))
          case measure => have := hq.out; omega
          case rel => exact ⟨k + 1, ls ++ [cellL (x0, x1, x2)], by go_num, by omega, rfl, by show ls ++ _ = _; rw [HNX'.out, HLS.out], by simp; omega, HO6.out, (HL.out.trans (HL5.out.mono hwl)).trans HB6.out⟩
        · have hf : fullB m s (x0, x1, x2) = false := by simpa using hfull
          rw [hf] at FU
          have HNX' := Lib.hid (show fullTo m s (k + 1) = fullTo m s k from by rw [HNX.out, if_neg hfull])
          clear hf hfull HNX
          go_wp2_with (first
            | (go_at_call 57; refine (FU.out _ HTA.out).mono ?_; rintro e w4 ⟨rfl, hL4⟩))
          have hL5 := hA.trans (hL4.mono (by simp))
          go_roundg (N - (k + 1))
          case measure => have := hq.out; omega
          case rel => exact ⟨k + 1, ls, by go_num, by omega, rfl, HLS.out.trans HNX'.out.symm, by omega, HO.out.below hL5, HL.out.trans (hL5.mono HL.out.size)⟩
      · obtain rfl : k = N := by omega
        go_wp2_with fail
        go_ret2
        exact ⟨_, ls, 0, rfl, .inr ⟨HE.out, by rw [HLS.out, HN.out, LAST.out]; rfl, rfl⟩, HO.out.base (by omega), HL2.out.trans (HL.out.mono (by omega))⟩
  · have HE := Lib.hid he
    clear he
    have hne : (triErr n s == 0) = false := by simpa using HE.out
    go_enter Tryd.func26, Tryd.ntmps26
    go_wp2_with (go_at_call 50; refine (of_err n s _ hs HE.out).mono ?_; rintro e w1 ⟨rfl, hL1⟩)
    go_ret2
    exact ⟨_, [], _, rfl, .inl ⟨HE.out, rfl, rfl⟩, OwnLL.nil _ _, hL1⟩

end Go.Proofs.YtpbiminbhihjnaaDoor
