/-
  A part of the proofs over the mirror (layer 4): TriI.
-/
import Derived.Test.YtpbiminbhihjnaaDoorTriH
namespace Go.Proofs.YtpbiminbhihjnaaDoor
open Go.RowKit Tri Go.Maps Go.WideMaps Dist
set_option linter.unusedSimpArgs false
set_option linter.unusedVariables false

/-- bytealg.MaxLen is an int. -/
def MaxAt (w : World) : Prop := 1 < w.heap.size ∧ ∃ m, w.cell? ⟨1, 0, none⟩ = some (.int .i64 m)
theorem MaxAt.more {w w' : World} (h : MaxAt w) (hb : Below w.heap.size w w') : MaxAt w' := by
  obtain ⟨h1, m, hm⟩ := h
  exact ⟨Nat.lt_of_lt_of_le h1 hb.size, m, by rw [hb.cell (p := ⟨1, 0, none⟩) h1]; exact hm⟩

def upB (n : Nat) (s : ByteArray) (x : Cell) : Bool := Lib.contains [48, 49, 50, 48, 49] (tell n s x).data.toList
def rightB (n : Nat) (s : ByteArray) (x : Cell) : Bool := upB n s x == (x.1 == 0)
def rights (n : Nat) (s : ByteArray) (k : Nat) : Nat := ((cells n).take k).countP fun x => fullB n s x && rightB n s x
def lefts (n : Nat) (s : ByteArray) (k : Nat) : Nat := ((cells n).take k).countP fun x => fullB n s x && !rightB n s x

theorem count_next {l : List Cell} {k : Nat} (p : Cell → Bool) (hk : k < l.length) : (l.take (k + 1)).countP p = (l.take k).countP p + (if p (l.getD k (0, 0, 0)) = true then 1 else 0) := by
  rw [List.take_succ_eq_append_getElem hk, List.countP_append]
  have : l.getD k (0, 0, 0) = l[k] := by rw [List.getD_eq_getElem?_getD, List.getElem?_eq_getElem hk]; rfl
  rw [this, List.countP_singleton]

def TurnsIs (n : Int) (s : ByteArray) (a b er : Int) : Prop :=
  (triErr n s ≠ 0 ∧ a = 0 ∧ b = 0 ∧ er = triErr n s) ∨ (triErr n s = 0 ∧ a = rights n.toNat s (cells n.toNat).length ∧ b = lefts n.toNat s (cells n.toNat).length ∧ er = 0)

def TurnsPost (n : Int) (s : ByteArray) (w : World) (e : Ending) (w' : World) : Prop :=
  ∃ a b er : Int, e = .returned (.tuple #[.int .i64 a, .int .i64 b, .int .i64 er]) ∧ TurnsIs n s a b er ∧ Below w.heap.size w w'

set_option maxHeartbeats 4000000 in
set_option maxRecDepth 100000 in
theorem turns29 (n : Int) (s : ByteArray) (w : World) (hs : s.size ≤ 1000) (hM : MaxAt w) :
    Calls Tryd.prog 29 #[.int .i64 n, .string s] w (TurnsPost n s w) := by
  by_cases he : triErr n s = 0
  · obtain ⟨m, rfl, h1, h2, h3, h4⟩ := tri_ok he
    have HE := Lib.hid he
    have HMX := Lib.hid hM
    clear he h3 h4 hM
    have HLEN := cells_len h2
    go_enter Tryd.func29, Tryd.ntmps29
    go_wp2_with (first
      | (go_at_call 50; refine (of_ok m s _ hs HE.out).mono ?_; rintro e w1 ⟨hL1, t, mb, rfl, ht, hmb, hT⟩; have HT := Lib.hid hT; clear hT)
      | (go_at_call 56; refine (cells56 t m _ HT.out.1.lt HT.out.n_ h1 h2).mono ?_; rintro e w2 ⟨v, rfl, hO, hL2⟩; have HT2 := Lib.hid (HT.out.more hL2); obtain ⟨A, cap, rfl⟩ := hO.shape; have HO := Lib.hid hO; clear hO))
    have hpos : 0 < (cells m).length := List.length_pos_of_mem (mem_cells (k := 0) (i := 0) (j := 0) |>.2 ⟨by omega, by omega⟩)
    obtain ⟨g0, cap', hv, hcl, hgb, hgl, hcells⟩ := HO.out.form hpos
    injection hv with hA _ hcap
    subst hA
    subst hcap
    have MEM := Lib.hid (fun k (hk : k < (cells m).length) => show (cells m).getD k (0, 0, 0) ∈ cells m by rw [List.getD_eq_getElem?_getD, List.getElem?_eq_getElem hk]; exact List.getElem_mem hk)
    have NR := Lib.hid (fun k (hk : k < (cells m).length) => show rights m s (k + 1) = rights m s k + _ from count_next _ hk)
    have NL := Lib.hid (fun k (hk : k < (cells m).length) => show lefts m s (k + 1) = lefts m s k + _ from count_next _ hk)
    have HCELLS := Lib.hid hcells
    have hsz1 : w.heap.size ≤ w1.heap.size := hL1.size
    have hsz2 : w1.heap.size ≤ w2.heap.size := hL2.size
    have HL2 := Lib.hid (hL1.trans (hL2.mono hsz1))
    have HMX2 := Lib.hid ((HMX.out.more hL1).more hL2)
    clear hcells HO HT hL1 hL2
    obtain ⟨N, hN⟩ : ∃ N, N = (cells m).length := ⟨_, rfl⟩
    have HN := Lib.hid hN
    rw [← hN]
    rw [← hN] at HLEN hpos
    clear hN hcl
    go_loopg [9, 10, 26] N (fun q rv lv x wr => ∃ (k a b : Nat), x = .int .i64 k ∧ rv = .int .i64 a ∧ lv = .int .i64 b ∧ k ≤ N ∧ Hid (q = N - k) ∧ Hid (a = rights m s k) ∧ Hid (b = lefts m s k) ∧ a ≤ k ∧ b ≤ k ∧ Hid (Below w2.heap.size w2 wr))
    case atStart => exact ⟨0, 0, 0, rfl, rfl, rfl, Nat.zero_le _, rfl, rfl, rfl, by omega, by omega, Below.refl _ _⟩
    case round =>
      obtain ⟨k, a, b, rfl, rfl, rfl, hk, hq, HA, HB, ha, hb, HL⟩ := hrel
      by_cases hlt : k < N
      · obtain ⟨x, hx⟩ : ∃ x, x = (cells m).getD k (0, 0, 0) := ⟨_, rfl⟩
        have hxm := MEM.out k (HN.out ▸ hlt)
        have hnr := NR.out k (HN.out ▸ hlt)
        have hnl := NL.out k (HN.out ▸ hlt)
        obtain ⟨e0, e1, e2⟩ := HCELLS.out k (HN.out ▸ hlt)
        rw [← hx] at hxm hnr hnl e0 e1 e2
        have f0 : wr.cell? ⟨g0, k * 3, none⟩ = some (.int .i64 (x.1 : Int)) := by rw [HL.out.cell (p := ⟨g0, k * 3, none⟩) hgl]; exact e0
        have f1 : wr.cell? ⟨g0, k * 3 + 1, none⟩ = some (.int .i64 (x.2.1 : Int)) := by rw [HL.out.cell (p := ⟨g0, k * 3 + 1, none⟩) hgl]; exact e1
        have f2 : wr.cell? ⟨g0, k * 3 + 2, none⟩ = some (.int .i64 (x.2.2 : Int)) := by rw [HL.out.cell (p := ⟨g0, k * 3 + 2, none⟩) hgl]; exact e2
        clear e0 e1 e2 hx
        have HXM := Lib.hid hxm
        have HNR := Lib.hid hnr
        have HNL := Lib.hid hnl
        clear hxm hnr hnl
        obtain ⟨x0, x1, x2⟩ := x
        simp only at f0 f1 f2
        have hx0 : x0 < 2 := (mem_cells.1 HXM.out).1
        have HTr := Lib.hid ((HT2.out.more HL.out))
        have FU := Lib.hid (show ∀ W, TriAt W t mb m s → Calls Tryd.prog 57 #[.pointer (some ⟨t, 0, none⟩), .agg #[.int .i64 (x0 : Int), .int .i64 (x1 : Int), .int .i64 (x2 : Int)]] W (fun e w' => e = .returned (.bool (fullB m s (x0, x1, x2))) ∧ Below W.heap.size W w') from fun W h => full57 t mb m s (x0, x1, x2) W h h2 HXM.out)
        have TX := Lib.hid (show ∀ W, TriAt W t mb m s → Calls Tryd.prog 61 #[.pointer (some ⟨t, 0, none⟩), .agg #[.int .i64 (x0 : Int), .int .i64 (x1 : Int), .int .i64 (x2 : Int)]] W (fun e w' => e = .returned (.string (tell m s (x0, x1, x2))) ∧ Below W.heap.size W w') from fun W h => text61 t mb m s (x0, x1, x2) W h h2 HXM.out)
        have CT := Lib.hid (show ∀ W, MaxAt W → Calls Tryd.prog 60 #[.string ⟨#[48, 49, 50, 48, 49]⟩, .string (tell m s (x0, x1, x2))] W (fun e w' => e = .returned (.bool (upB m s (x0, x1, x2))) ∧ w' = W) from fun W h => by
          obtain ⟨_, mx, hmx⟩ := h
          exact Tryd.strings_Contains ⟨#[48, 49, 50, 48, 49]⟩ (tell m s (x0, x1, x2)) mx W (by decide) hmx)
        have hA : Below wr.heap.size wr (wr.alloc (.cells #[.int .i64 (x0 : Int), .int .i64 (x1 : Int), .int .i64 (x2 : Int)] 80)) := (Below.refl _ _).alloc (Nat.le_refl _) _
        have HTA := Lib.hid (HTr.out.more hA)
        have HMA := Lib.hid ((HMX2.out.more HL.out).more hA)
        have hwl : w2.heap.size ≤ wr.heap.size := HL.out.size
        by_cases hfull : fullB m s (x0, x1, x2) = true
        · rw [hfull] at FU HNR HNL
          clear hfull
          obtain ⟨up, hup⟩ : ∃ up, up = upB m s (x0, x1, x2) := ⟨_, rfl⟩
          have HR := Lib.hid (show rightB m s (x0, x1, x2) = (up == (x0 == 0)) from by rw [hup]; rfl)
          rw [← hup] at CT
          clear hup
          have hx01 : x0 = 0 ∨ x0 = 1 := by omega
          cases up
          · rcases hx01 with hx1 | hx1
            · have hrb := HR.out.trans (show (false == (x0 == 0)) = false from by rw [hx1]; rfl)
              have hb0 : ((x0 : Int) == 0) = true := by simp [hx1]
              clear hx1 hx0
              go_wp2_with (first
                | (go_at_call 57; refine (FU.out _ HTA.out).mono ?_; rintro e w4 ⟨rfl, hL4⟩; have HL4 := Lib.hid (hA.trans (hL4.mono (by simp))); have HT4 := Lib.hid (HTr.out.more HL4.out); have HM4 := Lib.hid ((HMX2.out.more HL.out).more HL4.out); have hz4 : wr.heap.size < w4.heap.size := (by have := hL4.size; simp at this; omega); have hb4 := (Blk.new wr 80 #[.int .i64 (x0 : Int), .int .i64 (x1 : Int), .int .i64 (x2 : Int)]).below hL4 (by simp); have d0 : w4.cell? ⟨wr.heap.size, 0, none⟩ = some (.int .i64 (x0 : Int)) := (by rw [hb4.cell]; rfl); have d1 : w4.cell? ⟨wr.heap.size, 1, none⟩ = some (.int .i64 (x1 : Int)) := (by rw [hb4.cell]; rfl); have d2 : w4.cell? ⟨wr.heap.size, 2, none⟩ = some (.int .i64 (x2 : Int)) := (by rw [hb4.cell]; rfl); clear hL4 hb4)
                | (go_at_call 61; refine (TX.out _ HT4.out).mono ?_; rintro e w5 ⟨rfl, hL5⟩; have HM5 := Lib.hid (HM4.out.more hL5); have d5 : w5.cell? ⟨wr.heap.size, 0, none⟩ = some (.int .i64 (x0 : Int)) := (by rw [hL5.cell (p := ⟨wr.heap.size, 0, none⟩) hz4]; exact d0); have HL5 := Lib.hid (HL4.out.trans (hL5.mono (by omega))); clear hL5)
                | (go_at_call 60; refine (CT.out _ HM5.out).mono ?_; rintro e w6 ⟨rfl, rfl⟩))
              go_roundg (N - (k + 1))
              case measure => have := hq.out; omega
              case rel => exact ⟨k + 1, a, b + 1, by go_num, rfl, by go_num, by omega, rfl, by show a = _; rw [HNR.out, HA.out, hrb]; simp, by show b + 1 = _; rw [HNL.out, HB.out, hrb]; simp, by omega, by omega, HL.out.trans (HL5.out.mono HL.out.size)⟩
            · have hrb := HR.out.trans (show (false == (x0 == 0)) = true from by rw [hx1]; rfl)
              have hb0 : ((x0 : Int) == 0) = false := by simp [hx1]
              clear hx1 hx0
              go_wp2_with (first
                | (go_at_call 57; refine (FU.out _ HTA.out).mono ?_; rintro e w4 ⟨rfl, hL4⟩; have HL4 := Lib.hid (hA.trans (hL4.mono (by simp))); have HT4 := Lib.hid (HTr.out.more HL4.out); have HM4 := Lib.hid ((HMX2.out.more HL.out).more HL4.out); have hz4 : wr.heap.size < w4.heap.size := (by have := hL4.size; simp at this; omega); have hb4 := (Blk.new wr 80 #[.int .i64 (x0 : Int), .int .i64 (x1 : Int), .int .i64 (x2 : Int)]).below hL4 (by simp); have d0 : w4.cell? ⟨wr.heap.size, 0, none⟩ = some (.int .i64 (x0 : Int)) := (by rw [hb4.cell]; rfl); have d1 : w4.cell? ⟨wr.heap.size, 1, none⟩ = some (.int .i64 (x1 : Int)) := (by rw [hb4.cell]; rfl); have d2 : w4.cell? ⟨wr.heap.size, 2, none⟩ = some (.int .i64 (x2 : Int)) := (by rw [hb4.cell]; rfl); clear hL4 hb4)
                | (go_at_call 61; refine (TX.out _ HT4.out).mono ?_; rintro e w5 ⟨rfl, hL5⟩; have HM5 := Lib.hid (HM4.out.more hL5); have d5 : w5.cell? ⟨wr.heap.size, 0, none⟩ = some (.int .i64 (x0 : Int)) := (by rw [hL5.cell (p := ⟨wr.heap.size, 0, none⟩) hz4]; exact d0); have HL5 := Lib.hid (HL4.out.trans (hL5.mono (by omega))); clear hL5)
                | (go_at_call 60; refine (CT.out _ HM5.out).mono ?_; rintro e w6 ⟨rfl, rfl⟩))
              go_roundg (N - (k + 1))
              case measure => have := hq.out; omega
              case rel => exact ⟨k + 1, a + 1, b, by go_num, by go_num, rfl, by omega, rfl, by show a + 1 = _; rw [HNR.out, HA.out, hrb]; simp, by show b = _; rw [HNL.out, HB.out, hrb]; simp, by omega, by omega, HL.out.trans (HL5.out.mono HL.out.size)⟩
          · rcases hx01 with hx1 | hx1
            · have hrb := HR.out.trans (show (true == (x0 == 0)) = true from by rw [hx1]; rfl)
              have hb0 : ((x0 : Int) == 0) = true := by simp [hx1]
              clear hx1 hx0
              go_wp2_with (first
                | (go_at_call 57; refine (FU.out _ HTA.out).mono ?_; rintro e w4 ⟨rfl, hL4⟩; have HL4 := Lib.hid (hA.trans (hL4.mono (by simp))); have HT4 := Lib.hid (HTr.out.more HL4.out); have HM4 := Lib.hid ((HMX2.out.more HL.out).more HL4.out); have hz4 : wr.heap.size < w4.heap.size := (by have := hL4.size; simp at this; omega); have hb4 := (Blk.new wr 80 #[.int .i64 (x0 : Int), .int .i64 (x1 : Int), .int .i64 (x2 : Int)]).below hL4 (by simp); have d0 : w4.cell? ⟨wr.heap.size, 0, none⟩ = some (.int .i64 (x0 : Int)) := (by rw [hb4.cell]; rfl); have d1 : w4.cell? ⟨wr.heap.size, 1, none⟩ = some (.int .i64 (x1 : Int)) := (by rw [hb4.cell]; rfl); have d2 : w4.cell? ⟨wr.heap.size, 2, none⟩ = some (.int .i64 (x2 : Int)) := (by rw [hb4.cell]; rfl); clear hL4 hb4)
                | (go_at_call 61; refine (TX.out _ HT4.out).mono ?_; rintro e w5 ⟨rfl, hL5⟩; have HM5 := Lib.hid (HM4.out.more hL5); have d5 : w5.cell? ⟨wr.heap.size, 0, none⟩ = some (.int .i64 (x0 : Int)) := (by rw [hL5.cell (p := ⟨wr.heap.size, 0, none⟩) hz4]; exact d0); have HL5 := Lib.hid (HL4.out.trans (hL5.mono (by omega))); clear hL5)
                | (go_at_call 60; refine (CT.out _ HM5.out).mono ?_; rintro e w6 ⟨rfl, rfl⟩))
              go_roundg (N - (k + 1))
              case measure => have := hq.out; omega
              case rel => exact ⟨k + 1, a + 1, b, by go_num, by go_num, rfl, by omega, rfl, by show a + 1 = _; rw [HNR.out, HA.out, hrb]; simp, by show b = _; rw [HNL.out, HB.out, hrb]; simp, by omega, by omega, HL.out.trans (HL5.out.mono HL.out.size)⟩
            · have hrb := HR.out.trans (show (true == (x0 == 0)) = false from by rw [hx1]; rfl)
              have hb0 : ((x0 : Int) == 0) = false := by simp [hx1]
              clear hx1 hx0
              go_wp2_with (first
                | (go_at_call 57; refine (FU.out _ HTA.out).mono ?_; rintro e w4 ⟨rfl, hL4⟩; have HL4 := Lib.hid (hA.trans (hL4.mono (by simp))); have HT4 := Lib.hid (HTr.out.more HL4.out); have HM4 := Lib.hid ((HMX2.out.more HL.out).more HL4.out); have hz4 : wr.heap.size < w4.heap.size := (by have := hL4.size; simp at this; omega); have hb4 := (Blk.new wr 80 #[.int .i64 (x0 : Int), .int .i64 (x1 : Int), .int .i64 (x2 : Int)]).below hL4 (by simp); have d0 : w4.cell? ⟨wr.heap.size, 0, none⟩ = some (.int .i64 (x0 : Int)) := (by rw [hb4.cell]; rfl); have d1 : w4.cell? ⟨wr.heap.size, 1, none⟩ = some (.int .i64 (x1 : Int)) := (by rw [hb4.cell]; rfl); have d2 : w4.cell? ⟨wr.heap.size, 2, none⟩ = some (.int .i64 (x2 : Int)) := (by rw [hb4.cell]; rfl); clear hL4 hb4)
                | (go_at_call 61; refine (TX.out _ HT4.out).mono ?_; rintro e w5 ⟨rfl, hL5⟩; have HM5 := Lib.hid (HM4.out.more hL5); have d5 : w5.cell? ⟨wr.heap.size, 0, none⟩ = some (.int .i64 (x0 : Int)) := (by rw [hL5.cell (p := ⟨wr.heap.size, 0, none⟩) hz4]; exact d0); have HL5 := Lib.hid (HL4.out.trans (hL5.mono (by omega))); clear hL5)
                | (go_at_call 60; refine (CT.out _ HM5.out).mono ?_; rintro e w6 ⟨rfl, rfl⟩))
              go_roundg (N - (k + 1))
              case measure => have := hq.out; omega
              case rel => exact ⟨k + 1, a, b + 1, by go_num, rfl, by go_num, by omega, rfl, by show a = _; rw [HNR.out, HA.out, hrb]; simp, by show b + 1 = _; rw [HNL.out, HB.out, hrb]; simp, by omega, by omega, HL.out.trans (HL5.out.mono HL.out.size)⟩
        · have hf : fullB m s (x0, x1, x2) = false := by simpa using hfull
          rw [hf] at FU HNR HNL
          clear hf hfull
          go_wp2_with (first
            | (go_at_call 57; refine (FU.out _ HTA.out).mono ?_; rintro e w4 ⟨rfl, hL4⟩))
          have hL5 := hA.trans (hL4.mono (by simp))
          go_roundg (N - (k + 1))
          case measure => have := hq.out; omega
          case rel => exact ⟨k + 1, a, b, by go_num, rfl, rfl, by omega, rfl, by show a = _; rw [HNR.out, HA.out]; simp, by show b = _; rw [HNL.out, HB.out]; simp, by omega, by omega, HL.out.trans (hL5.mono HL.out.size)⟩
      · obtain rfl : k = N := by omega
        go_wp2_with fail
        go_ret3
        exact ⟨a, b, 0, rfl, .inr ⟨HE.out, by rw [HA.out, HN.out]; rfl, by rw [HB.out, HN.out]; rfl, rfl⟩, HL2.out.trans (HL.out.mono (by omega))⟩
  · have HE := Lib.hid he
    clear he
    have hne : (triErr n s == 0) = false := by simpa using HE.out
    go_enter Tryd.func29, Tryd.ntmps29
    go_wp2_with (go_at_call 50; refine (of_err n s _ hs HE.out).mono ?_; rintro e w1 ⟨rfl, hL1⟩)
    go_ret3
    exact ⟨_, _, _, rfl, .inl ⟨HE.out, rfl, rfl, rfl⟩, hL1⟩

end Go.Proofs.YtpbiminbhihjnaaDoor
