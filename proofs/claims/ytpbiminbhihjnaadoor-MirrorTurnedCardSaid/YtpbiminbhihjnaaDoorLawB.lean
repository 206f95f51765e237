/-
  A part of the proofs over the mirror (layer 4): LawB.
-/
import Derived.Test.YtpbiminbhihjnaaDoorLawA
import Derived.Test.YtpbiminbhihjnaaDoorCerts
import Derived.Test.YtpbiminbhihjnaaDoorRunF
namespace Go.Proofs.YtpbiminbhihjnaaDoor
open Go.RowKit Tri Go.Maps Go.WideMaps Dist
set_option linter.unusedSimpArgs false
set_option linter.unusedVariables false

def c021 : ByteArray := ⟨#[48, 50, 49]⟩
theorem tri021 : triErr 1 c021 = 0 := by decide +kernel
theorem full021 : fullList 1 c021 = [[0, 0, 0]] := by decide +kernel
theorem turns021 : rights 1 c021 (cells 1).length = 1 ∧ lefts 1 c021 (cells 1).length = 0 := by decide +kernel
theorem brd_f2 : boardErr 2 f2 false = 0 := by decide +kernel
theorem brd_b2 : boardErr 2 b2 true = 0 := by decide +kernel

theorem full_is {ls : List (List Int)} {er : Int} (h : FullIs 1 c021 ls er) : ls = [[0, 0, 0]] ∧ er = 0 := by
  rcases h with ⟨h, _⟩ | ⟨_, h1, h2⟩
  · exact absurd tri021 h
  · exact ⟨h1.trans full021, h2⟩
theorem turns_is {a b er : Int} (h : TurnsIs 1 c021 a b er) : a = 1 ∧ b = 0 ∧ er = 0 := by
  rcases h with ⟨h, _⟩ | ⟨_, h1, h2, h3⟩
  · exact absurd tri021 h
  · have := turns021
    refine ⟨h1.trans ?_, h2.trans ?_, h3⟩
    · show ((rights 1 c021 (cells 1).length : Nat) : Int) = 1
      rw [this.1]; rfl
    · show ((lefts 1 c021 (cells 1).length : Nat) : Int) = 0
      rw [this.2]; rfl
theorem who_f2 : WhoIs 2 f2 111 := .inr (.inl ⟨short_x, _, short_o, by simp, rfl⟩)
theorem win_is {t : ByteArray} {l : List Nat} {er : Int} (h : WinIs 2 f2 t l er) : t = ⟨#[111]⟩ ∧ l = [2, 1] ∧ er = 0 := by
  rcases h with ⟨h, _⟩ | ⟨_, r, hr, hw, ht, hl, he⟩
  · exact absurd brd_f2 h
  · have := who_unique hw who_f2
    subst this
    exact ⟨ht, short_unique hl short_o, he⟩
theorem hex_f2 : boardErr 2 f2 false = 0 → ¬ WhoIs (2 : Int).toNat f2 0 := fun _ h => by
  have := who_unique h who_f2
  cases this
theorem needs_is {v er : Int} (h : NeedsIs 2 b2 ⟨#[120]⟩ v er) : v = 2 ∧ er = 0 :=
  needs_unique h (.inr (.inr ⟨brd_b2, 120, .inl ⟨by decide, rfl⟩, some 2, best_b2, rfl, rfl⟩))
theorem wins_is {t : ByteArray} {er : Int} (h : WinsIs 2 b2 t er) : t = ⟨#[120]⟩ ∧ er = 0 := by
  have hT : Turn b2 120 := .inl ⟨rfl, by decide +kernel⟩
  rcases h with ⟨h, _⟩ | ⟨_, h, _⟩ | ⟨_, _, h, _⟩ | ⟨_, who, h1, h2, v, h3, h4, h5⟩
  · exact absurd brd_b2 h
  · exact absurd hT (h 120)
  · have : cnt b2 46 = 4 := by decide +kernel
    omega
  · have := hT.unique h1
    subst this
    have := h3.unique (.inl rfl) plays_b2
    subst this
    exact ⟨h4, h5⟩

def AlivePost (w : World) (e : Ending) (w' : World) : Prop := e = .returned (.bool true) ∧ Below w.heap.size w w'

theorem OwnLL.one {w : World} {base : Nat} {v : Value} {l : List Int} (h : OwnLL w base v [l]) : ∃ g cap u, v = .slice (some ⟨g, 0, none⟩) 1 cap ∧ 1 ≤ cap ∧ g < w.heap.size ∧ w.cell? ⟨g, 0, none⟩ = some u ∧ SL w u l ∧ u.oneCell' = true := by
  obtain ⟨vs, ⟨h1, h2⟩, h3⟩ := h
  obtain ⟨u, hu, hO⟩ := h3 0 (by simp)
  rcases h2 with ⟨_, h0⟩ | ⟨g, cap, cur, hv, hb, hh, hn, _, hs, htk⟩
  · cases h0
  · refine ⟨g, cap, u, hv, hn, Blk.lt (t := 33) (cs := cur) hh, ?_, hO.sl, ?_⟩
    · rw [Blk.cell (t := 33) (cs := cur) hh, ← Array.getElem?_toList]
      have : (cur.toList.take (1 * 1))[0]? = vs[0]? := by rw [← htk]; rfl
      rw [List.getElem?_take, if_pos (by omega)] at this
      rw [this]; exact hu
    · obtain ⟨A, c, hsh⟩ := hO.shape
      rw [hsh]; rfl

set_option maxHeartbeats 4000000 in
set_option maxRecDepth 100000 in
theorem alive15 (w : World) (hS : StepsAt w) (hM : MaxAt w) : Calls Tryd.prog 15 #[] w (AlivePost w) := by
  have HS := Lib.hid hS
  have HM := Lib.hid hM
  have F26 := Lib.hid (show ∀ W, Calls Tryd.prog 26 #[.int .i64 1, .string ⟨#[48, 50, 49]⟩] W (FullPost 1 c021 W) from fun W => full26 1 c021 W (by decide))
  have F29 := Lib.hid (show ∀ W, MaxAt W → Calls Tryd.prog 29 #[.int .i64 1, .string ⟨#[48, 50, 49]⟩] W (TurnsPost 1 c021 W) from fun W h => turns29 1 c021 W (by decide) h)
  have F22 := Lib.hid (show ∀ W, StepsAt W → Calls Tryd.prog 22 #[.int .i64 2, .string ⟨#[120, 111, 111, 120]⟩] W (WinPost 2 f2 W) from fun W h => winner22 2 f2 W (by decide) h hex_f2)
  have F16 := Lib.hid (show ∀ W, StepsAt W → Calls Tryd.prog 16 #[.int .i64 2, .string ⟨#[46, 46, 46, 46]⟩, .string ⟨#[120]⟩] W (TwoPost (NeedsIs 2 b2 ⟨#[120]⟩) W) from fun W h => needs_any 2 b2 ⟨#[120]⟩ W (by decide) (by decide) h)
  have F18 := Lib.hid (show ∀ W, StepsAt W → Calls Tryd.prog 18 #[.int .i64 2, .string ⟨#[46, 46, 46, 46]⟩] W (WinsTextPost 2 b2 W) from fun W h => wins18 2 b2 W (by decide) h)
  clear hS hM
  go_enter Tryd.func15, Tryd.ntmps15
  go_wp2_with (first
    | (go_at_call 26; refine (F26.out _).mono ?_; rintro e w1 ⟨v, ls, er, rfl, hF, hO, hL⟩; obtain ⟨rfl, rfl⟩ := full_is hF; obtain ⟨g, cap, u, rfl, hcap, hg, hu, hsl, -⟩ := hO.one; obtain ⟨A1, cp1, rfl⟩ : ∃ A1 cp1, u = .slice A1 3 cp1 := (by obtain ⟨A1, cp1, h, -⟩ := hsl; exact ⟨A1, cp1, h⟩); have HL1 := Lib.hid hL; have HU1 := Lib.hid hu; have SL1 := Lib.hid hsl; have HS1 := Lib.hid (HS.out.below hL); have HM1 := Lib.hid (HM.out.more hL); clear hF hO hL hu hsl)
    | (go_at_call 29; refine (F29.out _ HM1.out).mono ?_; rintro e w2 ⟨a, b, er, rfl, hF, hL⟩; obtain ⟨rfl, rfl, rfl⟩ := turns_is hF; have HL2 := Lib.hid hL; have HS2 := Lib.hid (HS1.out.below hL); clear hF hL)
    | (go_at_call 22; refine (F22.out _ HS2.out).mono ?_; rintro e w3 ⟨v, t, l, er, rfl, hF, hO, -, -, hL⟩; obtain ⟨rfl, rfl, rfl⟩ := win_is hF; obtain ⟨A3, cap3, rfl⟩ := hO.shape; rw [show (asInts [2, 1]).length = 2 from rfl]; have HL3 := Lib.hid hL; have HS3 := Lib.hid (HS2.out.below hL); have SL3 := Lib.hid (show SL w3 (.slice A3 2 cap3) [2, 1] from hO.sl); clear hF hO hL)
    | (go_at_call 16; refine (F16.out _ HS3.out).mono ?_; rintro e w4 ⟨a, er, rfl, hF, hL⟩; obtain ⟨rfl, rfl⟩ := needs_is hF; have HL4 := Lib.hid hL; have HS4 := Lib.hid (HS3.out.below hL); clear hF hL)
    | (go_at_call 18; refine (F18.out _ HS4.out).mono ?_; rintro e w5 ⟨t, er, rfl, hF, hL⟩; obtain ⟨rfl, rfl⟩ := wins_is hF; have HL5 := Lib.hid hL; have LW := Lib.hid ((((HL2.out.trans (HL3.out.mono HL2.out.size)).trans (HL4.out.mono (Nat.le_trans HL2.out.size HL3.out.size))).trans (hL.mono (Nat.le_trans HL2.out.size (Nat.le_trans HL3.out.size HL4.out.size))))); have hu5 : w5.cell? ⟨g, 0, none⟩ = some (.slice A1 3 cp1) := (by rw [LW.out.cell (p := ⟨g, 0, none⟩) hg]; exact HU1.out); have LW3 := Lib.hid ((HL4.out.trans (hL.mono HL4.out.size))); have SL1' := Lib.hid (show SL (w5.alloc (.cells #[.int .i64 0, .int .i64 0, .int .i64 0] 3)) (.slice A1 3 cp1) [0, 0, 0] from (SL1.out.more LW.out).more ((Below.refl _ _).alloc (Nat.le_refl _) _)); have LT1 := Lib.hid (show SL (w5.alloc (.cells #[.int .i64 0, .int .i64 0, .int .i64 0] 3)) (.slice (some ⟨w5.heap.size, 0, none⟩) 3 3) [0, 0, 0] from (Own.lit (base := 0) (l := [0, 0, 0]) (Blk.new w5 3 _) (by omega) (by decide)).sl); clear hF hL))
  refine (same31 _ _ [0, 0, 0] [0, 0, 0] _ SL1'.out LT1.out (by decide) (by decide)).mono ?_
  rintro e w6 ⟨rfl, kd, rfl⟩
  rw [show decide (([0, 0, 0] : List Int) = [0, 0, 0]) = true from rfl]
  have LA := Lib.hid (show Below w5.heap.size w5 ((w5.alloc (.cells #[.int .i64 0, .int .i64 0, .int .i64 0] 3)).drewN kd) from below_drewN' ((Below.refl _ _).alloc (Nat.le_refl _) _) kd)
  generalize (w5.alloc (.cells #[.int .i64 0, .int .i64 0, .int .i64 0] 3)).drewN kd = w7 at *
  have SL3' := Lib.hid ((SL3.out.more LW3.out).more LA.out)
  clear SL1' LT1
  go_wp2_with fail
  have SL4 : SL (w7.alloc (.cells #[.int .i64 2, .int .i64 1] 3)) (.slice A3 2 cap3) [2, 1] := SL3'.out.more ((Below.refl _ _).alloc (Nat.le_refl _) _)
  have LT4 : SL (w7.alloc (.cells #[.int .i64 2, .int .i64 1] 3)) (.slice (some ⟨w7.heap.size, 0, none⟩) 2 2) [2, 1] := (Own.lit (base := 0) (l := [2, 1]) (Blk.new w7 3 _) (by omega) (by decide)).sl
  refine (same31 _ _ [2, 1] [2, 1] _ SL4 LT4 (by decide) (by decide)).mono ?_
  rintro e w8 ⟨rfl, kd2, rfl⟩
  rw [show decide (([2, 1] : List Int) = [2, 1]) = true from rfl]
  have LB := Lib.hid (show Below w7.heap.size w7 ((w7.alloc (.cells #[.int .i64 2, .int .i64 1] 3)).drewN kd2) from below_drewN' ((Below.refl _ _).alloc (Nat.le_refl _) _) kd2)
  generalize (w7.alloc (.cells #[.int .i64 2, .int .i64 1] 3)).drewN kd2 = w9 at *
  clear SL4 LT4
  go_wp2_with fail
  go_ret
  have q1 := HL1.out.size
  have q2 := LW.out.size
  have q3 := LA.out.size
  exact ⟨rfl, ((HL1.out.trans (LW.out.mono q1)).trans (LA.out.mono (by omega))).trans (LB.out.mono (by omega))⟩

end Go.Proofs.YtpbiminbhihjnaaDoor
