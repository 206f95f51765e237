/-
  The walk of MirrorPlayed.
-/
import Derived.Test.YtpbiminbhihjnaaDoorLawE
namespace Go.Proofs.YtpbiminbhihjnaaDoor
open Go.RowKit Tri Go.Maps Go.WideMaps Dist
set_option linter.unusedSimpArgs false
set_option linter.unusedVariables false

def dots (k : Nat) : ByteArray := ⟨(List.replicate k 46).toArray⟩

theorem dots_snoc (k : Nat) : dots k ++ ⟨#[46]⟩ = dots (k + 1) := by
  apply ByteArray.ext
  apply Array.toList_inj.1
  have e : ∀ a b : ByteArray, (a ++ b).data.toList = a.data.toList ++ b.data.toList := by intro a b; simp
  rw [e]
  show List.replicate k 46 ++ [46] = List.replicate (k + 1) 46
  rw [List.replicate_succ']

def OnePost (t : ByteArray) (er : Int) (w : World) (e : Ending) (w' : World) : Prop := e = .returned (.tuple #[.string t, .int .i64 er]) ∧ Below w.heap.size w w'

/-- On the empty board x wins. -/
theorem wins_empty (r : Nat) (hr : r ≤ 2) (w : World) (hS : StepsAt w) : Calls Tryd.prog 18 #[.int .i64 (1 + (r : Int)), .string (dots ((r + 1) * (r + 1)))] w (OnePost ⟨#[120]⟩ 0 w) := by
  have one : ∀ (n : Nat) (b : ByteArray), (n : Int) = 1 + r → b = dots ((r + 1) * (r + 1)) → b.size ≤ 1000 → boardErr n b true = 0 → Turn b 120 → cnt b 46 ≤ 9 → Plays n b 120 120 → Calls Tryd.prog 18 #[.int .i64 (1 + (r : Int)), .string (dots ((r + 1) * (r + 1)))] w (OnePost ⟨#[120]⟩ 0 w) := by
    intro n b hn hb hs he hT hc hP
    rw [← hn, ← hb]
    refine (wins18 n b w hs hS).mono ?_
    rintro e w' ⟨t, er, rfl, hw, hL⟩
    rcases hw with ⟨h, _⟩ | ⟨_, h, _⟩ | ⟨_, _, h, _⟩ | ⟨_, who, h1, h2, v, h3, h4, h5⟩
    · exact absurd he h
    · exact absurd hT (h 120)
    · omega
    · have := hT.unique h1
      subst this
      rw [Int.toNat_natCast] at h3
      have := h3.unique (.inl rfl) hP
      subst this
      rw [h4, h5]
      exact ⟨rfl, hL⟩
  have hr3 : r = 0 ∨ r = 1 ∨ r = 2 := by omega
  rcases hr3 with rfl | rfl | rfl
  · exact one 1 b1 rfl (by decide +kernel) (by decide) good_b1 (.inl ⟨rfl, by decide +kernel⟩) (by decide +kernel) plays_b1
  · exact one 2 b2 rfl (by decide +kernel) (by decide) brd_b2 (.inl ⟨rfl, by decide +kernel⟩) (by decide +kernel) plays_b2
  · exact one 3 b3 rfl (by decide +kernel) (by decide) good_b3 (.inl ⟨rfl, by decide +kernel⟩) (by decide +kernel) plays_b3

theorem many_cnt (s : ByteArray) (c : UInt8) (x : Int) (hx : x = (c.toNat : Int)) : many s x s.size = cnt s c := by
  subst hx
  unfold many cnt
  rw [List.take_of_length_le (by simp)]
  rw [List.count_eq_countP, List.countP_eq_length_filter]
  congr 2
  apply List.filter_congr
  intro d _
  rw [Bool.eq_iff_iff, beq_iff_eq, beq_iff_eq, ← UInt8.toNat_inj]
  omega

set_option maxHeartbeats 4000000 in
set_option maxRecDepth 100000 in
theorem lawPlayed (c n : Int) (s : ByteArray) (wc : (Lit.int .u8 c).wf = true) (w : World) (hS : StepsAt w) (hM : MaxAt w) : Calls Tryd.prog 4 #[.int .u8 c, .int .i64 n, .string s] w (AlivePost w) := by
  have HS := Lib.hid hS
  have HM := Lib.hid hM
  clear hS hM
  have hc0 : 0 ≤ c ∧ c ≤ 255 := by simpa [Lit.wf, IntKind.min, IntKind.max, IntKind.signed, IntKind.bits] using wc
  obtain ⟨r, hr⟩ : ∃ r : Nat, c % 3 = r := ⟨(c % 3).toNat, by omega⟩
  have hr2 : r ≤ 2 := by omega
  obtain ⟨M, hM⟩ : ∃ M : Nat, (1 + (r : Int)) * (1 + (r : Int)) = M := ⟨(r + 1) * (r + 1), by rw [Int.natCast_mul]; simp [Int.add_comm]⟩
  have hM9 : M ≤ 9 := by
    have hr3 : r = 0 ∨ r = 1 ∨ r = 2 := by omega
    rcases hr3 with rfl | rfl | rfl <;> simp at hM <;> omega
  have W0 := Lib.hid (show ∀ W, StepsAt W → Calls Tryd.prog 18 #[.int .i64 (1 + (r : Int)), .string (dots M)] W (OnePost ⟨#[120]⟩ 0 W) from fun W h => by
    have e : M = (r + 1) * (r + 1) := by
      have : ((M : Nat) : Int) = (((r + 1) * (r + 1) : Nat) : Int) := by rw [← hM, Int.natCast_mul]; simp [Int.add_comm]
      omega
    rw [e]
    exact wins_empty r hr2 W h)
  clear wc
  go_enter Tryd.func4, Tryd.ntmps4
  go_wp2_with fail
  go_loopg [8, 9] M (fun q t i wr => ∃ k : Nat, i = .int .i64 k ∧ t = .string (dots k) ∧ k ≤ M ∧ Hid (q = M - k) ∧ wr = w)
  case atStart => exact ⟨0, rfl, rfl, Nat.zero_le _, rfl, rfl⟩
  case round =>
    obtain ⟨k, rfl, rfl, hk, hq, rfl⟩ := hrel
    by_cases hlt : k < M
    · have HD := Lib.hid (dots_snoc k)
      have hds : (dots k).size ≤ 9 := by show (List.replicate k 46).toArray.size ≤ 9; simp; omega
      go_wp2_with fail
      go_roundg (M - (k + 1))
      case measure => have := hq.out; omega
      case rel => exact ⟨k + 1, by go_num, by rw [← HD.out], by omega, rfl, rfl⟩
    · obtain rfl : M = k := by omega
      go_wp2_with fail
      refine (W0.out _ HS.out).mono ?_
      rintro e w1 ⟨rfl, hL1⟩
      have HL1 := Lib.hid hL1
      have HS1 := Lib.hid (HS.out.below hL1)
      have HM1 := Lib.hid (HM.out.more hL1)
      clear hL1
      clear hM hM9 hr hr2 hk hlt hq
      by_cases c1 : n < 1
      · go_wp2_with (go_at_call 15; refine (alive15 _ HS1.out HM1.out).mono ?_; rintro e w2 ⟨rfl, hL⟩)
        go_ret
        exact ⟨rfl, HL1.out.trans (hL.mono HL1.out.size)⟩
      by_cases c2 : 4 < n
      · go_wp2_with (go_at_call 15; refine (alive15 _ HS1.out HM1.out).mono ?_; rintro e w2 ⟨rfl, hL⟩)
        go_ret
        exact ⟨rfl, HL1.out.trans (hL.mono HL1.out.size)⟩
      by_cases c3 : 200 < s.size
      · go_wp2_with (go_at_call 15; refine (alive15 _ HS1.out HM1.out).mono ?_; rintro e w2 ⟨rfl, hL⟩)
        go_ret
        exact ⟨rfl, HL1.out.trans (hL.mono HL1.out.size)⟩
      go_wp2_with fail
      refine (wins18 n s _ (by omega) HS1.out).mono ?_
      rintro e w2 ⟨t, er, rfl, hw, hL2⟩
      have HL2 := Lib.hid (HL1.out.trans (hL2.mono HL1.out.size))
      have HS2 := Lib.hid (HS1.out.below hL2)
      have HM2 := Lib.hid (HM1.out.more hL2)
      clear hL2
      rcases hw with ⟨hw, rfl, rfl⟩ | ⟨_, _, rfl, rfl⟩ | ⟨_, _, _, rfl, rfl⟩ | ⟨he, who, hT, hcn, v, hP, rfl, rfl⟩
      · have e0 : (boardErr n s true != 0) = true := by simp [hw]
        clear hw
        go_wp2_with (go_at_call 15; refine (alive15 _ HS2.out HM2.out).mono ?_; rintro e w3 ⟨rfl, hL⟩)
        go_ret
        exact ⟨rfl, HL2.out.trans (hL.mono HL2.out.size)⟩
      · go_wp2_with (go_at_call 15; refine (alive15 _ HS2.out HM2.out).mono ?_; rintro e w3 ⟨rfl, hL⟩)
        go_ret
        exact ⟨rfl, HL2.out.trans (hL.mono HL2.out.size)⟩
      · go_wp2_with (go_at_call 15; refine (alive15 _ HS2.out HM2.out).mono ?_; rintro e w3 ⟨rfl, hL⟩)
        go_ret
        exact ⟨rfl, HL2.out.trans (hL.mono HL2.out.size)⟩
      · obtain ⟨m, rfl, q1, q2, q3, q4⟩ := board_ok he
        have HE := Lib.hid he
        rw [Int.toNat_natCast] at hP
        have hg := good3_of he
        have hw2 : who = 120 ∨ who = 111 := by rcases hT with ⟨h, _⟩ | ⟨h, _⟩ <;> omega
        have hv2 := hP.two hw2
        obtain ⟨A, hA⟩ := best_exists m s 120 0 1
        obtain ⟨B, hB⟩ := best_exists m s 111 0 1
        have fx0 : A = some 0 → v = 120 := fun e => plays_zero q1 hP hw2 (.inl rfl) (e ▸ hA)
        have fo0 : B = some 0 → v = 111 := fun e => plays_zero q1 hP hw2 (.inr rfl) (e ▸ hB)
        have fxn : B = none → v = 120 := fun e => plays_sure q1 q2 hP (.inl rfl) hw2 hg (best_none.1 (e ▸ hB))
        have fon : A = none → v = 111 := fun e => plays_sure q1 q2 hP (.inr rfl) hw2 hg (best_none.1 (e ▸ hA))
        have fx1 : who = 120 → A = some 1 → v = 120 := fun h e => by subst h; exact plays_one q1 hP (.inl rfl) hg (e ▸ hA)
        have fo1 : who = 111 → B = some 1 → v = 111 := fun h e => by subst h; exact plays_one q1 hP (.inr rfl) hg (e ▸ hB)
        have cx := many_cnt s 120 120 rfl
        have co := many_cnt s 111 111 rfl
        have ht1 : who = 120 → many s 120 s.size = many s 111 s.size := by
          intro h
          rcases hT with ⟨_, h'⟩ | ⟨h', _⟩
          · omega
          · omega
        have ht2 : who = 111 → many s 120 s.size = many s 111 s.size + 1 := by
          intro h
          rcases hT with ⟨h', _⟩ | ⟨_, h'⟩
          · omega
          · omega
        have ht : ¬ (many s 111 s.size < many s 120 s.size) ∨ many s 111 s.size < many s 120 s.size := by omega
        clear cx co hT hcn hP hg q3 q4 he
        cases A with
        | none =>
          obtain rfl := fon rfl
          cases B with
          | none => cases fxn rfl
          | some b =>
            have HA := Lib.hid hA
            have HB := Lib.hid hB
            clear hA hB fx0 fo0 fxn fon fx1 fo1 ht1 ht2 hv2 hw2
            rcases ht with ht | ht
            all_goals
              rw [show tx 111 = ⟨#[111]⟩ from rfl]
              go_wp2_with (first | (go_at_call 19; refine (many_any _ _ _ (by omega)).mono ?_; rintro e w' ⟨rfl, rfl⟩))
              refine (needsX_none _ _ _ (by omega) HE.out HA.out HS2.out).mono ?_
              rintro e w3 ⟨rfl, hL3⟩
              have HL3 := Lib.hid (HL2.out.trans (hL3.mono HL2.out.size))
              have HS3 := Lib.hid (HS2.out.below hL3)
              have HM3 := Lib.hid (HM2.out.more hL3)
              clear hL3
              go_wp2_with fail
              refine (needsO_some _ _ _ _ (by omega) HE.out HB.out HS3.out).mono ?_
              rintro e w4 ⟨rfl, hL4⟩
              have HL4 := Lib.hid (HL3.out.trans (hL4.mono HL3.out.size))
              have HS4 := Lib.hid (HS3.out.below hL4)
              have HM4 := Lib.hid (HM3.out.more hL4)
              clear hL4
              go_wp2_with (go_at_call 15; refine (alive15 _ HS4.out HM4.out).mono ?_; rintro e w5 ⟨rfl, hL⟩)
              all_goals
                go_ret
                exact ⟨rfl, HL4.out.trans (hL.mono HL4.out.size)⟩
        | some a =>
          cases B with
          | none =>
            obtain rfl := fxn rfl
            have HA := Lib.hid hA
            have HB := Lib.hid hB
            clear hA hB fx0 fo0 fxn fon fx1 fo1 ht1 ht2 hv2 hw2
            rcases ht with ht | ht
            all_goals
              rw [show tx 120 = ⟨#[120]⟩ from rfl]
              go_wp2_with (first | (go_at_call 19; refine (many_any _ _ _ (by omega)).mono ?_; rintro e w' ⟨rfl, rfl⟩))
              refine (needsX_some _ _ _ _ (by omega) HE.out HA.out HS2.out).mono ?_
              rintro e w3 ⟨rfl, hL3⟩
              have HL3 := Lib.hid (HL2.out.trans (hL3.mono HL2.out.size))
              have HS3 := Lib.hid (HS2.out.below hL3)
              have HM3 := Lib.hid (HM2.out.more hL3)
              clear hL3
              go_wp2_with fail
              refine (needsO_none _ _ _ (by omega) HE.out HB.out HS3.out).mono ?_
              rintro e w4 ⟨rfl, hL4⟩
              have HL4 := Lib.hid (HL3.out.trans (hL4.mono HL3.out.size))
              have HS4 := Lib.hid (HS3.out.below hL4)
              have HM4 := Lib.hid (HM3.out.more hL4)
              clear hL4
              go_wp2_with (go_at_call 15; refine (alive15 _ HS4.out HM4.out).mono ?_; rintro e w5 ⟨rfl, hL⟩)
              all_goals
                go_ret
                exact ⟨rfl, HL4.out.trans (hL.mono HL4.out.size)⟩
          | some b =>
            by_cases a0 : a = 0
            · subst a0
              obtain rfl := fx0 rfl
              have HA := Lib.hid hA
              have HB := Lib.hid hB
              clear hA hB fx0 fo0 fxn fon fx1 fo1 ht1 ht2 hv2 hw2
              rcases ht with ht | ht
              all_goals
                rw [show tx 120 = ⟨#[120]⟩ from rfl]
                go_wp2_with (first | (go_at_call 19; refine (many_any _ _ _ (by omega)).mono ?_; rintro e w' ⟨rfl, rfl⟩))
                refine (needsX_some _ _ _ _ (by omega) HE.out HA.out HS2.out).mono ?_
                rintro e w3 ⟨rfl, hL3⟩
                have HL3 := Lib.hid (HL2.out.trans (hL3.mono HL2.out.size))
                have HS3 := Lib.hid (HS2.out.below hL3)
                have HM3 := Lib.hid (HM2.out.more hL3)
                clear hL3
                go_wp2_with fail
                refine (needsO_some _ _ _ _ (by omega) HE.out HB.out HS3.out).mono ?_
                rintro e w4 ⟨rfl, hL4⟩
                have HL4 := Lib.hid (HL3.out.trans (hL4.mono HL3.out.size))
                have HS4 := Lib.hid (HS3.out.below hL4)
                have HM4 := Lib.hid (HM3.out.more hL4)
                clear hL4
                go_wp2_with (go_at_call 15; refine (alive15 _ HS4.out HM4.out).mono ?_; rintro e w5 ⟨rfl, hL⟩)
                all_goals
                  go_ret
                  exact ⟨rfl, HL4.out.trans (hL.mono HL4.out.size)⟩
            · have na : ((a : Int) == 0) = false := by rw [beq_eq_false_iff_ne]; omega
              by_cases b0 : b = 0
              · subst b0
                obtain rfl := fo0 rfl
                have HA := Lib.hid hA
                have HB := Lib.hid hB
                clear hA hB fx0 fo0 fxn fon fx1 fo1 ht1 ht2 hv2 hw2
                rcases ht with ht | ht
                all_goals
                  rw [show tx 111 = ⟨#[111]⟩ from rfl]
                  go_wp2_with (first | (go_at_call 19; refine (many_any _ _ _ (by omega)).mono ?_; rintro e w' ⟨rfl, rfl⟩))
                  refine (needsX_some _ _ _ _ (by omega) HE.out HA.out HS2.out).mono ?_
                  rintro e w3 ⟨rfl, hL3⟩
                  have HL3 := Lib.hid (HL2.out.trans (hL3.mono HL2.out.size))
                  have HS3 := Lib.hid (HS2.out.below hL3)
                  have HM3 := Lib.hid (HM2.out.more hL3)
                  clear hL3
                  go_wp2_with fail
                  refine (needsO_some _ _ _ _ (by omega) HE.out HB.out HS3.out).mono ?_
                  rintro e w4 ⟨rfl, hL4⟩
                  have HL4 := Lib.hid (HL3.out.trans (hL4.mono HL3.out.size))
                  have HS4 := Lib.hid (HS3.out.below hL4)
                  have HM4 := Lib.hid (HM3.out.more hL4)
                  clear hL4
                  go_wp2_with (go_at_call 15; refine (alive15 _ HS4.out HM4.out).mono ?_; rintro e w5 ⟨rfl, hL⟩)
                  all_goals
                    go_ret
                    exact ⟨rfl, HL4.out.trans (hL.mono HL4.out.size)⟩
              · have nb : ((b : Int) == 0) = false := by rw [beq_eq_false_iff_ne]; omega
                have HA := Lib.hid hA
                have HB := Lib.hid hB
                rcases hw2 with rfl | rfl
                · have ht' : ¬ (many s 111 s.size < many s 120 s.size) := by have := ht1 rfl; omega
                  clear ht
                  rcases hv2 with rfl | rfl
                  · clear hA hB fx0 fo0 fxn fon fx1 fo1 ht1 ht2
                    rw [show tx 120 = ⟨#[120]⟩ from rfl]
                    go_wp2_with (first | (go_at_call 19; refine (many_any _ _ _ (by omega)).mono ?_; rintro e w' ⟨rfl, rfl⟩))
                    refine (needsX_some _ _ _ _ (by omega) HE.out HA.out HS2.out).mono ?_
                    rintro e w3 ⟨rfl, hL3⟩
                    have HL3 := Lib.hid (HL2.out.trans (hL3.mono HL2.out.size))
                    have HS3 := Lib.hid (HS2.out.below hL3)
                    have HM3 := Lib.hid (HM2.out.more hL3)
                    clear hL3
                    go_wp2_with fail
                    refine (needsO_some _ _ _ _ (by omega) HE.out HB.out HS3.out).mono ?_
                    rintro e w4 ⟨rfl, hL4⟩
                    have HL4 := Lib.hid (HL3.out.trans (hL4.mono HL3.out.size))
                    have HS4 := Lib.hid (HS3.out.below hL4)
                    have HM4 := Lib.hid (HM3.out.more hL4)
                    clear hL4
                    go_wp2_with (go_at_call 15; refine (alive15 _ HS4.out HM4.out).mono ?_; rintro e w5 ⟨rfl, hL⟩)
                    all_goals
                      go_ret
                      exact ⟨rfl, HL4.out.trans (hL.mono HL4.out.size)⟩
                  · have n1 : ((a : Int) != 1) = true := by
                      rw [bne_iff_ne]
                      intro e
                      have := fx1 rfl (by rw [show a = 1 by omega])
                      cases this
                    clear hA hB fx0 fo0 fxn fon fx1 fo1 ht1 ht2
                    rw [show tx 111 = ⟨#[111]⟩ from rfl]
                    go_wp2_with (first | (go_at_call 19; refine (many_any _ _ _ (by omega)).mono ?_; rintro e w' ⟨rfl, rfl⟩))
                    refine (needsX_some _ _ _ _ (by omega) HE.out HA.out HS2.out).mono ?_
                    rintro e w3 ⟨rfl, hL3⟩
                    have HL3 := Lib.hid (HL2.out.trans (hL3.mono HL2.out.size))
                    have HS3 := Lib.hid (HS2.out.below hL3)
                    have HM3 := Lib.hid (HM2.out.more hL3)
                    clear hL3
                    go_wp2_with fail
                    refine (needsO_some _ _ _ _ (by omega) HE.out HB.out HS3.out).mono ?_
                    rintro e w4 ⟨rfl, hL4⟩
                    have HL4 := Lib.hid (HL3.out.trans (hL4.mono HL3.out.size))
                    have HS4 := Lib.hid (HS3.out.below hL4)
                    have HM4 := Lib.hid (HM3.out.more hL4)
                    clear hL4
                    go_wp2_with (go_at_call 15; refine (alive15 _ HS4.out HM4.out).mono ?_; rintro e w5 ⟨rfl, hL⟩)
                    all_goals
                      go_ret
                      exact ⟨rfl, HL4.out.trans (hL.mono HL4.out.size)⟩
                · have ht' : many s 111 s.size < many s 120 s.size := by have := ht2 rfl; omega
                  clear ht
                  rcases hv2 with rfl | rfl
                  · have n1 : ((b : Int) != 1) = true := by
                      rw [bne_iff_ne]
                      intro e
                      have := fo1 rfl (by rw [show b = 1 by omega])
                      cases this
                    clear hA hB fx0 fo0 fxn fon fx1 fo1 ht1 ht2
                    rw [show tx 120 = ⟨#[120]⟩ from rfl]
                    go_wp2_with (first | (go_at_call 19; refine (many_any _ _ _ (by omega)).mono ?_; rintro e w' ⟨rfl, rfl⟩))
                    refine (needsX_some _ _ _ _ (by omega) HE.out HA.out HS2.out).mono ?_
                    rintro e w3 ⟨rfl, hL3⟩
                    have HL3 := Lib.hid (HL2.out.trans (hL3.mono HL2.out.size))
                    have HS3 := Lib.hid (HS2.out.below hL3)
                    have HM3 := Lib.hid (HM2.out.more hL3)
                    clear hL3
                    go_wp2_with fail
                    refine (needsO_some _ _ _ _ (by omega) HE.out HB.out HS3.out).mono ?_
                    rintro e w4 ⟨rfl, hL4⟩
                    have HL4 := Lib.hid (HL3.out.trans (hL4.mono HL3.out.size))
                    have HS4 := Lib.hid (HS3.out.below hL4)
                    have HM4 := Lib.hid (HM3.out.more hL4)
                    clear hL4
                    go_wp2_with (go_at_call 15; refine (alive15 _ HS4.out HM4.out).mono ?_; rintro e w5 ⟨rfl, hL⟩)
                    all_goals
                      go_ret
                      exact ⟨rfl, HL4.out.trans (hL.mono HL4.out.size)⟩
                  · clear hA hB fx0 fo0 fxn fon fx1 fo1 ht1 ht2
                    rw [show tx 111 = ⟨#[111]⟩ from rfl]
                    go_wp2_with (first | (go_at_call 19; refine (many_any _ _ _ (by omega)).mono ?_; rintro e w' ⟨rfl, rfl⟩))
                    refine (needsX_some _ _ _ _ (by omega) HE.out HA.out HS2.out).mono ?_
                    rintro e w3 ⟨rfl, hL3⟩
                    have HL3 := Lib.hid (HL2.out.trans (hL3.mono HL2.out.size))
                    have HS3 := Lib.hid (HS2.out.below hL3)
                    have HM3 := Lib.hid (HM2.out.more hL3)
                    clear hL3
                    go_wp2_with fail
                    refine (needsO_some _ _ _ _ (by omega) HE.out HB.out HS3.out).mono ?_
                    rintro e w4 ⟨rfl, hL4⟩
                    have HL4 := Lib.hid (HL3.out.trans (hL4.mono HL3.out.size))
                    have HS4 := Lib.hid (HS3.out.below hL4)
                    have HM4 := Lib.hid (HM3.out.more hL4)
                    clear hL4
                    go_wp2_with (go_at_call 15; refine (alive15 _ HS4.out HM4.out).mono ?_; rintro e w5 ⟨rfl, hL⟩)
                    all_goals
                      go_ret
                      exact ⟨rfl, HL4.out.trans (hL.mono HL4.out.size)⟩

end Go.Proofs.YtpbiminbhihjnaaDoor
