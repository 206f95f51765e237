/-
  The walk of MirrorTurned.
-/
import Derived.Test.YtpbiminbhihjnaaDoorLawB
import Derived.Test.YtpbiminbhihjnaaDoorTriL
import Derived.Test.YtpbiminbhihjnaaDoorTriM
namespace Go.Proofs.YtpbiminbhihjnaaDoor
open Go.RowKit Tri Go.Maps Go.WideMaps Dist
set_option linter.unusedSimpArgs false
set_option linter.unusedVariables false

set_option maxHeartbeats 4000000 in
set_option maxRecDepth 100000 in
theorem lawTurned (n : Int) (s : ByteArray) (w : World) (hS : StepsAt w) (hM : MaxAt w) : Calls Tryd.prog 8 #[.int .i64 n, .string s] w (AlivePost w) := by
  have HS := Lib.hid hS
  have HM := Lib.hid hM
  clear hS hM
  by_cases h1 : 300 < s.size
  · go_enter Tryd.func8, Tryd.ntmps8
    go_wp2_with (go_at_call 15; refine (alive15 _ HS.out HM.out).mono ?_; rintro e w1 ⟨rfl, hL⟩)
    go_ret
    exact ⟨rfl, hL⟩
  have hs1000 : s.size ≤ 1000 := by omega
  by_cases he : triErr n s = 0
  · obtain ⟨m, rfl, q1, q2, q3, q4⟩ := tri_ok he
    have HE := Lib.hid he
    have hb : (triErr m s != 0) = false := by simp [he]
    have FUL := Lib.hid (turns_full m s)
    have TUR := Lib.hid (fun hp => turned q1 (fun i j hij => tri_bytes q4 (by rw [q3]; exact pos_lt hij)) (s := s) (n := m) hp)
    have hcl := cells_len q2
    have hr1 : rights m s (cells m).length + lefts m s (cells m).length ≤ 400 := by
      rw [turns_full]
      unfold fullList
      rw [List.length_map]
      exact Nat.le_trans (List.length_filter_le _ _) hcl
    obtain ⟨R, hR⟩ : ∃ R, R = rights m s (cells m).length := ⟨_, rfl⟩
    obtain ⟨L, hL⟩ : ∃ L, L = lefts m s (cells m).length := ⟨_, rfl⟩
    have HR := Lib.hid hR
    have HL := Lib.hid hL
    rw [← hR, ← hL] at hr1
    clear q3 q4 he hcl hR hL
    go_enter Tryd.func8, Tryd.ntmps8
    go_wp2_with (go_at_call 28; refine (tri28 _ s _ hs1000).mono ?_; rintro e w1 ⟨rfl, rfl⟩)
    refine (proper23 _ s _ hs1000).mono ?_
    rintro e w1 ⟨b, er, rfl, hP, hL1⟩
    obtain ⟨rfl, rfl⟩ : b = propB m s ∧ er = 0 := by
      rcases hP with ⟨h, _⟩ | ⟨_, h2, h3⟩
      · exact absurd HE.out h
      · exact ⟨by rw [h2, Int.toNat_natCast], h3⟩
    have HL1 := Lib.hid hL1
    have HS1 := Lib.hid (HS.out.below hL1)
    have HM1 := Lib.hid (HM.out.more hL1)
    clear hP hL1
    go_wp2_with fail
    refine (turns29 _ s _ hs1000 HM1.out).mono ?_
    rintro e w2 ⟨a, b, er, rfl, hT, hL2⟩
    obtain ⟨rfl, rfl, rfl⟩ : a = (R : Int) ∧ b = (L : Int) ∧ er = 0 := by
      rcases hT with ⟨h, _⟩ | ⟨_, h2, h3, h4⟩
      · exact absurd HE.out h
      · rw [Int.toNat_natCast] at h2 h3
        exact ⟨by rw [h2, HR.out], by rw [h3, HL.out], h4⟩
    have HL2 := Lib.hid (HL1.out.trans (hL2.mono HL1.out.size))
    have HS2 := Lib.hid (HS1.out.below hL2)
    have HM2 := Lib.hid (HM1.out.more hL2)
    clear hT hL2
    go_wp2_with fail
    refine (full26 _ s _ hs1000).mono ?_
    rintro e w3 ⟨v, ls, er, rfl, hF, hO, hL3⟩
    obtain ⟨hls, rfl⟩ : ls = fullList m s ∧ er = 0 := by
      rcases hF with ⟨h, _⟩ | ⟨_, h2, h3⟩
      · exact absurd HE.out h
      · exact ⟨by rw [h2, Int.toNat_natCast], h3⟩
    have HLEN := Lib.hid (show ls.length = R + L by rw [hls, ← FUL.out, HR.out, HL.out])
    obtain ⟨A, cap, rfl⟩ := hO.shape
    rw [HLEN.out]
    have HL3 := Lib.hid (HL2.out.trans (hL3.mono HL2.out.size))
    have HS3 := Lib.hid (HS2.out.below hL3)
    have HM3 := Lib.hid (HM2.out.more hL3)
    clear hF hO hL3 hls
    have e0 : ((R : Int) + (L : Int) == ((R + L : Nat) : Int)) = true := by rw [beq_iff_eq]; omega
    have e1 : ((R : Int) + (L : Int) == (R : Int) + (L : Int)) = true := by rw [beq_iff_eq]
    by_cases hp : propB m s = true
    · have hRL : R = L + 1 := by rw [HR.out, HL.out]; exact TUR.out (propB_iff.1 hp)
      have e2 : ((R : Int) == (L : Int) + 1) = true := by rw [beq_iff_eq]; omega
      rw [hp]
      clear hRL
      go_wp2_with (go_at_call 15; refine (alive15 _ HS3.out HM3.out).mono ?_; rintro e w4 ⟨rfl, hL⟩)
      go_ret
      exact ⟨rfl, HL3.out.trans (hL.mono HL3.out.size)⟩
    · have hp' : propB m s = false := by simpa using hp
      rw [hp']
      clear hp
      go_wp2_with (go_at_call 15; refine (alive15 _ HS3.out HM3.out).mono ?_; rintro e w4 ⟨rfl, hL⟩)
      go_ret
      exact ⟨rfl, HL3.out.trans (hL.mono HL3.out.size)⟩
  · have hb : (triErr n s != 0) = true := by simp [he]
    clear he
    go_enter Tryd.func8, Tryd.ntmps8
    go_wp2_with (first
      | (go_at_call 28; refine (tri28 _ s _ hs1000).mono ?_; rintro e w1 ⟨rfl, rfl⟩)
      | (go_at_call 15; refine (alive15 _ HS.out HM.out).mono ?_; rintro e w1 ⟨rfl, hL⟩))
    go_ret
    exact ⟨rfl, hL⟩

end Go.Proofs.YtpbiminbhihjnaaDoor
