/-
  A part of the proofs over the mirror (layer 4): LawC.
-/
import Derived.Test.YtpbiminbhihjnaaDoorLawB
import Derived.Test.YtpbiminbhihjnaaDoorRefC
namespace Go.Proofs.YtpbiminbhihjnaaDoor
open Go.RowKit Tri Go.Maps Go.WideMaps Dist
set_option linter.unusedSimpArgs false
set_option linter.unusedVariables false

set_option maxHeartbeats 2000000 in
set_option maxRecDepth 100000 in
theorem lawNeeds (n : Int) (s pl : ByteArray) (w : World) (hS : StepsAt w) (hM : MaxAt w) : Calls Tryd.prog 3 #[.int .i64 n, .string s, .string pl] w (AlivePost w) := by
  have HS := Lib.hid hS
  have HM := Lib.hid hM
  clear hS hM
  by_cases h1 : 200 < s.size
  · go_enter Tryd.func3, Tryd.ntmps3
    go_wp2_with (go_at_call 15; refine (alive15 _ HS.out HM.out).mono ?_; rintro e w1 ⟨rfl, hL⟩)
    go_ret
    exact ⟨rfl, hL⟩
  · by_cases h2 : 20 < pl.size
    · go_enter Tryd.func3, Tryd.ntmps3
      go_wp2_with (go_at_call 15; refine (alive15 _ HS.out HM.out).mono ?_; rintro e w1 ⟨rfl, hL⟩)
      go_ret
      exact ⟨rfl, hL⟩
    · go_enter Tryd.func3, Tryd.ntmps3
      go_wp2_with (first
        | (go_at_call 16; refine (needs_any n s pl _ (by omega) (by omega) HS.out).mono ?_; rintro e w1 ⟨v, er, rfl, hN, hL1⟩; have HN := Lib.hid hN; have HL1 := Lib.hid hL1; have HS1 := Lib.hid (HS.out.below hL1); have HM1 := Lib.hid (HM.out.more hL1); clear hN hL1)
        | (go_at_call 17; refine (refNeeds_any n s pl _ (by omega) (by omega)).mono ?_; rintro e w2 ⟨v', er', rfl, hN, hL2⟩; obtain ⟨rfl, rfl⟩ := needs_unique HN.out hN; have HL2 := Lib.hid (HL1.out.trans (hL2.mono HL1.out.size)); have HS2 := Lib.hid (HS1.out.below hL2); have HM2 := Lib.hid (HM1.out.more hL2); clear hN hL2)
        | (go_at_call 15; refine (alive15 _ HS2.out HM2.out).mono ?_; rintro e w3 ⟨rfl, hL3⟩))
      all_goals (try go_ret)
      all_goals (try exact ⟨rfl, HL2.out.trans (hL3.mono HL2.out.size)⟩)

end Go.Proofs.YtpbiminbhihjnaaDoor
