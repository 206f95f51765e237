/-
  The walk of MirrorWinners.
-/
import Derived.Test.YtpbiminbhihjnaaDoorLawA
import Derived.Test.YtpbiminbhihjnaaDoorLawB
import Derived.Test.YtpbiminbhihjnaaDoorRefE
import Derived.Laws.AppendOwnNone
namespace Go.Proofs.YtpbiminbhihjnaaDoor
open Go.RowKit Tri Go.Maps Go.WideMaps Dist
set_option linter.unusedSimpArgs false
set_option linter.unusedVariables false

theorem win_unique {n : Int} {s t t' : ByteArray} {l l' : List Nat} {er er' : Int} (h : WinIs n s t l er) (k : WinIs n s t' l' er') : t = t' ∧ l = l' ∧ er = er' := by
  rcases h with ⟨a, rfl, rfl, rfl⟩ | ⟨a, r, h0, h1, rfl, h2, rfl⟩ <;> rcases k with ⟨a', rfl, rfl, rfl⟩ | ⟨a', r', k0, k1, rfl, k2, rfl⟩
  · exact ⟨rfl, rfl, rfl⟩
  · exact absurd a' a
  · exact absurd a a'
  · have := who_unique h1 k1
    subst this
    exact ⟨rfl, short_unique h2 k2, rfl⟩

set_option maxHeartbeats 4000000 in
set_option maxRecDepth 100000 in
theorem lawWinners (n : Int) (s : ByteArray) (v : Value) (l : List Int) (w : World) (hv : SL w v l) (hnl : v = .slice none 0 0 ∨ ∃ a n c, v = .slice (some a) n c) (hS : StepsAt w) (hM : MaxAt w) :
    Calls Tryd.prog 9 #[.int .i64 n, .string s, v] w (AlivePost w) := by
  have HS := Lib.hid hS
  have HM := Lib.hid hM
  have HV := Lib.hid hv
  have HNL := Lib.hid hnl
  obtain ⟨A, pcap, rfl, hpc, hpr⟩ := hv
  clear hS hM hpr hnl
  by_cases h1 : 200 < s.size
  · go_enter Tryd.func9, Tryd.ntmps9
    go_wp2_with (go_at_call 15; refine (alive15 _ HS.out HM.out).mono ?_; rintro e w1 ⟨rfl, hL⟩)
    go_ret
    exact ⟨rfl, hL⟩
  by_cases h2 : 200 < l.length
  · go_enter Tryd.func9, Tryd.ntmps9
    go_wp2_with (go_at_call 15; refine (alive15 _ HS.out HM.out).mono ?_; rintro e w1 ⟨rfl, hL⟩)
    go_ret
    exact ⟨rfl, hL⟩
  have hs1000 : s.size ≤ 1000 := by omega
  go_enter Tryd.func9, Tryd.ntmps9
  go_wp2_with fail
  refine (winner22 n s _ hs1000 HS.out hex_nobody).mono ?_
  rintro e w1 ⟨v1, t1, l1, e1, rfl, hW1, hO1, -, hlen1, hL1⟩
  have HW1 := Lib.hid hW1
  have HO1 := Lib.hid hO1
  have HL1 := Lib.hid hL1
  have HS1 := Lib.hid (HS.out.below hL1)
  have HM1 := Lib.hid (HM.out.more hL1)
  have HV1 := Lib.hid (HV.out.more hL1)
  clear hW1 hO1 hL1
  go_wp2_with fail
  refine (refWinner30 n s _ hs1000).mono ?_
  rintro e w2 ⟨v2, t2, l2, e2, rfl, hW2, hO2, hlen2, hL2⟩
  obtain ⟨rfl, rfl, rfl⟩ := win_unique HW1.out hW2
  have HL2 := Lib.hid (HL1.out.trans (hL2.mono HL1.out.size))
  have HS2 := Lib.hid (HS1.out.below hL2)
  have HM2 := Lib.hid (HM1.out.more hL2)
  have HV2 := Lib.hid (HV1.out.more hL2)
  have SA := Lib.hid (show SL w2 v1 (asInts l1) from HO1.out.sl.more hL2)
  have SB := Lib.hid (show SL w2 v2 (asInts l1) from hO2.sl)
  clear hW2 hO2 hL2
  go_wp2_with fail
  refine (same31 _ _ (asInts l1) (asInts l1) _ SA.out SB.out (by rw [asInts_len]; omega) (by rw [asInts_len]; omega)).mono ?_
  rintro e w3 ⟨rfl, kd, rfl⟩
  rw [show decide (asInts l1 = asInts l1) = true from decide_eq_true rfl]
  have HL3 := Lib.hid (below_drewN' HL2.out kd)
  have HS3 := Lib.hid (show StepsAt (w2.drewN kd) from HS2.out)
  have HM3 := Lib.hid (show MaxAt (w2.drewN kd) from HM2.out)
  have HV3 := Lib.hid (show SL (w2.drewN kd) (.slice A l.length pcap) l from HV2.out)
  clear SA SB
  generalize w2.drewN kd = w3 at *
  obtain ⟨i3, hi3, hz3, hsz3, hby3⟩ := info_parts info3
  have hpu : ∀ W : World, Sem.run Tryd.prog (pure (#[] : Array Value)) W = .ok #[] W := fun _ => rfl
  have hst : ∀ (p : Addr) (W : World), Sem.run Tryd.prog (storeCells p []) W = .ok () W := fun _ _ => rfl
  have HE3 := Lib.hid (show Own (w3.alloc (.cells #[] 3)) w3.heap.size (.slice (some ⟨w3.heap.size, 0, none⟩) 0 0) [] from Own.lit (l := []) (Blk.new w3 3 #[]) (Nat.le_refl _) (by decide))
  rcases HNL.out with hn | ⟨a0, n0, c0, hn⟩
  · injection hn with hA hl hp
    have hl' : l = [] := List.length_eq_zero_iff.1 hl
    subst hA hp hl'
    go_wp2_with (at_builtin; refine wpList_append_own_none _ rfl _ _ 33 rfl w3.heap.size 3 i3 1 Tryd.underlying33 hi3 _ 0 [] rfl HE3.out rfl ?_)
    clear hpu hst
    have HOV := Lib.hid (show SL (w3.alloc (.cells #[] 3)) (.slice (some ⟨w3.heap.size, 0, none⟩) 0 0) [] from HE3.out.sl)
    have HVP := Lib.hid (show SL (w3.alloc (.cells #[] 3)) (.slice none 0 0) [] from HV3.out.more ((Below.refl _ _).alloc (Nat.le_refl _) _))
    have HL4 := Lib.hid (HL3.out.alloc HL3.out.size (.cells #[] 3))
    have HS4 := Lib.hid (HS3.out.below ((Below.refl w3.heap.size w3).alloc (Nat.le_refl _) (.cells #[] 3)))
    have HM4 := Lib.hid (HM3.out.more ((Below.refl w3.heap.size w3).alloc (Nat.le_refl _) (.cells #[] 3)))
    clear HE3
    generalize w3.alloc (.cells #[] 3) = w4 at *
    go_wp2_with fail
    refine (bridge32 n s _ ([] : List Int) _ hs1000 HOV.out (by decide) HS4.out).mono ?_
    rintro e w5 ⟨t5, e5, rfl, hB5, hL5⟩
    have HB5 := Lib.hid hB5
    have HL5 := Lib.hid (HL4.out.trans (hL5.mono HL4.out.size))
    have HS5 := Lib.hid (HS4.out.below hL5)
    have HM5 := Lib.hid (HM4.out.more hL5)
    have HOV5 := Lib.hid (HOV.out.more hL5)
    have HVP5 := Lib.hid (HVP.out.more hL5)
    clear hB5 hL5
    go_wp2_with fail
    refine (refBridge33 n s _ ([] : List Int) _ hs1000 HVP5.out (by decide)).mono ?_
    rintro e w6 ⟨t6, e6, rfl, hB6, nd, rfl⟩
    obtain ⟨rfl, rfl⟩ := bridge_unique HB5.out hB6
    have HL6 := Lib.hid (below_drewN' HL5.out nd)
    have HS6 := Lib.hid (show StepsAt (w5.drewN nd) from HS5.out)
    have HM6 := Lib.hid (show MaxAt (w5.drewN nd) from HM5.out)
    have HOV6 := Lib.hid (show SL (w5.drewN nd) _ ([] : List Int) from HOV5.out)
    have HVP6 := Lib.hid (show SL (w5.drewN nd) _ ([] : List Int) from HVP5.out)
    clear hB6
    generalize w5.drewN nd = w7 at *
    go_wp2_with fail
    refine (same31 _ _ ([] : List Int) ([] : List Int) _ HOV6.out HVP6.out (by decide) (by decide)).mono ?_
    rintro e w8 ⟨rfl, kd8, rfl⟩
    rw [show decide (([] : List Int) = ([] : List Int)) = true from decide_eq_true rfl]
    have HL8 := Lib.hid (below_drewN' HL6.out kd8)
    have HS8 := Lib.hid (show StepsAt (w7.drewN kd8) from HS6.out)
    have HM8 := Lib.hid (show MaxAt (w7.drewN kd8) from HM6.out)
    generalize w7.drewN kd8 = w9 at *
    go_wp2_with (go_at_call 15; refine (alive15 _ HS8.out HM8.out).mono ?_; rintro e w10 ⟨rfl, hL⟩)
    go_ret
    exact ⟨rfl, HL8.out.trans (hL.mono HL8.out.size)⟩
  · injection hn with hA hl hp
    subst hA
    clear hl hp
    have HC3 := Lib.hid (show ∀ j u, (l.map (Value.int .i64))[j]? = some u → (w3.alloc (.cells #[] 3)).cell? (a0.add j) = some u from by
      intro j u hj
      rw [List.getElem?_map] at hj
      have hjl : j < l.length := by
        apply Classical.byContradiction
        intro hn
        rw [List.getElem?_eq_none (by omega)] at hj
        cases hj
      obtain ⟨A', c', e1, _, e2⟩ := HV3.out
      obtain ⟨b', o', e3, e4, e5⟩ := e2 (by omega)
      injection e1 with e1 _ _
      rw [e3] at e1
      injection e1 with e1
      subst e1
      rw [show (⟨b', o', none⟩ : Addr).add j = ⟨b', o' + j, none⟩ by simp [Addr.add], Below.cell ((Below.refl w3.heap.size w3).alloc (Nat.le_refl _) (.cells #[] 3)) (p := ⟨b', o' + j, none⟩) e4, e5 j hjl]
      rw [List.getElem?_eq_getElem hjl] at hj
      simp only [Option.map_some, Option.some.injEq] at hj
      rw [← hj, List.getD_eq_getElem?_getD, List.getElem?_eq_getElem hjl]
      rfl)
    go_wp2_with (at_builtin; refine wpList_append_own _ rfl _ _ 33 rfl w3.heap.size 3 i3 (.int .i64 0) 1 8 Tryd.underlying33 hi3 hz3 hsz3 hby3 rfl (by decide) (.slice (some ⟨w3.heap.size, 0, none⟩) 0 0) 0 [] rfl HE3.out a0 l.length pcap (l.map (Value.int .i64)) rfl (by simp) HC3.out (by intro u hu; obtain ⟨x, _, rfl⟩ := List.mem_map.1 hu; rfl) (by unfold maxLen; omega) (by omega) (by simp) ?_; intro ov w4 ho4 hg4 _)
    clear hpu hst
    have hB4 : Below w3.heap.size w3 w4 := ((Below.refl w3.heap.size w3).alloc (Nat.le_refl _) (.cells #[] 3)).grown hg4 (by simp) (fun k hk => by
      have hk' : some w3.heap.size = some k := hk
      injection hk' with hk'
      omega)
    have HOV := Lib.hid (show SL w4 ov l from by
      have : Own w4 w3.heap.size ov l := by
        show w4.ownsRow w3.heap.size 3 1 ov l.length (l.map (Value.int .i64))
        have := ho4
        simpa using this
      exact this.sl)
    have HVP := Lib.hid (HV3.out.more hB4)
    have HL4 := Lib.hid (HL3.out.trans (hB4.mono HL3.out.size))
    have HS4 := Lib.hid (HS3.out.below hB4)
    have HM4 := Lib.hid (HM3.out.more hB4)
    clear HE3 HC3 ho4 hg4 hB4
    go_wp2_with fail
    refine (bridge32 n s _ l _ hs1000 HOV.out (by omega) HS4.out).mono ?_
    rintro e w5 ⟨t5, e5, rfl, hB5, hL5⟩
    have HB5 := Lib.hid hB5
    have HL5 := Lib.hid (HL4.out.trans (hL5.mono HL4.out.size))
    have HS5 := Lib.hid (HS4.out.below hL5)
    have HM5 := Lib.hid (HM4.out.more hL5)
    have HOV5 := Lib.hid (HOV.out.more hL5)
    have HVP5 := Lib.hid (HVP.out.more hL5)
    clear hB5 hL5
    go_wp2_with fail
    refine (refBridge33 n s _ l _ hs1000 HVP5.out (by omega)).mono ?_
    rintro e w6 ⟨t6, e6, rfl, hB6, nd, rfl⟩
    obtain ⟨rfl, rfl⟩ := bridge_unique HB5.out hB6
    have HL6 := Lib.hid (below_drewN' HL5.out nd)
    have HS6 := Lib.hid (show StepsAt (w5.drewN nd) from HS5.out)
    have HM6 := Lib.hid (show MaxAt (w5.drewN nd) from HM5.out)
    have HOV6 := Lib.hid (show SL (w5.drewN nd) _ l from HOV5.out)
    have HVP6 := Lib.hid (show SL (w5.drewN nd) _ l from HVP5.out)
    clear hB6
    generalize w5.drewN nd = w7 at *
    go_wp2_with fail
    refine (same31 _ _ l l _ HOV6.out HVP6.out (by omega) (by omega)).mono ?_
    rintro e w8 ⟨rfl, kd8, rfl⟩
    rw [show decide (l = l) = true from decide_eq_true rfl]
    have HL8 := Lib.hid (below_drewN' HL6.out kd8)
    have HS8 := Lib.hid (show StepsAt (w7.drewN kd8) from HS6.out)
    have HM8 := Lib.hid (show MaxAt (w7.drewN kd8) from HM6.out)
    generalize w7.drewN kd8 = w9 at *
    go_wp2_with (go_at_call 15; refine (alive15 _ HS8.out HM8.out).mono ?_; rintro e w10 ⟨rfl, hL⟩)
    go_ret
    exact ⟨rfl, HL8.out.trans (hL.mono HL8.out.size)⟩

end Go.Proofs.YtpbiminbhihjnaaDoor
