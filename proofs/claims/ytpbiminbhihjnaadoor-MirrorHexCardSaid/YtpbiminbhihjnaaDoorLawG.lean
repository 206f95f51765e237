/-
  The walk of MirrorHex.
-/
import Derived.Test.YtpbiminbhihjnaaDoorLawD
import Derived.Test.YtpbiminbhihjnaaDoorHexD
import Derived.StillTailTactics
namespace Go.Proofs.YtpbiminbhihjnaaDoor
open Go.RowKit Tri Go.Maps Go.WideMaps Dist
set_option linter.unusedSimpArgs false
set_option linter.unusedVariables false

theorem bridge_ok {n : Nat} {s : ByteArray} {l : List Int} {t : ByteArray} {er : Int} (he : boardErr n s false = 0) (h : BridgeIs n s l t er) :
    (¬ PathOk n s l ∧ t = ByteArray.empty ∧ er = 2) ∨ (PathOk n s l ∧ t = tx (bt s (l.getD 0 0).toNat) ∧ er = 0) := by
  rcases h with ⟨h, _⟩ | ⟨_, h1, h2, h3⟩ | ⟨_, h1, h2, h3⟩
  · exact absurd he h
  · exact .inl ⟨h1, h2, h3⟩
  · exact .inr ⟨h1, h2, h3⟩

theorem tx_two {r : Int} (h : r = 120 ∨ r = 111) : ((tx r).toList == [120]) = true ∨ (((tx r).toList == [120]) = false ∧ ((tx r).toList == [111]) = true) := by
  rcases h with rfl | rfl
  · left; decide +kernel
  · right; decide +kernel

set_option maxHeartbeats 4000000 in
set_option maxRecDepth 100000 in
theorem lawHex (n : Int) (s : ByteArray) (v : Value) (l : List Int) (w : World) (hv : SL w v l) (hS : StepsAt w) (hM : MaxAt w) : Calls Tryd.prog 10 #[.int .i64 n, .string s, v] w (AlivePost w) := by
  have HS := Lib.hid hS
  have HM := Lib.hid hM
  have HV := Lib.hid hv
  obtain ⟨A, pcap, rfl, hpc, hpr⟩ := hv
  have HPR := Lib.hid hpr
  clear hS hM hpr
  by_cases h1 : 200 < s.size
  · go_enter Tryd.func10, Tryd.ntmps10
    go_wp2_with (go_at_call 15; refine (alive15 _ HS.out HM.out).mono ?_; rintro e w1 ⟨rfl, hL⟩)
    go_ret
    exact ⟨rfl, hL⟩
  by_cases h2 : 200 < l.length
  · go_enter Tryd.func10, Tryd.ntmps10
    go_wp2_with (go_at_call 15; refine (alive15 _ HS.out HM.out).mono ?_; rintro e w1 ⟨rfl, hL⟩)
    go_ret
    exact ⟨rfl, hL⟩
  by_cases he : boardErr n s false = 0
  · obtain ⟨m, rfl, q1, q2, q3, q4⟩ := board_ok he
    have HE := Lib.hid he
    have hb0 : (boardErr m s false != 0) = false := by simp [he]
    obtain ⟨r, hr⟩ := who_exists m s
    have hn1 := hex_nobody he
    rw [Int.toNat_natCast] at hn1
    have hr2 := who_two hr (fun e => hn1 (e ▸ hr))
    have HR := Lib.hid hr
    have HR2 := Lib.hid hr2
    have Q1 := Lib.hid q1
    -- the other list
    have OTH := Lib.hid (show ∀ q, PathOk m s q → bt s (q.getD 0 0).toNat = r from fun q h => by
      have hb := path_bridged h
      have hp2 : bt s (q.getD 0 0).toNat = 120 ∨ bt s (q.getD 0 0).toNat = 111 := by
        obtain ⟨a1, a2, _⟩ := h.2.1 0 h.1
        exact full_byte q4 (by omega)
      exact who_unique ((who_of q1 hp2).2 hb) hr)
    have NE := Lib.hid (show ∀ l, Short m s r l → l ≠ [] from fun l h e => by subst e; exact short_nil h ((who_of q1 hr2).1 hr))
    have T2 := tx_two hr2
    obtain ⟨x, hx⟩ : ∃ x, x = tx r := ⟨_, rfl⟩
    have HX := Lib.hid hx
    have W1 := Lib.hid (show ∀ W, StepsAt W → Calls Tryd.prog 22 #[.int .i64 (m : Int), .string s] W (WinnerPost m s x r W) from fun W h => by rw [hx]; exact winner_val m s r W (by omega) HE.out HR.out h)
    rw [← hx] at T2
    have T2 := Lib.hid T2
    clear hr hn1 hr2 he q3 q4 q1 hx
    go_enter Tryd.func10, Tryd.ntmps10
    go_wp2_with fail
    refine (W1.out _ HS.out).mono ?_
    rintro e w1 ⟨A1, c1, l1, rfl, hsh, hO, hl121, hL1⟩
    have SH := Lib.hid hsh
    have HL1 := Lib.hid hL1
    have HS1 := Lib.hid (HS.out.below hL1)
    have HM1 := Lib.hid (HM.out.more hL1)
    have HSL1 := Lib.hid (show SL w1 (.slice A1 l1.length c1) (asInts l1) from hO.sl)
    have HV1 := Lib.hid (HV.out.more hL1)
    have hlen1 : 0 < l1.length := by
      have := NE.out l1 hsh
      cases l1 with
      | nil => exact absurd rfl this
      | cons a l => simp
    clear hsh hO hL1
    go_wp2_with (go_at_call 20; refine (board_any _ _ _ _ (by omega)).mono ?_; rintro e w' ⟨rfl, rfl⟩)
    refine (bridge32 m s _ (asInts l1) _ (by omega) HSL1.out (by rw [asInts_len]; omega) HS1.out).mono ?_
    rintro e w2 ⟨t2, e2, rfl, hB2, hL2⟩
    have hp := short_path SH.out (NE.out _ SH.out)
    obtain ⟨rfl, rfl⟩ : t2 = x ∧ e2 = 0 := by
      rcases bridge_ok HE.out hB2 with ⟨h, _⟩ | ⟨_, h2, h3⟩
      · exact absurd hp.1 h
      · exact ⟨by rw [h2, hp.2, HX.out], h3⟩
    have HP := Lib.hid hp
    have HL2 := Lib.hid (HL1.out.trans (hL2.mono HL1.out.size))
    have HS2 := Lib.hid (HS1.out.below hL2)
    have HM2 := Lib.hid (HM1.out.more hL2)
    have HSL2 := Lib.hid (HSL1.out.more hL2)
    have HV2 := Lib.hid (HV1.out.more hL2)
    clear hp hB2 hL2
    obtain ⟨T, hT⟩ : ∃ T, T = t2 := ⟨_, rfl⟩
    have T2' := T2.out
    clear T2
    rcases T2' with b1 | ⟨b1, b2⟩
    all_goals
      go_wp2_with fail
      refine (bridge32 m s _ l _ (by omega) HV2.out (by omega) HS2.out).mono ?_
      rintro e w3 ⟨t3, e3, rfl, hB3, hL3⟩
      have HL3 := Lib.hid (HL2.out.trans (hL3.mono HL2.out.size))
      have HS3 := Lib.hid (HS2.out.below hL3)
      have HM3 := Lib.hid (HM2.out.more hL3)
      have HSL3 := Lib.hid (HSL2.out.more hL3)
      have HV3 := Lib.hid (HV2.out.more hL3)
      clear hL3
      rcases bridge_ok HE.out hB3 with ⟨_, rfl, rfl⟩ | ⟨hok, h3, rfl⟩
      · clear hB3
        go_wp2_with (go_at_call 15; refine (alive15 _ HS3.out HM3.out).mono ?_; rintro e w4 ⟨rfl, hL⟩)
        go_ret
        exact ⟨rfl, HL3.out.trans (hL.mono HL3.out.size)⟩
      · have h4 : t3 = T := by rw [h3, OTH.out _ hok, hT, HX.out]
        subst h4
        subst hT
        obtain ⟨hle, hfirst⟩ := short_first hok (l := l1) (by rw [OTH.out _ hok]; exact SH.out)
        have hlp : 0 < l.length := hok.1
        obtain ⟨pb, po, rfl, hpb, hpc2⟩ := HPR.out hlp
        have HC := Lib.hid (show ∀ j, j < l.length → w3.cell? ⟨pb, po + j, none⟩ = some (.int .i64 (l.getD j 0)) by
          obtain ⟨A', c', e1, _, e2⟩ := HV3.out
          obtain ⟨b', o', e3, _, e4⟩ := e2 hlp
          injection e1 with e1 _ _
          rw [e3] at e1
          injection e1 with e1
          injection e1 with e1 e5 _
          subst e1 e5
          exact e4)
        obtain ⟨qb, qo, hA1, hqc⟩ : ∃ qb qo, A1 = some ⟨qb, qo, none⟩ ∧ ∀ j, j < (asInts l1).length → w3.cell? ⟨qb, qo + j, none⟩ = some (.int .i64 ((asInts l1).getD j 0)) := by
          obtain ⟨A', c', e1, _, e2⟩ := HSL3.out
          obtain ⟨qb, qo, e3, _, hqc⟩ := e2 (by rw [asInts_len]; exact hlen1)
          injection e1 with e1 _ _
          exact ⟨qb, qo, e1.trans e3, hqc⟩
        subst hA1
        have HQ := Lib.hid hqc
        have HF := Lib.hid hfirst
        have HLI := Lib.hid (asInts_len l1)
        clear hqc hfirst hB3 h3 hok
        by_cases hll : l.length = l1.length
        · have HLL := Lib.hid hll
          have hbl : ((l.length : Int) == (l1.length : Int)) = true := by rw [beq_iff_eq]; omega
          have hleq : l1.length ≤ l.length := by omega
          clear hll
          go_wp2_with fail
          go_loopg [14] l1.length (fun q i wr => ∃ k nd : Nat, i = .int .i64 k ∧ k ≤ l1.length ∧ Hid (q = l1.length - k) ∧ wr = w3.drewN nd ∧ Hid (∀ j, j < k → l.getD j 0 = (asInts l1).getD j 0))
          case atStart => exact ⟨0, 0, rfl, Nat.zero_le _, rfl, rfl, Lib.hid (fun j hj => by omega)⟩
          case round =>
            obtain ⟨k, nd, rfl, hk, hq, rfl, EQ⟩ := hrel
            by_cases hlt : k < l1.length
            · obtain ⟨x, hx⟩ : ∃ x, x = l.getD k 0 := ⟨_, rfl⟩
              obtain ⟨y, hy⟩ : ∃ y, y = (asInts l1).getD k 0 := ⟨_, rfl⟩
              have cx : w3.cell? ⟨pb, po + k, none⟩ = some (.int .i64 x) := by rw [hx]; exact HC.out k (by omega)
              have cy : w3.cell? ⟨qb, qo + k, none⟩ = some (.int .i64 y) := by rw [hy]; exact HQ.out k (by rw [HLI.out]; exact hlt)
              have hyx : y ≤ x := by rw [hx, hy]; exact HF.out HLL.out.symm k hlt EQ.out
              have HX' := Lib.hid hx
              have HY' := Lib.hid hy
              clear hx hy
              by_cases hxy : x = y
              · have hb1 : (x != y) = false := by simp [hxy]
                go_wp2_with fail
                go_quiet (fail)
                go_wp2_with fail
                go_roundg (l1.length - (k + 1))
                case measure => have := hq.out; omega
                case rel => exact ⟨k + 1, nd + nq, by go_num, by omega, rfl, by first | rfl | simp, Lib.hid (fun j hj => by
                  by_cases e : j = k
                  · subst e; rw [← HX'.out, ← HY'.out]; exact hxy
                  · exact EQ.out j (by omega))⟩
              · have hb1 : (x != y) = true := by simp [hxy]
                have hgt : decide (y < x) = true := by rw [decide_eq_true_eq]; omega
                go_wp2_with fail
                go_quiet (fail)
                go_wp2_with fail
                have hltl : k < l.length := by omega
                have cx4 : ((w3.drewN nd).drewN nq).cell? ⟨pb, po + k, none⟩ = some (.int .i64 x) := cx
                have cy4 : ((w3.drewN nd).drewN nq).cell? ⟨qb, qo + k, none⟩ = some (.int .i64 y) := cy
                have HS4 := Lib.hid (show StepsAt ((w3.drewN nd).drewN nq) from HS3.out)
                have HM4 := Lib.hid (show MaxAt ((w3.drewN nd).drewN nq) from HM3.out)
                have HL4 := Lib.hid (below_drewN' (below_drewN' HL3.out nd) nq)
                clear cx cy
                generalize (w3.drewN nd).drewN nq = w4 at *
                go_still_tail 10, (by kernel_rfl)
                go_wp2_with (go_at_call 15; refine (alive15 w4.drew (show StepsAt w4.drew from HS4.out) (show MaxAt w4.drew from HM4.out)).mono ?_; rintro e w5 ⟨rfl, hL⟩)
                go_ret
                exact ⟨rfl, (HL4.out.drew).trans (hL.mono HL4.out.size)⟩
            · obtain rfl : k = l1.length := by omega
              go_wp2_with (go_at_call 15; refine (alive15 (w3.drewN nd) HS3.out HM3.out).mono ?_; rintro e w4 ⟨rfl, hL⟩)
              go_ret
              exact ⟨rfl, (below_drewN' HL3.out nd).trans (hL.mono HL3.out.size)⟩
        · have hbl : ((l.length : Int) == (l1.length : Int)) = false := by rw [beq_eq_false_iff_ne]; omega
          clear hll
          go_wp2_with fail
          go_loopg [14] 0 (fun q i wr => i = .int .i64 0 ∧ wr = w3)
          case atStart => exact ⟨rfl, rfl⟩
          case round =>
            obtain ⟨rfl, rfl⟩ := hrel
            go_wp2_with (go_at_call 15; refine (alive15 _ HS3.out HM3.out).mono ?_; rintro e w4 ⟨rfl, hL⟩)
            go_ret
            exact ⟨rfl, HL3.out.trans (hL.mono HL3.out.size)⟩
  · have hb0 : (boardErr n s false != 0) = true := by simp [he]
    have HE := Lib.hid he
    have hs1000 : s.size ≤ 1000 := by omega
    clear he
    go_enter Tryd.func10, Tryd.ntmps10
    go_wp2_with fail
    refine (winner22 n s _ hs1000 HS.out hex_nobody).mono ?_
    rintro e w1 ⟨v1, t1, l1, e1, rfl, hW, hO, hnil, hlen, hL1⟩
    rcases hW with ⟨_, rfl, rfl, rfl⟩ | ⟨h, _⟩
    · obtain rfl := hnil rfl
      have HL1 := Lib.hid hL1
      have HS1 := Lib.hid (HS.out.below hL1)
      have HM1 := Lib.hid (HM.out.more hL1)
      clear hO hnil hlen hL1
      go_wp2_with (first
        | (go_at_call 20; refine (board_any _ _ _ _ (by omega)).mono ?_; rintro e w' ⟨rfl, rfl⟩)
        | (go_at_call 15; refine (alive15 _ HS1.out HM1.out).mono ?_; rintro e w2 ⟨rfl, hL⟩))
      go_ret
      exact ⟨rfl, HL1.out.trans (hL.mono HL1.out.size)⟩
    · exact absurd h HE.out

end Go.Proofs.YtpbiminbhihjnaaDoor
