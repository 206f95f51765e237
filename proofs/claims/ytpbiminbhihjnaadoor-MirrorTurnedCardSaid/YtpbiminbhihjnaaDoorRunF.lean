/-
  A part of the proofs over the mirror (layer 4): RunF.
-/
import Derived.Test.YtpbiminbhihjnaaDoorRunD
import Derived.Test.YtpbiminbhihjnaaDoorRefC
namespace Go.Proofs.YtpbiminbhihjnaaDoor
open Go.RowKit Dist
set_option linter.unusedSimpArgs false
set_option linter.unusedVariables false

theorem clo42 (w : World) (bp : Nat) (s pl : ByteArray) (p : Int) (hbp : bp < w.heap.size) (h0 : 0 < pl.size) (hp : (pl[0].toNat : Int) = p) (hc : w.cell? ⟨bp, 0, none⟩ = some (.string pl)) : Clo42 w bp s p 0 1 := by
  intro W a hW ha
  have hc' : W.cell? ⟨bp, 0, none⟩ = some (.string pl) := by rw [hW.cell (p := ⟨bp, 0, none⟩) hbp]; exact hc
  have hpc : pcost s p 0 1 a = if bt s a = p then 0 else if bt s a = 46 then 1 else -1 := by
    unfold pcost costI
    split
    · rfl
    · split <;> rfl
  generalize bt s a = c at *
  clear hc
  by_cases h1 : c = p
  · have E := Lib.hid (show pcost s p 0 1 a = 0 by rw [hpc, if_pos h1])
    have h1' : (c == (pl[0].toNat : Int)) = true := by rw [hp]; exact beq_iff_eq.2 h1
    clear hpc h1 hp
    go_enter Tryd.func42, Tryd.ntmps42
    go_wp2_with fail
    go_ret
    exact ⟨by rw [E.out]; rfl, rfl⟩
  · have h1' : (c == (pl[0].toNat : Int)) = false := by rw [hp]; exact beq_eq_false_iff_ne.2 h1
    by_cases h2 : c = 46
    · have E := Lib.hid (show pcost s p 0 1 a = 1 by rw [hpc, if_neg h1, if_pos h2])
      have h2' : (c == 46) = true := beq_iff_eq.2 h2
      clear hpc h1 hp h2
      go_enter Tryd.func42, Tryd.ntmps42
      go_wp2_with fail
      go_ret
      exact ⟨by rw [E.out]; rfl, rfl⟩
    · have E := Lib.hid (show pcost s p 0 1 a = -1 by rw [hpc, if_neg h1, if_neg h2])
      have h2' : (c == 46) = false := beq_eq_false_iff_ne.2 h2
      clear hpc h1 hp h2
      go_enter Tryd.func42, Tryd.ntmps42
      go_wp2_with fail
      go_ret
      exact ⟨by rw [E.out]; rfl, rfl⟩

set_option maxHeartbeats 2000000 in
set_option maxRecDepth 100000 in
theorem needs_any (n : Int) (s pl : ByteArray) (w : World) (hs : s.size ≤ 1000) (hpl : pl.size ≤ 1000) (hS : StepsAt w) :
    Calls Tryd.prog 16 #[.int .i64 n, .string s, .string pl] w (TwoPost (NeedsIs n s pl) w) := by
  have cplw : (w.alloc (.cells #[.string pl] 9)).cell? ⟨w.heap.size, 0, none⟩ = some (.string pl) := by rw [(Blk.new w 9 _).cell]; rfl
  by_cases he : boardErr n s true = 0
  · obtain ⟨m, rfl, h1, h2, h3, h4⟩ := board_ok he
    have HE := Lib.hid he
    clear he
    by_cases hx : isX pl = true
    · have hpe := isX_eq hx
      have h0 : 0 < pl.size := by rw [hpe]; decide
      have tx : pl.toList = [120] := by rw [hpe, ByteArray.toList_eq]
      have hp0 : pl[0].toNat = 120 := by subst hpe; rfl
      have ANS := Lib.hid (show ∀ r, Best m s 120 0 1 r → NeedsIs m s pl (r.getD 0 : Nat) (match r with | none => 10 | some _ => 0) from
        fun r hr => .inr (.inr ⟨HE.out, 120, .inl ⟨hx, rfl⟩, r, hr, rfl, rfl⟩))
      have HP0 := Lib.hid (show (pl[0].toNat : Int) = 120 by omega)
      clear hpe hx
      obtain ⟨N, hN⟩ : ∃ N, N = m * m := ⟨_, rfl⟩
      have hN121 : N ≤ 121 := by have := Nat.mul_le_mul h2 h2; omega
      have hnn : (m : Int) * m = (N : Int) := by rw [hN]; exact (Int.natCast_mul m m).symm
      have HN := Lib.hid hN
      clear hN
      have cpl := cplw
      go_enter Tryd.func16, Tryd.ntmps16
      go_wp2_with (go_at_call 40; refine (boarded_ok m s true _ (by omega) HE.out).mono ?_; rintro e w1 ⟨hL1, b, g, cap, rfl, hb, hg, hbg, hBo⟩; have cpl1 : w1.cell? ⟨w.heap.size, 0, none⟩ = some (.string pl) := (hL1.cell (p := ⟨w.heap.size, 0, none⟩) (by simp)).trans cpl)
      have hLw : Below w.heap.size w w1 := ((Below.refl _ _).alloc (Nat.le_refl _) _).trans (hL1.mono (by simp))
      have hz1 : w.heap.size < w1.heap.size := by have := hL1.size; simp at this; omega
      have hS1 := Lib.hid (hS.below hLw)
      have HBO := Lib.hid hBo
      have CLO := Lib.hid (clo42 w1 w.heap.size s pl 120 hz1 h0 HP0.out cpl1)
      have PC := Lib.hid (show ∀ a, pcost s 120 0 1 a ≤ 1 from fun a => by unfold pcost costI; split <;> split <;> (try split) <;> omega)
      clear hBo cpl hb hg
      go_wp2_with (first | (go_at_call 41; refine (far42_any b g cap m w.heap.size s 120 0 1 _ HBO.out h1 h2 h3 hS1.out (by omega) (by omega) (by omega) PC.out CLO.out).mono ?_; rintro e w2 ⟨go, o, rfl, hgo, hO, hL2, FAR⟩))
      rw [← HN.out]
      have FAR' := Lib.hid FAR
      have hLw2 := hLw.trans (hL2.mono hLw.size)
      have HBO2 := Lib.hid (HBO.out.more hL2)
      have cpl2 : w2.cell? ⟨w.heap.size, 0, none⟩ = some (.string pl) := by rw [hL2.cell (p := ⟨w.heap.size, 0, none⟩) hz1]; exact cpl1
      clear FAR cpl1 cplw
      go_wp2_with fail
      go_loopg [11, 40] N (fun k bs x wr => ∃ (j : Nat) (best : Int) (nd : Nat), x = .int .i64 j ∧ bs = .int .i64 best ∧ j ≤ N ∧ Hid (k = N - j) ∧ wr = w2.drewN nd ∧ Hid (MinP m 120 o best j))
      case atStart => exact ⟨0, -1, 0, rfl, rfl, by omega, rfl, rfl, MinP.start _ _ _⟩
      case round =>
        obtain ⟨j, best, nd, rfl, rfl, hj, hk, rfl, MIN⟩ := hrel
        by_cases hlt : j < N
        · obtain ⟨x, hx⟩ : ∃ x, x = o.getD j 0 := ⟨_, rfl⟩
          have co : w2.cell? ⟨go, j, none⟩ = some (.int .i64 x) := by rw [hx, hO.cell, ints_get _ _ (by have := FAR'.out.len; have := HN.out; omega)]
          have bl : -1 ≤ best := MIN.out.1
          have xl : -1 ≤ x := by rw [hx]; exact FAR'.out.low j (by rw [← HN.out]; exact hlt)
          have KEEP := Lib.hid (fun hn => MIN.out.keep (j := j) hn)
          have TAKE := Lib.hid (fun h1 h2 h3 => MIN.out.take (j := j) h1 h2 h3)
          rw [← hx] at KEEP TAKE
          clear hx
          by_cases t0 : beginsB m 120 j = true
          · by_cases t1 : 0 ≤ x
            · by_cases t2 : best < 0
              · go_wp2_with (go_at_call 43; refine (pends_any b g cap m j s 120 _ (HBO2.out.drewN nd) h1 h2 (by rw [← HN.out]; exact hlt) (by omega)).mono ?_; rintro e w' ⟨rfl, kd, rfl⟩)
                go_roundg (N - (j + 1))
                case measure => have := hk.out; omega
                case rel => exact ⟨j + 1, _, nd + kd, by go_num, rfl, by omega, rfl, by simp, TAKE.out t0 t1 (by omega)⟩
              · by_cases t3 : x < best
                · go_wp2_with (go_at_call 43; refine (pends_any b g cap m j s 120 _ (HBO2.out.drewN nd) h1 h2 (by rw [← HN.out]; exact hlt) (by omega)).mono ?_; rintro e w' ⟨rfl, kd, rfl⟩)
                  go_roundg (N - (j + 1))
                  case measure => have := hk.out; omega
                  case rel => exact ⟨j + 1, _, nd + kd, by go_num, rfl, by omega, rfl, by simp, TAKE.out t0 t1 (by omega)⟩
                · have t3' : decide (x < best) = false := by simpa using t3
                  go_wp2_with (go_at_call 43; refine (pends_any b g cap m j s 120 _ (HBO2.out.drewN nd) h1 h2 (by rw [← HN.out]; exact hlt) (by omega)).mono ?_; rintro e w' ⟨rfl, kd, rfl⟩)
                  go_roundg (N - (j + 1))
                  case measure => have := hk.out; omega
                  case rel => exact ⟨j + 1, _, nd + kd, by go_num, rfl, by omega, rfl, by simp, KEEP.out (by omega)⟩
            · have t1' : decide (0 ≤ x) = false := by simpa using t1
              go_wp2_with (go_at_call 43; refine (pends_any b g cap m j s 120 _ (HBO2.out.drewN nd) h1 h2 (by rw [← HN.out]; exact hlt) (by omega)).mono ?_; rintro e w' ⟨rfl, kd, rfl⟩)
              go_roundg (N - (j + 1))
              case measure => have := hk.out; omega
              case rel => exact ⟨j + 1, _, nd + kd, by go_num, rfl, by omega, rfl, by simp, KEEP.out (by omega)⟩
          · have t0' : beginsB m 120 j = false := by simpa using t0
            go_wp2_with (go_at_call 43; refine (pends_any b g cap m j s 120 _ (HBO2.out.drewN nd) h1 h2 (by rw [← HN.out]; exact hlt) (by omega)).mono ?_; rintro e w' ⟨rfl, kd, rfl⟩)
            go_roundg (N - (j + 1))
            case measure => have := hk.out; omega
            case rel => exact ⟨j + 1, _, nd + kd, by go_num, rfl, by omega, rfl, by simp, KEEP.out (by exact fun h => t0 h.1)⟩
        · obtain rfl : N = j := by omega
          have B := Lib.hid (ANS.out _ (best_of_far (show ∀ a, a < m * m → _ from FAR'.out.least) (by rw [← HN.out]; exact MIN.out)))
          have bl : -1 ≤ best := MIN.out.1
          by_cases hb : best < 0
          · go_wp2_with fail
            go_ret2
            refine ⟨_, _, rfl, ?_, below_drewN' hLw2 nd⟩
            have := B.out
            rw [if_neg (by omega)] at this
            exact this
          · have hb' : decide (best < 0) = false := by rw [decide_eq_false_iff_not]; exact hb
            go_wp2_with fail
            go_ret2
            refine ⟨_, _, rfl, ?_, below_drewN' hLw2 nd⟩
            have := B.out
            rw [if_pos (by omega)] at this
            have e : ((some best.toNat).getD 0 : Nat) = best := by simp; omega
            rw [e] at this
            exact this
    · by_cases ho : isO pl = true
      · have hpe := isO_eq ho
        have hx' : isX pl = false := by simpa using hx
        have h0 : 0 < pl.size := by rw [hpe]; decide
        have tx : pl.toList = [111] := by rw [hpe, ByteArray.toList_eq]
        have hp0 : pl[0].toNat = 111 := by subst hpe; rfl
        have ANS := Lib.hid (show ∀ r, Best m s 111 0 1 r → NeedsIs m s pl (r.getD 0 : Nat) (match r with | none => 10 | some _ => 0) from
          fun r hr => .inr (.inr ⟨HE.out, 111, .inr ⟨hx', ho, rfl⟩, r, hr, rfl, rfl⟩))
        have HP0 := Lib.hid (show (pl[0].toNat : Int) = 111 by omega)
        clear hpe hx
        obtain ⟨N, hN⟩ : ∃ N, N = m * m := ⟨_, rfl⟩
        have hN121 : N ≤ 121 := by have := Nat.mul_le_mul h2 h2; omega
        have hnn : (m : Int) * m = (N : Int) := by rw [hN]; exact (Int.natCast_mul m m).symm
        have HN := Lib.hid hN
        clear hN
        have cpl := cplw
        go_enter Tryd.func16, Tryd.ntmps16
        go_wp2_with (go_at_call 40; refine (boarded_ok m s true _ (by omega) HE.out).mono ?_; rintro e w1 ⟨hL1, b, g, cap, rfl, hb, hg, hbg, hBo⟩; have cpl1 : w1.cell? ⟨w.heap.size, 0, none⟩ = some (.string pl) := (hL1.cell (p := ⟨w.heap.size, 0, none⟩) (by simp)).trans cpl)
        have hLw : Below w.heap.size w w1 := ((Below.refl _ _).alloc (Nat.le_refl _) _).trans (hL1.mono (by simp))
        have hz1 : w.heap.size < w1.heap.size := by have := hL1.size; simp at this; omega
        have hS1 := Lib.hid (hS.below hLw)
        have HBO := Lib.hid hBo
        have CLO := Lib.hid (clo42 w1 w.heap.size s pl 111 hz1 h0 HP0.out cpl1)
        have PC := Lib.hid (show ∀ a, pcost s 111 0 1 a ≤ 1 from fun a => by unfold pcost costI; split <;> split <;> (try split) <;> omega)
        clear hBo cpl hb hg
        go_wp2_with (first | (go_at_call 41; refine (far42_any b g cap m w.heap.size s 111 0 1 _ HBO.out h1 h2 h3 hS1.out (by omega) (by omega) (by omega) PC.out CLO.out).mono ?_; rintro e w2 ⟨go, o, rfl, hgo, hO, hL2, FAR⟩))
        rw [← HN.out]
        have FAR' := Lib.hid FAR
        have hLw2 := hLw.trans (hL2.mono hLw.size)
        have HBO2 := Lib.hid (HBO.out.more hL2)
        have cpl2 : w2.cell? ⟨w.heap.size, 0, none⟩ = some (.string pl) := by rw [hL2.cell (p := ⟨w.heap.size, 0, none⟩) hz1]; exact cpl1
        clear FAR cpl1 cplw
        go_wp2_with fail
        go_loopg [11, 40] N (fun k bs x wr => ∃ (j : Nat) (best : Int) (nd : Nat), x = .int .i64 j ∧ bs = .int .i64 best ∧ j ≤ N ∧ Hid (k = N - j) ∧ wr = w2.drewN nd ∧ Hid (MinP m 111 o best j))
        case atStart => exact ⟨0, -1, 0, rfl, rfl, by omega, rfl, rfl, MinP.start _ _ _⟩
        case round =>
          obtain ⟨j, best, nd, rfl, rfl, hj, hk, rfl, MIN⟩ := hrel
          by_cases hlt : j < N
          · obtain ⟨x, hx⟩ : ∃ x, x = o.getD j 0 := ⟨_, rfl⟩
            have co : w2.cell? ⟨go, j, none⟩ = some (.int .i64 x) := by rw [hx, hO.cell, ints_get _ _ (by have := FAR'.out.len; have := HN.out; omega)]
            have bl : -1 ≤ best := MIN.out.1
            have xl : -1 ≤ x := by rw [hx]; exact FAR'.out.low j (by rw [← HN.out]; exact hlt)
            have KEEP := Lib.hid (fun hn => MIN.out.keep (j := j) hn)
            have TAKE := Lib.hid (fun h1 h2 h3 => MIN.out.take (j := j) h1 h2 h3)
            rw [← hx] at KEEP TAKE
            clear hx
            by_cases t0 : beginsB m 111 j = true
            · by_cases t1 : 0 ≤ x
              · by_cases t2 : best < 0
                · go_wp2_with (go_at_call 43; refine (pends_any b g cap m j s 111 _ (HBO2.out.drewN nd) h1 h2 (by rw [← HN.out]; exact hlt) (by omega)).mono ?_; rintro e w' ⟨rfl, kd, rfl⟩)
                  go_roundg (N - (j + 1))
                  case measure => have := hk.out; omega
                  case rel => exact ⟨j + 1, _, nd + kd, by go_num, rfl, by omega, rfl, by simp, TAKE.out t0 t1 (by omega)⟩
                · by_cases t3 : x < best
                  · go_wp2_with (go_at_call 43; refine (pends_any b g cap m j s 111 _ (HBO2.out.drewN nd) h1 h2 (by rw [← HN.out]; exact hlt) (by omega)).mono ?_; rintro e w' ⟨rfl, kd, rfl⟩)
                    go_roundg (N - (j + 1))
                    case measure => have := hk.out; omega
                    case rel => exact ⟨j + 1, _, nd + kd, by go_num, rfl, by omega, rfl, by simp, TAKE.out t0 t1 (by omega)⟩
                  · have t3' : decide (x < best) = false := by simpa using t3
                    go_wp2_with (go_at_call 43; refine (pends_any b g cap m j s 111 _ (HBO2.out.drewN nd) h1 h2 (by rw [← HN.out]; exact hlt) (by omega)).mono ?_; rintro e w' ⟨rfl, kd, rfl⟩)
                    go_roundg (N - (j + 1))
                    case measure => have := hk.out; omega
                    case rel => exact ⟨j + 1, _, nd + kd, by go_num, rfl, by omega, rfl, by simp, KEEP.out (by omega)⟩
              · have t1' : decide (0 ≤ x) = false := by simpa using t1
                go_wp2_with (go_at_call 43; refine (pends_any b g cap m j s 111 _ (HBO2.out.drewN nd) h1 h2 (by rw [← HN.out]; exact hlt) (by omega)).mono ?_; rintro e w' ⟨rfl, kd, rfl⟩)
                go_roundg (N - (j + 1))
                case measure => have := hk.out; omega
                case rel => exact ⟨j + 1, _, nd + kd, by go_num, rfl, by omega, rfl, by simp, KEEP.out (by omega)⟩
            · have t0' : beginsB m 111 j = false := by simpa using t0
              go_wp2_with (go_at_call 43; refine (pends_any b g cap m j s 111 _ (HBO2.out.drewN nd) h1 h2 (by rw [← HN.out]; exact hlt) (by omega)).mono ?_; rintro e w' ⟨rfl, kd, rfl⟩)
              go_roundg (N - (j + 1))
              case measure => have := hk.out; omega
              case rel => exact ⟨j + 1, _, nd + kd, by go_num, rfl, by omega, rfl, by simp, KEEP.out (by exact fun h => t0 h.1)⟩
          · obtain rfl : N = j := by omega
            have B := Lib.hid (ANS.out _ (best_of_far (show ∀ a, a < m * m → _ from FAR'.out.least) (by rw [← HN.out]; exact MIN.out)))
            have bl : -1 ≤ best := MIN.out.1
            by_cases hb : best < 0
            · go_wp2_with fail
              go_ret2
              refine ⟨_, _, rfl, ?_, below_drewN' hLw2 nd⟩
              have := B.out
              rw [if_neg (by omega)] at this
              exact this
            · have hb' : decide (best < 0) = false := by rw [decide_eq_false_iff_not]; exact hb
              go_wp2_with fail
              go_ret2
              refine ⟨_, _, rfl, ?_, below_drewN' hLw2 nd⟩
              have := B.out
              rw [if_pos (by omega)] at this
              have e : ((some best.toNat).getD 0 : Nat) = best := by simp; omega
              rw [e] at this
              exact this
      · have hx' : isX pl = false := by simpa using hx
        have ho' : isO pl = false := by simpa using ho
        have R := Lib.hid (show NeedsIs m s pl 0 2 from .inr (.inl ⟨HE.out, hx', ho', rfl, rfl⟩))
        have t1 : ¬ pl.toList = [120] := by rw [ByteArray.toList_eq]; simpa [isX] using hx'
        have t2 : ¬ pl.toList = [111] := by rw [ByteArray.toList_eq]; simpa [isO] using ho'
        have t3 : (pl.toList == [120]) = false := by simpa using t1
        have t4 : (pl.toList == [111]) = false := by simpa using t2
        clear hx ho hx' ho' t1 t2
        go_enter Tryd.func16, Tryd.ntmps16
        go_wp2_with (go_at_call 40; refine (boarded_ok m s true _ (by omega) HE.out).mono ?_; rintro e w1 ⟨hL1, b, g, cap, rfl, hb, hg, hbg, hBo⟩; have cpl1 : w1.cell? ⟨w.heap.size, 0, none⟩ = some (.string pl) := (hL1.cell (p := ⟨w.heap.size, 0, none⟩) (by simp)).trans cplw)
        have hLw : Below w.heap.size w w1 := ((Below.refl _ _).alloc (Nat.le_refl _) _).trans (hL1.mono (by simp))
        clear hBo cplw
        go_wp2_with fail
        go_ret2
        exact ⟨_, _, rfl, R.out, hLw⟩
  · have R := Lib.hid (show NeedsIs n s pl 0 (boardErr n s true) from .inl ⟨he, rfl, rfl⟩)
    have HE := Lib.hid he
    have heb : (boardErr n s true != 0) = true := by simp [he]
    clear he
    go_enter Tryd.func16, Tryd.ntmps16
    go_wp2_with (go_at_call 40; refine (boarded_err n s true _ (by omega) HE.out).mono ?_; rintro e w1 ⟨rfl, hL1⟩)
    have hLw : Below w.heap.size w w1 := ((Below.refl _ _).alloc (Nat.le_refl _) _).trans (hL1.mono (by simp))
    go_wp2_with fail
    go_ret2
    exact ⟨_, _, rfl, R.out, hLw⟩

end Go.Proofs.YtpbiminbhihjnaaDoor
