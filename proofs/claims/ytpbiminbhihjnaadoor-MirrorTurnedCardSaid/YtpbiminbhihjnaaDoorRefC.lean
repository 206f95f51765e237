/-
  A part of the proofs over the mirror (layer 4): RefC.
-/
import Derived.Test.YtpbiminbhihjnaaDoorRefB
import Derived.Test.YtpbiminbhihjnaaDoorPlain
namespace Go.Proofs.YtpbiminbhihjnaaDoor
open Go.RowKit Dist
set_option linter.unusedSimpArgs false
set_option linter.unusedVariables false

/-- Two numbers handed back, the world as it was but for new blocks. -/
def TwoPost (R : Int → Int → Prop) (w : World) (e : Ending) (w' : World) : Prop :=
  ∃ v er : Int, e = .returned (.tuple #[.int .i64 v, .int .i64 er]) ∧ R v er ∧ Below w.heap.size w w'

set_option maxHeartbeats 1000000 in
theorem refNeeds_any (n : Int) (s pl : ByteArray) (w : World) (hs : s.size ≤ 1000) (hpl : pl.size ≤ 1000) :
    Calls Tryd.prog 17 #[.int .i64 n, .string s, .string pl] w (TwoPost (NeedsIs n s pl) w) := by
  by_cases he : boardErr n s true = 0
  · obtain ⟨m, rfl, h1, h2, h3, h4⟩ := board_ok he
    have heb : (boardErr m s true != 0) = false := by simp [he]
    have HE := Lib.hid he
    clear he
    by_cases hx : isX pl = true
    · have hpe := isX_eq hx
      have h0 : 0 < pl.size := by rw [hpe]; decide
      have tx : pl.toList = [120] := by rw [hpe, ByteArray.toList_eq]
      have hp0 : pl[0].toNat = 120 := by subst hpe; rfl
      have ANS := Lib.hid (show ∀ r, Best m s 120 0 1 r → NeedsIs m s pl (r.getD 0 : Nat) (match r with | none => 10 | some _ => 0) from
        fun r hr => .inr (.inr ⟨HE.out, 120, .inl ⟨hx, rfl⟩, r, hr, rfl, rfl⟩))
      clear hpe hx
      go_enter Tryd.func17, Tryd.ntmps17
      go_wp2_with (go_at_call 20; refine (board_any _ _ _ _ (by omega)).mono ?_; rintro e w' ⟨rfl, rfl⟩)
      refine (ways_any m s 120 0 1 _ h1 h2 h3 (by omega) (by omega)).mono ?_
      rintro e w1 ⟨g, o, rfl, hg, hB, hBel, INV, FIX⟩
      obtain ⟨N, hN⟩ : ∃ N, N = m * m := ⟨_, rfl⟩
      have hN121 : N ≤ 121 := by have := Nat.mul_le_mul h2 h2; omega
      have hnn : (m : Int) * m = (N : Int) := by rw [hN]; exact (Int.natCast_mul m m).symm
      rw [← hN]
      have HN := Lib.hid hN
      have INV' := Lib.hid INV
      have FIX' := Lib.hid FIX
      clear hN INV FIX
      go_wp2_with fail
      go_loopg [10, 11] N (fun k b i wr => ∃ (j : Nat) (best : Int), i = .int .i64 j ∧ b = .int .i64 best ∧ j ≤ N ∧ Hid (k = N - j) ∧ Blk wr g 3 (ints o) ∧ Below w.heap.size w wr ∧ Hid (MinTo m 120 o best j))
      case atStart => exact ⟨0, 1000, rfl, rfl, by omega, rfl, hB, hBel, MinTo.start _ _ _⟩
      case round =>
        clear hB hBel
        obtain ⟨j, best, rfl, rfl, hj, hk, hB, hBel, MIN⟩ := hrel
        by_cases hlt : j < N
        · obtain ⟨x, hx⟩ : ∃ x, x = o.getD j 0 := ⟨_, rfl⟩
          have co : wr.cell? ⟨g, j, none⟩ = some (.int .i64 x) := by rw [hx, hB.cell, ints_get _ _ (by have := INV'.out.len; have := HN.out; omega)]
          have HX := Lib.hid hx
          clear hx
          by_cases hbg : beginsB m 120 j = true
          · go_wp2_with (go_at_call 45; refine (begins_any _ _ _ _ (by omega) (by omega) (by omega)).mono ?_; rintro e w' ⟨rfl, rfl⟩)
            all_goals
              go_roundg (N - (j + 1))
              case measure => have := hk.out; omega
              case rel => exact ⟨j + 1, _, by go_num, rfl, by omega, rfl, hB, hBel, MIN.out.take hbg (by rw [← HX.out, Int.min_def]; first | (rw [if_pos (by assumption)]; done) | (rw [if_neg (by assumption)]; done) | (split <;> omega))⟩
          · have hbg' : beginsB m 120 j = false := by simpa using hbg
            clear hbg
            go_wp2_with (go_at_call 45; refine (begins_any _ _ _ _ (by omega) (by omega) (by omega)).mono ?_; rintro e w' ⟨rfl, rfl⟩)
            go_roundg (N - (j + 1))
            case measure => have := hk.out; omega
            case rel => exact ⟨j + 1, best, by go_num, rfl, by omega, rfl, hB, hBel, MIN.out.skip hbg'⟩
        · obtain rfl : N = j := by omega
          have B := Lib.hid (ANS.out _ (best_of (fix_least h2 (by omega) (by omega) INV'.out FIX'.out) INV'.out.bd (by rw [← HN.out]; exact MIN.out)))
          have POS := Lib.hid (show 0 ≤ best by
            rcases MIN.out.2.1 with e | ⟨a, ha, _, e⟩
            · omega
            · have := INV'.out.bd a (by rw [← HN.out]; exact ha); omega)
          by_cases hb : best < 1000
          · go_wp2_with fail
            go_ret2
            refine ⟨_, _, rfl, ?_, hBel⟩
            have := B.out
            rw [if_pos hb] at this
            have e : ((some best.toNat).getD 0 : Nat) = best := by have := POS.out; simp; omega
            rw [e] at this
            exact this
          · go_wp2_with fail
            go_ret2
            refine ⟨_, _, rfl, ?_, hBel⟩
            have := B.out
            rw [if_neg (by omega)] at this
            exact this
    · by_cases ho : isO pl = true
      · have hpe := isO_eq ho
        have hx' : isX pl = false := by simpa using hx
        have h0 : 0 < pl.size := by rw [hpe]; decide
        have tx : pl.toList = [111] := by rw [hpe, ByteArray.toList_eq]
        have hp0 : pl[0].toNat = 111 := by subst hpe; rfl
        have ANS := Lib.hid (show ∀ r, Best m s 111 0 1 r → NeedsIs m s pl (r.getD 0 : Nat) (match r with | none => 10 | some _ => 0) from
          fun r hr => .inr (.inr ⟨HE.out, 111, .inr ⟨hx', ho, rfl⟩, r, hr, rfl, rfl⟩))
        clear hpe hx
        go_enter Tryd.func17, Tryd.ntmps17
        go_wp2_with (go_at_call 20; refine (board_any _ _ _ _ (by omega)).mono ?_; rintro e w' ⟨rfl, rfl⟩)
        refine (ways_any m s 111 0 1 _ h1 h2 h3 (by omega) (by omega)).mono ?_
        rintro e w1 ⟨g, o, rfl, hg, hB, hBel, INV, FIX⟩
        obtain ⟨N, hN⟩ : ∃ N, N = m * m := ⟨_, rfl⟩
        have hN121 : N ≤ 121 := by have := Nat.mul_le_mul h2 h2; omega
        have hnn : (m : Int) * m = (N : Int) := by rw [hN]; exact (Int.natCast_mul m m).symm
        rw [← hN]
        have HN := Lib.hid hN
        have INV' := Lib.hid INV
        have FIX' := Lib.hid FIX
        clear hN INV FIX
        go_wp2_with fail
        go_loopg [10, 11] N (fun k b i wr => ∃ (j : Nat) (best : Int), i = .int .i64 j ∧ b = .int .i64 best ∧ j ≤ N ∧ Hid (k = N - j) ∧ Blk wr g 3 (ints o) ∧ Below w.heap.size w wr ∧ Hid (MinTo m 111 o best j))
        case atStart => exact ⟨0, 1000, rfl, rfl, by omega, rfl, hB, hBel, MinTo.start _ _ _⟩
        case round =>
          clear hB hBel
          obtain ⟨j, best, rfl, rfl, hj, hk, hB, hBel, MIN⟩ := hrel
          by_cases hlt : j < N
          · obtain ⟨x, hx⟩ : ∃ x, x = o.getD j 0 := ⟨_, rfl⟩
            have co : wr.cell? ⟨g, j, none⟩ = some (.int .i64 x) := by rw [hx, hB.cell, ints_get _ _ (by have := INV'.out.len; have := HN.out; omega)]
            have HX := Lib.hid hx
            clear hx
            by_cases hbg : beginsB m 111 j = true
            · go_wp2_with (go_at_call 45; refine (begins_any _ _ _ _ (by omega) (by omega) (by omega)).mono ?_; rintro e w' ⟨rfl, rfl⟩)
              all_goals
                go_roundg (N - (j + 1))
                case measure => have := hk.out; omega
                case rel => exact ⟨j + 1, _, by go_num, rfl, by omega, rfl, hB, hBel, MIN.out.take hbg (by rw [← HX.out, Int.min_def]; first | (rw [if_pos (by assumption)]; done) | (rw [if_neg (by assumption)]; done) | (split <;> omega))⟩
            · have hbg' : beginsB m 111 j = false := by simpa using hbg
              clear hbg
              go_wp2_with (go_at_call 45; refine (begins_any _ _ _ _ (by omega) (by omega) (by omega)).mono ?_; rintro e w' ⟨rfl, rfl⟩)
              go_roundg (N - (j + 1))
              case measure => have := hk.out; omega
              case rel => exact ⟨j + 1, best, by go_num, rfl, by omega, rfl, hB, hBel, MIN.out.skip hbg'⟩
          · obtain rfl : N = j := by omega
            have B := Lib.hid (ANS.out _ (best_of (fix_least h2 (by omega) (by omega) INV'.out FIX'.out) INV'.out.bd (by rw [← HN.out]; exact MIN.out)))
            have POS := Lib.hid (show 0 ≤ best by
              rcases MIN.out.2.1 with e | ⟨a, ha, _, e⟩
              · omega
              · have := INV'.out.bd a (by rw [← HN.out]; exact ha); omega)
            by_cases hb : best < 1000
            · go_wp2_with fail
              go_ret2
              refine ⟨_, _, rfl, ?_, hBel⟩
              have := B.out
              rw [if_pos hb] at this
              have e : ((some best.toNat).getD 0 : Nat) = best := by have := POS.out; simp; omega
              rw [e] at this
              exact this
            · go_wp2_with fail
              go_ret2
              refine ⟨_, _, rfl, ?_, hBel⟩
              have := B.out
              rw [if_neg (by omega)] at this
              exact this
      · have hx' : isX pl = false := by simpa using hx
        have ho' : isO pl = false := by simpa using ho
        have R := Lib.hid (show NeedsIs m s pl 0 2 from .inr (.inl ⟨HE.out, hx', ho', rfl, rfl⟩))
        have t1 : ¬ pl.toList = [120] := by rw [ByteArray.toList_eq]; simpa [isX] using hx'
        have t2 : ¬ pl.toList = [111] := by rw [ByteArray.toList_eq]; simpa [isO] using ho'
        have t3 : (pl.toList == [120]) = false := by simpa using t1
        have t4 : (pl.toList == [111]) = false := by simpa using t2
        clear hx ho hx' ho' t1 t2
        go_enter Tryd.func17, Tryd.ntmps17
        go_wp2_with (go_at_call 20; refine (board_any _ _ _ _ (by omega)).mono ?_; rintro e w' ⟨rfl, rfl⟩)
        go_ret2
        exact ⟨_, _, rfl, R.out, Below.refl _ _⟩
  · have heb : (boardErr n s true != 0) = true := by simp [he]
    have R := Lib.hid (show NeedsIs n s pl 0 (boardErr n s true) from .inl ⟨he, rfl, rfl⟩)
    clear he
    go_enter Tryd.func17, Tryd.ntmps17
    go_wp2_with (go_at_call 20; refine (board_any _ _ _ _ (by omega)).mono ?_; rintro e w' ⟨rfl, rfl⟩)
    go_ret2
    exact ⟨_, _, rfl, R.out, Below.refl _ _⟩

end Go.Proofs.YtpbiminbhihjnaaDoor
