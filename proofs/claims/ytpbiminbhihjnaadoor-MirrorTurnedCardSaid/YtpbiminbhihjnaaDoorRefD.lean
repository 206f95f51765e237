/-
  A part of the proofs over the mirror (layer 4): RefD.
-/
import Derived.Test.YtpbiminbhihjnaaDoorRefC
namespace Go.Proofs.YtpbiminbhihjnaaDoor
open Go.RowKit Dist
set_option linter.unusedSimpArgs false
set_option linter.unusedVariables false

def asInts (l : List Nat) : List Int := List.map (fun a : Nat => (a : Int)) l

theorem asInts_len (l : List Nat) : (asInts l).length = l.length := by unfold asInts; simp
theorem asInts_snoc (l : List Nat) (a : Nat) : asInts l ++ [(a : Int)] = asInts (l ++ [a]) := by unfold asInts; simp
theorem asInts_getD (l : List Nat) (i a : Nat) (h : l[i]? = some a) : (asInts l).getD i 0 = a := by unfold asInts; simp [h]

/-- A list of places handed back in new memory. -/
def ListPost (R : List Nat → Prop) (w : World) (e : Ending) (w' : World) : Prop :=
  ∃ v l, e = .returned v ∧ R l ∧ Own w' w.heap.size v (asInts l) ∧ Below w.heap.size w w' ∧ l.length ≤ 121

/-- The places before a do not fit next. -/
def NoFit (n : Nat) (s : ByteArray) (p : Int) (k : Nat) (l : List Nat) (a : Nat) : Prop := ∀ a', a' < a → ¬ Fits n s p k l l.length a'

theorem NoFit.succ {n : Nat} {s : ByteArray} {p : Int} {k : Nat} {l : List Nat} {a : Nat} (h : NoFit n s p k l a) (hn : ¬ Fits n s p k l l.length a) : NoFit n s p k l (a + 1) := by
  intro a' ha'
  by_cases e : a' = a
  · subst e; exact hn
  · exact h a' (by omega)

set_option maxHeartbeats 1000000 in
set_option maxRecDepth 100000 in
theorem shortest_any (n : Nat) (s : ByteArray) (p : Int) (w : World) (h1 : 1 ≤ n) (h2 : n ≤ 11) (hs : s.size = n * n) :
    Calls Tryd.prog 62 #[.int .i64 n, .string s, .int .u8 p] w (ListPost (Short n s p) w) := by
  go_enter Tryd.func62, Tryd.ntmps62
  go_wp2_with fail
  refine (ways_any n s p 1 1000 _ h1 h2 hs (by omega) (by omega)).mono ?_
  rintro e w1 ⟨g, o, rfl, hg, hB, hBel, INV, FIX⟩
  obtain ⟨N, hN⟩ : ∃ N, N = n * n := ⟨_, rfl⟩
  have hN121 : N ≤ 121 := by have := Nat.mul_le_mul h2 h2; omega
  have hnn : (n : Int) * n = (N : Int) := by rw [hN]; exact (Int.natCast_mul n n).symm
  rw [← hN]
  have hs' : s.size ≤ 1000 := by omega
  have HN := Lib.hid hN
  have LEAST := Lib.hid (fix_least h2 (by omega) (by omega) INV FIX)
  have INV' := Lib.hid INV
  clear hN INV FIX hs
  go_wp2_with fail
  go_loopg [8, 9] N (fun k b i wr => ∃ (j : Nat) (best : Int), i = .int .i64 j ∧ b = .int .i64 best ∧ j ≤ N ∧ Hid (k = N - j) ∧ Blk wr g 3 (ints o) ∧ Below w.heap.size w wr ∧ Hid (MinTo n p o best j))
  case atStart => exact ⟨0, 1000, rfl, rfl, by omega, rfl, hB, hBel, MinTo.start _ _ _⟩
  case round =>
    clear hB hBel
    obtain ⟨j, best, rfl, rfl, hj, hk, hB, hBel, MIN⟩ := hrel
    by_cases hlt : j < N
    · obtain ⟨x, hx⟩ : ∃ x, x = o.getD j 0 := ⟨_, rfl⟩
      have co : wr.cell? ⟨g, j, none⟩ = some (.int .i64 x) := by rw [hx, hB.cell, ints_get _ _ (by have := INV'.out.len; have := HN.out; omega)]
      have HX := Lib.hid hx
      clear hx
      by_cases hbg : beginsB n p j = true
      · go_wp2_with (go_at_call 45; refine (begins_any _ _ _ _ (by omega) (by omega) (by omega)).mono ?_; rintro e w' ⟨rfl, rfl⟩)
        all_goals
          go_roundg (N - (j + 1))
          case measure => have := hk.out; omega
          case rel => exact ⟨j + 1, _, by go_num, rfl, by omega, rfl, hB, hBel, MIN.out.take hbg (by rw [← HX.out, Int.min_def]; first | (rw [if_pos (by assumption)]; done) | (rw [if_neg (by assumption)]; done) | (split <;> omega))⟩
      · have hbg' : beginsB n p j = false := by simpa using hbg
        clear hbg
        go_wp2_with (go_at_call 45; refine (begins_any _ _ _ _ (by omega) (by omega) (by omega)).mono ?_; rintro e w' ⟨rfl, rfl⟩)
        go_roundg (N - (j + 1))
        case measure => have := hk.out; omega
        case rel => exact ⟨j + 1, best, by go_num, rfl, by omega, rfl, hB, hBel, MIN.out.skip hbg'⟩
    · obtain rfl : N = j := by omega
      have B := Lib.hid (best_of LEAST.out INV'.out.bd (by rw [← HN.out]; exact MIN.out))
      have pos : 0 ≤ best ∧ best ≤ 1000 := by
        refine ⟨?_, MIN.out.1⟩
        rcases MIN.out.2.1 with e | ⟨a, ha, _, e⟩
        · omega
        · have := INV'.out.bd a (by rw [← HN.out]; exact ha); omega
      clear MIN hk hlt hj
      obtain ⟨base, hbase⟩ : ∃ base, base = wr.heap.size := ⟨_, rfl⟩
      have hbw : w.heap.size ≤ base := by rw [hbase]; exact hBel.size
      have hgb : g < base := by rw [hbase]; exact hB.lt
      by_cases hb : best < 1000
      · obtain ⟨k, hk⟩ : ∃ k : Nat, best = k := ⟨best.toNat, by omega⟩
        have hk1 : k < 1000 := by omega
        have BS := Lib.hid (show Best n s p 1 1000 (some k) by have := B.out; rw [if_pos hb, hk] at this; simpa using this)
        subst hk
        have hk121 : k ≤ 121 := by
          obtain ⟨⟨a, _, _, hl⟩, _⟩ := BS.out
          have h3 := Graph.least_le (G := graph n s p 1 1000) (fun a k hk => by
            have h4 : (if costI s p 1 1000 a < 1000 then some (costI s p 1 1000 a).toNat else none) = some k := hk
            split at h4
            · injection h4 with h4
              rename_i hc
              unfold costI at h4 hc
              split at h4
              · omega
              · split at h4
                · rename_i e1 e2; rw [if_neg e1, if_pos e2] at hc; omega
                · rename_i e1 e2; rw [if_neg e1, if_neg e2] at hc; omega
            · cases h4) hl
          have h5 : (graph n s p 1 1000).N = n * n := rfl
          have := HN.out
          omega
        clear B
        go_wp2_with fail
        go_loopg [10] k (fun q vv wr => ∃ (v : Value) (l : List Nat), vv = v ∧ Hid (q = k - l.length) ∧ l.length ≤ k ∧ Own wr base v (asInts l) ∧ Blk wr g 3 (ints o) ∧ Below w.heap.size w wr ∧ base ≤ wr.heap.size ∧ Hid (Lead n s p k l))
        case atStart => exact ⟨_, [], rfl, by rfl, by simp, (Own.nil _ _ : Own _ _ _ (asInts [])), hB, hBel, by omega, lead_nil _ _ _ _⟩
        case round =>
          clear hB hBel hbase
          obtain ⟨v, l, hvv, hq, hl, hO, hB, hBel, hbs, LEAD⟩ := hrel
          subst hvv
          obtain ⟨M, hM⟩ : ∃ M, M = l.length := ⟨_, rfl⟩
          have OW := Lib.hid (show Own wr w.heap.size u10 (asInts l) from by
            obtain ⟨a1, a2⟩ := hO
            exact ⟨a1, a2.imp id fun ⟨g, cap, cur, q1, q2, q3⟩ => ⟨g, cap, cur, q1, Nat.le_trans hbw q2, q3⟩⟩)
          by_cases hle : k ≤ l.length
          · obtain ⟨A, cap, rfl⟩ := hO.shape
            rw [asInts_len] at *
            have hk0 : ¬ ((l.length : Nat) : Int) < (k : Int) := by omega
            clear hM
            go_wp2_with fail
            go_ret
            exact ⟨_, l, rfl, ⟨some k, BS.out, by have := hle; omega, LEAD.out⟩, OW.out, hBel, by omega⟩
          · have hMk : M < k := by omega
            rcases Nat.eq_zero_or_pos l.length with h0 | h0
            · obtain ⟨A, cap, rfl⟩ := hO.shape
              have HM := Lib.hid h0
              rw [asInts_len, h0] at hO ⊢
              have hk0 : (0 : Int) < (k : Int) := by omega
              clear hM hMk OW hle h0 hl
              go_wp2_with fail
              go_loopg [10, 11] N (fun q u a wr => ∃ (j : Nat), u = .slice A 0 cap ∧ a = .int .i64 j ∧ j ≤ N ∧ Hid (q = N - j) ∧ Own wr base (.slice A 0 cap) (asInts l) ∧ Blk wr g 3 (ints o) ∧ Below w.heap.size w wr ∧ base ≤ wr.heap.size ∧ Hid (NoFit n s p k l j))
              case atStart => exact ⟨0, rfl, rfl, by omega, rfl, hO, hB, hBel, hbs, fun a' h => by omega⟩
              case round =>
                clear hO hB hBel hbs
                obtain ⟨j, rfl, rfl, hj, hq2, hO, hB, hBel, hbs, NF⟩ := hrel
                by_cases hlj : j < N
                · obtain ⟨x, hx⟩ : ∃ x, x = o.getD j 0 := ⟨_, rfl⟩
                  have co : wr.cell? ⟨g, j, none⟩ = some (.int .i64 x) := by rw [hx, hB.cell, ints_get _ _ (by have := INV'.out.len; have := HN.out; omega)]
                  have bx : 0 ≤ x ∧ x ≤ 1000 := by have := INV'.out.bd j (by rw [← HN.out]; exact hlj); omega
                  have FT := Lib.hid (show (graph n s p 1 1000).Least j (some (k - l.length)) ↔ x = (k : Int) by
                    have := least_tab LEAST.out INV'.out.bd (a := j) (by rw [← HN.out]; exact hlj) (d := k - l.length) (by omega)
                    rw [this, ← hx]
                    have := HM.out
                    omega)
                  clear hx
                  by_cases t1 : (x == (k : Int)) = true
                  · by_cases t2 : beginsB n p j = true
                    · have FI := Lib.hid (show Fits n s p k l l.length j from ⟨FT.out.2 (beq_iff_eq.1 t1), .inl ⟨by have := HM.out; omega, t2⟩⟩)
                      go_wp2_with (first | (go_at_call 45; refine (begins_any _ _ _ _ (by omega) (by omega) (by omega)).mono ?_; rintro e w' ⟨rfl, rfl⟩) | (at_builtin; refine app_int rfl _ _ rfl base _ (asInts l) rfl hO (j : Int) rfl (by rw [asInts_len]; have := HM.out; omega) hbs ?_; intro v' w1 hO1 hb1))
                      go_roundg (k - (l.length + 1))
                      case measure => have := hq.out; have := HM.out; omega
                      case rel =>
                        refine ⟨_, l ++ [j], rfl, (by simp : k - (l.length + 1) = k - (l ++ [j]).length), by have := HM.out; simp; omega, ?_, Blk.below hB hb1 hgb, ?_, ?_, lead_snoc LEAD.out (by rw [← HN.out]; exact hlj) FI.out NF.out⟩
                        · rw [asInts_snoc] at hO1; exact hO1
                        · exact Below.trans hBel (hb1.mono hbw)
                        · exact Nat.le_trans hbs hb1.size
                    · have t2' : beginsB n p j = false := by simpa using t2
                      clear t2
                      have NFI := Lib.hid (show ¬ Fits n s p k l l.length j from by
                      rintro ⟨_, ⟨_, c⟩ | ⟨b, c, _⟩⟩
                      · rw [t2'] at c; cases c
                      · have := HM.out; omega)
                      go_wp2_with (go_at_call 45; refine (begins_any _ _ _ _ (by omega) (by omega) (by omega)).mono ?_; rintro e w' ⟨rfl, rfl⟩)
                      go_roundg (N - (j + 1))
                      case measure => have := hq2.out; omega
                      case rel => exact ⟨j + 1, rfl, by go_num, by omega, rfl, hO, hB, hBel, hbs, NF.out.succ NFI.out⟩
                  · have t1' : (x == (k : Int)) = false := by simpa using t1
                    have NFI := Lib.hid (show ¬ Fits n s p k l l.length j from fun h => t1 (beq_iff_eq.2 (FT.out.1 h.1)))
                    clear t1
                    go_wp2_with fail
                    go_roundg (N - (j + 1))
                    case measure => have := hq2.out; omega
                    case rel => exact ⟨j + 1, rfl, by go_num, by omega, rfl, hO, hB, hBel, hbs, NF.out.succ NFI.out⟩
                · exfalso
                  obtain ⟨a, ha, hf⟩ := fits_some BS.out LEAD.out (by have := HM.out; omega)
                  exact NF.out a (by have := HN.out; omega) hf
            · obtain ⟨g', cap, rfl, hcap, hbg', hlt', hcell'⟩ := hO.form (by rw [asInts_len]; exact h0)
              rw [asInts_len] at *
              have HM := Lib.hid hM
              have hM1 : 1 ≤ M := by omega
              have hMl : M - 1 < l.length := by omega
              rw [← hM] at hcap hcell' hO ⊢
              obtain ⟨b, hb⟩ : ∃ b, l[M - 1]? = some b := ⟨l[M - 1], List.getElem?_eq_getElem hMl⟩
              have hbN : b ≤ 121 := by
                have := (LEAD.out (M - 1) b hb).1
                have := HN.out
                omega
              have HB := Lib.hid hb
              clear hM OW hle hl hcell' hb
              go_wp2_with fail
              go_loopg [10, 11] N (fun q u a wr => ∃ (j : Nat), u = .slice (some ⟨g', 0, none⟩) M cap ∧ a = .int .i64 j ∧ j ≤ N ∧ Hid (q = N - j) ∧ Own wr base (.slice (some ⟨g', 0, none⟩) M cap) (asInts l) ∧ Blk wr g 3 (ints o) ∧ Below w.heap.size w wr ∧ base ≤ wr.heap.size ∧ Hid (NoFit n s p k l j))
              case atStart => exact ⟨0, rfl, rfl, by omega, rfl, hO, hB, hBel, hbs, fun a' h => by omega⟩
              case round =>
                clear hO hB hBel hbs
                obtain ⟨j, rfl, rfl, hj, hq2, hO, hB, hBel, hbs, NF⟩ := hrel
                by_cases hlj : j < N
                · obtain ⟨x, hx⟩ : ∃ x, x = o.getD j 0 := ⟨_, rfl⟩
                  have co : wr.cell? ⟨g, j, none⟩ = some (.int .i64 x) := by rw [hx, hB.cell, ints_get _ _ (by have := INV'.out.len; have := HN.out; omega)]
                  have bx : 0 ≤ x ∧ x ≤ 1000 := by have := INV'.out.bd j (by rw [← HN.out]; exact hlj); omega
                  have cb : wr.cell? ⟨g', M - 1, none⟩ = some (.int .i64 (b : Int)) := by
                    have := hO.cellAt (i := M - 1) (by rw [asInts_len, ← HM.out]; omega)
                    rwa [asInts_getD l _ b HB.out] at this
                  have FT := Lib.hid (show (graph n s p 1 1000).Least j (some (k - l.length)) ↔ x = (k : Int) - M by
                    have := least_tab LEAST.out INV'.out.bd (a := j) (by rw [← HN.out]; exact hlj) (d := k - l.length) (by omega)
                    rw [this, ← hx]
                    have := HM.out
                    omega)
                  clear hx
                  by_cases t1 : (x == (k : Int) - M) = true
                  · by_cases t2 : nearB n b j = true
                    · have FI := Lib.hid (show Fits n s p k l l.length j from ⟨FT.out.2 (beq_iff_eq.1 t1), .inr ⟨b, by have := HM.out; omega, by have := HM.out; rw [show l.length - 1 = M - 1 by omega]; exact HB.out, t2⟩⟩)
                      go_wp2_with (first | (go_at_call 65; refine (near_any _ _ _ _ (by omega) (by omega) (by omega) (by omega) (by omega) (by omega)).mono ?_; rintro e w' ⟨rfl, nq, rfl⟩) | (at_builtin; refine app_int rfl _ _ rfl base _ (asInts l) rfl (hO.drewN nq) (j : Int) rfl (by rw [asInts_len]; have := HM.out; omega) hbs ?_; intro v' w1 hO1 hb1))
                      go_roundg (k - (l.length + 1))
                      case measure => have := hq.out; have := HM.out; omega
                      case rel =>
                        refine ⟨_, l ++ [j], rfl, (by simp : k - (l.length + 1) = k - (l ++ [j]).length), by have := HM.out; simp; omega, ?_, Blk.below (hB.drewN nq) hb1 hgb, ?_, ?_, lead_snoc LEAD.out (by rw [← HN.out]; exact hlj) FI.out NF.out⟩
                        · rw [asInts_snoc] at hO1; exact hO1
                        · exact Below.trans (below_drewN' hBel nq) (hb1.mono hbw)
                        · exact Nat.le_trans hbs hb1.size
                    · have t2' : nearB n b j = false := by simpa using t2
                      clear t2
                      have NFI := Lib.hid (show ¬ Fits n s p k l l.length j from by
                      rintro ⟨_, ⟨c, _⟩ | ⟨b', _, c, d⟩⟩
                      · have := HM.out; omega
                      · have := HM.out; rw [show l.length - 1 = M - 1 by omega, HB.out] at c; injection c with c; subst c; rw [t2'] at d; cases d)
                      go_wp2_with (go_at_call 65; refine (near_any _ _ _ _ (by omega) (by omega) (by omega) (by omega) (by omega) (by omega)).mono ?_; rintro e w' ⟨rfl, nq, rfl⟩)
                      go_roundg (N - (j + 1))
                      case measure => have := hq2.out; omega
                      case rel => exact ⟨j + 1, rfl, by go_num, by omega, rfl, (hO.drewN nq), (hB.drewN nq), (below_drewN' hBel nq), hbs, NF.out.succ NFI.out⟩
                  · have t1' : (x == (k : Int) - M) = false := by simpa using t1
                    have NFI := Lib.hid (show ¬ Fits n s p k l l.length j from fun h => t1 (beq_iff_eq.2 (FT.out.1 h.1)))
                    clear t1
                    go_wp2_with fail
                    go_roundg (N - (j + 1))
                    case measure => have := hq2.out; omega
                    case rel => exact ⟨j + 1, rfl, by go_num, by omega, rfl, hO, hB, hBel, hbs, NF.out.succ NFI.out⟩
                · exfalso
                  obtain ⟨a, ha, hf⟩ := fits_some BS.out LEAD.out (by have := HM.out; omega)
                  exact NF.out a (by have := HN.out; omega) hf
      · go_wp2_with fail
        refine wp_loop_rounds 1 ?_
        rw [rounds_succ]
        go_wp2_with fail
        go_ret
        exact ⟨_, [], rfl, ⟨none, by have := B.out; rw [if_neg (by omega)] at this; exact this, rfl⟩, (Own.nil _ _ : Own _ _ _ (asInts [])), hBel, by simp⟩

end Go.Proofs.YtpbiminbhihjnaaDoor
