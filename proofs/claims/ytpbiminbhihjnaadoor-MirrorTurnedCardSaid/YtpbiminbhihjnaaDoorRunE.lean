/-
  A part of the proofs over the mirror (layer 4): RunE.
-/
import Derived.Test.YtpbiminbhihjnaaDoorRunD
namespace Go.Proofs.YtpbiminbhihjnaaDoor
open Go.RowKit Dist
set_option linter.unusedSimpArgs false
set_option linter.unusedVariables false

/-- The closure 79 says what a place costs. -/
def Clo79 (w : World) (bp : Nat) (s : ByteArray) (p own emp : Int) : Prop :=
  ∀ (W : World) (a : Nat), Below w.heap.size w W → a < s.size → Calls Tryd.prog 79 #[.int .u8 (bt s a), .pointer (some ⟨bp, 0, none⟩)] W fun e W' => e = .returned (.int .i64 (pcost s p own emp a)) ∧ W = W'

set_option maxHeartbeats 2000000 in
set_option maxRecDepth 100000 in
theorem far79_any (b g cap n bp : Nat) (s : ByteArray) (p own emp : Int) (w : World) (hB : BoardAt w b g cap n s) (h1 : 1 ≤ n) (h2 : n ≤ 11) (hsz : s.size = n * n) (hS : StepsAt w)
    (hp : p = 120 ∨ p = 111) (hown : 0 ≤ own) (hemp : 0 ≤ emp) (hpc : ∀ a, pcost s p own emp a ≤ 1) (hclo : Clo79 w bp s p own emp) :
    Calls Tryd.prog 41 #[.pointer (some ⟨b, 0, none⟩), .int .u8 p, .func (.func 79) #[] #[.pointer (some ⟨bp, 0, none⟩)]] w (FarPost n s p own emp w) := by
  have cb := hB.bytes_
  obtain ⟨N, hN⟩ : ∃ N, N = n * n := ⟨_, rfl⟩
  have hN121 : N ≤ 121 := by have := Nat.mul_le_mul h2 h2; omega
  have hN1 : 1 ≤ N := by have := Nat.mul_le_mul h1 h1; omega
  rw [← hN] at hsz
  have HN := Lib.hid hN
  clear hN
  rw [hsz] at cb
  have HSZ := Lib.hid hsz
  clear hsz
  have cb' : ∀ o, (w.alloc o).cell? ⟨b, 1, none⟩ = some (.slice (some ⟨g, 0, none⟩) N cap) := fun o => by rw [World.cell?_alloc_lt _ _ _ hB.1.lt]; exact cb
  have cone : (w.alloc (.cells #[.int .i64 (-1)] 3)).cell? ⟨w.heap.size, 0, none⟩ = some (.int .i64 (-1)) := by rw [(Blk.new w 3 _).cell]; rfl
  have HB := Lib.hid hB
  have HCLO := Lib.hid hclo
  clear hB hclo cb
  go_enter Tryd.func41, Tryd.ntmps41
  go_wp2_with (go_at_call 75; refine (repeat_any w.heap.size N _ cone (by simp) (by omega) (by omega)).mono ?_; rintro e w1 ⟨go, rfl, hgo, hO, hL0⟩)
  have hL : Below w.heap.size w w1 := ((Below.refl _ _).alloc (Nat.le_refl _) _).trans (hL0.mono (by simp))
  have hgo' : w.heap.size ≤ go := by simp at hgo; omega
  clear cb' cone hL0 hgo
  go_loopg [25] N (fun q x wr => ∃ (r : Nat) (o : List Int), x = .int .i64 r ∧ r ≤ N ∧ Hid (q = N - r) ∧ Blk wr go 3 (ints o) ∧ Below w.heap.size w wr ∧ Hid (FarInv n s p own emp o r 0))
  case atStart => exact ⟨0, List.replicate N (-1), rfl, by omega, rfl, hO, hL, by rw [HN.out]; exact FarInv.start⟩
  case round =>
    clear hO hL
    obtain ⟨r, o0, rfl, hr, hq, hO, hL, INV⟩ := hrel
    by_cases hlt : r < N
    · have cb : wr.cell? ⟨b, 1, none⟩ = some (.slice (some ⟨g, 0, none⟩) N cap) := by
        have := (HB.out.below hL HB.out.1.lt HB.out.2.1.lt).bytes_
        rw [HSZ.out] at this
        exact this
      go_wp2_with fail
      clear cb
      go_loopg [32] N (fun q x wr => ∃ (i : Nat) (o : List Int), x = .int .i64 i ∧ i ≤ N ∧ Hid (q = N - i) ∧ Blk wr go 3 (ints o) ∧ Below w.heap.size w wr ∧ Hid (FarInv n s p own emp o r i))
      case atStart => exact ⟨0, o0, rfl, by omega, rfl, hO, hL, INV⟩
      case round =>
        clear hO hL INV
        obtain ⟨i, o, rfl, hi, hq2, hO, hL, INV⟩ := hrel
        by_cases hlt2 : i < N
        · have hBr := Lib.hid (HB.out.below hL HB.out.1.lt HB.out.2.1.lt)
          have hSr := Lib.hid (hS.below hL)
          have ci : wr.cell? ⟨g, i, none⟩ = some (.int .u8 (bt s i)) := hBr.out.2.1.cell (by rw [HSZ.out]; exact hlt2)
          have CC := Lib.hid (HCLO.out wr i hL (by rw [HSZ.out]; exact hlt2))
          have PC := Lib.hid (hpc i)
          obtain ⟨c, hc⟩ : ∃ c, c = pcost s p own emp i := ⟨_, rfl⟩
          rw [← hc] at CC PC
          have HC := Lib.hid hc
          clear hc
          by_cases hneg : c < 0
          · go_wp2_with (go_at_call 79; refine CC.out.mono ?_; rintro e w' ⟨rfl, rfl⟩)
            go_roundg (N - (i + 1))
            case measure => have := hq2.out; omega
            case rel => exact ⟨i + 1, o, by go_num, by omega, rfl, hO, hL, INV.out.skip hown hemp (by rw [← HC.out]; exact hneg)⟩
          · have hc0 : 0 ≤ c := by omega
            have hcd : decide (c < 0) = false := by rw [decide_eq_false_iff_not]; omega
            have hc1 : c ≤ 1 := PC.out
            obtain ⟨lst, hlst⟩ : ∃ lst, lst = endsB n p i := ⟨_, rfl⟩
            have HLST := Lib.hid hlst
            clear hneg
            cases lst
            · have he : endsB n p i = false := hlst.symm
              clear hlst
              rcases Nat.eq_zero_or_pos (nbs n i).length with hz | hz
              · go_wp2_with (first | (go_at_call 79; refine CC.out.mono ?_; rintro e w' ⟨rfl, rfl⟩) | (go_at_call 43; refine (pends_any b g cap n i s p _ hBr.out h1 h2 (by rw [← HN.out]; exact hlt2) hp).mono ?_; rintro e w' ⟨rfl, kd, rfl⟩) | (go_at_call 64; refine (nb_any b g cap n i s _ (hBr.out.drewN kd) h1 h2 (by rw [← HN.out]; exact hlt2) (hSr.out.drewN kd)).mono ?_; rintro e w2 ⟨u, rfl, hU, hL2⟩; obtain ⟨A, capu, rfl⟩ := hU.shape; rw [hz]))
                have hO2 : Blk w2 go 3 (ints o) := (hO.drewN kd).below hL2 hO.lt
                have hLw2 : Below w.heap.size w w2 := (below_drewN' hL kd).trans (hL2.mono hL.size)
                have LM := Lib.hid (fun x => mem_nbs h1 (show i < n * n by rw [← HN.out]; exact hlt2) x)
                have hl6 := nbs_len n i
                have HZ := Lib.hid hz
                clear hz
                generalize nbs n i = NB at *
                refine wp_loop_rounds 1 ?_
                rw [rounds_succ]
                have BEST := Lib.hid (show BestTo o c (endsB n p i) NB NB.length (-1) from by rw [HZ.out, he]; exact BestTo.start o hc0 false NB)
                have coi : w2.cell? ⟨go, i, none⟩ = some (.int .i64 (o.getD i 0)) := by rw [hO2.cell, ints_get _ _ (by have := INV.out.len; have := HN.out; omega)]
                have foi : w2.frozen? ⟨go, i, none⟩ = false := hO2.frozen i
                have NEXT := Lib.hid (INV.out.step (by rw [← HN.out]; exact hlt2) (by rw [← HC.out]; omega) (by rw [← HC.out]; omega) LM.out (by rw [← HC.out]; exact BEST.out))
                have hO3 := hO2.set_ i (.int .i64 (-1))
                rw [ints_set] at hO3
                go_wp2_with fail
                go_roundg (N - (i + 1))
                case measure => have := hq2.out; omega
                case rel => exact ⟨i + 1, _, by go_num, by omega, rfl, hO3, hLw2.setCell hgo' _, NEXT.out⟩
              · go_wp2_with (first | (go_at_call 79; refine CC.out.mono ?_; rintro e w' ⟨rfl, rfl⟩) | (go_at_call 43; refine (pends_any b g cap n i s p _ hBr.out h1 h2 (by rw [← HN.out]; exact hlt2) hp).mono ?_; rintro e w' ⟨rfl, kd, rfl⟩) | (go_at_call 64; refine (nb_any b g cap n i s _ (hBr.out.drewN kd) h1 h2 (by rw [← HN.out]; exact hlt2) (hSr.out.drewN kd)).mono ?_; rintro e w2 ⟨u, rfl, hU, hL2⟩; obtain ⟨gu, capu, rfl, -, -, -, -⟩ := hU.form hz))
                have hO2 : Blk w2 go 3 (ints o) := (hO.drewN kd).below hL2 hO.lt
                have hLw2 : Below w.heap.size w w2 := (below_drewN' hL kd).trans (hL2.mono hL.size)
                have LM := Lib.hid (fun x => mem_nbs h1 (show i < n * n by rw [← HN.out]; exact hlt2) x)
                have hl6 := nbs_len n i
                generalize nbs n i = NB at *
                go_loopg [11, 55] NB.length (fun q bst x wr' => ∃ (k : Nat) (best : Int), bst = .int .i64 best ∧ x = .int .i64 k ∧ k ≤ NB.length ∧ Hid (q = NB.length - k) ∧ w2 = wr' ∧ Hid (BestTo o c (endsB n p i) NB k best))
                case atStart => exact ⟨0, (-1), rfl, rfl, by omega, rfl, rfl, by rw [he]; exact BestTo.start o hc0 false NB⟩
                case round =>
                  obtain ⟨k, best, rfl, rfl, hk, hq3, rfl, BEST⟩ := hrel
                  by_cases hlt3 : k < NB.length
                  · have hck := hU.cellAt hlt3
                    have NBK := Lib.hid (show NB[k]? = some (NB.getD k 0) by simp [List.getD_eq_getElem?_getD, List.getElem?_eq_getElem hlt3])
                    obtain ⟨x0, xN, _⟩ := (LM.out (NB.getD k 0)).1 (List.mem_of_getElem? NBK.out)
                    have hB3 := BEST.out
                    obtain ⟨j, hj⟩ : ∃ j : Nat, NB.getD k 0 = j := ⟨(NB.getD k 0).toNat, by omega⟩
                    rw [hj] at hck NBK xN
                    have hjN : j < N := by have := HN.out; omega
                    have co : w2.cell? ⟨go, j, none⟩ = some (.int .i64 (o.getD j 0)) := by rw [hO2.cell, ints_get _ _ (by have := INV.out.len; have := HN.out; omega)]
                    have oj0 := INV.out.low j (by rw [← HN.out]; exact hjN)
                    have oj1 := INV.out.up j (by rw [← HN.out]; exact hjN)
                    have bl : -1 ≤ best := hB3.1
                    have KEEP := Lib.hid (fun hn => BEST.out.keep NBK.out hn)
                    have BETTER := Lib.hid (fun hy hn => BEST.out.better NBK.out hc0 hy hn)
                    rw [Int.toNat_natCast] at KEEP BETTER
                    generalize o.getD j 0 = oj at *
                    clear hj hB3 x0 xN
                    by_cases t1 : 0 ≤ oj
                    · by_cases t2 : best < 0
                      · go_wp2_with fail
                        go_roundg (NB.length - (k + 1))
                        case measure => have := hq3.out; omega
                        case rel => exact ⟨k + 1, _, rfl, by go_num, by omega, rfl, rfl, BETTER.out (by omega) (by omega)⟩
                      · by_cases t3 : oj + c < best
                        · go_wp2_with fail
                          go_roundg (NB.length - (k + 1))
                          case measure => have := hq3.out; omega
                          case rel => exact ⟨k + 1, _, rfl, by go_num, by omega, rfl, rfl, BETTER.out (by omega) (by omega)⟩
                        · have t3' : decide (oj + c < best) = false := by simpa using t3
                          go_wp2_with fail
                          go_roundg (NB.length - (k + 1))
                          case measure => have := hq3.out; omega
                          case rel => exact ⟨k + 1, _, rfl, by go_num, by omega, rfl, rfl, KEEP.out (by omega)⟩
                    · have t1' : decide (0 ≤ oj) = false := by simpa using t1
                      go_wp2_with fail
                      go_roundg (NB.length - (k + 1))
                      case measure => have := hq3.out; omega
                      case rel => exact ⟨k + 1, _, rfl, by go_num, by omega, rfl, rfl, KEEP.out (by omega)⟩
                  · obtain rfl : k = NB.length := by omega
                    have coi : w2.cell? ⟨go, i, none⟩ = some (.int .i64 (o.getD i 0)) := by rw [hO2.cell, ints_get _ _ (by have := INV.out.len; have := HN.out; omega)]
                    have foi : w2.frozen? ⟨go, i, none⟩ = false := hO2.frozen i
                    have NEXT := Lib.hid (INV.out.step (by rw [← HN.out]; exact hlt2) (by rw [← HC.out]; omega) (by rw [← HC.out]; omega) LM.out (by rw [← HC.out]; exact BEST.out))
                    have hO3 := hO2.set_ i (.int .i64 best)
                    rw [ints_set] at hO3
                    go_wp2_with fail
                    go_roundg (N - (i + 1))
                    case measure => have := hq2.out; omega
                    case rel => exact ⟨i + 1, _, by go_num, by omega, rfl, hO3, hLw2.setCell hgo' _, NEXT.out⟩
            · have he : endsB n p i = true := hlst.symm
              clear hlst
              rcases Nat.eq_zero_or_pos (nbs n i).length with hz | hz
              · go_wp2_with (first | (go_at_call 79; refine CC.out.mono ?_; rintro e w' ⟨rfl, rfl⟩) | (go_at_call 43; refine (pends_any b g cap n i s p _ hBr.out h1 h2 (by rw [← HN.out]; exact hlt2) hp).mono ?_; rintro e w' ⟨rfl, kd, rfl⟩) | (go_at_call 64; refine (nb_any b g cap n i s _ (hBr.out.drewN kd) h1 h2 (by rw [← HN.out]; exact hlt2) (hSr.out.drewN kd)).mono ?_; rintro e w2 ⟨u, rfl, hU, hL2⟩; obtain ⟨A, capu, rfl⟩ := hU.shape; rw [hz]))
                have hO2 : Blk w2 go 3 (ints o) := (hO.drewN kd).below hL2 hO.lt
                have hLw2 : Below w.heap.size w w2 := (below_drewN' hL kd).trans (hL2.mono hL.size)
                have LM := Lib.hid (fun x => mem_nbs h1 (show i < n * n by rw [← HN.out]; exact hlt2) x)
                have hl6 := nbs_len n i
                have HZ := Lib.hid hz
                clear hz
                generalize nbs n i = NB at *
                refine wp_loop_rounds 1 ?_
                rw [rounds_succ]
                have BEST := Lib.hid (show BestTo o c (endsB n p i) NB NB.length c from by rw [HZ.out, he]; exact BestTo.start o hc0 true NB)
                have coi : w2.cell? ⟨go, i, none⟩ = some (.int .i64 (o.getD i 0)) := by rw [hO2.cell, ints_get _ _ (by have := INV.out.len; have := HN.out; omega)]
                have foi : w2.frozen? ⟨go, i, none⟩ = false := hO2.frozen i
                have NEXT := Lib.hid (INV.out.step (by rw [← HN.out]; exact hlt2) (by rw [← HC.out]; omega) (by rw [← HC.out]; omega) LM.out (by rw [← HC.out]; exact BEST.out))
                have hO3 := hO2.set_ i (.int .i64 c)
                rw [ints_set] at hO3
                go_wp2_with fail
                go_roundg (N - (i + 1))
                case measure => have := hq2.out; omega
                case rel => exact ⟨i + 1, _, by go_num, by omega, rfl, hO3, hLw2.setCell hgo' _, NEXT.out⟩
              · go_wp2_with (first | (go_at_call 79; refine CC.out.mono ?_; rintro e w' ⟨rfl, rfl⟩) | (go_at_call 43; refine (pends_any b g cap n i s p _ hBr.out h1 h2 (by rw [← HN.out]; exact hlt2) hp).mono ?_; rintro e w' ⟨rfl, kd, rfl⟩) | (go_at_call 64; refine (nb_any b g cap n i s _ (hBr.out.drewN kd) h1 h2 (by rw [← HN.out]; exact hlt2) (hSr.out.drewN kd)).mono ?_; rintro e w2 ⟨u, rfl, hU, hL2⟩; obtain ⟨gu, capu, rfl, -, -, -, -⟩ := hU.form hz))
                have hO2 : Blk w2 go 3 (ints o) := (hO.drewN kd).below hL2 hO.lt
                have hLw2 : Below w.heap.size w w2 := (below_drewN' hL kd).trans (hL2.mono hL.size)
                have LM := Lib.hid (fun x => mem_nbs h1 (show i < n * n by rw [← HN.out]; exact hlt2) x)
                have hl6 := nbs_len n i
                generalize nbs n i = NB at *
                go_loopg [11, 55] NB.length (fun q bst x wr' => ∃ (k : Nat) (best : Int), bst = .int .i64 best ∧ x = .int .i64 k ∧ k ≤ NB.length ∧ Hid (q = NB.length - k) ∧ w2 = wr' ∧ Hid (BestTo o c (endsB n p i) NB k best))
                case atStart => exact ⟨0, c, rfl, rfl, by omega, rfl, rfl, by rw [he]; exact BestTo.start o hc0 true NB⟩
                case round =>
                  obtain ⟨k, best, rfl, rfl, hk, hq3, rfl, BEST⟩ := hrel
                  by_cases hlt3 : k < NB.length
                  · have hck := hU.cellAt hlt3
                    have NBK := Lib.hid (show NB[k]? = some (NB.getD k 0) by simp [List.getD_eq_getElem?_getD, List.getElem?_eq_getElem hlt3])
                    obtain ⟨x0, xN, _⟩ := (LM.out (NB.getD k 0)).1 (List.mem_of_getElem? NBK.out)
                    have hB3 := BEST.out
                    obtain ⟨j, hj⟩ : ∃ j : Nat, NB.getD k 0 = j := ⟨(NB.getD k 0).toNat, by omega⟩
                    rw [hj] at hck NBK xN
                    have hjN : j < N := by have := HN.out; omega
                    have co : w2.cell? ⟨go, j, none⟩ = some (.int .i64 (o.getD j 0)) := by rw [hO2.cell, ints_get _ _ (by have := INV.out.len; have := HN.out; omega)]
                    have oj0 := INV.out.low j (by rw [← HN.out]; exact hjN)
                    have oj1 := INV.out.up j (by rw [← HN.out]; exact hjN)
                    have bl : -1 ≤ best := hB3.1
                    have KEEP := Lib.hid (fun hn => BEST.out.keep NBK.out hn)
                    have BETTER := Lib.hid (fun hy hn => BEST.out.better NBK.out hc0 hy hn)
                    rw [Int.toNat_natCast] at KEEP BETTER
                    generalize o.getD j 0 = oj at *
                    clear hj hB3 x0 xN
                    by_cases t1 : 0 ≤ oj
                    · by_cases t2 : best < 0
                      · go_wp2_with fail
                        go_roundg (NB.length - (k + 1))
                        case measure => have := hq3.out; omega
                        case rel => exact ⟨k + 1, _, rfl, by go_num, by omega, rfl, rfl, BETTER.out (by omega) (by omega)⟩
                      · by_cases t3 : oj + c < best
                        · go_wp2_with fail
                          go_roundg (NB.length - (k + 1))
                          case measure => have := hq3.out; omega
                          case rel => exact ⟨k + 1, _, rfl, by go_num, by omega, rfl, rfl, BETTER.out (by omega) (by omega)⟩
                        · have t3' : decide (oj + c < best) = false := by simpa using t3
                          go_wp2_with fail
                          go_roundg (NB.length - (k + 1))
                          case measure => have := hq3.out; omega
                          case rel => exact ⟨k + 1, _, rfl, by go_num, by omega, rfl, rfl, KEEP.out (by omega)⟩
                    · have t1' : decide (0 ≤ oj) = false := by simpa using t1
                      go_wp2_with fail
                      go_roundg (NB.length - (k + 1))
                      case measure => have := hq3.out; omega
                      case rel => exact ⟨k + 1, _, rfl, by go_num, by omega, rfl, rfl, KEEP.out (by omega)⟩
                  · obtain rfl : k = NB.length := by omega
                    have coi : w2.cell? ⟨go, i, none⟩ = some (.int .i64 (o.getD i 0)) := by rw [hO2.cell, ints_get _ _ (by have := INV.out.len; have := HN.out; omega)]
                    have foi : w2.frozen? ⟨go, i, none⟩ = false := hO2.frozen i
                    have NEXT := Lib.hid (INV.out.step (by rw [← HN.out]; exact hlt2) (by rw [← HC.out]; omega) (by rw [← HC.out]; omega) LM.out (by rw [← HC.out]; exact BEST.out))
                    have hO3 := hO2.set_ i (.int .i64 best)
                    rw [ints_set] at hO3
                    go_wp2_with fail
                    go_roundg (N - (i + 1))
                    case measure => have := hq2.out; omega
                    case rel => exact ⟨i + 1, _, by go_num, by omega, rfl, hO3, hLw2.setCell hgo' _, NEXT.out⟩
        · obtain rfl : N = i := by omega
          go_wp2_with fail
          go_roundg (N - (r + 1))
          case measure => have := hq.out; omega
          case rel => exact ⟨r + 1, o, by go_num, by omega, rfl, hO, hL, (show FarInv n s p own emp o r (n * n) by rw [← HN.out]; exact INV.out).row (by rw [← HN.out]; omega)⟩
    · obtain rfl : N = r := by omega
      go_wp2_with fail
      go_ret
      exact ⟨go, o0, by rw [← HN.out]; rfl, hgo', hO, hL, by rw [← HN.out]; exact INV.out⟩

end Go.Proofs.YtpbiminbhihjnaaDoor
