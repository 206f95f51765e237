/-
  A part of the proofs over the mirror (layer 4): RunG.
-/
import Derived.Test.YtpbiminbhihjnaaDoorRunE
import Derived.Test.YtpbiminbhihjnaaDoorRefD
import Derived.WalkSpells
namespace Go.Proofs.YtpbiminbhihjnaaDoor
open Go.RowKit Dist
set_option linter.unusedSimpArgs false
set_option linter.unusedVariables false

theorem clo79 (w : World) (bp : Nat) (s : ByteArray) (p : Int) (hp : p = 120 ∨ p = 111) (hbp : bp < w.heap.size) (hc : w.cell? ⟨bp, 0, none⟩ = some (.int .u8 p)) : Clo79 w bp s p 1 1000 := by
  intro W a hW ha
  have hc' : W.cell? ⟨bp, 0, none⟩ = some (.int .u8 p) := by rw [hW.cell (p := ⟨bp, 0, none⟩) hbp]; exact hc
  have hpc : pcost s p 1 1000 a = if bt s a = p then 1 else -1 := by
    unfold pcost costI
    split
    · rfl
    · split <;> rfl
  generalize bt s a = c at *
  clear hc
  by_cases h1 : c = p
  · have E := Lib.hid (show pcost s p 1 1000 a = 1 by rw [hpc, if_pos h1])
    have h1' : (c == p) = true := beq_iff_eq.2 h1
    clear hpc h1
    go_enter Tryd.func79, Tryd.ntmps79
    go_wp2_with fail
    go_ret
    exact ⟨by rw [E.out]; rfl, rfl⟩
  · have h1' : (c == p) = false := beq_eq_false_iff_ne.2 h1
    have E := Lib.hid (show pcost s p 1 1000 a = -1 by rw [hpc, if_neg h1])
    clear hpc h1
    go_enter Tryd.func79, Tryd.ntmps79
    go_wp2_with fail
    go_ret
    exact ⟨by rw [E.out]; rfl, rfl⟩

theorem bridge_cost {n : Nat} {s : ByteArray} {p : Int} {a c : Nat} (h : (graph n s p 1 1000).cost a = some c) : c = 1 := by
  have h4 : (if costI s p 1 1000 a < 1000 then some (costI s p 1 1000 a).toNat else none) = some c := h
  split at h4
  · injection h4 with h4
    rename_i hc
    unfold costI at h4 hc
    split at h4
    · omega
    · split at h4
      · rename_i e1 e2; rw [if_neg e1, if_pos e2] at hc; omega
      · rename_i e1 e2; rw [if_neg e1, if_neg e2] at hc; omega
  · cases h4

theorem bridge_bd {n : Nat} {s : ByteArray} {p : Int} {a k : Nat} (h : (graph n s p 1 1000).Least a (some k)) : 1 ≤ k ∧ k ≤ n * n := by
  refine ⟨?_, Graph.least_le (fun a k hk => by have := bridge_cost hk; omega) h⟩
  obtain ⟨⟨l, w, e⟩, _⟩ := h
  obtain ⟨c, hc⟩ := Option.isSome_iff_exists.1 ((Graph.way_mem w a (by simp)).2)
  have := bridge_cost hc
  have e2 : (graph n s p 1 1000).price (a :: l) = ((graph n s p 1 1000).cost a).getD 0 + (graph n s p 1 1000).price l := rfl
  rw [hc, Option.getD_some] at e2
  omega

/-- The bridge while it grows. -/
def Grow (n : Nat) (s : ByteArray) (p : Int) (k : Nat) (o : List Int) (l : List Nat) (t : Nat) : Prop :=
  l.length ≤ k ∧ 0 < l.length ∧ l[l.length - 1]? = some t ∧ Lead n s p k l ∧ o.getD t 0 = (k : Int) - (l.length - 1)

/-- No neighbour of the first i has the number that is looked for. -/
def NoNext (o : List Int) (L : List Int) (y : Int) (i : Nat) : Prop := ∀ x, x ∈ L.take i → o.getD x.toNat 0 ≠ y

theorem NoNext.succ {o : List Int} {L : List Int} {y x : Int} {i : Nat} (h : NoNext o L y i) (hx : L[i]? = some x) (hn : o.getD x.toNat 0 ≠ y) : NoNext o L y (i + 1) := by
  intro z hz
  rcases (take_succ_mem hx).1 hz with hz | rfl
  · exact h z hz
  · exact hn

/-- The first shortest bridge handed back; nil if there is none. -/
def BridgePost (n : Nat) (s : ByteArray) (p : Int) (w : World) (e : Ending) (w' : World) : Prop :=
  ∃ v l, e = .returned v ∧ Short n s p l ∧ Own w' w.heap.size v (asInts l) ∧ (l = [] → v = .slice none 0 0) ∧ Below w.heap.size w w' ∧ l.length ≤ 121

set_option maxHeartbeats 2000000 in
set_option maxRecDepth 100000 in
theorem bridge_any (b g cap n : Nat) (s : ByteArray) (p : Int) (w : World) (hB : BoardAt w b g cap n s) (h1 : 1 ≤ n) (h2 : n ≤ 11) (hsz : s.size = n * n) (hS : StepsAt w) (hp : p = 120 ∨ p = 111) :
    Calls Tryd.prog 49 #[.pointer (some ⟨b, 0, none⟩), .int .u8 p] w (BridgePost n s p w) := by
  obtain ⟨N, hN⟩ : ∃ N, N = n * n := ⟨_, rfl⟩
  have hN121 : N ≤ 121 := by have := Nat.mul_le_mul h2 h2; omega
  have hnn : (n : Int) * n = (N : Int) := by rw [hN]; exact (Int.natCast_mul n n).symm
  have HN := Lib.hid hN
  have HSZ := Lib.hid hsz
  clear hN hsz
  have cpw : (w.alloc (.cells #[.int .u8 p] 5)).cell? ⟨w.heap.size, 0, none⟩ = some (.int .u8 p) := by rw [(Blk.new w 5 _).cell]; rfl
  have hLa : Below w.heap.size w (w.alloc (.cells #[.int .u8 p] 5)) := (Below.refl _ _).alloc (Nat.le_refl _) _
  have HB := Lib.hid (hB.more hLa)
  have HS := Lib.hid (hS.below hLa)
  have CLO := Lib.hid (clo79 (w.alloc (.cells #[.int .u8 p] 5)) w.heap.size s p hp (by simp) cpw)
  have PC := Lib.hid (show ∀ a, pcost s p 1 1000 a ≤ 1 from fun a => by unfold pcost costI; split <;> split <;> (try split) <;> omega)
  clear hB hS
  go_enter Tryd.func49, Tryd.ntmps49
  go_wp2_with fail
  go_step3
  go_wp2_with (go_at_call 41; refine (far79_any b g cap n w.heap.size s p 1 1000 _ HB.out h1 h2 HSZ.out HS.out hp (by omega) (by omega) PC.out CLO.out).mono ?_; rintro e w2 ⟨go, o, rfl, hgo, hO, hL2, FAR⟩)
  rw [← HN.out]
  have hz1 : w.heap.size < w2.heap.size := by have := hL2.size; simp at this; omega
  have hLw2 := hLa.trans (hL2.mono hLa.size)
  have HBO2 := Lib.hid (HB.out.more hL2)
  have HS2 := Lib.hid (HS.out.below hL2)
  have cp2 : w2.cell? ⟨w.heap.size, 0, none⟩ = some (.int .u8 p) := by rw [hL2.cell (p := ⟨w.heap.size, 0, none⟩) (by simp)]; exact cpw
  have FAR' := Lib.hid FAR
  have LEAST := Lib.hid (show ∀ a, a < n * n → (graph n s p 1 1000).Least a (tabN o a) from FAR.least)
  clear FAR cpw hLa
  go_wp2_with fail
  go_loopg [6, 20] N (fun k bs x wr => ∃ (j : Nat) (at_ : Int) (nd : Nat), x = .int .i64 j ∧ bs = .int .i64 at_ ∧ j ≤ N ∧ Hid (k = N - j) ∧ wr = w2.drewN nd ∧ Hid (AtTo n p o at_ j))
  case atStart => exact ⟨0, -1, 0, rfl, rfl, by omega, rfl, rfl, AtTo.start _ _ _⟩
  case round =>
    obtain ⟨j, at_, nd, rfl, rfl, hj, hk, rfl, AT⟩ := hrel
    by_cases hlt : j < N
    · obtain ⟨x, hx⟩ : ∃ x, o.getD j 0 = x := ⟨_, rfl⟩
      have co : w2.cell? ⟨go, j, none⟩ = some (.int .i64 x) := by rw [← hx, hO.cell, ints_get _ _ (by have := FAR'.out.len; have := HN.out; omega)]
      have xl : -1 ≤ x := by rw [← hx]; exact FAR'.out.low j (by rw [← HN.out]; exact hlt)
      have al : -1 ≤ at_ := by rcases AT.out with ⟨e, _⟩ | ⟨t', e, _⟩ <;> omega
      have HX := Lib.hid hx
      clear hx
      by_cases t0 : beginsB n p j = true
      · by_cases t1 : 0 ≤ x
        · by_cases t2 : at_ < 0
          · have R := Lib.hid (AT.out.first t2 t0 (by rw [HX.out]; exact t1))
            go_wp2_with (go_at_call 43; refine (pends_any b g cap n j s p _ (HBO2.out.drewN nd) h1 h2 (by rw [← HN.out]; exact hlt) hp).mono ?_; rintro e w' ⟨rfl, kd, rfl⟩)
            go_roundg (N - (j + 1))
            case measure => have := hk.out; omega
            case rel => exact ⟨j + 1, _, nd + kd, by go_num, rfl, by omega, rfl, by simp, R.out⟩
          · obtain ⟨t, ht⟩ : ∃ t : Nat, at_ = t := ⟨at_.toNat, by omega⟩
            subst ht
            have htN : t < N := by
              rcases AT.out with ⟨e, _⟩ | ⟨t', e, ht', _⟩ <;> omega
            obtain ⟨y, hy⟩ : ∃ y, y = o.getD t 0 := ⟨_, rfl⟩
            have ct : w2.cell? ⟨go, t, none⟩ = some (.int .i64 y) := by rw [hy, hO.cell, ints_get _ _ (by have := FAR'.out.len; have := HN.out; omega)]
            have HY := Lib.hid hy
            clear hy
            by_cases t3 : x < y
            · have R := Lib.hid (AT.out.better t0 (by rw [HX.out]; exact t1) (by rw [HX.out, ← HY.out]; exact t3))
              go_wp2_with (go_at_call 43; refine (pends_any b g cap n j s p _ (HBO2.out.drewN nd) h1 h2 (by rw [← HN.out]; exact hlt) hp).mono ?_; rintro e w' ⟨rfl, kd, rfl⟩)
              go_roundg (N - (j + 1))
              case measure => have := hk.out; omega
              case rel => exact ⟨j + 1, _, nd + kd, by go_num, rfl, by omega, rfl, by simp, R.out⟩
            · have R := Lib.hid (AT.out.keepLe (j := j) (by rw [HX.out, ← HY.out]; omega))
              have t3' : decide (x < y) = false := by simpa using t3
              go_wp2_with (go_at_call 43; refine (pends_any b g cap n j s p _ (HBO2.out.drewN nd) h1 h2 (by rw [← HN.out]; exact hlt) hp).mono ?_; rintro e w' ⟨rfl, kd, rfl⟩)
              go_roundg (N - (j + 1))
              case measure => have := hk.out; omega
              case rel => exact ⟨j + 1, _, nd + kd, by go_num, rfl, by omega, rfl, by simp, R.out⟩
        · have R := Lib.hid (AT.out.keepNo (j := j) (by rw [HX.out]; exact fun h => t1 h.2))
          have t1' : decide (0 ≤ x) = false := by simpa using t1
          go_wp2_with (go_at_call 43; refine (pends_any b g cap n j s p _ (HBO2.out.drewN nd) h1 h2 (by rw [← HN.out]; exact hlt) hp).mono ?_; rintro e w' ⟨rfl, kd, rfl⟩)
          go_roundg (N - (j + 1))
          case measure => have := hk.out; omega
          case rel => exact ⟨j + 1, _, nd + kd, by go_num, rfl, by omega, rfl, by simp, R.out⟩
      · have R := Lib.hid (AT.out.keepNo (j := j) (fun h => t0 h.1))
        have t0' : beginsB n p j = false := by simpa using t0
        go_wp2_with (go_at_call 43; refine (pends_any b g cap n j s p _ (HBO2.out.drewN nd) h1 h2 (by rw [← HN.out]; exact hlt) hp).mono ?_; rintro e w' ⟨rfl, kd, rfl⟩)
        go_roundg (N - (j + 1))
        case measure => have := hk.out; omega
        case rel => exact ⟨j + 1, _, nd + kd, by go_num, rfl, by omega, rfl, by simp, R.out⟩
    · obtain rfl : N = j := by omega
      have AT' := Lib.hid (show AtTo n p o at_ (n * n) by rw [← HN.out]; exact AT.out)
      clear hk hlt hj AT
      by_cases hneg : at_ < 0
      · have R := Lib.hid (at_none LEAST.out AT'.out hneg)
        go_wp2_with fail
        try rw [Exit.noGoto_ret]
        go_ret
        exact ⟨_, [], rfl, R.out, (Own.nil _ _ : Own _ _ _ (asInts [])), fun _ => rfl, below_drewN' hLw2 nd, by simp⟩
      · obtain ⟨t, ht⟩ : ∃ t : Nat, at_ = t := ⟨at_.toNat, by omega⟩
        subst ht
        obtain ⟨htN, k, hk, hbest, hlead⟩ := at_some LEAST.out AT'.out
        have htN' : t < N := by rw [HN.out]; exact htN
        have hkb : 1 ≤ k ∧ k ≤ n * n := by
          obtain ⟨⟨a, _, _, hl⟩, _⟩ := hbest
          exact bridge_bd hl
        have hk121 : k ≤ 121 := by rw [← HN.out] at hkb; omega
        have hk1 : 1 ≤ k := hkb.1
        have GR := Lib.hid (show Grow n s p k o [t] t from ⟨hk1, by simp, rfl, hlead, by rw [hk]; simp⟩)
        have BEST := Lib.hid hbest
        have hneg' : decide ((t : Int) < 0) = false := by rw [decide_eq_false_iff_not]; omega
        have hOl := Own.lit (base := w2.heap.size) (l := asInts [t]) (Blk.new (w2.drewN nd) 3 (ints (asInts [t]))) (Nat.le_refl _) (by simp [asInts])
        clear hneg AT' hk hbest hlead htN hkb
        go_wp2_with fail
        go_step3
        go_wp2_with fail
        go_loopg [6, 11] (k - 1) (fun q tv v wr => ∃ (l : List Nat) (t : Nat) (u : Value), v = u ∧ tv = .int .i64 t ∧ t < N ∧ Hid (q = k - l.length) ∧ Hid (Grow n s p k o l t) ∧ Own wr w2.heap.size u (asInts l) ∧ Below w2.heap.size w2 wr)
        case atStart =>
          exact ⟨[t], t, _, rfl, rfl, htN', rfl, GR, hOl, (below_drewN' (Below.refl _ _) nd).alloc (Nat.le_refl _) _⟩
        case round =>
          clear hOl GR
          obtain ⟨l, t, u, hu, rfl, htN, hq, GR, hO3, hL3⟩ := hrel
          subst hu
          have l0 := GR.out.2.1
          have lk := GR.out.1
          have hlen3 : (asInts l).length = l.length := asInts_len l
          obtain ⟨gu, cu, rfl, -, -, -, -⟩ := hO3.form (by omega)
          rw [hlen3] at *
          have hbs : w2.heap.size ≤ wr.heap.size := hL3.size
          obtain ⟨y, hy⟩ : ∃ y, o.getD t 0 = y := ⟨_, rfl⟩
          have hOr : Blk wr go 3 (ints o) := hO.below hL3 hO.lt
          have ct : wr.cell? ⟨go, t, none⟩ = some (.int .i64 y) := by rw [← hy, hOr.cell, ints_get _ _ (by have := FAR'.out.len; have := HN.out; omega)]
          have hyk : y = (k : Int) - (l.length - 1) := by rw [← hy]; exact GR.out.2.2.2.2
          have HY := Lib.hid hy
          clear hy
          by_cases hy1 : 1 < y
          · have HBr := Lib.hid (HBO2.out.more hL3)
            have HSr := Lib.hid (HS2.out.below hL3)
            have LM := Lib.hid (fun x => mem_nbs h1 (show t < n * n by rw [← HN.out]; exact htN) x)
            have NX := Lib.hid (next_some LEAST.out BEST.out GR.out.2.2.2.1 GR.out.2.2.1 l0 (by omega) LM.out)
            have hz : 0 < (nbs n t).length := by
              obtain ⟨x, hx, _⟩ := NX.out
              exact List.length_pos_of_mem hx
            have hl6 := nbs_len n t
            have SO := Lib.hid (nbs_sorted n t)
            generalize hNB : nbs n t = NB at *
            have HNB := Lib.hid hNB
            have YK := Lib.hid hyk
            clear hNB hyk
            go_wp2_with (go_at_call 64; refine (nb_any b g cap n t s _ HBr.out h1 h2 (by rw [← HN.out]; exact htN) HSr.out).mono ?_; rintro e w3 ⟨u2, rfl, hU, hL4⟩; rw [HNB.out] at hU; obtain ⟨g4, c4, rfl, -, -, -, -⟩ := hU.form hz)
            have hL3' : Below w2.heap.size w2 w3 := hL3.trans (hL4.mono hbs)
            have hO4 := hO3.more hL4
            clear hO3 ct hOr
            go_loopg [6, 11, 64] NB.length (fun q tv v x wr => ∃ (i nd : Nat), tv = .int .i64 t ∧ v = .slice (some ⟨gu, 0, none⟩) l.length cu ∧ x = .int .i64 i ∧ i ≤ NB.length ∧ Hid (q = NB.length - i) ∧ wr = w3.drewN nd ∧ Hid (NoNext o NB (y - 1) i))
            case atStart => exact ⟨0, 0, rfl, rfl, rfl, by omega, rfl, rfl, fun x hx => by simp at hx⟩
            case round =>
              obtain ⟨i, nd3, rfl, rfl, rfl, hi, hq3, rfl, NN⟩ := hrel
              by_cases hlt3 : i < NB.length
              · have hck := hU.cellAt hlt3
                have NBK : NB[i]? = some (NB.getD i 0) := by simp [List.getD_eq_getElem?_getD, List.getElem?_eq_getElem hlt3]
                obtain ⟨x0, xN, _⟩ := (LM.out (NB.getD i 0)).1 (List.mem_of_getElem? NBK)
                obtain ⟨j, hj⟩ : ∃ j : Nat, NB.getD i 0 = j := ⟨(NB.getD i 0).toNat, by omega⟩
                rw [hj] at hck NBK xN
                have NBK' := Lib.hid NBK
                have hjN : j < N := by have := HN.out; omega
                obtain ⟨z, hz2⟩ : ∃ z, o.getD j 0 = z := ⟨_, rfl⟩
                have hO5 : Blk w3 go 3 (ints o) := hO.below hL3' hO.lt
                have co : w3.cell? ⟨go, j, none⟩ = some (.int .i64 z) := by rw [← hz2, hO5.cell, ints_get _ _ (by have := FAR'.out.len; have := HN.out; omega)]
                have ct : w3.cell? ⟨go, t, none⟩ = some (.int .i64 y) := by rw [← HY.out, hO5.cell, ints_get _ _ (by have := FAR'.out.len; have := HN.out; omega)]
                have zl : -1 ≤ z := by rw [← hz2]; exact FAR'.out.low j (by rw [← HN.out]; exact hjN)
                have yu : y ≤ 121 := by have := YK.out; omega
                have zu : z ≤ 40000 := by
                  rw [← hz2]
                  have h5 := FAR'.out.up j (by rw [← HN.out]; exact hjN)
                  rw [← HN.out] at h5
                  omega
                have Z := Lib.hid hz2
                clear hj NBK x0 xN hz2 hO5
                by_cases hzy : (z == y - 1) = true
                · have NEXT := Lib.hid (lead_next LEAST.out GR.out.2.2.2.1 GR.out.2.2.1 l0 (by have := YK.out; omega) LM.out SO.out NBK'.out (by rw [Z.out, beq_iff_eq.1 hzy, YK.out]; omega)
                    (fun x hx => by have := NN.out x hx; rw [YK.out] at this; intro hc; exact this (by omega)))
                  have hb3 : w2.heap.size ≤ w3.heap.size := hL3'.size
                  have z1 : z ≤ y - 1 := by rw [beq_iff_eq.1 hzy]; omega
                  have z2 : y - 1 ≤ z := by rw [beq_iff_eq.1 hzy]; omega
                  go_wp2_with fail
                  go_quiet (fail)
                  go_wp2_with (at_builtin; refine app_int rfl _ _ rfl w2.heap.size _ (asInts l) rfl (hO4.drewN _) (j : Int) rfl (by rw [asInts_len]; omega) hb3 ?_; intro v' w5 hO5 hL5)
                  go_roundg (k - (l.length + 1))
                  case measure => have := hq.out; have := YK.out; omega
                  case rel =>
                    refine ⟨l ++ [j], j, _, rfl, rfl, hjN, (by simp : k - (l.length + 1) = k - (l ++ [j]).length), ?_, ?_, ?_⟩
                    · refine ⟨by have := YK.out; simp; omega, by simp, by simp, NEXT.out.2, ?_⟩
                      rw [Z.out, beq_iff_eq.1 hzy, YK.out]
                      simp
                      omega
                    · rw [asInts_snoc] at hO5; exact hO5
                    · exact (below_drewN' hL3' _).trans hL5
                · have hzy' : (z == y - 1) = false := by simpa using hzy
                  have NN' := Lib.hid (NN.out.succ NBK'.out (by simp only [Int.toNat_natCast]; rw [Z.out]; exact fun e => hzy (beq_iff_eq.2 e)))
                  have z1 : ¬ z = y - 1 := fun e => hzy (beq_iff_eq.2 e)
                  clear hzy
                  go_wp2_with fail
                  go_quiet (fail)
                  go_wp2_with fail
                  go_roundg (NB.length - (i + 1))
                  case measure => have := hq3.out; omega
                  case rel => exact ⟨i + 1, _, rfl, rfl, by go_num, by omega, rfl, rfl, NN'.out⟩
              · exfalso
                obtain ⟨x, hx, hxe⟩ := NX.out
                have := NN.out x (by rw [List.take_of_length_le (by omega)]; exact hx)
                rw [YK.out] at this
                exact this (by rw [hxe]; omega)
          · have SH := Lib.hid (show Short n s p l from ⟨some k, BEST.out, by omega, GR.out.2.2.2.1⟩)
            have hy1' : decide (1 < y) = false := by rw [decide_eq_false_iff_not]; exact hy1
            clear hyk
            go_wp2_with fail
            try rw [Exit.noGoto_ret]
            go_ret
            refine ⟨_, l, rfl, SH.out, ?_, fun h => by rw [h] at l0; simp at l0, hLw2.trans (hL3.mono (by omega)), by omega⟩
            exact hO3.base (by omega)

end Go.Proofs.YtpbiminbhihjnaaDoor
