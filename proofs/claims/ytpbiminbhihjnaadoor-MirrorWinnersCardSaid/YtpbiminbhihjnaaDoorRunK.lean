/-
  The program's Bridge: whose bridge a list is.
-/
import Derived.Test.YtpbiminbhihjnaaDoorLawA
import Derived.Test.YtpbiminbhihjnaaDoorHexB
import Derived.BigQuiet
import Derived.IntWalk
namespace Go.Proofs.YtpbiminbhihjnaaDoor
open Go.RowKit Dist
set_option linter.unusedSimpArgs false
set_option linter.unusedVariables false

/-- The first k numbers of a list are places of one player's stones, each once, each near the one before. -/
def PathAt (n : Nat) (s : ByteArray) (l : List Int) (i : Nat) : Prop :=
  0 ≤ l.getD i 0 ∧ l.getD i 0 < (n * n : Nat) ∧ bt s (l.getD i 0).toNat = bt s (l.getD 0 0).toNat ∧ (∀ j, j < i → l.getD j 0 ≠ l.getD i 0) ∧ (0 < i → nearB n (l.getD (i - 1) 0) (l.getD i 0) = true)
def PathTo (n : Nat) (s : ByteArray) (l : List Int) (k : Nat) : Prop := ∀ i, i < k → PathAt n s l i

/-- A list is a bridge. -/
def PathOk (n : Nat) (s : ByteArray) (l : List Int) : Prop :=
  0 < l.length ∧ PathTo n s l l.length ∧ beginsB n (bt s (l.getD 0 0).toNat) (l.getD 0 0) = true ∧ endsB n (bt s (l.getD 0 0).toNat) (l.getD (l.length - 1) 0) = true

def BridgeIs (n : Int) (s : ByteArray) (l : List Int) (t : ByteArray) (er : Int) : Prop :=
  (boardErr n s false ≠ 0 ∧ t = ByteArray.empty ∧ er = boardErr n s false) ∨
  (boardErr n s false = 0 ∧ ¬ PathOk n.toNat s l ∧ t = ByteArray.empty ∧ er = 2) ∨
  (boardErr n s false = 0 ∧ PathOk n.toNat s l ∧ t = tx (bt s (l.getD 0 0).toNat) ∧ er = 0)

theorem bridge_unique {n : Int} {s : ByteArray} {l : List Int} {t t' : ByteArray} {er er' : Int} (h : BridgeIs n s l t er) (k : BridgeIs n s l t' er') : t = t' ∧ er = er' := by
  rcases h with ⟨a, rfl, rfl⟩ | ⟨a, b, rfl, rfl⟩ | ⟨a, b, rfl, rfl⟩ <;> rcases k with ⟨a', rfl, rfl⟩ | ⟨a', b', rfl, rfl⟩ | ⟨a', b', rfl, rfl⟩
  · exact ⟨rfl, rfl⟩
  · exact absurd a' a
  · exact absurd a' a
  · exact absurd a a'
  · exact ⟨rfl, rfl⟩
  · exact absurd b' b
  · exact absurd a a'
  · exact absurd b b'
  · exact ⟨rfl, rfl⟩

def BrPost (n : Int) (s : ByteArray) (l : List Int) (w : World) (e : Ending) (w' : World) : Prop :=
  ∃ t er, e = .returned (.tuple #[.string t, .int .i64 er]) ∧ BridgeIs n s l t er ∧ Below w.heap.size w w'

theorem PathTo.long {n : Nat} {s : ByteArray} {l : List Int} (h : PathTo n s l l.length) : l.length ≤ n * n := by
  have nd : (l.map Int.toNat).Nodup := by
    refine List.pairwise_iff_getElem.2 fun i j hi hj hij => ?_
    rw [List.length_map] at hi hj
    obtain ⟨a1, a2, _⟩ := h i hi
    obtain ⟨b1, b2, _, b4, _⟩ := h j hj
    have := b4 i hij
    simp only [List.getD_eq_getElem?_getD, List.getElem?_eq_getElem hj, List.getElem?_eq_getElem hi, Option.getD_some] at a1 a2 b1 b2 this
    rw [List.getElem_map, List.getElem_map]
    omega
  have := nodup_length (n * n) _ nd (by
    intro a ha
    obtain ⟨x, hx, rfl⟩ := List.mem_map.1 ha
    obtain ⟨i, hi, rfl⟩ := List.getElem_of_mem hx
    obtain ⟨a1, a2, _⟩ := h i hi
    simp only [List.getD_eq_getElem?_getD, List.getElem?_eq_getElem hi, Option.getD_some] at a1 a2
    omega)
  simpa using this

theorem contains_take {l : List Int} {k : Nat} {x : Int} (hk : k ≤ l.length) : (l.take k).contains x = true ↔ ∃ j, j < k ∧ l.getD j 0 = x := by
  rw [List.contains_iff_mem, List.mem_iff_getElem?]
  constructor
  · rintro ⟨j, hj⟩
    rw [List.getElem?_take] at hj
    split at hj
    · rename_i h
      exact ⟨j, h, by rw [List.getD_eq_getElem?_getD, hj]; rfl⟩
    · cases hj
  · rintro ⟨j, hj, e⟩
    refine ⟨j, ?_⟩
    rw [List.getElem?_take, if_pos hj, List.getElem?_eq_getElem (by omega)]
    rw [List.getD_eq_getElem?_getD, List.getElem?_eq_getElem (by omega)] at e
    exact congrArg some e

theorem has_is (r : Bool) (pb po cap k : Nat) (l : List Int) (x : Int) (w : World) (hk : k ≤ l.length) (hl : l.length ≤ 1000) (hc : ∀ j, j < l.length → w.cell? ⟨pb, po + j, none⟩ = some (.int .i64 (l.getD j 0))) (h : (l.take k).contains x = r) :
    Calls Tryd.prog 63 #[.slice (some ⟨pb, po, none⟩) k cap, .int .i64 x] w fun e w' => e = .returned (.bool r) ∧ w' = w := by
  subst h
  exact Tryd.slices_Contains_int pb po k cap l x w hk (by omega) hc

/-- contains over a row of the call's own. -/
theorem has_own (r : Bool) (v : Value) (l : List Int) (x : Int) (base : Nat) (w : World) (hO : Own w base v l) (hl : l.length ≤ 1000) (h : l.contains x = r) :
    Calls Tryd.prog 63 #[v, .int .i64 x] w fun e w' => e = .returned (.bool r) ∧ w = w' := by
  rcases Nat.eq_zero_or_pos l.length with h0 | h0
  · have : l = [] := List.length_eq_zero_iff.1 h0
    subst this
    obtain ⟨A, cap, rfl⟩ := hO.shape
    have hr : r = false := by rw [← h]; rfl
    subst hr
    exact (Tryd.slices_Contains_int_empty A cap x w).mono fun _ _ hh => ⟨hh.1, hh.2.symm⟩
  · obtain ⟨g, cap, rfl, hn, _, _, hc⟩ := hO.form h0
    subst h
    have := Tryd.slices_Contains_int g 0 l.length cap l x w (Nat.le_refl _) (by omega) (fun j hj => by rw [Nat.zero_add]; exact hc j hj)
    rw [List.take_length] at this
    exact this.mono fun _ _ hh => ⟨hh.1, hh.2.symm⟩

def brSet : ByteArray := ⟨#[120, 111]⟩

set_option maxHeartbeats 4000000 in
set_option maxRecDepth 100000 in
theorem bridge32 (n : Int) (s : ByteArray) (v : Value) (l : List Int) (w : World) (hs : s.size ≤ 1000) (hv : SL w v l) (hl : l.length ≤ 1000) (hS : StepsAt w) :
    Calls Tryd.prog 32 #[.int .i64 n, .string s, v] w (BrPost n s l w) := by
  have HS := Lib.hid hS
  have HSL := Lib.hid hv
  obtain ⟨A, pcap, rfl, hpc, hpr⟩ := hv
  have HPR := Lib.hid hpr
  clear hS hpr
  by_cases he : boardErr n s false = 0
  · obtain ⟨m, rfl, h1, h2, h3, h4⟩ := board_ok he
    have HE := Lib.hid he
    have HSZ := Lib.hid h3
    have HOK := Lib.hid h4
    have hs121 : s.size ≤ 121 := by have := Nat.mul_le_mul h2 h2; omega
    clear he h3 h4
    by_cases hl0 : l.length = 0
    · have hl0' : ((l.length : Int) == 0) = true := by rw [beq_iff_eq]; omega
      have R := Lib.hid (show BridgeIs m s l ByteArray.empty 2 from .inr (.inl ⟨HE.out, fun h => by have := h.1; omega, rfl, rfl⟩))
      clear hl0
      go_enter Tryd.func32, Tryd.ntmps32
      go_wp2_with (go_at_call 40; refine (boarded_ok m s false _ (by omega) HE.out).mono ?_; rintro e w1 ⟨hL1, b, g, cap, rfl, hb, hg, hbg, hBo⟩; have hc1 := hBo.bytes_; clear hBo)
      go_ret2
      exact ⟨_, _, rfl, R.out, hL1⟩
    · by_cases hln : s.size < l.length
      · have hl0' : ((l.length : Int) == 0) = false := by rw [beq_eq_false_iff_ne]; omega
        have R := Lib.hid (show BridgeIs m s l ByteArray.empty 2 from .inr (.inl ⟨HE.out, fun h => by have := h.2.1.long; have := HSZ.out; rw [Int.toNat_natCast] at *; omega, rfl, rfl⟩))
        clear hl0
        go_enter Tryd.func32, Tryd.ntmps32
        go_wp2_with (go_at_call 40; refine (boarded_ok m s false _ (by omega) HE.out).mono ?_; rintro e w1 ⟨hL1, b, g, cap, rfl, hb, hg, hbg, hBo⟩; have hc1 := hBo.bytes_; clear hBo)
        go_ret2
        exact ⟨_, _, rfl, R.out, hL1⟩
      · have hl0' : ((l.length : Int) == 0) = false := by rw [beq_eq_false_iff_ne]; omega
        have hlp : 0 < l.length := by omega
        obtain ⟨pb, po, rfl, hpb, hpc2⟩ := HPR.out hlp
        have HPC := Lib.hid hpc2
        clear hpc2 hl0
        go_enter Tryd.func32, Tryd.ntmps32
        go_wp2_with (go_at_call 40; refine (boarded_ok m s false _ (by omega) HE.out).mono ?_; rintro e w1 ⟨hL1, b, g, cap, rfl, hb, hg, hbg, hBo⟩; have hc1 := hBo.bytes_; have HBo := Lib.hid hBo; have HL1 := Lib.hid hL1; clear hBo hL1)
        have NOT := Lib.hid (show ∀ k, k < l.length → ¬ PathAt m s l k → BridgeIs m s l ByteArray.empty 2 from fun k hk h => .inr (.inl ⟨HE.out, fun h' => h (h'.2.1 k hk), rfl, rfl⟩))
        have hpb1 : pb < w1.heap.size := Nat.lt_of_lt_of_le hpb HL1.out.size
        have HPC1 := Lib.hid (show ∀ j, j < l.length → w1.cell? ⟨pb, po + j, none⟩ = some (.int .i64 (l.getD j 0)) from fun j hj => by rw [HL1.out.cell (p := ⟨pb, po + j, none⟩) hpb]; exact HPC.out j hj)
        have HS1 := Lib.hid (HS.out.below HL1.out)
        clear hc1 hl0'
        go_loopg [43] l.length (fun q i wr => ∃ k : Nat, i = .int .i64 k ∧ k ≤ l.length ∧ Hid (q = l.length - k) ∧ Hid (BoardAt wr b g cap m s) ∧ Hid (Below w1.heap.size w1 wr) ∧ Hid (PathTo m s l k))
        case atStart => exact ⟨0, rfl, Nat.zero_le _, rfl, HBo, Lib.hid (Below.refl _ _), Lib.hid (fun i hi => by omega)⟩
        case round =>
          obtain ⟨k, rfl, hk, hq, hB, hLr, hP⟩ := hrel
          have hc1 := hB.out.bytes_
          have HPCr := Lib.hid (show ∀ j, j < l.length → wr.cell? ⟨pb, po + j, none⟩ = some (.int .i64 (l.getD j 0)) from fun j hj => by rw [hLr.out.cell (p := ⟨pb, po + j, none⟩) hpb1]; exact HPC1.out j hj)
          by_cases hlt : k < l.length
          · obtain ⟨x, hx⟩ : ∃ x, x = l.getD k 0 := ⟨_, rfl⟩
            have cx : wr.cell? ⟨pb, po + k, none⟩ = some (.int .i64 x) := by rw [hx]; exact HPCr.out k hlt
            have HX := Lib.hid hx
            clear hx
            by_cases x0 : x < 0
            · have B := Lib.hid (NOT.out k hlt (fun h => by have := h.1; rw [← HX.out] at this; omega))
              go_wp2_with fail
              go_quiet (fail)
              go_wp2_with fail
              go_ret2
              exact ⟨_, _, rfl, B.out, below_drewN' (HL1.out.trans (hLr.out.mono HL1.out.size)) _⟩
            · obtain ⟨y, rfl⟩ : ∃ y : Nat, x = y := ⟨x.toNat, by omega⟩
              have g0 : decide ((y : Int) < 0) = false := by rw [decide_eq_false_iff_not]; omega
              by_cases x1 : s.size ≤ y
              · have g1 : decide (s.size ≤ y) = true := by rw [decide_eq_true_eq]; exact x1
                have g2 : decide ((s.size : Int) ≤ (y : Int)) = true := by rw [decide_eq_true_eq]; omega
                have B := Lib.hid (NOT.out k hlt (fun h => by have := h.2.1; rw [← HX.out] at this; have := HSZ.out; omega))
                go_wp2_with fail
                go_quiet (fail)
                go_wp2_with fail
                go_ret2
                exact ⟨_, _, rfl, B.out, below_drewN' (HL1.out.trans (hLr.out.mono HL1.out.size)) _⟩
              · have hys : y < s.size := by omega
                have p0 : ¬ pcap = 0 := by omega
                have p1 : 0 < pcap := by omega
                have p2 : k ≤ pcap := by omega
                have p3 : k < pcap := by omega
                have g1 : decide (s.size ≤ y) = false := by rw [decide_eq_false_iff_not]; exact x1
                have g2 : decide ((s.size : Int) ≤ (y : Int)) = false := by rw [decide_eq_false_iff_not]; omega
                by_cases x2 : (l.take k).contains (y : Int) = true
                · have B := Lib.hid (NOT.out k hlt (fun h => by
                    obtain ⟨j, hj, e⟩ := (contains_take (Nat.le_of_lt hlt)).1 x2
                    exact h.2.2.2.1 j hj (by rw [e, HX.out])))
                  have X2 := Lib.hid x2
                  clear x2
                  go_wp2_with fail
                  go_quiet ((go_at_call 63; exact Calls.quiet_of_same (has_is true pb po _ k l _ _ (Nat.le_of_lt hlt) hl HPCr.out X2.out)))
                  go_wp2_with fail
                  go_ret2
                  exact ⟨_, _, rfl, B.out, below_drewN' (HL1.out.trans (hLr.out.mono HL1.out.size)) _⟩
                · have x2' : (l.take k).contains (y : Int) = false := by simpa using x2
                  have X2 := Lib.hid x2'
                  have NX := Lib.hid (show ∀ j, j < k → l.getD j 0 ≠ l.getD k 0 from fun j hj e => x2 ((contains_take (Nat.le_of_lt hlt)).2 ⟨j, hj, by rw [e, HX.out]⟩))
                  clear x2 x2'
                  -- the first place
                  obtain ⟨z, hz, hzs⟩ : ∃ z : Nat, l.getD 0 0 = z ∧ z < s.size := by
                    rcases Nat.eq_zero_or_pos k with h0 | h0
                    · subst h0
                      exact ⟨y, HX.out.symm, hys⟩
                    · obtain ⟨a1, a2, _⟩ := hP.out 0 h0
                      refine ⟨(l.getD 0 0).toNat, by omega, ?_⟩
                      have := HSZ.out
                      omega
                  have cz : wr.cell? ⟨pb, po, none⟩ = some (.int .i64 (z : Int)) := by rw [← hz]; exact HPCr.out 0 hlp
                  have by1 : wr.cell? ⟨g, y, none⟩ = some (.int .u8 (bt s y)) := hB.out.2.1.cell hys
                  have bz1 : wr.cell? ⟨g, z, none⟩ = some (.int .u8 (bt s z)) := hB.out.2.1.cell hzs
                  have HZ := Lib.hid hz
                  clear hz
                  have w1 : IntKind.i64.wrap ((s.size : Int) - 1) = (s.size : Int) - 1 := IntWalk.i64_in _ (by omega)
                  have mn1 : min (z : Int) ((s.size : Int) - 1) = (z : Int) := by rw [Int.min_def]; split <;> omega
                  have mx1 : max 0 (z : Int) = (z : Int) := by rw [Int.max_def]; split <;> omega
                  have z2 : (z : Int) ≤ (s.size : Int) - 1 := by omega
                  by_cases x3 : bt s y = bt s z
                  · have x3' : (bt s y != bt s z) = false := by rw [bne_eq_false_iff_eq]; exact x3
                    have X3 := Lib.hid x3
                    clear x3
                    go_wp2_with fail
                    go_quiet ((go_at_call 63; exact Calls.quiet_of_same (has_is false pb po _ k l _ _ (Nat.le_of_lt hlt) hl HPCr.out X2.out)))
                    have HB2 := Lib.hid (show BoardAt (wr.drewN nq) b g cap m s from hB.out.drewN nq)
                    have HL2 := Lib.hid (below_drewN' hLr.out nq)
                    have cx2 : (wr.drewN nq).cell? ⟨pb, po + k, none⟩ = some (.int .i64 (y : Int)) := cx
                    have HPC2 := Lib.hid (show ∀ j, j < l.length → (wr.drewN nq).cell? ⟨pb, po + j, none⟩ = some (.int .i64 (l.getD j 0)) from HPCr.out)
                    clear cx cz by1 bz1 hc1 x3' g0 g1 g2 mn1 mx1 z2 w1 p0 p1 p2 p3
                    generalize wr.drewN nq = w2 at *
                    by_cases hk0 : k = 0
                    · subst hk0
                      go_wp2_with fail
                      go_roundg (l.length - (0 + 1))
                      case measure => have := hq.out; omega
                      case rel => exact ⟨0 + 1, by go_num, by omega, rfl, HB2, HL2, Lib.hid (fun i hi => by
                        obtain rfl : i = 0 := by omega
                        exact ⟨by rw [← HX.out]; omega, by rw [← HX.out]; have := HSZ.out; omega, rfl, fun j hj => by omega, fun h => by omega⟩)⟩
                    · have hkp : 0 < k := by omega
                      obtain ⟨u, hu, hus⟩ : ∃ u : Nat, l.getD (k - 1) 0 = u ∧ u < m * m := by
                        obtain ⟨a1, a2, _⟩ := hP.out (k - 1) (by omega)
                        exact ⟨(l.getD (k - 1) 0).toNat, by omega, by omega⟩
                      have cu : w2.cell? ⟨pb, po + (k - 1), none⟩ = some (.int .i64 (u : Int)) := by rw [← hu]; exact HPC2.out (k - 1) (by omega)
                      have HU := Lib.hid hu
                      have HS2 := Lib.hid (HS1.out.below HL2.out)
                      have MEM := Lib.hid (show ∀ x : Int, (nbs m u).contains x = true ↔ 0 ≤ x ∧ x < (m * m : Nat) ∧ nearB m u x = true from fun x => by rw [List.contains_iff_mem]; exact mem_nbs h1 hus x)
                      have NBL := Lib.hid (nbs_len m u)
                      have k1 : ((k : Int) - 1).toNat = k - 1 := by omega
                      have k2 : 0 ≤ (k : Int) - 1 := by omega
                      have k3 : (k : Int) - 1 < (l.length : Int) := by omega
                      clear hu
                      by_cases hn : (nbs m u).contains (y : Int) = true
                      · have HN := Lib.hid hn
                        clear hn
                        go_wp2_with fail
                        refine (nb_any b g cap m u s _ HB2.out h1 h2 hus HS2.out).mono ?_
                        rintro e w3 ⟨u3, rfl, hO3, hL3⟩
                        have HO3 := Lib.hid hO3
                        have HB3 := Lib.hid (HB2.out.more hL3)
                        have HL3 := Lib.hid (HL2.out.trans (hL3.mono HL2.out.size))
                        clear hO3 hL3
                        go_wp2_with (go_at_call 63; refine (has_own true _ _ _ _ _ HO3.out (by have := NBL.out; omega) HN.out).mono ?_; rintro e w4 ⟨rfl, rfl⟩)
                        go_roundg (l.length - (k + 1))
                        case measure => have := hq.out; omega
                        case rel => exact ⟨k + 1, by go_num, by omega, rfl, HB3, HL3, Lib.hid (fun i hi => by
                          by_cases e : i = k
                          · subst e
                            exact ⟨by rw [← HX.out]; omega, by rw [← HX.out]; have := HSZ.out; omega, by rw [← HX.out, HZ.out]; exact X3.out, NX.out, fun _ => by rw [← HX.out, HU.out]; exact ((MEM.out _).1 HN.out).2.2⟩
                          · exact hP.out i (by omega))⟩
                      · have hn' : (nbs m u).contains (y : Int) = false := by simpa using hn
                        have HN := Lib.hid hn'
                        have B := Lib.hid (NOT.out k hlt (fun h => hn ((MEM.out _).2 ⟨by omega, by have := HSZ.out; omega, by
                          have := h.2.2.2.2 hkp
                          rw [← HX.out, HU.out] at this
                          exact this⟩)))
                        clear hn hn'
                        go_wp2_with fail
                        refine (nb_any b g cap m u s _ HB2.out h1 h2 hus HS2.out).mono ?_
                        rintro e w3 ⟨u3, rfl, hO3, hL3⟩
                        have HO3 := Lib.hid hO3
                        have HL3 := Lib.hid (HL2.out.trans (hL3.mono HL2.out.size))
                        clear hO3 hL3
                        go_wp2_with (go_at_call 63; refine (has_own false _ _ _ _ _ HO3.out (by have := NBL.out; omega) HN.out).mono ?_; rintro e w4 ⟨rfl, rfl⟩)
                        go_ret2
                        exact ⟨_, _, rfl, B.out, HL1.out.trans (HL3.out.mono HL1.out.size)⟩
                  · have x3' : (bt s y != bt s z) = true := by rw [bne_iff_ne]; exact x3
                    have B := Lib.hid (NOT.out k hlt (fun h => by
                      have := h.2.2.1
                      rw [← HX.out, HZ.out] at this
                      exact x3 this))
                    clear x3
                    go_wp2_with fail
                    go_quiet ((go_at_call 63; exact Calls.quiet_of_same (has_is false pb po _ k l _ _ (Nat.le_of_lt hlt) hl HPCr.out X2.out)))
                    go_wp2_with fail
                    go_ret2
                    exact ⟨_, _, rfl, B.out, below_drewN' (HL1.out.trans (hLr.out.mono HL1.out.size)) _⟩
          · obtain rfl : k = l.length := by omega
            obtain ⟨z, hz, hzs⟩ : ∃ z : Nat, l.getD 0 0 = z ∧ z < s.size := by
              obtain ⟨a1, a2, _⟩ := hP.out 0 hlp
              exact ⟨(l.getD 0 0).toNat, by omega, by have := HSZ.out; omega⟩
            obtain ⟨u, hu, hus⟩ : ∃ u : Nat, l.getD (l.length - 1) 0 = u ∧ u < m * m := by
              obtain ⟨a1, a2, _⟩ := hP.out (l.length - 1) (by omega)
              exact ⟨(l.getD (l.length - 1) 0).toNat, by omega, by omega⟩
            obtain ⟨p, hp⟩ : ∃ p, p = bt s z := ⟨_, rfl⟩
            have hp2 : p = 120 ∨ p = 111 := by rw [hp]; exact full_byte HOK.out hzs
            have henc := tx_enc hp2
            have hpr : 111 ≤ p ∧ p ≤ 120 := by omega
            have HP2 := Lib.hid hp2
            have hzm : z < m * m := by rw [← HSZ.out]; exact hzs
            have cz : wr.cell? ⟨pb, po, none⟩ = some (.int .i64 (z : Int)) := by rw [← hz]; exact HPCr.out 0 hlp
            have cu : wr.cell? ⟨pb, po + (l.length - 1), none⟩ = some (.int .i64 (u : Int)) := by rw [← hu]; exact HPCr.out (l.length - 1) (by omega)
            have bz1 : wr.cell? ⟨g, z, none⟩ = some (.int .u8 p) := by rw [hp]; exact hB.out.2.1.cell hzs
            have k1 : ((l.length : Int) - 1).toNat = l.length - 1 := by omega
            have k2 : 0 ≤ (l.length : Int) - 1 := by omega
            have OK := Lib.hid (show beginsB m p z = true ∧ endsB m p u = true ↔ PathOk m s l from by
              constructor
              · rintro ⟨q1, q2⟩
                exact ⟨hlp, hP.out, by rw [hz, Int.toNat_natCast, ← hp]; exact q1, by rw [hz, hu, Int.toNat_natCast, ← hp]; exact q2⟩
              · rintro ⟨_, _, q1, q2⟩
                rw [hz, Int.toNat_natCast, ← hp] at q1
                rw [hz, hu, Int.toNat_natCast, ← hp] at q2
                exact ⟨q1, q2⟩)
            have TX := Lib.hid (show tx (bt s (l.getD 0 0).toNat) = tx p by rw [hz, Int.toNat_natCast, hp])
            clear hp hp2 hz hu
            by_cases c1 : beginsB m p z = true
            · by_cases c2 : endsB m p u = true
              · have B := Lib.hid (show BridgeIs m s l (tx p) 0 from .inr (.inr ⟨HE.out, by rw [Int.toNat_natCast]; exact OK.out.1 ⟨c1, c2⟩, TX.out.symm, rfl⟩))
                go_wp2_with fail
                go_quiet (fail)
                go_wp2_with fail
                refine (pends_any b g cap m z s p _ (hB.out.drewN nq) h1 h2 hzm HP2.out).mono ?_
                rintro e w3 ⟨rfl, kd, rfl⟩
                go_wp2_with fail
                refine (pends_any b g cap m u s p _ (hB.out.drewN (nq + kd)) h1 h2 hus HP2.out).mono ?_
                rintro e w3 ⟨rfl, kd2, rfl⟩
                go_wp2_with fail
                go_ret2
                exact ⟨_, _, rfl, B.out, below_drewN' (HL1.out.trans (hLr.out.mono HL1.out.size)) _⟩
              · have c2' : endsB m p u = false := by simpa using c2
                have B := Lib.hid (show BridgeIs m s l ByteArray.empty 2 from .inr (.inl ⟨HE.out, by rw [Int.toNat_natCast]; exact fun h => c2 (OK.out.2 h).2, rfl, rfl⟩))
                clear c2
                go_wp2_with fail
                go_quiet (fail)
                go_wp2_with fail
                refine (pends_any b g cap m z s p _ (hB.out.drewN nq) h1 h2 hzm HP2.out).mono ?_
                rintro e w3 ⟨rfl, kd, rfl⟩
                go_wp2_with fail
                refine (pends_any b g cap m u s p _ (hB.out.drewN (nq + kd)) h1 h2 hus HP2.out).mono ?_
                rintro e w3 ⟨rfl, kd2, rfl⟩
                go_wp2_with fail
                go_ret2
                exact ⟨_, _, rfl, B.out, below_drewN' (HL1.out.trans (hLr.out.mono HL1.out.size)) _⟩
            · have c1' : beginsB m p z = false := by simpa using c1
              have B := Lib.hid (show BridgeIs m s l ByteArray.empty 2 from .inr (.inl ⟨HE.out, by rw [Int.toNat_natCast]; exact fun h => c1 (OK.out.2 h).1, rfl, rfl⟩))
              clear c1
              go_wp2_with fail
              go_quiet (fail)
              go_wp2_with fail
              refine (pends_any b g cap m z s p _ (hB.out.drewN nq) h1 h2 hzm HP2.out).mono ?_
              rintro e w3 ⟨rfl, kd, rfl⟩
              go_wp2_with fail
              refine (pends_any b g cap m u s p _ (hB.out.drewN (nq + kd)) h1 h2 hus HP2.out).mono ?_
              rintro e w3 ⟨rfl, kd2, rfl⟩
              go_wp2_with fail
              go_ret2
              exact ⟨_, _, rfl, B.out, below_drewN' (HL1.out.trans (hLr.out.mono HL1.out.size)) _⟩
  · have R := Lib.hid (show BridgeIs n s l ByteArray.empty (boardErr n s false) from .inl ⟨he, rfl, rfl⟩)
    have HE := Lib.hid he
    have heb : (boardErr n s false != 0) = true := by simp [he]
    clear he
    go_enter Tryd.func32, Tryd.ntmps32
    go_wp2_with (go_at_call 40; refine (boarded_err n s false _ (by omega) HE.out).mono ?_; rintro e w1 ⟨rfl, hL1⟩)
    go_ret2
    exact ⟨_, _, rfl, R.out, hL1⟩

end Go.Proofs.YtpbiminbhihjnaaDoor
