/-
  The reference's Winner and Bridge.
-/
import Derived.Test.YtpbiminbhihjnaaDoorHexD
import Derived.Test.YtpbiminbhihjnaaDoorRefD
import Derived.Outline
namespace Go.Proofs.YtpbiminbhihjnaaDoor
open Go.RowKit Dist
set_option linter.unusedSimpArgs false
set_option linter.unusedVariables false

def RWinPost (n : Int) (s : ByteArray) (w : World) (e : Ending) (w' : World) : Prop :=
  ∃ v t l er, e = .returned (.tuple #[.string t, v, .int .i64 er]) ∧ WinIs n s t l er ∧ Own w' w.heap.size v (asInts l) ∧ l.length ≤ 121 ∧ Below w.heap.size w w'

set_option maxHeartbeats 2000000 in
set_option maxRecDepth 100000 in
theorem refWinner30 (n : Int) (s : ByteArray) (w : World) (hs : s.size ≤ 1000) : Calls Tryd.prog 30 #[.int .i64 n, .string s] w (RWinPost n s w) := by
  by_cases he : boardErr n s false = 0
  · obtain ⟨m, rfl, h1, h2, h3, h4⟩ := board_ok he
    have HE := Lib.hid he
    have hb0 : (boardErr m s false != 0) = false := by simp [he]
    have HSZ := Lib.hid h3
    have HNO := Lib.hid (hex_nobody he)
    clear he h3 h4
    go_enter Tryd.func30, Tryd.ntmps30
    go_wp2_with (go_at_call 20; refine (board_any _ _ _ _ (by omega)).mono ?_; rintro e w' ⟨rfl, rfl⟩)
    refine (shortest_any m s 120 _ h1 h2 HSZ.out).mono ?_
    rintro e w1 ⟨v1, l1, rfl, hS1, hO1, hL1, hlen1⟩
    obtain ⟨A1, c1, rfl⟩ := hO1.shape
    rw [asInts_len] at hO1 ⊢
    by_cases h0 : 0 < l1.length
    · have W := Lib.hid (show WhoIs m s 120 from .inl ⟨l1, hS1, List.ne_nil_of_length_pos h0, rfl⟩)
      have HS1 := Lib.hid hS1
      have HO1 := Lib.hid hO1
      clear hS1 hO1
      go_wp2_with fail
      go_ret3
      exact ⟨_, _, l1, _, rfl, .inr ⟨HE.out, 120, by decide, by rw [Int.toNat_natCast]; exact W.out, rfl, by rw [Int.toNat_natCast]; exact HS1.out, rfl⟩, HO1.out, hlen1, hL1⟩
    · have e1 : l1 = [] := List.length_eq_zero_iff.1 (by omega)
      subst e1
      have HS1 := Lib.hid hS1
      clear hS1 hO1
      go_wp2_with fail
      refine (shortest_any m s 111 _ h1 h2 HSZ.out).mono ?_
      rintro e w2 ⟨v2, l2, rfl, hS2, hO2, hL2, hlen2⟩
      have hne : l2 ≠ [] := by
        rintro rfl
        have := HNO.out
        rw [Int.toNat_natCast] at this
        exact this (.inr (.inr ⟨HS1.out, hS2, rfl⟩))
      have W := Lib.hid (show WhoIs m s 111 from .inr (.inl ⟨HS1.out, l2, hS2, hne, rfl⟩))
      have HS2 := Lib.hid hS2
      have HO2 := Lib.hid hO2
      clear hS2 hO2 hne
      go_wp2_with fail
      go_ret3
      exact ⟨_, _, l2, _, rfl, .inr ⟨HE.out, 111, by decide, by rw [Int.toNat_natCast]; exact W.out, rfl, by rw [Int.toNat_natCast]; exact HS2.out, rfl⟩, HO2.out.base hL1.size, hlen2, hL1.trans (hL2.mono hL1.size)⟩
  · have HE := Lib.hid he
    have hb0 : (boardErr n s false != 0) = true := by simp [he]
    clear he
    go_enter Tryd.func30, Tryd.ntmps30
    go_wp2_with (go_at_call 20; refine (board_any _ _ _ _ (by omega)).mono ?_; rintro e w' ⟨rfl, rfl⟩)
    go_ret3
    exact ⟨_, _, [], _, rfl, .inl ⟨HE.out, rfl, rfl, rfl⟩, Own.nil _ _, Nat.zero_le _, Below.refl _ _⟩

theorem near_quiet (n a b : Int) (w : World) (h1 : 1 ≤ n) (h : n ≤ 11) (ha : 0 ≤ a) (hb : 0 ≤ b) (ha' : a ≤ 121) (hb' : b ≤ 121) (r : Bool) (hr : nearB n a b = r) :
    Calls Tryd.prog 65 #[.int .i64 n, .int .i64 a, .int .i64 b] w fun e w' => e = .returned (.bool r) ∧ ∃ k, w' = w.drewN k :=
  (near_any n a b w h1 h ha hb ha' hb').mono fun _ _ hh => ⟨by rw [hh.1, hr], hh.2⟩

theorem tx_cut {s : ByteArray} {z : Nat} (hz : z < s.size) (hp : bt s z = 120 ∨ bt s z = 111) : tx (bt s z) = s.extract z (z + 1) := by
  apply ByteArray.ext
  apply Array.toList_inj.1
  rw [Lib.extract_data]
  have hz' : z < s.data.toList.length := by simpa using hz
  rw [show z + 1 - z = 1 by omega, List.drop_eq_getElem_cons hz', List.take_succ_cons, List.take_zero]
  rcases hp with e | e
  · rw [e, byte_eq s z hz' 120 e]; rfl
  · rw [e, byte_eq s z hz' 111 e]; rfl

theorem drew_more {w wr : World} (h : ∃ nd, wr = w.drewN nd) (k : Nat) : ∃ nd, wr.drewN k = w.drewN nd := by
  obtain ⟨nd, rfl⟩ := h
  exact ⟨nd + k, by rw [World.drewN_drewN]⟩
theorem begins_quiet (n p a : Int) (w : World) (h1 : 1 ≤ n) (h : n ≤ 11) (ha : 0 ≤ a) (r : Bool) (hr : beginsB n p a = r) :
    Calls Tryd.prog 45 #[.int .i64 n, .int .u8 p, .int .i64 a] w fun e w' => e = .returned (.bool r) ∧ w' = w :=
  (begins_any n p a w h1 h ha).mono fun _ _ hh => ⟨by rw [hh.1, hr], hh.2.symm⟩
theorem ends_quiet (n p a : Int) (w : World) (h1 : 1 ≤ n) (h : n ≤ 11) (ha : 0 ≤ a) (r : Bool) (hr : endsB n p a = r) :
    Calls Tryd.prog 66 #[.int .i64 n, .int .u8 p, .int .i64 a] w fun e w' => e = .returned (.bool r) ∧ w' = w :=
  (ends_any n p a w h1 h ha).mono fun _ _ hh => ⟨by rw [hh.1, hr], hh.2.symm⟩

def RBrPost (n : Int) (s : ByteArray) (l : List Int) (w : World) (e : Ending) (w' : World) : Prop :=
  ∃ t er, e = .returned (.tuple #[.string t, .int .i64 er]) ∧ BridgeIs n s l t er ∧ ∃ nd, w' = w.drewN nd

set_option maxHeartbeats 4000000 in
set_option maxRecDepth 100000 in
theorem refBridge33 (n : Int) (s : ByteArray) (v : Value) (l : List Int) (w : World) (hs : s.size ≤ 1000) (hv : SL w v l) (hl : l.length ≤ 1000) :
    Calls Tryd.prog 33 #[.int .i64 n, .string s, v] w (RBrPost n s l w) := by
  obtain ⟨A, pcap, rfl, hpc, hpr⟩ := hv
  have HPR := Lib.hid hpr
  clear hpr
  by_cases he : boardErr n s false = 0
  · obtain ⟨m, rfl, h1, h2, h3, h4⟩ := board_ok he
    have HE := Lib.hid he
    have hb0 : (boardErr m s false != 0) = false := by simp [he]
    have HSZ := Lib.hid h3
    have HOK := Lib.hid h4
    have hs121 : s.size ≤ 121 := by have := Nat.mul_le_mul h2 h2; omega
    have hmm : (m : Int) * (m : Int) = (s.size : Int) := by rw [h3]; exact (Int.natCast_mul m m).symm
    have hmw : IntKind.i64.wrap ((m : Int) * (m : Int)) = (s.size : Int) := by rw [hmm]; exact IntWalk.i64_in _ (by omega)
    have NOT := Lib.hid (show ∀ k, k < l.length → ¬ PathAt m s l k → BridgeIs m s l ByteArray.empty 2 from fun k hk h => .inr (.inl ⟨HE.out, fun h' => h (h'.2.1 k hk), rfl, rfl⟩))
    clear he h3 h4
    by_cases hl0 : l.length = 0
    · have R := Lib.hid (show BridgeIs m s l ByteArray.empty 2 from .inr (.inl ⟨HE.out, fun h => by have := h.1; omega, rfl, rfl⟩))
      obtain rfl : l = [] := List.length_eq_zero_iff.1 hl0
      show Calls Tryd.prog 33 #[.int .i64 (m : Int), .string s, .slice A 0 pcap] w (RBrPost m s [] w)
      clear hl0 hl hpc HPR NOT
      go_enter Tryd.func33, Tryd.ntmps33
      go_wp2_with (go_at_call 20; refine (board_any _ _ _ _ (by omega)).mono ?_; rintro e w' ⟨rfl, rfl⟩)
      go_loopg [9] 0 (fun q i wr => i = .int .i64 0 ∧ wr = w)
      case atStart => exact ⟨rfl, rfl⟩
      case round =>
        obtain ⟨rfl, rfl⟩ := hrel
        go_wp2_with fail
        go_quiet (fail)
        go_wp2_with fail
        go_ret2
        exact ⟨_, _, rfl, R.out, nq, rfl⟩
    · have hlp : 0 < l.length := by omega
      obtain ⟨pb, po, rfl, hpb, hpc2⟩ := HPR.out hlp
      have HPC := Lib.hid hpc2
      have hl0' : ((l.length : Int) == 0) = false := by rw [beq_eq_false_iff_ne]; omega
      clear hpc2 hl0
      go_enter Tryd.func33, Tryd.ntmps33
      go_wp2_with (go_at_call 20; refine (board_any _ _ _ _ (by omega)).mono ?_; rintro e w' ⟨rfl, rfl⟩)
      go_loopg [9] l.length (fun q i wr => ∃ k : Nat, i = .int .i64 k ∧ k ≤ l.length ∧ Hid (q = l.length - k) ∧ Hid (∃ nd, wr = w.drewN nd) ∧ Hid (PathTo m s l k))
      case atStart => exact ⟨0, rfl, Nat.zero_le _, rfl, Lib.hid ⟨0, rfl⟩, Lib.hid (fun i hi => by omega)⟩
      case round =>
        obtain ⟨k, rfl, hk, hq, HW, hP⟩ := hrel
        have HPCr := Lib.hid (show ∀ j, j < l.length → wr.cell? ⟨pb, po + j, none⟩ = some (.int .i64 (l.getD j 0)) by
          obtain ⟨nd, e⟩ := HW.out
          rw [e]; exact HPC.out)
        by_cases hlt : k < l.length
        · obtain ⟨x, hx⟩ : ∃ x, x = l.getD k 0 := ⟨_, rfl⟩
          have cx : wr.cell? ⟨pb, po + k, none⟩ = some (.int .i64 x) := by rw [hx]; exact HPCr.out k hlt
          have HX := Lib.hid hx
          clear hx
          by_cases x0 : x < 0
          · have g0 : decide (x < 0) = true := by rw [decide_eq_true_eq]; exact x0
            have B := Lib.hid (NOT.out k hlt (fun h => by have := h.1; rw [← HX.out] at this; omega))
            go_wp2_with fail
            go_quiet (fail)
            go_wp2_with fail
            go_ret2
            exact ⟨_, _, rfl, B.out, drew_more HW.out nq⟩
          · obtain ⟨y, rfl⟩ : ∃ y : Nat, x = y := ⟨x.toNat, by omega⟩
            have g0 : decide ((y : Int) < 0) = false := by rw [decide_eq_false_iff_not]; omega
            by_cases x1 : s.size ≤ y
            · have g1 : decide (s.size ≤ y) = true := by rw [decide_eq_true_eq]; exact x1
              have g2 : decide ((s.size : Int) ≤ (y : Int)) = true := by rw [decide_eq_true_eq]; omega
              have B := Lib.hid (NOT.out k hlt (fun h => by have := h.2.1; rw [← HX.out] at this; have := HSZ.out; omega))
              go_wp2_with fail
              go_quiet (fail)
              go_wp2_with fail
              go_ret2
              exact ⟨_, _, rfl, B.out, drew_more HW.out nq⟩
            · have hys : y < s.size := by omega
              have g1 : decide (s.size ≤ y) = false := by rw [decide_eq_false_iff_not]; exact x1
              have g2 : decide ((s.size : Int) ≤ (y : Int)) = false := by rw [decide_eq_false_iff_not]; omega
              obtain ⟨z, hz, hzs⟩ : ∃ z : Nat, l.getD 0 0 = z ∧ z < s.size := by
                rcases Nat.eq_zero_or_pos k with h0 | h0
                · subst h0
                  exact ⟨y, HX.out.symm, hys⟩
                · obtain ⟨a1, a2, _⟩ := hP.out 0 h0
                  refine ⟨(l.getD 0 0).toNat, by omega, ?_⟩
                  have := HSZ.out
                  omega
              have cz : wr.cell? ⟨pb, po, none⟩ = some (.int .i64 (z : Int)) := by rw [← hz]; exact HPCr.out 0 hlp
              have HZ := Lib.hid hz
              clear hz
              have by_ := bt_eq s y hys
              have bz_ := bt_eq s z hzs
              have HBY := Lib.hid by_
              have HBZ := Lib.hid bz_
              clear by_ bz_
              by_cases x3 : (s[y].toNat : Int) = s[z].toNat
              · have x3' : (((s[y].toNat : Nat) : Int) != ((s[z].toNat : Nat) : Int)) = false := by rw [bne_eq_false_iff_eq]; exact x3
                have X3 := Lib.hid (show bt s y = bt s z by rw [← HBY.out, ← HBZ.out]; exact x3)
                clear x3
                -- the place before
                by_cases hnr : 0 < k ∧ nearB m (l.getD (k - 1) 0) (l.getD k 0) = false
                · obtain ⟨hkp, hn⟩ := hnr
                  obtain ⟨u, hu, hus⟩ : ∃ u : Nat, l.getD (k - 1) 0 = u ∧ u < s.size := by
                    obtain ⟨a1, a2, _⟩ := hP.out (k - 1) (by omega)
                    exact ⟨(l.getD (k - 1) 0).toNat, by omega, by have := HSZ.out; omega⟩
                  have cu : wr.cell? ⟨pb, po + (k - 1), none⟩ = some (.int .i64 (u : Int)) := by rw [← hu]; exact HPCr.out (k - 1) (by omega)
                  have B := Lib.hid (NOT.out k hlt (fun h => by
                    have := h.2.2.2.2 hkp
                    rw [hn] at this
                    cases this))
                  have HN := Lib.hid (show nearB m u y = false by rw [hu, ← HX.out] at hn; exact hn)
                  have k0 : decide ((0 : Int) < (k : Int)) = true := by rw [decide_eq_true_eq]; omega
                  have k0' : decide (0 < k) = true := by rw [decide_eq_true_eq]; exact hkp
                  have k1 : ((k : Int) - 1).toNat = k - 1 := by omega
                  have k2 : 0 ≤ (k : Int) - 1 := by omega
                  have k3 : (k : Int) - 1 < (l.length : Int) := by omega
                  have k4 : IntKind.i64.wrap ((k : Int) - 1) = (k : Int) - 1 := IntWalk.i64_in _ (by omega)
                  have k5 : 1 ≤ k := hkp
                  clear hu hn
                  go_wp2_with fail
                  go_quiet ((go_at_call 65; exact Calls.quiet_of (near_quiet _ _ _ _ (by omega) (by omega) (by omega) (by omega) (by omega) (by omega) false HN.out)))
                  go_wp2_with fail
                  go_ret2
                  exact ⟨_, _, rfl, B.out, drew_more HW.out nq⟩
                · have NEAR := Lib.hid (show 0 < k → nearB m (l.getD (k - 1) 0) (l.getD k 0) = true from fun h => by
                    cases hh : nearB m (l.getD (k - 1) 0) (l.getD k 0) with
                    | true => rfl
                    | false => exact absurd ⟨h, hh⟩ hnr)
                  clear hnr
                  by_cases hk0 : k = 0
                  · have k0 : decide ((0 : Int) < (k : Int)) = false := by rw [decide_eq_false_iff_not]; omega
                    have k0' : decide (0 < k) = false := by rw [decide_eq_false_iff_not]; omega
                    have HK0 := Lib.hid hk0
                    have k00 : ¬ 0 < k := by omega
                    clear hk0
                    go_wp2_with fail
                    go_quiet (fail)
                    have HW2 := Lib.hid (drew_more HW.out nq)
                    clear cx cz g0 g1 g2 x3'
                    generalize wr.drewN nq = w2 at *
                    go_wp2_with fail
                    go_loopg [10] 0 (fun q j w3 => j = .int .i64 0 ∧ w3 = w2)
                    case atStart => exact ⟨rfl, rfl⟩
                    case round =>
                      obtain ⟨rfl, rfl⟩ := hrel
                      go_wp2_with fail
                      go_roundg (l.length - (k + 1))
                      case measure => have := hq.out; omega
                      case rel => exact ⟨k + 1, by go_num, by omega, rfl, HW2, Lib.hid (fun i hi => by
                        obtain rfl : i = 0 := by have := HK0.out; omega
                        have e : l.getD 0 0 = (y : Int) := by have := HX.out; rw [HK0.out] at this; exact this.symm
                        exact ⟨by rw [e]; omega, by rw [e]; have := HSZ.out; omega, rfl, fun j hj => by omega, fun h => by omega⟩)⟩
                  · have hkp : 0 < k := by omega
                    obtain ⟨u, hu, hus⟩ : ∃ u : Nat, l.getD (k - 1) 0 = u ∧ u < s.size := by
                      obtain ⟨a1, a2, _⟩ := hP.out (k - 1) (by omega)
                      exact ⟨(l.getD (k - 1) 0).toNat, by omega, by have := HSZ.out; omega⟩
                    have cu : wr.cell? ⟨pb, po + (k - 1), none⟩ = some (.int .i64 (u : Int)) := by rw [← hu]; exact HPCr.out (k - 1) (by omega)
                    have HN := Lib.hid (show nearB m u y = true by have := NEAR.out hkp; rw [hu, ← HX.out] at this; exact this)
                    have k0 : decide ((0 : Int) < (k : Int)) = true := by rw [decide_eq_true_eq]; omega
                    have k0' : decide (0 < k) = true := by rw [decide_eq_true_eq]; exact hkp
                    have k1 : ((k : Int) - 1).toNat = k - 1 := by omega
                    have k2 : 0 ≤ (k : Int) - 1 := by omega
                    have k3 : (k : Int) - 1 < (l.length : Int) := by omega
                    have k4 : IntKind.i64.wrap ((k : Int) - 1) = (k : Int) - 1 := IntWalk.i64_in _ (by omega)
                    have k5 : 1 ≤ k := hkp
                    clear hu
                    go_wp2_with fail
                    go_quiet ((go_at_call 65; exact Calls.quiet_of (near_quiet _ _ _ _ (by omega) (by omega) (by omega) (by omega) (by omega) (by omega) true HN.out)))
                    have HW2 := Lib.hid (drew_more HW.out nq)
                    clear cx cz g0 g1 g2 x3' cu k0 k0' k1 k2 k3 k4 k5
                    generalize wr.drewN nq = w2 at *
                    have HPC2 := Lib.hid (show ∀ j, j < l.length → w2.cell? ⟨pb, po + j, none⟩ = some (.int .i64 (l.getD j 0)) by
                      obtain ⟨nd, e⟩ := HW2.out
                      rw [e]; exact HPC.out)
                    go_wp2_with fail
                    go_loopg [10] k (fun q j w3 => ∃ i : Nat, j = .int .i64 i ∧ i ≤ k ∧ Hid (q = k - i) ∧ Hid (∃ nd, w3 = w.drewN nd) ∧ Hid (∀ j', j' < i → l.getD j' 0 ≠ l.getD k 0))
                    case atStart => exact ⟨0, rfl, Nat.zero_le _, rfl, HW2, Lib.hid (fun j' hj => by omega)⟩
                    case round =>
                      obtain ⟨i, rfl, hi, hqi, HW3, DIS⟩ := hrel
                      have HPC3 := Lib.hid (show ∀ j, j < l.length → wr.cell? ⟨pb, po + j, none⟩ = some (.int .i64 (l.getD j 0)) by
                        obtain ⟨nd, e⟩ := HW3.out
                        rw [e]; exact HPC.out)
                      by_cases hik : i < k
                      · obtain ⟨v, hv⟩ : ∃ v, v = l.getD i 0 := ⟨_, rfl⟩
                        have hil : i < l.length := by omega
                        have cv : wr.cell? ⟨pb, po + i, none⟩ = some (.int .i64 v) := by rw [hv]; exact HPC3.out i hil
                        have cy : wr.cell? ⟨pb, po + k, none⟩ = some (.int .i64 (y : Int)) := by rw [HX.out]; exact HPC3.out k hlt
                        have HV := Lib.hid hv
                        clear hv
                        by_cases hvy : v = (y : Int)
                        · have e0 : (v == (y : Int)) = true := by rw [beq_iff_eq]; exact hvy
                          have B := Lib.hid (NOT.out k hlt (fun h => h.2.2.2.1 i hik (by rw [← HV.out, ← HX.out]; exact hvy)))
                          clear hvy
                          go_wp2_with fail
                          go_quiet (fail)
                          go_wp2_with fail
                          go_ret2
                          exact ⟨_, _, rfl, B.out, drew_more HW3.out nq⟩
                        · have e0 : (v == (y : Int)) = false := by rw [beq_eq_false_iff_ne]; exact hvy
                          have NE := Lib.hid hvy
                          clear hvy
                          go_wp2_with fail
                          go_quiet (fail)
                          go_wp2_with fail
                          go_roundg (k - (i + 1))
                          case measure => have := hqi.out; omega
                          case rel => exact ⟨i + 1, by go_num, by omega, rfl, Lib.hid (drew_more HW3.out nq), Lib.hid (fun j' hj => by
                            by_cases e : j' = i
                            · subst e; rw [← HV.out, ← HX.out]; exact NE.out
                            · exact DIS.out j' (by omega))⟩
                      · obtain rfl : i = k := by omega
                        go_wp2_with fail
                        go_roundg (l.length - (i + 1))
                        case measure => have := hq.out; omega
                        case rel => exact ⟨i + 1, by go_num, by omega, rfl, HW3, Lib.hid (fun j hj => by
                          by_cases e : j = i
                          · subst e
                            exact ⟨by rw [← HX.out]; omega, by rw [← HX.out]; have := HSZ.out; omega, by rw [← HX.out, HZ.out]; exact X3.out, DIS.out, NEAR.out⟩
                          · exact hP.out j (by omega))⟩
              · have x3' : (((s[y].toNat : Nat) : Int) != ((s[z].toNat : Nat) : Int)) = true := by rw [bne_iff_ne]; exact x3
                have B := Lib.hid (NOT.out k hlt (fun h => by
                  have := h.2.2.1
                  rw [← HX.out, HZ.out] at this
                  simp only [Int.toNat_natCast] at this
                  rw [← HBY.out, ← HBZ.out] at this
                  exact x3 this))
                clear x3
                go_wp2_with fail
                go_quiet (fail)
                go_wp2_with fail
                go_ret2
                exact ⟨_, _, rfl, B.out, drew_more HW.out nq⟩
        · obtain rfl : k = l.length := by omega
          obtain ⟨z, hz, hzs⟩ : ∃ z : Nat, l.getD 0 0 = z ∧ z < s.size := by
            obtain ⟨a1, a2, _⟩ := hP.out 0 hlp
            exact ⟨(l.getD 0 0).toNat, by omega, by have := HSZ.out; omega⟩
          obtain ⟨u, hu, hus⟩ : ∃ u : Nat, l.getD (l.length - 1) 0 = u ∧ u < s.size := by
            obtain ⟨a1, a2, _⟩ := hP.out (l.length - 1) (by omega)
            exact ⟨(l.getD (l.length - 1) 0).toNat, by omega, by have := HSZ.out; omega⟩
          have cz : wr.cell? ⟨pb, po, none⟩ = some (.int .i64 (z : Int)) := by rw [← hz]; exact HPCr.out 0 hlp
          have cu : wr.cell? ⟨pb, po + (l.length - 1), none⟩ = some (.int .i64 (u : Int)) := by rw [← hu]; exact HPCr.out (l.length - 1) (by omega)
          have bz_ := bt_eq s z hzs
          have HBZ := Lib.hid bz_
          have hp2 : bt s z = 120 ∨ bt s z = 111 := full_byte HOK.out hzs
          have HP2 := Lib.hid hp2
          have k1 : ((l.length : Int) - 1).toNat = l.length - 1 := by omega
          have k2 : 0 ≤ (l.length : Int) - 1 := by omega
          have k4 : IntKind.i64.wrap ((l.length : Int) - 1) = (l.length : Int) - 1 := IntWalk.i64_in _ (by omega)
          have k6 : IntKind.i64.wrap ((z : Int) + 1) = (z : Int) + 1 := IntWalk.i64_in _ (by omega)
          have k7 : 0 ≤ (z : Int) + 1 := by omega
          have k8 : ((z : Int) + 1).toNat = z + 1 := by omega
          have k9 : (z : Int) + 1 ≤ (s.size : Int) := by omega
          have OK := Lib.hid (show beginsB m ((s[z].toNat : Nat) : Int) z = true ∧ endsB m ((s[z].toNat : Nat) : Int) u = true ↔ PathOk m s l from by
            rw [bz_]
            constructor
            · rintro ⟨q1, q2⟩
              exact ⟨hlp, hP.out, by rw [hz, Int.toNat_natCast]; exact q1, by rw [hz, hu, Int.toNat_natCast]; exact q2⟩
            · rintro ⟨_, _, q1, q2⟩
              rw [hz, Int.toNat_natCast] at q1
              rw [hz, hu, Int.toNat_natCast] at q2
              exact ⟨q1, q2⟩)
          have TX := Lib.hid (show tx (bt s (l.getD 0 0).toNat) = s.extract z (z + 1) by rw [hz, Int.toNat_natCast]; exact tx_cut hzs hp2)
          clear bz_ hp2 hz hu
          by_cases c1 : beginsB m ((s[z].toNat : Nat) : Int) z = true
          · have C1 := Lib.hid c1
            by_cases c2 : endsB m ((s[z].toNat : Nat) : Int) u = true
            · have C2 := Lib.hid c2
              have B := Lib.hid (show BridgeIs m s l (s.extract z (z + 1)) 0 from .inr (.inr ⟨HE.out, by rw [Int.toNat_natCast]; exact OK.out.1 ⟨c1, c2⟩, TX.out.symm, rfl⟩))
              clear c1 c2
              go_wp2_with fail
              go_quiet ((first | (go_at_call 45; exact Calls.quiet_of_same (begins_quiet _ _ _ _ (by omega) (by omega) (by omega) true C1.out)) | (go_at_call 66; exact Calls.quiet_of_same (ends_quiet _ _ _ _ (by omega) (by omega) (by omega) true C2.out))))
              go_wp2_with fail
              have HW2 := Lib.hid (drew_more HW.out nq)
              have cz2 : (wr.drewN nq).cell? ⟨pb, po, none⟩ = some (.int .i64 (z : Int)) := cz
              clear cz cu
              generalize wr.drewN nq = w2 at *
              go_quiet (fail)
              go_wp2_with fail
              go_ret2
              exact ⟨_, _, rfl, B.out, drew_more HW2.out nq⟩
            · have c2' : endsB m ((s[z].toNat : Nat) : Int) u = false := by simpa using c2
              have C2 := Lib.hid c2'
              have B := Lib.hid (show BridgeIs m s l ByteArray.empty 2 from .inr (.inl ⟨HE.out, by rw [Int.toNat_natCast]; exact fun h => c2 (OK.out.2 h).2, rfl, rfl⟩))
              clear c1 c2 c2'
              go_wp2_with fail
              go_quiet ((first | (go_at_call 45; exact Calls.quiet_of_same (begins_quiet _ _ _ _ (by omega) (by omega) (by omega) true C1.out)) | (go_at_call 66; exact Calls.quiet_of_same (ends_quiet _ _ _ _ (by omega) (by omega) (by omega) false C2.out))))
              go_wp2_with fail
              go_ret2
              exact ⟨_, _, rfl, B.out, drew_more HW.out nq⟩
          · have c1' : beginsB m ((s[z].toNat : Nat) : Int) z = false := by simpa using c1
            have C1 := Lib.hid c1'
            have C2 := Lib.hid (rfl : endsB m ((s[z].toNat : Nat) : Int) u = endsB m ((s[z].toNat : Nat) : Int) u)
            have B := Lib.hid (show BridgeIs m s l ByteArray.empty 2 from .inr (.inl ⟨HE.out, by rw [Int.toNat_natCast]; exact fun h => c1 (OK.out.2 h).1, rfl, rfl⟩))
            clear c1 c1'
            go_wp2_with fail
            go_quiet ((first | (go_at_call 45; exact Calls.quiet_of_same (begins_quiet _ _ _ _ (by omega) (by omega) (by omega) false C1.out)) | (go_at_call 66; exact Calls.quiet_of_same (ends_quiet _ _ _ _ (by omega) (by omega) (by omega) _ C2.out))))
            go_wp2_with fail
            go_ret2
            exact ⟨_, _, rfl, B.out, drew_more HW.out nq⟩
  · have R := Lib.hid (show BridgeIs n s l ByteArray.empty (boardErr n s false) from .inl ⟨he, rfl, rfl⟩)
    have hb0 : (boardErr n s false != 0) = true := by simp [he]
    clear he
    go_enter Tryd.func33, Tryd.ntmps33
    go_wp2_with (go_at_call 20; refine (board_any _ _ _ _ (by omega)).mono ?_; rintro e w' ⟨rfl, rfl⟩)
    go_ret2
    exact ⟨_, _, rfl, R.out, 0, rfl⟩

end Go.Proofs.YtpbiminbhihjnaaDoor
