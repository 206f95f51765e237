/-
  A part of the proofs over the mirror (layer 4): RunI.
-/
import Derived.Test.YtpbiminbhihjnaaDoorGame
import Derived.Maps.OwnSet
import Derived.Lib.SlBytesRow
namespace Go.Proofs.YtpbiminbhihjnaaDoor
open Go.RowKit Dist Go.Maps Go.WideMaps
set_option linter.unusedSimpArgs false
set_option linter.unusedVariables false

def WinsPost (B b g cap n m bound : Nat) (s : ByteArray) (who : Int) (w : World) (e : Ending) (w' : World) : Prop :=
  ∃ v D c, e = .returned (.int .u8 v) ∧ Plays n s who v ∧ BoardAt w' b g cap n s ∧ w'.ownsMap Tryd.prog 9 (plainElem Tryd.prog 5) m c D ∧ c ≤ bound ∧ Known n D ∧ Below B w w'

theorem zero5 (w : World) : (zeroValue 5).run Tryd.prog w = .ok (.int .u8 0) w := by kernel_rfl

theorem bb_bytes {w : World} {g : Nat} {s : ByteArray} (h : BB w g s) : Lib.Bytes w g 0 s := by
  intro i hi
  have := h.cell hi
  rw [Nat.zero_add, this, bt_eq s i hi]

theorem BoardAt.grown {w w' : World} {b g cap n : Nat} {s : ByteArray} {row : Option Nat} (h : BoardAt w b g cap n s) (hg : w.grownBy w' row) (h1 : some b ≠ row) (h2 : some g ≠ row) : BoardAt w' b g cap n s := by
  refine ⟨h.1.grown hg h1, ?_, h.2.2⟩
  obtain ⟨cs, fr, k1, k2⟩ := h.2.1
  exact ⟨cs, fr, (hg.block g (lt_of_block k1) h2).trans k1, k2⟩

theorem om_ne_board {w : World} {k m c b g cap n : Nat} {s : ByteArray} {R : Value → Option (DataW Unit × List MemPlace)} {D : DataW Unit} (h : w.ownsMap Tryd.prog k R m c D) (hB : BoardAt w b g cap n s) : b ≠ m := by
  obtain ⟨es, clock, hh, r⟩ := h
  have h1 := hB.1
  unfold Blk at h1
  intro e
  subst e
  rw [h1] at hh
  cases hh

theorem who_wf {n : Nat} {s : ByteArray} {r : Int} (h : WhoIs n s r) : (Lit.int .u8 r).wf = true := by
  rcases h with ⟨_, _, _, rfl⟩ | ⟨_, _, _, _, rfl⟩ | ⟨_, _, rfl⟩ <;> decide

theorem BoardAt.set_ {w : World} {b g cap n : Nat} {s : ByteArray} (h : BoardAt w b g cap n s) (hbg : b ≠ g) (k : Nat) (c : UInt8) {v : Int} (hv : (c.toNat : Int) = v) : BoardAt (w.setCell ⟨g, k, none⟩ (.int .u8 v)) b g cap n (put s k c) := by
  subst hv
  refine ⟨?_, h.2.1.set_ k c, by rw [put_size]; exact h.2.2⟩
  rw [put_size]
  exact h.1.far hbg _

theorem om_set {w : World} {k m c : Nat} {R : Value → Option (DataW Unit × List MemPlace)} {D : DataW Unit} (h : w.ownsMap Tryd.prog k R m c D) {p : Addr} (hp : m ≠ p.block) (u : Value) : (w.setCell p u).ownsMap Tryd.prog k R m c D := by
  obtain ⟨es, clock, hh, r⟩ := h
  exact ⟨es, clock, (Below.heap_setCell w p u m hp).trans hh, r⟩

theorem StepsAt.belowB {w w' : World} {B : Nat} (h : StepsAt w) (hb : Below B w w') (hB : 0 < B) : StepsAt w' :=
  ⟨Nat.lt_of_lt_of_le h.1 hb.size, fun j hj => by rw [hb.cell (p := ⟨0, j, none⟩) hB]; exact h.2 j hj⟩

theorem BoardAt.ne_ {w : World} {b g cap n : Nat} {s : ByteArray} (h : BoardAt w b g cap n s) : b ≠ g := by
  intro e
  have h1 := h.1
  obtain ⟨cs, fr, k1, k2⟩ := h.2.1
  unfold Blk at h1
  subst e
  rw [h1] at k1
  injection k1 with k1
  injection k1 with _ k1
  cases k1

theorem Plays.two {n : Nat} {s : ByteArray} {who v : Int} (h : Plays n s who v) (hw : who = 120 ∨ who = 111) : v = 120 ∨ v = 111 := by
  cases h with
  | won _ _ _ h1 h2 =>
    rcases h1 with ⟨_, _, _, rfl⟩ | ⟨_, _, _, _, rfl⟩ | ⟨_, _, rfl⟩
    · exact .inl rfl
    · exact .inr rfl
    · exact absurd rfl h2
  | good => exact hw
  | bad => omega

/-- The end of wins: what is stored, and what comes back. -/
theorem wins_end {B b g cap n m c1 c2 bound : Nat} {s : ByteArray} {who v : Int} {D : DataW Unit} {w w1 w2 : World} (hBb : B ≤ b) (hBg : B ≤ g) (hBm : B ≤ m) (hL : Below B w w1) (hB : BoardAt w1 b g cap n s) (hM1 : w1.ownsMap Tryd.prog 9 (plainElem Tryd.prog 5) m c1 D)
    (hM : w2.ownsMap Tryd.prog 9 (plainElem Tryd.prog 5) m c2 (D.put (.string s.data.toList) (.lit (.int .u8 v)))) (hg : w1.grownBy w2 (some m)) (hc : c2 ≤ bound) (hK : Known n D) (hT : Turn s who) (hP : Plays n s who v) :
    WinsPost B b g cap n m bound s who w (.returned (.int .u8 v)) w2 := by
  have hbm := om_ne_board hM1 hB
  have hgm := om_ne hM1 hB.2.1
  refine ⟨v, _, c2, rfl, hP, hB.grown hg (by simp [hbm]) (by simp [hgm]), hM, hc, hK.put hT hP, hL.grown hg ?_ ?_⟩
  · have := hB.1.lt; omega
  · intro k hk; cases hk; exact hBm

def WinsAt (P : Nat → Prop) (T : Nat) : Prop := ∀ (b g cap n m c0 B : Nat) (s : ByteArray) (D : DataW Unit) (who : Int) (w : World), P (cnt s 46) → BoardAt w b g cap n s → B ≤ b → B ≤ g → B ≤ m → 1 ≤ n → n ≤ 11 → s.size = n * n → StepsAt w → 0 < B → Turn s who →
    w.ownsMap Tryd.prog 9 (plainElem Tryd.prog 5) m c0 D → c0 + T ≤ 2000000 → Known n D →
    Calls Tryd.prog 47 #[.pointer (some ⟨b, 0, none⟩), .int .u8 who, .map (some m)] w (WinsPost B b g cap n m (c0 + T) s who w)

theorem tn_room {c0 d p T : Nat} (h : p + 1 ≤ d) : c0 + p * T + T ≤ c0 + d * T := by
  have : (p + 1) * T ≤ d * T := Nat.mul_le_mul_right _ h
  rw [Nat.add_mul, Nat.one_mul] at this
  omega

set_option maxHeartbeats 2000000 in
set_option maxRecDepth 100000 in
theorem wins_step (d T : Nat) (ih : WinsAt (fun c => c + 1 ≤ d) T) : WinsAt (fun c => c ≤ d) (1 + d * T) := by
  intro b g cap n m c0 B s D who w hdots hB hBb hBg hBm h1 h2 hsz hS hB0 hT hM hroom hK
  have IH := Lib.hid ih
  have DOTS := Lib.hid hdots
  have HB := Lib.hid hB
  have HSZ := Lib.hid hsz
  have HS := Lib.hid hS
  have HT := Lib.hid hT
  have HM := Lib.hid hM
  have ROOM := Lib.hid hroom
  have HK := Lib.hid hK
  have hs121 : s.size ≤ 121 := by have := Nat.mul_le_mul h2 h2; omega
  have hw : who = 120 ∨ who = 111 := by rcases hT with ⟨h, _⟩ | ⟨h, _⟩ <;> omega
  have hn := hB.n_
  have hbs := hB.bytes_
  have hcap := hB.2.2
  have law := string_keyed (P := Tryd.prog) Tryd.underlying9
  have hkey := keyOf_string_mk (P := Tryd.prog) Tryd.underlying9 (s := s) (by unfold maxLen; omega)
  have kb := Lib.run_convert_whole (P := Tryd.prog) w 65 5 9 Tryd.underlying65 Tryd.underlying5 Tryd.underlying9 g 0 s (bb_bytes hB.2.1) cap
  clear hdots hB hsz hS hT hM hroom hK ih
  go_enter Tryd.func47, Tryd.ntmps47
  go_wp2_with (at_lookup; refine wpList_lookup_own_ok_int _ rfl _ _ 64 rfl 9 5 .u8 law Tryd.underlying64 Tryd.underlying5 (zero5 _) m c0 _ rfl HM.out _ _ rfl hkey ?_; intro c hat hwc; have HAT := Lib.hid hat; clear hat)
  · rename_i hh
    go_ret
    exact ⟨c, D, c0, rfl, HK.out.2 s who c HSZ.out HT.out hh HAT.out, HB.out, HM.out, by omega, HK.out, Below.refl _ _⟩
  · rename_i hh
    clear kb
    have L0 := Lib.hid (show B ≤ w.heap.size from by have := HB.out.1.lt; omega)
    go_wp2_with (first | (go_at_call 48; refine (winner_any b g cap n s _ HB.out h1 h2 HSZ.out HS.out).mono ?_; rintro e' w1 ⟨r, rfl, hwho, hL⟩; have WHO := Lib.hid hwho; have hwf := who_wf hwho; clear hwho; have HB1 := Lib.hid (HB.out.more hL); have HM1 := Lib.hid (om_below HM.out hL (om_lt HM.out)); have HS1 := Lib.hid (HS.out.below hL); have hn1 := HB1.out.n_; have hbs1 := HB1.out.bytes_; have HL1 := Lib.hid (hL.mono L0.out); clear hn hbs) | (at_mapUpdate; refine wpList_mapUpdate_own _ rfl _ _ _ 64 rfl 9 5 law Tryd.underlying64 _ m c0 _ rfl HM1.out (by have := ROOM.out; unfold maxLen; omega) _ _ _ rfl rfl hkey _ [] (plainElem_int Tryd.underlying5 hwf) ?_; intro w2 hM2 hg2))
    · rename_i hr
      have r0 : r = 0 := by simpa using hr
      subst r0
      clear hr hwc
      obtain ⟨oth, hoth⟩ : ∃ o, o = 231 - who := ⟨_, rfl⟩
      rw [← hoth]
      have HOTH := Lib.hid hoth
      have ho : 111 ≤ oth ∧ oth ≤ 120 := by omega
      clear hoth
      have owf : (Lit.int .u8 oth).wf = true := by
        have : oth = 120 ∨ oth = 111 := by have := HOTH.out; omega
        rcases this with rfl | rfl <;> decide
      have wwf : (Lit.int .u8 who).wf = true := by
        rcases hw with rfl | rfl <;> decide
      go_loopg [11, 40] s.size (fun q o x wr => ∃ (k c1 : Nat) (D1 : DataW Unit), x = .int .i64 k ∧ o = .int .u8 oth ∧ k ≤ s.size ∧ Hid (q = s.size - k) ∧ Hid (BoardAt wr b g cap n s) ∧ Hid (wr.ownsMap Tryd.prog 9 (plainElem Tryd.prog 5) m c1 D1) ∧ Hid (c1 ≤ c0 + pre s k * T) ∧ Hid (Known n D1) ∧ Hid (Below B w1 wr) ∧ Hid (∀ i, i < k → bt s i = 46 → Plays n (put s i (pb who)) oth oth))
      case atStart => exact ⟨0, c0, D, rfl, rfl, by omega, rfl, HB1, HM1, by show c0 ≤ c0 + pre s 0 * T; omega, HK, Below.refl _ _, fun i hi => by omega⟩
      case round =>
        obtain ⟨k, c1, D1, rfl, rfl, hk, hq, HBr, HMr, HC, HKr, HLr, HP⟩ := hrel
        by_cases hlt : k < s.size
        · have hfz : wr.frozen? ⟨g, k, none⟩ = false := HBr.out.2.1.free hlt
          have hbsr := HBr.out.bytes_
          have HPN := Lib.hid (pre_next s k hlt)
          by_cases hdot : bt s k = 46
          · have hcell : wr.cell? ⟨g, k, none⟩ = some (.int .u8 46) := by rw [HBr.out.2.1.cell hlt, hdot]
            have HBp := Lib.hid (HBr.out.set_ HBr.out.ne_ k (pb who) (pb_val hw))
            have HMp := Lib.hid (om_set HMr.out (p := ⟨g, k, none⟩) (om_ne HMr.out HBr.out.2.1).symm (.int .u8 who))
            have HLp := Lib.hid (HLr.out.setCell (p := ⟨g, k, none⟩) hBg (.int .u8 who))
            have HSp := Lib.hid (HS1.out.belowB HLp.out hB0)
            have HDOT := Lib.hid hdot
            have PL := pre_lt s k hlt hdot
            have HC1 := Lib.hid (show c1 + T ≤ c0 + d * T from Nat.le_trans (Nat.add_le_add_right HC.out _) (tn_room (Nat.le_trans PL DOTS.out)))
            have HDP := Lib.hid (show cnt (put s k (pb who)) 46 + 1 ≤ d from by rw [cnt_put s k 46 (pb who) hlt hdot (pb_ne _), if_pos rfl]; have := DOTS.out; have := pre_lt s k hlt hdot; omega)
            have HTP := Lib.hid (show Turn (put s k (pb who)) oth from HOTH.out ▸ HT.out.next hlt hdot)
            have HSZP := Lib.hid (show (put s k (pb who)).size = n * n from by rw [put_size]; exact HSZ.out)
            have HRP := Lib.hid (show c1 + T ≤ 2000000 from by have := HC1.out; have := ROOM.out; omega)
            have HPB := Lib.hid (put_back s k (pb who) hlt hdot)
            have how : oth = 120 ∨ oth = 111 := by have := HOTH.out; omega
            have PBV := Lib.hid (show bt (put s k (pb who)) k = who from by rw [bt_put s k _ k hlt, if_pos rfl]; exact pb_val hw)
            have HOW := Lib.hid how
            have HW := Lib.hid hw
            have hwr : 111 ≤ who ∧ who ≤ 120 := by omega
            clear PL hdot how hw
            go_wp2_with (first
              | (go_at_call 47; refine (IH.out b g cap n m c1 B (put s k (pb who)) D1 oth _ HDP.out HBp.out hBb hBg hBm h1 h2 HSZP.out HSp.out hB0 HTP.out HMp.out HRP.out HKr.out).mono ?_; rintro e' w3 ⟨v, D3, c3, rfl, hpl, hB3, hM3, hc3, hK3, hL3⟩; have HPL := Lib.hid hpl; have GD := Lib.hid (show v = who → Plays n (put s k (pb who)) (231 - who) who from fun hv => by rw [hv, HOTH.out] at hpl; exact hpl); have HB3 := Lib.hid hB3; have HM3 := Lib.hid hM3; have HC3 := Lib.hid hc3; have HK3 := Lib.hid hK3; have HL3 := Lib.hid hL3; have hfz3 : w3.frozen? ⟨g, k, none⟩ = false := hB3.2.1.free (by rw [put_size]; exact hlt); have hcl3 : w3.cell? ⟨g, k, none⟩ = some (.int .u8 who) := (by rw [hB3.2.1.cell (by rw [put_size]; exact hlt), PBV.out]); have hbs3 : w3.cell? ⟨b, 1, none⟩ = some (.slice (some ⟨g, 0, none⟩) s.size cap) := (by have := hB3.bytes_; rw [put_size] at this; exact this); have HB4 := Lib.hid (show BoardAt (w3.setCell ⟨g, k, none⟩ (.int .u8 46)) b g cap n s from (by have := hB3.set_ hB3.ne_ k 46 (v := 46) rfl; rw [HPB.out] at this; exact this)); have HM4 := Lib.hid (om_set hM3 (p := ⟨g, k, none⟩) (om_ne hM3 hB3.2.1).symm (.int .u8 46)); have HL4 := Lib.hid ((HLp.out.trans hL3).setCell (p := ⟨g, k, none⟩) hBg (.int .u8 46)); have HCM := Lib.hid (show c3 < maxLen from (by have := HRP.out; unfold maxLen; omega)); clear hpl hB3 hM3 hc3 hK3 hL3)
              | (at_mapUpdate; refine wpList_mapUpdate_own _ rfl _ _ _ 64 rfl 9 5 law Tryd.underlying64 _ m c3 _ rfl HM4.out HCM.out _ _ _ rfl rfl hkey _ [] (plainElem_int Tryd.underlying5 wwf) ?_; intro w5 hM5 hg5))
            · rename_i hv
              go_ret
              exact wins_end hBb hBg hBm (HL1.out.trans HL4.out) HB4.out HM4.out hM5 hg5 (by have := HC3.out; have := HC1.out; omega) HK3.out HT.out (.good _ _ k WHO.out (by rw [← HSZ.out]; exact hlt) HDOT.out (GD.out (by simpa using hv)))
            · rename_i hv
              go_roundg (s.size - (k + 1))
              case measure => have := hq.out; omega
              case rel => exact ⟨k + 1, c3, D3, by go_num, rfl, by omega, rfl, HB4, HM4, by
                show c3 ≤ c0 + pre s (k + 1) * T
                rw [HPN.out, if_pos HDOT.out, Nat.add_mul, Nat.one_mul]
                have := HC3.out
                have := HC.out
                omega, HK3, HL4, fun i hi hd => by
                by_cases e : i = k
                · subst e
                  have hv' : ¬ v = who := by simpa using hv
                  have h2 := HPL.out.two HOW.out
                  have : v = oth := by have := HOTH.out; have := HW.out; omega
                  exact this ▸ HPL.out
                · exact HP.out i (by omega) hd⟩
          · have hcell : wr.cell? ⟨g, k, none⟩ = some (.int .u8 (bt s k)) := HBr.out.2.1.cell hlt
            go_wp2_with fail
            go_roundg (s.size - (k + 1))
            case measure => have := hq.out; omega
            case rel => exact ⟨k + 1, c1, D1, by go_num, rfl, by omega, rfl, HBr, HMr, by show c1 ≤ c0 + pre s (k + 1) * T; rw [HPN.out, if_neg hdot]; exact HC.out, HKr, HLr, fun i hi hd => by
              by_cases e : i = k
              · subst e; exact absurd hd hdot
              · exact HP.out i (by omega) hd⟩
        · obtain rfl : k = s.size := by omega
          have HCE := Lib.hid (show c1 + 1 ≤ c0 + (1 + d * T) from by
            have h1 := HC.out
            have h2 : pre s s.size * T ≤ d * T := Nat.mul_le_mul_right _ (Nat.le_trans (pre_le _ _) DOTS.out)
            omega)
          have HCM := Lib.hid (show c1 < maxLen from by have := HCE.out; have := ROOM.out; unfold maxLen; omega)
          go_wp2_with (at_mapUpdate; refine wpList_mapUpdate_own _ rfl _ _ _ 64 rfl 9 5 law Tryd.underlying64 _ m c1 _ rfl HMr.out HCM.out _ _ _ rfl rfl hkey _ [] (plainElem_int Tryd.underlying5 owf) ?_; intro w2 hM2 hg2)
          go_ret
          exact wins_end hBb hBg hBm (HL1.out.trans HLr.out) HBr.out HMr.out hM2 hg2 HCE.out HKr.out HT.out (HOTH.out ▸ .bad _ _ WHO.out (fun i hi hd => HOTH.out ▸ HP.out i (by rw [HSZ.out]; exact hi) hd))
    · rename_i hr
      go_ret
      exact wins_end hBb hBg hBm HL1.out HB1.out HM1.out hM2 hg2 (by omega) HK.out HT.out (.won _ _ _ WHO.out (by simpa using hr))

theorem wins_any : ∀ d, WinsAt (fun c => c ≤ d) (Tn d)
  | 0 => by
    have := wins_step 0 0 (fun b g cap n m c0 B s D who w h => absurd h (by omega))
    simpa [Tn] using this
  | d + 1 => by
    have := wins_step (d + 1) (Tn d) (fun b g cap n m c0 B s D who w h => wins_any d b g cap n m c0 B s D who w (by omega))
    simpa [Tn] using this

end Go.Proofs.YtpbiminbhihjnaaDoor
