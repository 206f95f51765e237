/-
  A part of the proofs over the mirror (layer 4): RunJ.
-/
import Derived.Test.YtpbiminbhihjnaaDoorRunI
namespace Go.Proofs.YtpbiminbhihjnaaDoor
open Go.RowKit Dist Go.Maps Go.WideMaps
set_option linter.unusedSimpArgs false
set_option linter.unusedVariables false

/-- The text of who. -/
def tx (r : Int) : ByteArray := if r = 120 then ⟨#[120]⟩ else ⟨#[111]⟩

theorem tx_enc {r : Int} (h : r = 120 ∨ r = 111) : Utf8.encode r = tx r := by
  rcases h with rfl | rfl <;> decide

theorem who_two {n : Nat} {s : ByteArray} {r : Int} (h : WhoIs n s r) (h0 : r ≠ 0) : r = 120 ∨ r = 111 := by
  rcases h with ⟨_, _, _, rfl⟩ | ⟨_, _, _, _, rfl⟩ | ⟨_, _, rfl⟩
  · exact .inl rfl
  · exact .inr rfl
  · exact absurd rfl h0

/-- Who has a bridge on a full board, and which. -/
def WinIs (n : Int) (s t : ByteArray) (l : List Nat) (er : Int) : Prop :=
  (boardErr n s false ≠ 0 ∧ t = ByteArray.empty ∧ l = [] ∧ er = boardErr n s false) ∨
  (boardErr n s false = 0 ∧ ∃ r, r ≠ 0 ∧ WhoIs n.toNat s r ∧ t = tx r ∧ Short n.toNat s r l ∧ er = 0)

def WinPost (n : Int) (s : ByteArray) (w : World) (e : Ending) (w' : World) : Prop :=
  ∃ v t l er, e = .returned (.tuple #[.string t, v, .int .i64 er]) ∧ WinIs n s t l er ∧ Own w' w.heap.size v (asInts l) ∧ (l = [] → v = .slice none 0 0) ∧ l.length ≤ 121 ∧ Below w.heap.size w w'

set_option maxHeartbeats 2000000 in
set_option maxRecDepth 100000 in
theorem winner22 (n : Int) (s : ByteArray) (w : World) (hs : s.size ≤ 1000) (hS : StepsAt w) (hex : boardErr n s false = 0 → ¬ WhoIs n.toNat s 0) :
    Calls Tryd.prog 22 #[.int .i64 n, .string s] w (WinPost n s w) := by
  by_cases he : boardErr n s false = 0
  · obtain ⟨m, rfl, h1, h2, h3, h4⟩ := board_ok he
    have HE := Lib.hid he
    have HEX := Lib.hid (hex he)
    have HSZ := Lib.hid h3
    have HS := Lib.hid hS
    clear he hex h3 h4 hS
    go_enter Tryd.func22, Tryd.ntmps22
    go_wp2_with (first
      | (go_at_call 40; refine (boarded_ok m s false _ hs HE.out).mono ?_; rintro e w1 ⟨hL1, b, g, cap, rfl, hb, hg, hbg, hBo⟩; have HBO := Lib.hid hBo; have HS1 := Lib.hid (HS.out.below hL1); clear hBo)
      | (go_at_call 48; refine (winner_any b g cap m s _ HBO.out h1 h2 HSZ.out HS1.out).mono ?_; rintro e w2 ⟨r, rfl, hwho, hL2⟩; have WHO := Lib.hid hwho; have hwf := who_wf hwho; have hr0 : r ≠ 0 := (fun h => HEX.out (h ▸ hwho)); have hrt := Lib.hid (who_two hwho hr0); have henc := tx_enc hrt.out; have hrr : 111 ≤ r ∧ r ≤ 120 := (by have := hrt.out; omega); clear hwho; have HBO2 := Lib.hid (HBO.out.more hL2); have HS2 := Lib.hid (HS1.out.below hL2))
      | (go_at_call 49; refine (bridge_any b g cap m s r _ HBO2.out h1 h2 HSZ.out HS2.out hrt.out).mono ?_; rintro e w3 ⟨v, l, rfl, hsh, hO, hnil, hL3, hlen⟩; have SH := Lib.hid hsh; have HO := Lib.hid hO; have HNIL := Lib.hid hnil; clear hsh hO hnil))
    go_ret3
    refine ⟨v, tx r, l, 0, rfl, .inr ⟨HE.out, r, hr0, WHO.out, rfl, SH.out, rfl⟩, HO.out.base (by have := hL1.size; have := hL2.size; omega), HNIL.out, hlen, ?_⟩
    exact (hL1.trans (hL2.mono hL1.size)).trans (hL3.mono (by have := hL1.size; have := hL2.size; omega))
  · have HE := Lib.hid he
    clear he hex
    have hne : (boardErr n s false == 0) = false := by simpa using HE.out
    go_enter Tryd.func22, Tryd.ntmps22
    go_wp2_with (go_at_call 40; refine (boarded_err n s false _ hs HE.out).mono ?_; rintro e w1 ⟨rfl, hL1⟩)
    go_ret3
    exact ⟨_, _, [], _, rfl, .inl ⟨HE.out, rfl, rfl, rfl⟩, Own.nil _ _, fun _ => rfl, by simp, hL1⟩

/-- Who wins a board. -/
def WinsIs (n : Int) (s t : ByteArray) (er : Int) : Prop :=
  (boardErr n s true ≠ 0 ∧ t = ByteArray.empty ∧ er = boardErr n s true) ∨
  (boardErr n s true = 0 ∧ (∀ who, ¬ Turn s who) ∧ t = ByteArray.empty ∧ er = 9) ∨
  (boardErr n s true = 0 ∧ (∃ who, Turn s who) ∧ 9 < cnt s 46 ∧ t = ByteArray.empty ∧ er = 8) ∨
  (boardErr n s true = 0 ∧ ∃ who, Turn s who ∧ cnt s 46 ≤ 9 ∧ ∃ v, Plays n.toNat s who v ∧ t = tx v ∧ er = 0)

def WinsTextPost (n : Int) (s : ByteArray) (w : World) (e : Ending) (w' : World) : Prop :=
  ∃ t er, e = .returned (.tuple #[.string t, .int .i64 er]) ∧ WinsIs n s t er ∧ Below w.heap.size w w'

theorem cnt_le (s : ByteArray) (c : UInt8) : cnt s c ≤ s.size := by
  have := List.count_le_length (a := c) (l := s.data.toList)
  simpa [cnt] using this

set_option maxHeartbeats 2000000 in
set_option maxRecDepth 100000 in
theorem wins18 (n : Int) (s : ByteArray) (w : World) (hs : s.size ≤ 1000) (hS : StepsAt w) :
    Calls Tryd.prog 18 #[.int .i64 n, .string s] w (WinsTextPost n s w) := by
  have hmm := @run_makeMap Tryd.prog
  by_cases he : boardErr n s true = 0
  · obtain ⟨m, rfl, h1, h2, h3, h4⟩ := board_ok he
    have HE := Lib.hid he
    have HSZ := Lib.hid h3
    have HS := Lib.hid hS
    obtain ⟨x, hx⟩ : ∃ x, x = cnt s 120 := ⟨_, rfl⟩
    obtain ⟨o, ho⟩ : ∃ o, o = cnt s 111 := ⟨_, rfl⟩
    obtain ⟨d, hd⟩ : ∃ d, d = cnt s 46 := ⟨_, rfl⟩
    have hxl : x ≤ 1000 := by have := cnt_le s 120; omega
    have hol : o ≤ 1000 := by have := cnt_le s 111; omega
    have hdl : d ≤ 1000 := by have := cnt_le s 46; omega
    have HX := Lib.hid hx
    have HO := Lib.hid ho
    have HD := Lib.hid hd
    have CX := Lib.hid (show Lib.countByte s.data.toList 120 = x from hx.symm)
    have CO := Lib.hid (show Lib.countByte s.data.toList 111 = o from ho.symm)
    have CD := Lib.hid (show Lib.countByte s.data.toList 46 = d from hd.symm)
    clear he h3 h4 hS hx ho hd
    by_cases hxo : x = o
    · have hT : Turn s 120 := .inl ⟨rfl, by rw [← HX.out, ← HO.out]; exact hxo⟩
      subst hxo
      have HT := Lib.hid hT
      clear hT
      by_cases hd9 : d ≤ 9
      · have HD9 := Lib.hid (show cnt s 46 ≤ 9 from by rw [← HD.out]; exact hd9)
        go_enter Tryd.func18, Tryd.ntmps18
        go_wp2_with (first
          | (go_at_call 40; refine (boarded_ok m s true _ hs HE.out).mono ?_; rintro e w1 ⟨hL1, b, g, cap, rfl, hb, hg, hbg, hBo⟩; have HBO := Lib.hid hBo; have HS1 := Lib.hid (HS.out.below hL1); clear hBo)
          | (go_at_call 46; refine (Tryd.strings_Count_one s _ _).mono ?_; rintro e w2 ⟨rfl, rfl⟩; simp only [CX.out, CO.out, CD.out])
          | (go_at_call 47; refine (wins_any 9 b g cap m _ 0 w.heap.size s (.map []) 120 _ HD9.out (HBO.out.more ((Below.refl _ _).alloc (Nat.le_refl _) _)) hb hg (by have := hL1.size; omega) h1 h2 HSZ.out (HS1.out.below ((Below.refl _ _).alloc (Nat.le_refl _) _)) HS.out.1 HT.out (World.ownsMap_made _ _ _ _) (by have := tn9 9 (by omega); omega) (known_empty _)).mono ?_; rintro e w3 ⟨v, D, c, rfl, hpl, -, -, -, -, hL3⟩; have PL := Lib.hid hpl; have hv2 := hpl.two (by omega); have henc := tx_enc hv2; have hvr : 111 ≤ v ∧ v ≤ 120 := (by omega); have HL1 := Lib.hid hL1; have HL3 := Lib.hid hL3; clear hpl hv2 hL3))
        go_ret2
        exact ⟨tx v, 0, rfl, .inr (.inr (.inr ⟨HE.out, 120, HT.out, HD9.out, v, PL.out, rfl, rfl⟩)), (HL1.out.alloc HL1.out.size _).trans HL3.out⟩
      · go_enter Tryd.func18, Tryd.ntmps18
        go_wp2_with (first
          | (go_at_call 40; refine (boarded_ok m s true _ hs HE.out).mono ?_; rintro e w1 ⟨hL1, b, g, cap, rfl, hb, hg, hbg, hBo⟩; have HBO := Lib.hid hBo; have HS1 := Lib.hid (HS.out.below hL1); clear hBo)
          | (go_at_call 46; refine (Tryd.strings_Count_one s _ _).mono ?_; rintro e w2 ⟨rfl, rfl⟩; simp only [CX.out, CO.out, CD.out]))
        go_ret2
        exact ⟨_, 8, rfl, .inr (.inr (.inl ⟨HE.out, ⟨120, HT.out⟩, by rw [← HD.out]; omega, rfl, rfl⟩)), hL1⟩
    · by_cases hxo1 : x = o + 1
      · have hT : Turn s 111 := .inr ⟨rfl, by rw [← HX.out, ← HO.out]; exact hxo1⟩
        subst hxo1
        have HT := Lib.hid hT
        clear hT hxo
        by_cases hd9 : d ≤ 9
        · have HD9 := Lib.hid (show cnt s 46 ≤ 9 from by rw [← HD.out]; exact hd9)
          go_enter Tryd.func18, Tryd.ntmps18
          go_wp2_with (first
            | (go_at_call 40; refine (boarded_ok m s true _ hs HE.out).mono ?_; rintro e w1 ⟨hL1, b, g, cap, rfl, hb, hg, hbg, hBo⟩; have HBO := Lib.hid hBo; have HS1 := Lib.hid (HS.out.below hL1); clear hBo)
            | (go_at_call 46; refine (Tryd.strings_Count_one s _ _).mono ?_; rintro e w2 ⟨rfl, rfl⟩; simp only [CX.out, CO.out, CD.out])
            | (go_at_call 47; refine (wins_any 9 b g cap m _ 0 w.heap.size s (.map []) 111 _ HD9.out (HBO.out.more ((Below.refl _ _).alloc (Nat.le_refl _) _)) hb hg (by have := hL1.size; omega) h1 h2 HSZ.out (HS1.out.below ((Below.refl _ _).alloc (Nat.le_refl _) _)) HS.out.1 HT.out (World.ownsMap_made _ _ _ _) (by have := tn9 9 (by omega); omega) (known_empty _)).mono ?_; rintro e w3 ⟨v, D, c, rfl, hpl, -, -, -, -, hL3⟩; have PL := Lib.hid hpl; have hv2 := hpl.two (by omega); have henc := tx_enc hv2; have hvr : 111 ≤ v ∧ v ≤ 120 := (by omega); have HL1 := Lib.hid hL1; have HL3 := Lib.hid hL3; clear hpl hv2 hL3))
          go_ret2
          exact ⟨tx v, 0, rfl, .inr (.inr (.inr ⟨HE.out, 111, HT.out, HD9.out, v, PL.out, rfl, rfl⟩)), (HL1.out.alloc HL1.out.size _).trans HL3.out⟩
        · go_enter Tryd.func18, Tryd.ntmps18
          go_wp2_with (first
            | (go_at_call 40; refine (boarded_ok m s true _ hs HE.out).mono ?_; rintro e w1 ⟨hL1, b, g, cap, rfl, hb, hg, hbg, hBo⟩; have HBO := Lib.hid hBo; have HS1 := Lib.hid (HS.out.below hL1); clear hBo)
            | (go_at_call 46; refine (Tryd.strings_Count_one s _ _).mono ?_; rintro e w2 ⟨rfl, rfl⟩; simp only [CX.out, CO.out, CD.out]))
          go_ret2
          exact ⟨_, 8, rfl, .inr (.inr (.inl ⟨HE.out, ⟨111, HT.out⟩, by rw [← HD.out]; omega, rfl, rfl⟩)), hL1⟩
      · have HN := Lib.hid (show ∀ who, ¬ Turn s who from fun who h => by
          rcases h with ⟨_, h⟩ | ⟨_, h⟩
          · rw [← HX.out, ← HO.out] at h; exact hxo h
          · rw [← HX.out, ← HO.out] at h; exact hxo1 h)
        go_enter Tryd.func18, Tryd.ntmps18
        go_wp2_with (first
          | (go_at_call 40; refine (boarded_ok m s true _ hs HE.out).mono ?_; rintro e w1 ⟨hL1, b, g, cap, rfl, hb, hg, hbg, hBo⟩; have HBO := Lib.hid hBo; have HS1 := Lib.hid (HS.out.below hL1); clear hBo)
          | (go_at_call 46; refine (Tryd.strings_Count_one s _ _).mono ?_; rintro e w2 ⟨rfl, rfl⟩; simp only [CX.out, CO.out, CD.out]))
        all_goals (try go_ret2)
        all_goals (try exact ⟨_, 9, rfl, .inr (.inl ⟨HE.out, HN.out, rfl, rfl⟩), hL1⟩)
  · have HE := Lib.hid he
    clear he
    have hne : (boardErr n s true == 0) = false := by simpa using HE.out
    go_enter Tryd.func18, Tryd.ntmps18
    go_wp2_with (go_at_call 40; refine (boarded_err n s true _ hs HE.out).mono ?_; rintro e w1 ⟨rfl, hL1⟩)
    go_ret2
    exact ⟨_, _, rfl, .inl ⟨HE.out, rfl, rfl⟩, hL1⟩

end Go.Proofs.YtpbiminbhihjnaaDoor
