/-
  Proper: the program's and the reference's.
-/
import Derived.Test.YtpbiminbhihjnaaDoorTriK
namespace Go.Proofs.YtpbiminbhihjnaaDoor
open Go.RowKit Tri Go.Maps Go.WideMaps Dist
set_option linter.unusedSimpArgs false
set_option linter.unusedVariables false

def ProperIs (n : Int) (s : ByteArray) (b : Bool) (er : Int) : Prop :=
  (triErr n s ≠ 0 ∧ b = false ∧ er = triErr n s) ∨ (triErr n s = 0 ∧ b = propB n.toNat s ∧ er = 0)

theorem proper_unique {n : Int} {s : ByteArray} {b b' : Bool} {er er' : Int} (h : ProperIs n s b er) (k : ProperIs n s b' er') : b = b' ∧ er = er' := by
  rcases h with ⟨a, rfl, rfl⟩ | ⟨a, rfl, rfl⟩ <;> rcases k with ⟨a', rfl, rfl⟩ | ⟨a', rfl, rfl⟩
  · exact ⟨rfl, rfl⟩
  · exact absurd a' a
  · exact absurd a a'
  · exact ⟨rfl, rfl⟩

def ProperPost (n : Int) (s : ByteArray) (w : World) (e : Ending) (w' : World) : Prop :=
  ∃ b er, e = .returned (.tuple #[.bool b, .int .i64 er]) ∧ ProperIs n s b er ∧ Below w.heap.size w w'

set_option maxRecDepth 100000 in
theorem proper23 (n : Int) (s : ByteArray) (w : World) (hs : s.size ≤ 1000) : Calls Tryd.prog 23 #[.int .i64 n, .string s] w (ProperPost n s w) := by
  by_cases he : triErr n s = 0
  · obtain ⟨m, rfl, h1, h2, h3, h4⟩ := tri_ok he
    have HE := Lib.hid he
    have H3 := Lib.hid h3
    have H4 := Lib.hid h4
    clear he h3 h4
    go_enter Tryd.func23, Tryd.ntmps23
    go_wp2_with (first
      | (go_at_call 50; refine (of_ok m s _ hs HE.out).mono ?_; rintro e w1 ⟨hL1, t, mb, rfl, ht, hmb, hT⟩; have HT := Lib.hid hT; have HL1 := Lib.hid hL1; clear hT hL1)
      | (go_at_call 51; refine (proper51 t mb m s _ HT.out h2 H3.out H4.out).mono ?_; rintro e w2 ⟨rfl, hL2⟩))
    go_ret2
    exact ⟨_, _, rfl, .inr ⟨HE.out, by rw [Int.toNat_natCast], rfl⟩, HL1.out.trans (hL2.mono HL1.out.size)⟩
  · have HE := Lib.hid he
    have hb : (triErr n s != 0) = true := by simp [he]
    clear he
    go_enter Tryd.func23, Tryd.ntmps23
    go_wp2_with (go_at_call 50; refine (of_err n s _ hs HE.out).mono ?_; rintro e w1 ⟨rfl, hL1⟩)
    go_ret2
    exact ⟨_, _, rfl, .inl ⟨HE.out, rfl, rfl⟩, hL1⟩

set_option maxHeartbeats 4000000 in
set_option maxRecDepth 100000 in
theorem refProper52 (n : Nat) (s : ByteArray) (w : World) (h1 : 1 ≤ n) (hn : n ≤ 20) (hs : s.size = rowAt n (n + 1)) (hok : triOk s = true) :
    Calls Tryd.prog 52 #[.int .i64 (n : Int), .string s] w (PropPost n s w) := by
  have HSZ := Lib.hid hs
  have HBD := Lib.hid (show ∀ i j, i + j ≤ n → 48 ≤ bt s (pos n i j) ∧ bt s (pos n i j) ≤ 50 from fun i j hij => tri_bytes hok (by rw [hs]; exact pos_lt hij))
  clear hs hok
  go_enter Tryd.func52, Tryd.ntmps52
  go_wp2_with fail
  go_loopg [5] (n + 1) (fun q x wr => ∃ i : Nat, x = .int .i64 i ∧ i ≤ n + 1 ∧ Hid (q = n + 1 - i) ∧ Hid (Below w.heap.size w wr) ∧ Hid (∀ a b, a < i → a + b ≤ n → ¬ BadPt n s a b))
  case atStart => exact ⟨0, rfl, Nat.zero_le _, rfl, Lib.hid (Below.refl _ _), Lib.hid (fun a b ha => by omega)⟩
  case round =>
    obtain ⟨i, rfl, hi, hq, HL, HG⟩ := hrel
    by_cases hlt : i ≤ n
    · go_wp2_with fail
      obtain ⟨wo, hwo⟩ : ∃ wo : World, wo = wr := ⟨_, rfl⟩
      rw [← hwo] at HL ⊢
      clear hwo
      go_loopg [6] (n + 1 - i) (fun q x wr => ∃ j : Nat, x = .int .i64 j ∧ i + j ≤ n + 1 ∧ Hid (q = n + 1 - i - j) ∧ Hid (Below w.heap.size w wr) ∧ Hid (∀ b, b < j → i + b ≤ n → ¬ BadPt n s i b))
      case atStart => exact ⟨0, rfl, by omega, rfl, HL, Lib.hid (fun b hb => by omega)⟩
      case round =>
        clear HL
        obtain ⟨j, rfl, hj, hq2, HL, HG2⟩ := hrel
        by_cases hij : i + j ≤ n
        · obtain ⟨col, hcol⟩ : ∃ col, col = bt s (pos n i j) := ⟨_, rfl⟩
          have hcb := HBD.out i j hij
          rw [← hcol] at hcb
          have HC := Lib.hid hcol
          obtain ⟨bj, hbj⟩ : ∃ b, ((j : Int) == 0) = b := ⟨_, rfl⟩
          obtain ⟨bi, hbi⟩ : ∃ b, ((i : Int) == 0) = b := ⟨_, rfl⟩
          obtain ⟨bn, hbn⟩ : ∃ b, ((i : Int) + (j : Int) == (n : Int)) = b := ⟨_, rfl⟩
          have JJ := Lib.hid (show (bj = true ↔ j = 0) by rw [← hbj, beq_iff_eq]; omega)
          have II := Lib.hid (show (bi = true ↔ i = 0) by rw [← hbi, beq_iff_eq]; omega)
          have NN := Lib.hid (show (bn = true ↔ i + j = n) by rw [← hbn, beq_iff_eq]; omega)
          have F70 := Lib.hid (show ∀ W : World, Calls Tryd.prog 70 #[.int .i64 (n : Int), .string s, .agg #[.int .i64 (i : Int), .int .i64 (j : Int)]] W fun e w' => e = .returned (.int .u8 col) ∧ Below W.heap.size W w' from fun W => by rw [hcol]; exact colour70 n i j s W hn hij HSZ.out)
          have hc3 : col = 48 ∨ col = 49 ∨ col = 50 := by omega
          clear hcb hcol
          rcases hc3 with rfl | rfl | rfl <;> cases bj <;> cases bi <;> cases bn
          all_goals
            go_wp2_with (go_at_call 70; refine (F70.out _).mono ?_; rintro e w2 ⟨rfl, hL2⟩; have HL2 := Lib.hid (HL.out.trans (hL2.mono HL.out.size)); clear hL2)
            first
              | (go_ret
                 refine ⟨?_, HL2.out⟩
                 rw [show propB n s = false from propB_false fun h => h i j hij (by
                   unfold BadPt
                   rw [← HC.out]
                   have := JJ.out; have := II.out; have := NN.out
                   simp at *
                   omega)]
                 rfl)
              | (go_roundg (n + 1 - i - (j + 1))
                 case measure => have := hq2.out; omega
                 case rel => exact ⟨j + 1, by go_num, by omega, rfl, HL2, Lib.hid (fun b hb hib => by
                   by_cases e : b = j
                   · subst e
                     unfold BadPt
                     rw [← HC.out]
                     have := JJ.out; have := II.out; have := NN.out
                     simp at *
                     omega
                   · exact HG2.out b (by omega) hib)⟩)
        · go_wp2_with fail
          go_roundg (n + 1 - (i + 1))
          case measure => have := hq.out; omega
          case rel => exact ⟨i + 1, by go_num, by omega, rfl, HL, Lib.hid (fun a b ha hab => by
            by_cases e : a = i
            · subst e; exact HG2.out b (by omega) hab
            · exact HG.out a b (by omega) hab)⟩
    · have R := Lib.hid (show propB n s = true from propB_true fun a b hab => HG.out a b (by omega) hab)
      go_wp2_with fail
      go_ret
      exact ⟨by rw [R.out]; rfl, HL.out⟩

set_option maxRecDepth 100000 in
theorem refProper24 (n : Int) (s : ByteArray) (w : World) (hs : s.size ≤ 1000) : Calls Tryd.prog 24 #[.int .i64 n, .string s] w (ProperPost n s w) := by
  by_cases he : triErr n s = 0
  · obtain ⟨m, rfl, h1, h2, h3, h4⟩ := tri_ok he
    have HE := Lib.hid he
    have H3 := Lib.hid h3
    have H4 := Lib.hid h4
    have hb : (triErr m s != 0) = false := by simp [he]
    clear he h3 h4
    go_enter Tryd.func24, Tryd.ntmps24
    go_wp2_with (first
      | (go_at_call 28; refine (tri28 _ s _ hs).mono ?_; rintro e w1 ⟨rfl, rfl⟩)
      | (go_at_call 52; refine (refProper52 m s _ h1 h2 H3.out H4.out).mono ?_; rintro e w2 ⟨rfl, hL2⟩))
    go_ret2
    exact ⟨_, _, rfl, .inr ⟨HE.out, by rw [Int.toNat_natCast], rfl⟩, hL2⟩
  · have HE := Lib.hid he
    have hb : (triErr n s != 0) = true := by simp [he]
    clear he
    go_enter Tryd.func24, Tryd.ntmps24
    go_wp2_with (go_at_call 28; refine (tri28 _ s _ hs).mono ?_; rintro e w1 ⟨rfl, rfl⟩)
    go_ret2
    exact ⟨_, _, rfl, .inl ⟨HE.out, rfl, rfl⟩, Below.refl _ _⟩

end Go.Proofs.YtpbiminbhihjnaaDoor
