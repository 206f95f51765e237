/-
  The program's proper: a walk over the map of colours.
-/
import Derived.Test.YtpbiminbhihjnaaDoorTriJ
import Derived.Test.YtpbiminbhihjnaaDoorTriH
import Derived.Maps.RangeWalk
import Derived.Maps.Views
import Derived.IntWalk
import Derived.BigQuiet
namespace Go.Proofs.YtpbiminbhihjnaaDoor
open Go.RowKit Tri Go.Maps Go.WideMaps Dist
set_option linter.unusedSimpArgs false
set_option linter.unusedVariables false

/-- A point whose colour a proper colouring does not allow. -/
def BadPt (n : Nat) (s : ByteArray) (i j : Nat) : Prop := (j = 0 ∧ bt s (pos n i j) = 50) ∨ (i = 0 ∧ bt s (pos n i j) = 49) ∨ (i + j = n ∧ bt s (pos n i j) = 48)
def PropT (n : Nat) (s : ByteArray) : Prop := ∀ i j, i + j ≤ n → ¬ BadPt n s i j
noncomputable def propB (n : Nat) (s : ByteArray) : Bool := @decide (PropT n s) (Classical.propDecidable _)

theorem propB_true {n : Nat} {s : ByteArray} (h : PropT n s) : propB n s = true := @decide_eq_true _ (Classical.propDecidable _) h
theorem propB_false {n : Nat} {s : ByteArray} (h : ¬ PropT n s) : propB n s = false := @decide_eq_false _ (Classical.propDecidable _) h
theorem propB_iff {n : Nat} {s : ByteArray} : propB n s = true ↔ PropT n s := @decide_eq_true_iff _ (Classical.propDecidable _)

theorem same_kp {a b c d : Nat} (h : (kp a b).sameKey (kp c d) = true) : kp a b = kp c d := by
  unfold kp at *
  simp only [Lit.sameKey, beq_iff_eq] at h
  rw [h]

def PropPost (n : Nat) (s : ByteArray) (w : World) (e : Ending) (w' : World) : Prop := e = .returned (.bool (propB n s)) ∧ Below w.heap.size w w'

set_option maxHeartbeats 4000000 in
set_option maxRecDepth 100000 in
theorem proper51 (t m n : Nat) (s : ByteArray) (w : World) (hT : TriAt w t m n s) (hn : n ≤ 20) (hs : s.size = rowAt n (n + 1)) (hok : triOk s = true) :
    Calls Tryd.prog 51 #[.pointer (some ⟨t, 0, none⟩)] w (PropPost n s w) := by
  obtain ⟨hB, c, D, hM, hD, hat, hhas⟩ := hT
  have HB := Lib.hid hB
  have HM := Lib.hid hM
  have HAT := Lib.hid hat
  have HHAS := Lib.hid hhas
  have HSZ := Lib.hid hs
  have HOK := Lib.hid hok
  have c0 : w.cell? ⟨t, 0, none⟩ = some (.int .i64 (n : Int)) := by rw [hB.cell]; rfl
  have c1 : w.cell? ⟨t, 1, none⟩ = some (.map (some m)) := by rw [hB.cell]; rfl
  have HBD := Lib.hid (show ∀ i j, i + j ≤ n → 48 ≤ bt s (pos n i j) ∧ bt s (pos n i j) ≤ 50 from fun i j hij => tri_bytes hok (by rw [hs]; exact pos_lt hij))
  clear hB hM hat hhas hs hok hD
  go_enter Tryd.func51, Tryd.ntmps51
  go_wp2_with (at_range; refine wpList_range_own _ rfl _ 114 rfl 94 5 keyed94 Tryd.underlying114 _ m c _ rfl HM.out ?_; intro w0 hrg0 hg0 hs0)
  go_frame
  have HL0 := Lib.hid (show Below w.heap.size w w0 from (Below.refl _ _).grown hg0 (Nat.le_refl _) (fun k hk => by cases hk))
  go_loopg [] (size D) (fun q wr => ∃ (left : Lit → Bool) (cnt : Nat), Hid (wr.ranges Tryd.prog 94 (plainElem Tryd.prog 5) m w.heap.size c D left cnt) ∧ Hid (q = cnt) ∧ Hid (Below w.heap.size w wr) ∧ Hid (∀ l, left l = true → has D l = true) ∧ Hid (∀ i j, i + j ≤ n → left (kp i j) = false → ¬ BadPt n s i j))
  case atStart =>
    refine ⟨_, _, hrg0, rfl, HL0, fun l h => h, fun i j hij h => ?_⟩
    exfalso
    have h1 := atKey_of_not_has h (.lit (.int .u8 0))
    rw [HAT.out i j hij] at h1
    have := HBD.out i j hij
    injection h1 with h1
    injection h1 with _ h1
    omega
  case round =>
    clear hrg0 hg0 hs0
    obtain ⟨left, cnt, HR, hq, HL, HLEFT, HGOOD⟩ := hrel
    go_wp2_with (at_next; refine wpList_next_ranges _ rfl _ rfl 94 keyed94 (plainElem Tryd.prog 5) (fun v : Value => v) (Value.int .u8) (fun key kl h => ⟨key, rfl⟩) (fun v y hv => by obtain ⟨c, rfl, _⟩ := plainElem_int_inv Tryd.underlying5 hv; exact ⟨c, rfl⟩) m w.heap.size c _ _ _ rfl HR.out ?_ ?_)
    · intro hc0 hl0
      have R := Lib.hid (show propB n s = true from propB_true fun i j hij => HGOOD.out i j hij (hl0 _))
      go_wp2_with fail
      go_ret
      exact ⟨by rw [R.out]; rfl, HL.out⟩
    · intro x col kl y1 y2 w1 cnt1 hkey hlx hy hat2 hrg1 hlt hg1 hs1 hen
      obtain ⟨i, j, hij, rfl⟩ := HHAS.out kl (HLEFT.out kl hlx)
      have hx : x = ptV i j := law94.inj hkey (key94 i j (by omega) (by omega))
      subst hx
      have hcol : col = bt s (pos n i j) := by
        have h1 := hat2 (.lit (.int .u8 0))
        rw [HAT.out i j hij] at h1
        obtain ⟨c', e1, e2, _⟩ := plainElem_int_inv Tryd.underlying5 hy
        injection e1 with _ e1
        injection e2 with e2 _
        rw [e2] at h1
        injection h1 with h1
        injection h1 with _ h1
        omega
      have hcb := HBD.out i j hij
      rw [← hcol] at hcb
      have HC := Lib.hid hcol
      have HR1 := Lib.hid hrg1
      have HL1 := Lib.hid (HL.out.grown hg1 (HL.out.size) (fun k hk => by cases hk; exact Nat.le_refl _))
      have HLT := Lib.hid hlt
      have htm := Lib.hid (show m < w.heap.size from om_lt HM.out)
      have cB1 := Lib.hid (show Blk w1 t 116 #[.int .i64 (n : Int), .map (some m)] from HB.out.below HL1.out HB.out.lt)
      have hi20 : i ≤ 20 := by omega
      have hj20 : j ≤ 20 := by omega
      have hij20 : i + j ≤ 20 := by omega
      clear hcol hat2 hy hrg1 hg1 hlt hkey hs1 c0 c1
      unfold ptV at hen
      go_wp2_with fail
      obtain ⟨g, hg⟩ : ∃ g, g = w1.heap.size := ⟨_, rfl⟩
      have hbn := Blk.new w1 94 #[.int .i64 (i : Int), .int .i64 (j : Int)]
      have ci : (w1.alloc (.cells #[.int .i64 (i : Int), .int .i64 (j : Int)] 94)).cell? ⟨g, 0, none⟩ = some (.int .i64 (i : Int)) := by rw [hg, hbn.cell]; rfl
      have cj : (w1.alloc (.cells #[.int .i64 (i : Int), .int .i64 (j : Int)] 94)).cell? ⟨g, 1, none⟩ = some (.int .i64 (j : Int)) := by rw [hg, hbn.cell]; rfl
      have cn : (w1.alloc (.cells #[.int .i64 (i : Int), .int .i64 (j : Int)] 94)).cell? ⟨t, 0, none⟩ = some (.int .i64 (n : Int)) := by rw [(cB1.out.alloc _).cell]; rfl
      have HR2 := Lib.hid (HR1.out.alloc (.cells #[.int .i64 (i : Int), .int .i64 (j : Int)] 94))
      have HL2 := Lib.hid (HL1.out.alloc HL1.out.size (.cells #[.int .i64 (i : Int), .int .i64 (j : Int)] 94))
      rw [← hg]
      clear hen hbn hg hlx
      generalize w1.alloc (.cells #[.int .i64 (i : Int), .int .i64 (j : Int)] 94) = w2 at *
      obtain ⟨bj, hbj⟩ : ∃ b, ((j : Int) == 0) = b := ⟨_, rfl⟩
      obtain ⟨bi, hbi⟩ : ∃ b, ((i : Int) == 0) = b := ⟨_, rfl⟩
      obtain ⟨bn, hbn⟩ : ∃ b, ((i : Int) + (j : Int) == (n : Int)) = b := ⟨_, rfl⟩
      have hw : IntKind.i64.wrap ((i : Int) + (j : Int)) = (i : Int) + (j : Int) := IntWalk.i64_in _ (by omega)
      have JJ := Lib.hid (show (bj = true ↔ j = 0) by rw [← hbj, beq_iff_eq]; omega)
      have II := Lib.hid (show (bi = true ↔ i = 0) by rw [← hbi, beq_iff_eq]; omega)
      have NN := Lib.hid (show (bn = true ↔ i + j = n) by rw [← hbn, beq_iff_eq]; omega)
      have HIJ := Lib.hid hij
      have hc3 : col = 48 ∨ col = 49 ∨ col = 50 := by omega
      clear hcb hi20 hj20 hij20 hij
      rcases hc3 with rfl | rfl | rfl <;> cases bj <;> cases bi <;> cases bn
      all_goals
        go_wp2_with fail
        go_quiet (fail)
        go_wp2_with fail
        first
          | (go_ret
             refine ⟨?_, below_drewN' HL2.out nq⟩
             rw [show propB n s = false from propB_false fun h => h i j HIJ.out (by
               unfold BadPt
               rw [← HC.out]
               have := JJ.out; have := II.out; have := NN.out
               simp at *
               omega)]
             rfl)
          | (go_roundg cnt1
             case measure => have := hq.out; have := HLT.out; omega
             case rel => exact ⟨fun z => left z && !z.sameKey (kp i j), cnt1, Lib.hid (show (w2.drewN nq).ranges Tryd.prog 94 (plainElem Tryd.prog 5) m w.heap.size c D (fun z => left z && !z.sameKey (kp i j)) cnt1 from HR2.out), rfl, Lib.hid (below_drewN' HL2.out nq), Lib.hid (fun l h => HLEFT.out l (by simp at h; exact h.1)), Lib.hid (fun i' j' hij' h => by
               by_cases e : i' = i ∧ j' = j
               · obtain ⟨rfl, rfl⟩ := e
                 unfold BadPt
                 rw [← HC.out]
                 have := JJ.out; have := II.out; have := NN.out
                 simp at *
                 omega
               · refine HGOOD.out i' j' hij' ?_
                 have hne : (kp i' j').sameKey (kp i j) = false := by
                   cases hs : (kp i' j').sameKey (kp i j) with
                   | false => rfl
                   | true =>
                     have := HIJ.out
                     exact absurd (kp_inj (by omega) (by omega) (by omega) (by omega) (same_kp hs)) e
                 simpa [hne] using h)⟩)

end Go.Proofs.YtpbiminbhihjnaaDoor
