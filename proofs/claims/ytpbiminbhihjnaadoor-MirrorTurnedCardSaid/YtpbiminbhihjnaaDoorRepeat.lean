/-
  A part of the proofs over the mirror (layer 4): Repeat.
-/
import Derived.Test.YtpbiminbhihjnaaDoorWords
import Derived.Test.YtpbiminbhihjnaaDoorShelf
import Derived.Laws.CopyOwn
import Derived.Deep.RegionLaw
namespace Go.Proofs.YtpbiminbhihjnaaDoor
open Go.RowKit
set_option linter.unusedSimpArgs false
set_option linter.unusedVariables false

/-- The row while it is filled: k times -1, then zeros. -/
def fillTo (N k : Nat) : List Int := List.replicate k (-1) ++ List.replicate (N - k) 0

theorem fill_splice (N k m : Nat) (h : k + m ≤ N) : splice (fillTo N k) k (List.replicate m (-1)) = fillTo N (k + m) := by
  unfold splice fillTo
  rw [List.take_left' (by simp), List.length_replicate, List.drop_append, List.length_replicate, List.drop_eq_nil_of_le (by simp), List.nil_append]
  rw [show k + m - k = m by omega, List.drop_replicate, ← List.append_assoc, List.replicate_append_replicate, show N - k - m = N - (k + m) by omega]

def RepPost (N : Nat) (w : World) (e : Ending) (w' : World) : Prop :=
  ∃ g, e = .returned (.slice (some ⟨g, 0, none⟩) N N) ∧ w.heap.size ≤ g ∧ Blk w' g 3 (ints (List.replicate N (-1))) ∧ Below w.heap.size w w'

theorem mul_one (N : Nat) (h2 : N ≤ 1000) (w : World) : Calls Tryd.prog 92 #[.int .u64 1, .int .u64 (N : Int)] w fun e w' => e = .returned (.tuple #[.int .u64 0, .int .u64 (N : Int)]) ∧ w = w' := by
  have h := Tryd.bits_Mul 1 N (by decide) (by omega) w
  rw [show 1 * N / 18446744073709551616 = 0 by omega, show 1 * N % 18446744073709551616 = N by omega] at h
  exact h.mono fun _ _ hh => ⟨hh.1, hh.2.symm⟩

theorem ints_app (a b : List Int) : ints (a ++ b) = ints a ++ ints b := by unfold ints; simp

theorem splice_ints (l : List Int) (k : Nat) (cs : List Int) : (splice (l.map (Value.int .i64)) k (cs.map (Value.int .i64))).toArray = ints (splice l k cs) := by
  unfold splice ints
  simp

theorem fill_len (N k : Nat) (h : k ≤ N) : (fillTo N k).length = N := by unfold fillTo; simp; omega

theorem info3s : (Tryd.prog.info? 3).map (·.size) = some 1 := by kernel_rfl

theorem copy_fill {W : World} {g N k m : Nat} {sp : Addr} {sLen sCap dLen dCap : Nat} (hB : Blk W g 3 (ints (fillTo N k))) (hm : m = min sLen dLen) (hk : k + m ≤ N) (h0 : 0 < m)
    (hsrc : ∀ j, j < m → W.cell? (sp.add j) = some (.int .i64 (-1))) :
    (Builtin.copy_ #[33, 33] 3 #[.slice (some ⟨g, k, none⟩) dLen dCap, .slice (some sp) sLen sCap]).run Tryd.prog W = .ok (.int .i64 (m : Int)) (W.setRow g (ints (fillTo N (k + m)))) := by
  have h := run_copy_row (P := Tryd.prog) W 33 33 3 3 g k dLen dCap sp sLen sCap (ints (fillTo N k)) 3 ((List.replicate m (-1)).map (Value.int .i64)) Tryd.underlying33 info3s hB (by simp; omega)
    (by
      intro j v hj
      rw [List.getElem?_map, List.getElem?_replicate] at hj
      by_cases hjm : j < m
      · rw [if_pos hjm] at hj
        simp at hj
        rw [← hj]
        exact hsrc j hjm
      · rw [if_neg hjm] at hj; cases hj)
    (by simp [ints, fill_len N k (by omega)]; omega) (by intro v hv; simp at hv; rw [hv.2]; rfl)
  rw [h]
  have e1 : ((List.replicate m (-1)).map (Value.int .i64)).length = m := by simp
  have e2 : ((ints (fillTo N k)).toList.take k ++ (List.replicate m (-1)).map (Value.int .i64) ++ (ints (fillTo N k)).toList.drop (k + ((List.replicate m (-1)).map (Value.int .i64)).length)).toArray = ints (fillTo N (k + m)) := by
    rw [← fill_splice N k m hk, ← splice_ints]
    unfold splice
    simp [ints]
  rw [e2, e1]
  rfl

theorem blk_setRow {W : World} {g : Nat} {cs cs' : Array Value} (hB : Blk W g 3 cs) : Blk (W.setRow g cs') g 3 cs' := by
  unfold Blk at *
  exact setRow_heap W g cs cs' 3 (0, 0) hB

set_option maxHeartbeats 1000000 in
set_option maxRecDepth 100000 in
theorem repeat_any (b N : Nat) (w : World) (hc : w.cell? ⟨b, 0, none⟩ = some (.int .i64 (-1))) (hb : b < w.heap.size) (h1 : 1 ≤ N) (h2 : N ≤ 1000) :
    Calls Tryd.prog 75 #[.slice (some ⟨b, 0, none⟩) 1 1, .int .i64 (N : Int)] w (RepPost N w) := by
  have hmk := make_ints N (by omega)
  have hn0 : ¬ (N : Int) < 0 := by omega
  have hbig : decide ((9223372036854775807 : Int) < (N : Int)) = false := by rw [decide_eq_false_iff_not]; omega
  have F0 : List.replicate N (0 : Int) = fillTo N 0 := by unfold fillTo; simp
  rw [F0] at hmk
  have hB0 := Blk.new w 3 (ints (fillTo N 0))
  have hcp := copy_fill (sp := ⟨b, 0, none⟩) (sLen := 1) (sCap := 1) (dLen := N) (dCap := N) (m := 1) hB0 (by omega) (by omega) (by omega) (by
    intro j hj
    obtain rfl : j = 0 := by omega
    have : (⟨b, 0, none⟩ : Addr).add 0 = ⟨b, 0, none⟩ := by simp [Addr.add]
    rw [this, World.cell?_alloc_lt _ _ _ hb]
    exact hc)
  have hB1 := blk_setRow (cs' := ints (fillTo N (0 + 1))) hB0
  have hL1 := below_setRow (B := w.heap.size) ((Below.refl _ _).alloc (Nat.le_refl _) (.cells (ints (fillTo N 0)) 3)) (Nat.le_refl w.heap.size) (ints (fillTo N (0 + 1)))
  clear F0 hB0
  go_enter Tryd.func75, Tryd.ntmps75
  go_wp2_with (go_at_call 92; refine (mul_one N h2 _).mono ?_; rintro e w' ⟨rfl, rfl⟩)
  clear hcp
  generalize hW : (w.alloc (.cells (ints (fillTo N 0)) 3)).setRow w.heap.size (ints (fillTo N (0 + 1))) = w1 at hB1 hL1
  go_loopg [8] (N - 1) (fun q v wr => ∃ k : Nat, v = .int .i64 k ∧ 1 ≤ k ∧ k ≤ N ∧ Hid (q = N - k) ∧ Blk wr w.heap.size 3 (ints (fillTo N k)) ∧ Below w.heap.size w wr)
  case atStart =>
    refine ⟨1, rfl, Nat.le_refl _, h1, rfl, ?_, ?_⟩
    · exact hB1
    · exact hL1
  case round =>
    clear hB1 hL1 hW
    obtain ⟨k, rfl, hk1, hk, hq, hB, hL⟩ := hrel
    by_cases hlt : k < N
    · obtain ⟨m, hm⟩ : ∃ m, m = min k (N - k) := ⟨_, rfl⟩
      have hm0 : 0 < m := by omega
      have hmk2 : k + m ≤ N := by omega
      have hcp : ∀ W : World, Blk W w.heap.size 3 (ints (fillTo N k)) → (Builtin.copy_ #[33, 33] 3 #[.slice (some ⟨w.heap.size, k, none⟩) (N - k) (N - k), .slice (some ⟨w.heap.size, 0, none⟩) k N]).run Tryd.prog W =
          .ok (.int .i64 (m : Int)) (W.setRow w.heap.size (ints (fillTo N (k + m)))) := by
        intro W hW
        refine copy_fill hW hm hmk2 hm0 ?_
        intro j hj
        have e : (⟨w.heap.size, 0, none⟩ : Addr).add j = ⟨w.heap.size, j, none⟩ := by unfold Addr.add; split <;> simp_all
        rw [e, hW.cell, ints_get _ _ (by rw [fill_len N k hk]; omega)]
        congr 2
        unfold fillTo
        rw [List.getD_eq_getElem?_getD, List.getElem?_append_left (by simp; omega)]
        simp [List.getElem?_replicate, show j < k by omega]
      have hcp1 := hcp wr.drew hB.drew
      have hB1 := blk_setRow (cs' := ints (fillTo N (k + m))) hB.drew
      have hL1 := below_setRow (B := w.heap.size) hL.drew (Nat.le_refl w.heap.size) (ints (fillTo N (k + m)))
      have HM := Lib.hid hm
      clear hcp hm
      go_wp2_with fail
      go_region
      go_wp2_with fail
      go_roundg (N - (k + m))
      case measure => have := hq.out; omega
      case rel => exact ⟨k + m, by go_num, by omega, hmk2, rfl, hB1, hL1⟩
    · obtain rfl : N = k := by omega
      go_wp2_with fail
      go_ret
      exact ⟨w.heap.size, rfl, Nat.le_refl _, by have := hB; unfold fillTo at this; simpa using this, hL⟩

end Go.Proofs.YtpbiminbhihjnaaDoor
