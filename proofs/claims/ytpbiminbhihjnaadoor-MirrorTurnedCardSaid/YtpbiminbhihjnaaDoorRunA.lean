/-
  A part of the proofs over the mirror (layer 4): RunA.
-/
import Derived.Test.YtpbiminbhihjnaaDoorPlain
import Derived.Test.YtpbiminbhihjnaaDoorWords
import Derived.Test.YtpbiminbhihjnaaDoorShelf
import Derived.Lib.ConvBytes
namespace Go.Proofs.YtpbiminbhihjnaaDoor
open Go.RowKit Dist
set_option linter.unusedSimpArgs false
set_option linter.unusedVariables false

/-- Block g begins with the bytes of s, which may be written. -/
def BB (w : World) (g : Nat) (s : ByteArray) : Prop :=
  ∃ (cs : Array Value) (fr : Nat × Nat), w.heap[g]? = some (.cells cs 5 fr) ∧ s.size ≤ cs.size ∧ cs.size ≤ fr.1 ∧ ∀ i, i < s.size → cs[i]? = some (.int .u8 (bt s i))

theorem BB.lt {w : World} {g : Nat} {s : ByteArray} (h : BB w g s) : g < w.heap.size := by
  obtain ⟨cs, fr, h, _⟩ := h
  exact lt_of_block h
theorem BB.cell {w : World} {g : Nat} {s : ByteArray} (h : BB w g s) {i : Nat} (hi : i < s.size) : w.cell? ⟨g, i, none⟩ = some (.int .u8 (bt s i)) := by
  obtain ⟨cs, fr, h1, h2, h3, h4⟩ := h
  rw [cell_of_row w g i cs 5 fr h1]
  exact h4 i hi
theorem BB.free {w : World} {g : Nat} {s : ByteArray} (h : BB w g s) {i : Nat} (hi : i < s.size) : w.frozen? ⟨g, i, none⟩ = false := by
  obtain ⟨cs, fr, h1, h2, h3, h4⟩ := h
  simp [World.frozen?, h1]
  omega
theorem BB.below {w w' : World} {g B : Nat} {s : ByteArray} (h : BB w g s) (hb : Below B w w') (hg : g < B) : BB w' g s := by
  obtain ⟨cs, fr, h1, h2⟩ := h
  exact ⟨cs, fr, (hb.block g hg).trans h1, h2⟩
theorem BB.far {w : World} {g : Nat} {s : ByteArray} (h : BB w g s) {p : Addr} (hp : g ≠ p.block) (u : Value) : BB (w.setCell p u) g s := by
  obtain ⟨cs, fr, h1, h2⟩ := h
  exact ⟨cs, fr, (Below.heap_setCell w p u g hp).trans h1, h2⟩

/-- The board behind a pointer. -/
def BoardAt (w : World) (b g cap : Nat) (n : Nat) (s : ByteArray) : Prop :=
  Blk w b 88 #[.int .i64 (n : Int), .slice (some ⟨g, 0, none⟩) s.size cap] ∧ BB w g s ∧ s.size ≤ cap

theorem BoardAt.below {w w' : World} {b g cap n B : Nat} {s : ByteArray} (h : BoardAt w b g cap n s) (hb : Below B w w') (h1 : b < B) (h2 : g < B) : BoardAt w' b g cap n s :=
  ⟨h.1.below hb h1, h.2.1.below hb h2, h.2.2⟩
theorem BoardAt.more {w w' : World} {b g cap n : Nat} {s : ByteArray} (h : BoardAt w b g cap n s) (hb : Below w.heap.size w w') : BoardAt w' b g cap n s :=
  h.below hb h.1.lt h.2.1.lt
theorem BoardAt.drewN {w : World} {b g cap n : Nat} {s : ByteArray} (h : BoardAt w b g cap n s) (k : Nat) : BoardAt (w.drewN k) b g cap n s := h
theorem BoardAt.n_ {w : World} {b g cap n : Nat} {s : ByteArray} (h : BoardAt w b g cap n s) : w.cell? ⟨b, 0, none⟩ = some (.int .i64 (n : Int)) := by rw [h.1.cell]; rfl
theorem BoardAt.bytes_ {w : World} {b g cap n : Nat} {s : ByteArray} (h : BoardAt w b g cap n s) : w.cell? ⟨b, 1, none⟩ = some (.slice (some ⟨g, 0, none⟩) s.size cap) := by rw [h.1.cell]; rfl

/-- The bytes that boarded lets pass. -/
def boardSet (empty : Bool) : ByteArray := if empty then ⟨#[120, 111, 46]⟩ else ⟨#[120, 111]⟩

theorem dropWhile_nil (p : UInt8 → Bool) : ∀ l : List UInt8, l.dropWhile p = [] ↔ ∀ c, c ∈ l → p c = true
  | [] => by simp
  | x :: l => by
    rw [List.dropWhile_cons]
    split
    · rename_i h
      rw [dropWhile_nil p l]
      constructor
      · intro hl c hc
        rcases List.mem_cons.1 hc with rfl | hc
        · exact h
        · exact hl c hc
      · intro hl c hc
        exact hl c (List.mem_cons_of_mem _ hc)
    · rename_i h
      constructor
      · intro hn; cases hn
      · intro hl; exact absurd (hl x (by simp)) h

theorem below_bytesWorld (w : World) (s : ByteArray) : Below w.heap.size w (Lib.bytesWorld w 5 s) where
  os := by simp [Lib.bytesWorld, World.freeze, World.alloc, World.drew, -World.alloc_eq, -World.drew_eq]
  tape := by simp [Lib.bytesWorld, World.freeze, World.alloc, World.drew, -World.alloc_eq, -World.drew_eq]
  output := by simp [Lib.bytesWorld, World.freeze, World.alloc, World.drew, -World.alloc_eq, -World.drew_eq]
  size := by rw [Lib.bytesWorld_size]; omega
  block k hk := Lib.bytesWorld_at_old w 5 s k hk

theorem bb_bytesWorld (w : World) (s : ByteArray) : BB (Lib.bytesWorld w 5 s) w.heap.size s := by
  refine ⟨_, _, Lib.bytesWorld_at_new w 5 s, by simp [Lib.bytesCells], Nat.le_refl _, fun i hi => ?_⟩
  have h1 := Lib.bytesWorld_cell w 5 s i hi
  rw [cell_of_row _ _ i _ 5 _ (Lib.bytesWorld_at_new w 5 s)] at h1
  rw [h1]
  rfl

theorem trim_nil (l cs : List UInt8) : Lib.trimS l cs = [] ↔ ∀ c, c ∈ l → cs.contains c = true := by
  unfold Lib.trimS Lib.trimLeftS Lib.trimRightS
  rw [dropWhile_nil]
  constructor
  · intro h c hc
    apply Classical.byContradiction
    intro hn
    have hm : c ∈ (l.reverse.dropWhile (cs.contains ·)) := by
      have : ∀ r : List UInt8, c ∈ r → c ∈ r.dropWhile (cs.contains ·) := by
        intro r
        induction r with
        | nil => exact fun h => h
        | cons x r ih =>
          intro hx
          rw [List.dropWhile_cons]
          split
          · rename_i hc'
            rcases List.mem_cons.1 hx with rfl | hx
            · exact absurd hc' hn
            · exact ih hx
          · exact hx
      exact this _ (List.mem_reverse.2 hc)
    exact hn (h c (List.mem_reverse.2 hm))
  · intro h c hc
    have h1 := List.mem_reverse.1 hc
    have h2 := (List.dropWhile_sublist _).subset h1
    exact h c (List.mem_reverse.1 h2)

theorem trim_board (s : ByteArray) (empty : Bool) : Lib.trimS s.data.toList (boardSet empty).data.toList = [] ↔ okBytes empty s s.size = true := by
  rw [trim_nil]
  unfold okBytes
  rw [List.take_of_length_le (by simp), List.all_eq_true]
  have key : ∀ c : UInt8, ((boardSet empty).data.toList.contains c = true ↔ okByte empty c = true) := by
    intro c
    have e : ∀ d : UInt8, ((c.toNat : Int) == (d.toNat : Int)) = (c == d) := by
      intro d
      rw [Bool.eq_iff_iff, beq_iff_eq, beq_iff_eq]
      constructor
      · intro h; exact UInt8.toNat_inj.1 (by omega)
      · rintro rfl; rfl
    unfold okByte
    have e1 := e 120
    have e2 := e 111
    have e3 := e 46
    simp only [show ((120 : UInt8).toNat : Int) = 120 from rfl, show ((111 : UInt8).toNat : Int) = 111 from rfl, show ((46 : UInt8).toNat : Int) = 46 from rfl] at e1 e2 e3
    rw [e1, e2, e3]
    cases empty <;> simp [boardSet, or_assoc]
  exact ⟨fun h c hc => (key c).1 (h c hc), fun h c hc => (key c).2 (h c hc)⟩

/-- What boarded hands back. -/
def BoardedPost (n : Int) (s : ByteArray) (empty : Bool) (w : World) (e : Ending) (w' : World) : Prop :=
  Below w.heap.size w w' ∧ ((boardErr n s empty ≠ 0 ∧ e = .returned (.tuple #[.pointer none, .int .i64 (boardErr n s empty)])) ∨
    (boardErr n s empty = 0 ∧ ∃ b g cap, e = .returned (.tuple #[.pointer (some ⟨b, 0, none⟩), .int .i64 0]) ∧ w.heap.size ≤ b ∧ w.heap.size ≤ g ∧ b ≠ g ∧ BoardAt w' b g cap n.toNat s))

theorem board_set_ascii (empty : Bool) : ∀ (j : Nat) (b : UInt8), (boardSet empty).data.toList[j]? = some b → b.toNat < 128 := by
  cases empty
  · exact ascii_of_all (by decide)
  · exact ascii_of_all (by decide)

set_option maxHeartbeats 1000000 in
theorem boarded_any (n : Int) (s : ByteArray) (empty : Bool) (w : World) (hs : s.size ≤ 1000) :
    Calls Tryd.prog 40 #[.int .i64 n, .string s, .string (boardSet empty)] w (BoardedPost n s empty w) := by
  have hconv := fun W : World => Lib.run_convert_string_bytes W (P := Tryd.prog) 9 65 5 s Tryd.underlying9 Tryd.underlying65 Tryd.underlying5
  by_cases h1 : n < 1 ∨ 11 < n
  · have e := Lib.hid (show boardErr n s empty = 2 by unfold boardErr; rw [if_pos h1])
    generalize boardSet empty = bs
    by_cases h2 : n < 1
    · clear h1
      go_enter Tryd.func40, Tryd.ntmps40
      go_wp2_with fail
      go_ret2
      exact ⟨Below.refl _ _, .inl ⟨by rw [e.out]; decide, by rw [e.out]; rfl⟩⟩
    · have h3 : 11 < n := by omega
      clear h1
      go_enter Tryd.func40, Tryd.ntmps40
      go_wp2_with fail
      go_ret2
      exact ⟨Below.refl _ _, .inl ⟨by rw [e.out]; decide, by rw [e.out]; rfl⟩⟩
  · have a1 : ¬ n < 1 := by omega
    have a2 : ¬ 11 < n := by omega
    have a3 : n ≤ 11 := by omega
    have a4 : 1 ≤ n := by omega
    have hb := mul_bd (a := n) (b := n) (A := 11) (B := 11) (by omega) (by omega) (by omega) (by omega)
    by_cases h4 : (s.size : Int) = n * n
    · have e := Lib.hid (show boardErr n s empty = if okBytes empty s s.size then 0 else 5 by unfold boardErr; rw [if_neg h1, if_neg (by simp [h4])])
      have h4b : ((s.size : Int) != n * n) = false := by simp [h4]
      have TB := Lib.hid (trim_board s empty)
      have hT := fun W => Tryd.strings_Trim_set s (boardSet empty) W (by omega) (by cases empty <;> decide) (board_set_ascii empty)
      generalize Lib.trimS s.data.toList (boardSet empty).data.toList = r at hT TB
      generalize boardSet empty = bs at hT ⊢
      have HT := Lib.hid hT
      clear h4 h1 hT
      by_cases hr : r = []
      · subst hr
        have OK := Lib.hid (TB.out.1 rfl)
        go_enter Tryd.func40, Tryd.ntmps40
        go_wp2_with (go_at_call 74; refine (HT.out _).mono ?_; rintro e w' ⟨rfl, hB⟩)
        go_ret2
        have hB1 := hB.trans ((below_bytesWorld w' s).mono hB.size)
        have hz : (Lib.bytesWorld w' 5 s).heap.size = w'.heap.size + 1 := Lib.bytesWorld_size w' 5 s
        refine ⟨hB1.alloc (by have := hB1.size; omega) _, .inr ⟨by rw [e.out, OK.out]; rfl, _, w'.heap.size, grownCap w' s.size 0 5, rfl, ?_, hB.size, ?_, ?_, (bb_bytesWorld w' s).below (Below.alloc (Below.refl _ _) (Nat.le_refl _) _) (by rw [hz]; omega), ?_⟩⟩
        · rw [hz]; have := hB.size; omega
        · rw [hz]; omega
        · have := Blk.new (Lib.bytesWorld w' 5 s) 88 #[.int .i64 n, .slice (some ⟨w'.heap.size, 0, none⟩) s.size (grownCap w' s.size 0 5)]
          rw [show ((n.toNat : Nat) : Int) = n by omega]
          exact this
        · have h1 := (bb_bytesWorld w' s)
          exact grownCap_ge w' s.size 0 5
      · have NOK := Lib.hid (show okBytes empty s s.size = false from Bool.eq_false_iff.2 fun h => hr (TB.out.2 h))
        have hr' : (r == []) = false := by simpa using hr
        go_enter Tryd.func40, Tryd.ntmps40
        go_wp2_with (go_at_call 74; refine (HT.out _).mono ?_; rintro e w' ⟨rfl, hB⟩)
        go_ret2
        exact ⟨hB, .inl ⟨by rw [e.out, NOK.out]; decide, by rw [e.out, NOK.out]; rfl⟩⟩
    · have e := Lib.hid (show boardErr n s empty = 5 by unfold boardErr; rw [if_neg h1, if_pos h4])
      have h4b : ((s.size : Int) != n * n) = true := by simp [h4]
      generalize boardSet empty = bs
      clear h4 h1
      go_enter Tryd.func40, Tryd.ntmps40
      go_wp2_with fail
      go_ret2
      exact ⟨Below.refl _ _, .inl ⟨by rw [e.out]; decide, by rw [e.out]; rfl⟩⟩

def BoardedOk (m : Nat) (s : ByteArray) (w : World) (e : Ending) (w' : World) : Prop :=
  Below w.heap.size w w' ∧ ∃ b g cap, e = .returned (.tuple #[.pointer (some ⟨b, 0, none⟩), .int .i64 0]) ∧ w.heap.size ≤ b ∧ w.heap.size ≤ g ∧ b ≠ g ∧ BoardAt w' b g cap m s

theorem boarded_ok (m : Nat) (s : ByteArray) (empty : Bool) (w : World) (hs : s.size ≤ 1000) (h : boardErr m s empty = 0) : Calls Tryd.prog 40 #[.int .i64 (m : Int), .string s, .string (boardSet empty)] w (BoardedOk m s w) := by
  refine (boarded_any m s empty w hs).mono ?_
  rintro e w' ⟨hL, hp⟩
  rcases hp with ⟨hne, _⟩ | ⟨_, b, g, cap, he, hb, hg, hbg, hB⟩
  · exact absurd h hne
  · exact ⟨hL, b, g, cap, he, hb, hg, hbg, by simpa using hB⟩

theorem boarded_err (n : Int) (s : ByteArray) (empty : Bool) (w : World) (hs : s.size ≤ 1000) (h : boardErr n s empty ≠ 0) :
    Calls Tryd.prog 40 #[.int .i64 n, .string s, .string (boardSet empty)] w fun e w' => e = .returned (.tuple #[.pointer none, .int .i64 (boardErr n s empty)]) ∧ Below w.heap.size w w' := by
  refine (boarded_any n s empty w hs).mono ?_
  rintro e w' ⟨hL, hp⟩
  rcases hp with ⟨_, he⟩ | ⟨h0, _⟩
  · exact ⟨he, hL⟩
  · exact absurd h0 h

end Go.Proofs.YtpbiminbhihjnaaDoor
