/-
  Words for memory: a block that is known whole; rows of integers; make.
-/
import Derived.Test.YtpbiminbhihjnaaDoorProg
import Derived.WalkKit
import Derived.Deep.QuietTactic
import Derived.BigQuiet
import Derived.Deep.LoopGhost
import Derived.Deep.Draws
import Derived.Lib.Hide
import Derived.Laws.OwnMore
import Derived.Laws.Rows
import Derived.Maps.AppendAt
namespace Go.Proofs.YtpbiminbhihjnaaDoor
open Go.RowKit

theorem ret_int {k : IntKind} {a b : Int} (h : a = b) : Ending.returned (.int k a) = .returned (.int k b) := by rw [h]
theorem ret_bool {a b : Bool} (h : a = b) : Ending.returned (.bool a) = .returned (.bool b) := by rw [h]

/-- Block g is just the cells cs of element type t, none frozen. -/
def Blk (w : World) (g : Nat) (t : TypeId) (cs : Array Value) : Prop := w.heap[g]? = some (.cells cs t (0, 0))

section
variable {w w' : World} {g : Nat} {t : TypeId} {cs : Array Value}
theorem Blk.lt (h : Blk w g t cs) : g < w.heap.size := by
  rcases Nat.lt_or_ge g w.heap.size with hlt | hge
  · exact hlt
  · unfold Blk at h; rw [Array.getElem?_eq_none hge] at h; cases h
theorem Blk.cell (h : Blk w g t cs) (i : Nat) : w.cell? ⟨g, i, none⟩ = cs[i]? := cell_of_row w g i cs t (0, 0) h
theorem Blk.frozen (h : Blk w g t cs) (i : Nat) : w.frozen? ⟨g, i, none⟩ = false := by
  unfold Blk at h
  simp [World.frozen?, h]
theorem Blk.new (w : World) (t : TypeId) (cs : Array Value) : Blk (w.alloc (.cells cs t)) w.heap.size t cs := heap_alloc_new w _
theorem Blk.drew (h : Blk w g t cs) : Blk w.drew g t cs := h
theorem Blk.drewN (h : Blk w g t cs) (n : Nat) : Blk (w.drewN n) g t cs := h
theorem Blk.alloc (h : Blk w g t cs) (o : Obj) : Blk (w.alloc o) g t cs := (Below.heap_alloc w o g h.lt).trans h
theorem Blk.set_ (h : Blk w g t cs) (i : Nat) (u : Value) : Blk (w.setCell ⟨g, i, none⟩ u) g t (cs.setIfInBounds i u) := by
  unfold Blk at h ⊢
  simp [World.setCell, Array.getElem?_modify, h]
theorem Blk.far (h : Blk w g t cs) {p : Addr} (hp : g ≠ p.block) (u : Value) : Blk (w.setCell p u) g t cs := (Below.heap_setCell w p u g hp).trans h
theorem Blk.below {B : Nat} (h : Blk w g t cs) (hb : Below B w w') (hg : g < B) : Blk w' g t cs := (hb.block g hg).trans h
theorem Blk.grown {row : Option Nat} (h : Blk w g t cs) (hb : w.grownBy w' row) (hg : some g ≠ row) : Blk w' g t cs := (hb.block g h.lt hg).trans h
theorem Blk.ne_ {g' : Nat} {t' : TypeId} {cs' : Array Value} (h : Blk w g t cs) (h' : Blk w g' t' cs') (hne : t ≠ t') : g ≠ g' := by
  rintro rfl
  unfold Blk at h h'
  rw [h] at h'
  injection h' with h'
  injection h' with _ ht
  exact hne ht
end

/-- The cells of a list of integers. -/
def ints (l : List Int) : Array Value := (l.map (Value.int .i64)).toArray

theorem ints_get (l : List Int) (i : Nat) (h : i < l.length) : (ints l)[i]? = some (.int .i64 (l.getD i 0)) := by
  unfold ints
  simp [List.getElem?_map, List.getElem?_eq_getElem h]

theorem ints_set (l : List Int) (i : Nat) (x : Int) : (ints l).setIfInBounds i (.int .i64 x) = ints (l.set i x) := by
  unfold ints
  simp [List.map_set]

theorem info3 : (Tryd.prog.info? 3).map (fun i => (i.zero, i.size, i.bytes)) = some (some (.int .i64 0), 1, 8) := by kernel_rfl

theorem make_ints (n : Nat) (hn : n ≤ 100000) (k1 k2 : IntKind) (w : World) :
    (Instr.makeSlice 33 (.int k1 (n : Int)) (.int k2 (n : Int))).run Tryd.prog w = .ok (.slice (some ⟨w.heap.size, 0, none⟩) n n) (w.alloc (.cells (ints (List.replicate n 0)) 3)) := by
  obtain ⟨i, hi, hz, hs, hb⟩ := info_parts info3
  have h := run_make w (P := Tryd.prog) 33 3 i (.int .i64 0) Tryd.underlying33 hi hz k1 k2 n n (by omega) (Int.le_refl _) (by rw [hb]; omega) (by omega)
  rw [h, hs]
  have e : madeCells (Value.int .i64 0).cells (n * 1) = ints (List.replicate n 0) := by
    apply Array.toList_inj.1
    have : (Value.int .i64 0).cells = #[Value.int .i64 0] := rfl
    rw [this, Nat.mul_one, toList_madeCells_one]
    simp [ints]
  simp only [Int.toNat_natCast]
  rw [e]

/-- A row of integers of the call's own, in a block from base on. -/
def Own (w : World) (base : Nat) (v : Value) (l : List Int) : Prop := w.ownsRow base 3 1 v l.length (l.map (Value.int .i64))

theorem Own.nil (w : World) (base : Nat) : Own w base (.slice none 0 0) [] := ⟨rfl, .inl ⟨rfl, rfl⟩⟩

theorem Own.below {w w' : World} {base B : Nat} {v : Value} {l : List Int} (h : Own w base v l) (hb : Below B w w') (hlt : ∀ g, v.ownBlock = some g → g < B) : Own w' base v l := by
  obtain ⟨h1, h2⟩ := h
  refine ⟨h1, ?_⟩
  rcases h2 with h2 | ⟨g, cap, cur, hv, hbase, hh, rest⟩
  · exact .inl h2
  · exact .inr ⟨g, cap, cur, hv, hbase, by rw [hb.block g (hlt g (by rw [hv]; rfl))]; exact hh, rest⟩

theorem Own.drewN {w : World} {base : Nat} {v : Value} {l : List Int} (h : Own w base v l) (k : Nat) : Own (w.drewN k) base v l := h
theorem Own.drew {w : World} {base : Nat} {v : Value} {l : List Int} (h : Own w base v l) : Own w.drew base v l := h
theorem Own.lt {w : World} {base : Nat} {v : Value} {l : List Int} (h : Own w base v l) {g : Nat} (hg : v.ownBlock = some g) : base ≤ g ∧ g < w.heap.size := by
  obtain ⟨h1, h2⟩ := h
  rcases h2 with ⟨rfl, _⟩ | ⟨g', cap, cur, rfl, hbase, hh, rest⟩
  · cases hg
  · have e : g' = g := by simpa [Value.ownBlock] using hg
    subst e
    exact ⟨hbase, Blk.lt (t := 3) (cs := cur) hh⟩
theorem Own.more {w w' : World} {base : Nat} {v : Value} {l : List Int} (h : Own w base v l) (hb : Below w.heap.size w w') : Own w' base v l := h.below hb fun _ hg => (h.lt hg).2
theorem Own.alloc {w : World} {base : Nat} {v : Value} {l : List Int} (h : Own w base v l) (o : Obj) : Own (w.alloc o) base v l := h.more ((Below.refl _ _).alloc (Nat.le_refl _) o)
/-- A store into another block. -/
theorem Own.far {w : World} {base : Nat} {v : Value} {l : List Int} (h : Own w base v l) {p : Addr} (hp : v.ownBlock ≠ some p.block) (u : Value) : Own (w.setCell p u) base v l := by
  obtain ⟨h1, h2⟩ := h
  refine ⟨h1, ?_⟩
  rcases h2 with h2 | ⟨g, cap, cur, hv, hbase, hh, rest⟩
  · exact .inl h2
  · have hne : g ≠ p.block := by
      intro e
      apply hp
      rw [hv]
      show some g = _
      rw [e]
    exact .inr ⟨g, cap, cur, hv, hbase, (Below.heap_setCell w p u g hne).trans hh, rest⟩

theorem Own.form {w : World} {base : Nat} {v : Value} {l : List Int} (h : Own w base v l) (hl : 0 < l.length) :
    ∃ g cap, v = .slice (some ⟨g, 0, none⟩) l.length cap ∧ l.length ≤ cap ∧ base ≤ g ∧ g < w.heap.size ∧ ∀ i, i < l.length → w.cell? ⟨g, i, none⟩ = some (.int .i64 (l.getD i 0)) := by
  obtain ⟨h1, h2⟩ := h
  rcases h2 with ⟨_, h0⟩ | ⟨g, cap, cur, hv, hbase, hh, hnc, _, hsz, htk⟩
  · omega
  · refine ⟨g, cap, hv, hnc, hbase, Blk.lt (t := 3) (cs := cur) hh, fun i hi => ?_⟩
    rw [Blk.cell (t := 3) (cs := cur) hh]
    have h3 : (cur.toList.take (l.length * 1))[i]? = (l.map (Value.int .i64))[i]? := by rw [htk]
    rw [List.getElem?_take, if_pos (by omega), List.getElem?_map, List.getElem?_eq_getElem hi] at h3
    rw [← Array.getElem?_toList, h3]
    simp [List.getElem?_eq_getElem hi]

theorem Own.cellAt {w : World} {base g n cap : Nat} {l : List Int} (h : Own w base (.slice (some ⟨g, 0, none⟩) n cap) l) {i : Nat} (hi : i < l.length) :
    w.cell? ⟨g, i, none⟩ = some (.int .i64 (l.getD i 0)) := by
  obtain ⟨g', cap', hv, _, _, _, hc⟩ := h.form (by omega)
  injection hv with hA
  injection hA with hA
  injection hA with hA
  subst hA
  exact hc i hi

/-- The value of a row: a slice of its length. -/
theorem Own.shape {w : World} {base : Nat} {v : Value} {l : List Int} (h : Own w base v l) : ∃ A cap, v = .slice A l.length cap := by
  rcases h.2 with ⟨hv, h0⟩ | ⟨g, cap, cur, hv, _⟩
  · exact ⟨none, 0, by rw [hv, h0]⟩
  · exact ⟨_, cap, hv⟩

/-- append(out, y) onto a row of the call's own. -/
theorem app_int {w : World} {ops : Array Oper} {rest : List Oper} {o : Oper} {a : Act} {Q : Exit → Act → World → Prop} (hgd : o.guard = none) (s x : Operand)
    (ho : o.op = .call { callee := .builtin .append, args := #[s, x], argTypes := #[33, 33] })
    (base : Nat) (v : Value) (l : List Int) (hs : a.eval s = v) (hown : Own w base v l) (y : Int) (hx : a.eval x = .slice (some ⟨w.heap.size, 0, none⟩) 1 1)
    (hlen : l.length ≤ 1000000) (hbase : base ≤ w.heap.size)
    (h : ∀ v' w', Own w' base v' (l ++ [y]) → Below base w w' → wpList Tryd.prog ops Q rest (a.put o.dst v') w') :
    wpList Tryd.prog ops Q (o :: rest) a (w.alloc (.cells #[.int .i64 y] 3)) := by
  obtain ⟨i, hi, hz, hsz, hby⟩ := info_parts info3
  have hB := Below.alloc (Below.refl base w) hbase (.cells #[.int .i64 y] 3)
  have hown' := hown.alloc (.cells #[.int .i64 y] 3)
  refine wpList_append_own _ hgd s x 33 ho base 3 i (.int .i64 0) 1 8 Tryd.underlying33 hi hz hsz hby rfl (by decide) v l.length _ hs hown' ⟨w.heap.size, 0, none⟩ 1 1 [.int .i64 y] hx rfl ?_ ?_ ?_ (by omega) (by simp; omega) ?_
  · intro j u hj
    match j, hj with
    | 0, hj =>
      simp only [List.getElem?_cons_zero, Option.some.injEq] at hj
      subst hj
      have hn := Blk.new w 3 #[.int .i64 y]
      have := hn.cell 0
      simp [Addr.add, this]
    | j + 1, hj => simp at hj
  · intro u hu
    simp only [List.mem_singleton] at hu
    subst hu
    rfl
  · unfold maxLen; omega
  · intro v' w' h1 h2 _
    apply h v' w'
    · have : l.length + 1 = (l ++ [y]).length := by simp
      rw [this] at h1
      simpa [Own] using h1
    · exact hB.grown h2 (by simp; omega) fun k hk => (hown'.lt hk).1

/-- A slice of integers that reads as a list. -/
def SL (w : World) (v : Value) (l : List Int) : Prop :=
  ∃ A cap, v = .slice A l.length cap ∧ l.length ≤ cap ∧ (0 < l.length → ∃ b off, A = some ⟨b, off, none⟩ ∧ b < w.heap.size ∧ ∀ i, i < l.length → w.cell? ⟨b, off + i, none⟩ = some (.int .i64 (l.getD i 0)))

theorem Own.sl {w : World} {base : Nat} {v : Value} {l : List Int} (h : Own w base v l) : SL w v l := by
  rcases Nat.eq_zero_or_pos l.length with h0 | h0
  · rcases h.2 with ⟨hv, _⟩ | ⟨g, cap, cur, hv, _, _, hnc, _⟩
    · exact ⟨none, 0, by rw [hv, h0], by omega, fun hc => by omega⟩
    · exact ⟨some ⟨g, 0, none⟩, cap, hv, hnc, fun hc => by omega⟩
  · obtain ⟨g, cap, hv, hnc, _, hlt, hc⟩ := h.form h0
    exact ⟨some ⟨g, 0, none⟩, cap, hv, hnc, fun _ => ⟨g, 0, rfl, hlt, fun i hi => by simpa using hc i hi⟩⟩

theorem SL.more {w w' : World} {v : Value} {l : List Int} (h : SL w v l) (hb : Below w.heap.size w w') : SL w' v l := by
  obtain ⟨A, cap, hv, hc, hr⟩ := h
  refine ⟨A, cap, hv, hc, fun h0 => ?_⟩
  obtain ⟨b, off, hA, hlt, hcell⟩ := hr h0
  exact ⟨b, off, hA, Nat.lt_of_lt_of_le hlt hb.size, fun i hi => by rw [hb.cell (p := ⟨b, off + i, none⟩) hlt]; exact hcell i hi⟩

theorem below_drewN' {B : Nat} {a w : World} (h : Below B a w) (n : Nat) : Below B a (w.drewN n) := ⟨h.os, h.tape, h.output, h.size, h.block⟩

theorem Own.lit {w : World} {base g : Nat} {l : List Int} (h : Blk w g 3 (ints l)) (hb : base ≤ g) (hl : l.length ≤ 1000000) : Own w base (.slice (some ⟨g, 0, none⟩) l.length l.length) l :=
  ⟨by simp, .inr ⟨g, l.length, ints l, rfl, hb, h, Nat.le_refl _, by unfold maxLen; omega, by simp [ints], by simp [ints, List.take_of_length_le]⟩⟩

theorem Own.base {w : World} {base base' : Nat} {v : Value} {l : List Int} (h : Own w base v l) (hb : base' ≤ base) : Own w base' v l := by
  obtain ⟨a1, a2⟩ := h
  exact ⟨a1, a2.imp id fun ⟨g, cap, cur, q1, q2, q3⟩ => ⟨g, cap, cur, q1, Nat.le_trans hb q2, q3⟩⟩

end Go.Proofs.YtpbiminbhihjnaaDoor
