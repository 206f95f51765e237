/-
  A part of the proofs over the mirror (layer 4): TriB.
-/
import Derived.Test.YtpbiminbhihjnaaDoorTriA
namespace Go.Proofs.YtpbiminbhihjnaaDoor
open Go.RowKit Tri
set_option linter.unusedSimpArgs false
set_option linter.unusedVariables false

/-- The cells of a memory block that hold a cell. -/
def cv (x : Cell) : List Value := [.int .i64 (x.1 : Int), .int .i64 (x.2.1 : Int), .int .i64 (x.2.2 : Int)]

/-- A row of cells of the call's own. -/
def OwnC (w : World) (base : Nat) (v : Value) (l : List Cell) : Prop := w.ownsRow base 80 3 v l.length (l.flatMap cv)

theorem cv_len (l : List Cell) : (l.flatMap cv).length = l.length * 3 := by
  induction l with
  | nil => rfl
  | cons a l ih => rw [List.flatMap_cons, List.length_append, ih]; simp [cv]; omega

theorem OwnC.nil (w : World) (base : Nat) : OwnC w base (.slice none 0 0) [] := ⟨rfl, .inl ⟨rfl, rfl⟩⟩
theorem OwnC.lt {w : World} {base : Nat} {v : Value} {l : List Cell} (h : OwnC w base v l) {g : Nat} (hg : v.ownBlock = some g) : base ≤ g ∧ g < w.heap.size := by
  obtain ⟨h1, h2⟩ := h
  rcases h2 with ⟨hv, _⟩ | ⟨g', cap, cur, hv, hb, hh, _⟩
  · rw [hv] at hg; cases hg
  · rw [hv] at hg
    cases hg
    exact ⟨hb, lt_of_block hh⟩
theorem OwnC.below {w w' : World} {base B : Nat} {v : Value} {l : List Cell} (h : OwnC w base v l) (hb : Below B w w') (hlt : ∀ g, v.ownBlock = some g → g < B) : OwnC w' base v l := by
  obtain ⟨h1, h2⟩ := h
  refine ⟨h1, h2.imp id ?_⟩
  rintro ⟨g, cap, cur, hv, hbase, hh, r⟩
  exact ⟨g, cap, cur, hv, hbase, (hb.block g (hlt g (by rw [hv]; rfl))).trans hh, r⟩
theorem OwnC.more {w w' : World} {base : Nat} {v : Value} {l : List Cell} (h : OwnC w base v l) (hb : Below w.heap.size w w') : OwnC w' base v l := h.below hb fun _ hg => (h.lt hg).2
theorem OwnC.alloc {w : World} {base : Nat} {v : Value} {l : List Cell} (h : OwnC w base v l) (o : Obj) : OwnC (w.alloc o) base v l := h.more ((Below.refl _ _).alloc (Nat.le_refl _) o)
theorem OwnC.shape {w : World} {base : Nat} {v : Value} {l : List Cell} (h : OwnC w base v l) : ∃ A cap, v = .slice A l.length cap := by
  rcases h.2 with ⟨hv, h0⟩ | ⟨g, cap, cur, hv, _⟩
  · exact ⟨none, 0, by rw [hv, h0]⟩
  · exact ⟨_, cap, hv⟩

theorem cv_get (l : List Cell) (k j : Nat) (hk : k < l.length) (hj : j < 3) : (l.flatMap cv)[k * 3 + j]? = (cv (l.getD k (0, 0, 0)))[j]? := by
  induction l generalizing k with
  | nil => simp at hk
  | cons a l ih =>
    rw [List.flatMap_cons]
    have hl : (cv a).length = 3 := rfl
    cases k with
    | zero => rw [List.getElem?_append_left (by omega)]; simp
    | succ k =>
      rw [List.getElem?_append_right (by omega), hl]
      have : (k + 1) * 3 + j - 3 = k * 3 + j := by omega
      rw [this, ih k (by simpa using hk)]
      simp

theorem OwnC.form {w : World} {base : Nat} {v : Value} {l : List Cell} (h : OwnC w base v l) (hl : 0 < l.length) :
    ∃ g cap, v = .slice (some ⟨g, 0, none⟩) l.length cap ∧ l.length ≤ cap ∧ base ≤ g ∧ g < w.heap.size ∧
      ∀ k, k < l.length → w.cell? ⟨g, k * 3, none⟩ = some (.int .i64 ((l.getD k (0, 0, 0)).1 : Int)) ∧ w.cell? ⟨g, k * 3 + 1, none⟩ = some (.int .i64 ((l.getD k (0, 0, 0)).2.1 : Int)) ∧ w.cell? ⟨g, k * 3 + 2, none⟩ = some (.int .i64 ((l.getD k (0, 0, 0)).2.2 : Int)) := by
  obtain ⟨h1, h2⟩ := h
  rcases h2 with ⟨_, h0⟩ | ⟨g, cap, cur, hv, hbase, hh, hnc, _, hsz, htk⟩
  · omega
  · refine ⟨g, cap, hv, hnc, hbase, Blk.lt (t := 80) (cs := cur) hh, fun k hk => ?_⟩
    have key : ∀ j, j < 3 → w.cell? ⟨g, k * 3 + j, none⟩ = (cv (l.getD k (0, 0, 0)))[j]? := by
      intro j hj
      rw [Blk.cell (t := 80) (cs := cur) hh, ← cv_get l k j hk hj, ← htk, List.getElem?_take, if_pos (by omega), Array.getElem?_toList]
    exact ⟨key 0 (by omega), key 1 (by omega), key 2 (by omega)⟩

theorem info80 : (Tryd.prog.info? 80).map (fun i => (i.zero, i.size, i.bytes)) = some (some (.agg #[.int .i64 0, .int .i64 0, .int .i64 0]), 3, 24) := by kernel_rfl

/-- append(out, x) onto a row of cells. -/
theorem app_cell {w : World} {ops : Array Oper} {rest : List Oper} {o : Oper} {a : Act} {Q : Exit → Act → World → Prop} (hgd : o.guard = none) (s x : Operand)
    (ho : o.op = .call { callee := .builtin .append, args := #[s, x], argTypes := #[77, 77] })
    (base : Nat) (v : Value) (l : List Cell) (hs : a.eval s = v) (hown : OwnC w base v l) (y : Cell) (hx : a.eval x = .slice (some ⟨w.heap.size, 0, none⟩) 1 1)
    (hlen : l.length ≤ 1000000) (hbase : base ≤ w.heap.size)
    (h : ∀ v' w', OwnC w' base v' (l ++ [y]) → Below base w w' → wpList Tryd.prog ops Q rest (a.put o.dst v') w') :
    wpList Tryd.prog ops Q (o :: rest) a (w.alloc (.cells #[.int .i64 (y.1 : Int), .int .i64 (y.2.1 : Int), .int .i64 (y.2.2 : Int)] 80)) := by
  obtain ⟨i, hi, hz, hsz, hby⟩ := info_parts info80
  have hB := Below.alloc (Below.refl base w) hbase (.cells #[.int .i64 (y.1 : Int), .int .i64 (y.2.1 : Int), .int .i64 (y.2.2 : Int)] 80)
  have hown' := hown.alloc (.cells #[.int .i64 (y.1 : Int), .int .i64 (y.2.1 : Int), .int .i64 (y.2.2 : Int)] 80)
  have hn := Blk.new w 80 #[.int .i64 (y.1 : Int), .int .i64 (y.2.1 : Int), .int .i64 (y.2.2 : Int)]
  refine wpList_append_own _ hgd s x 77 ho base 80 i _ 3 24 Tryd.underlying77 hi hz hsz hby rfl (by decide) v l.length _ hs hown' ⟨w.heap.size, 0, none⟩ 1 1 (cv y) hx rfl ?_ ?_ ?_ (by omega) (by simp; omega) ?_
  · intro j u hj
    match j, hj with
    | 0, hj => simp only [cv, List.getElem?_cons_zero, Option.some.injEq] at hj; subst hj; have := hn.cell 0; simp [Addr.add, this]
    | 1, hj => simp only [cv, List.getElem?_cons_succ, List.getElem?_cons_zero, Option.some.injEq] at hj; subst hj; have := hn.cell 1; simp [Addr.add, this]
    | 2, hj => simp only [cv, List.getElem?_cons_succ, List.getElem?_cons_zero, Option.some.injEq] at hj; subst hj; have := hn.cell 2; simp [Addr.add, this]
    | j + 3, hj => simp [cv] at hj
  · intro u hu
    simp only [cv, List.mem_cons, List.not_mem_nil, or_false] at hu
    rcases hu with rfl | rfl | rfl <;> rfl
  · unfold maxLen; omega
  · intro v' w' h1 h2 _
    apply h v' w'
    · have e1 : l.length + 1 = (l ++ [y]).length := by simp
      have e2 : l.flatMap cv ++ cv y = (l ++ [y]).flatMap cv := by simp
      rw [e1, e2] at h1
      exact h1
    · exact hB.grown h2 (by simp; omega) fun k hk => (hown'.lt hk).1

/-- The cells ahead of a place. -/
def rowsTo (n k i : Nat) : List Cell := (List.range i).flatMap fun i => (List.range (n - k - i)).map fun j => (k, i, j)
def kindsTo (n k : Nat) : List Cell := (List.range k).flatMap fun k => rowsTo n k (n - k)

theorem kindsTo_two (n : Nat) : kindsTo n 2 = cells n := rfl
theorem rowsTo_succ (n k i : Nat) : rowsTo n k (i + 1) = rowsTo n k i ++ (List.range (n - k - i)).map fun j => (k, i, j) := by simp [rowsTo, List.range_succ]
theorem kindsTo_succ (n k : Nat) : kindsTo n (k + 1) = kindsTo n k ++ rowsTo n k (n - k) := by simp [kindsTo, List.range_succ]

theorem rows_zero (n k : Nat) : kindsTo n k = kindsTo n k ++ rowsTo n k 0 := (List.append_nil _).symm
theorem cell_next {a b : List Cell} {k i j : Nat} {l : List Cell} (h : l = a ++ b ++ (List.range j).map fun j => (k, i, j)) : l ++ [(k, i, j)] = a ++ b ++ (List.range (j + 1)).map fun j => (k, i, j) := by
  rw [h, List.range_succ]; simp
theorem row_next {n k i : Nat} {l : List Cell} (h : l = kindsTo n k ++ rowsTo n k i ++ (List.range (n - k - i)).map fun j => (k, i, j)) : l = kindsTo n k ++ rowsTo n k (i + 1) := by
  rw [h, rowsTo_succ]; simp

def CellsPost (n : Nat) (w : World) (e : Ending) (w' : World) : Prop := ∃ v, e = .returned v ∧ OwnC w' w.heap.size v (cells n) ∧ Below w.heap.size w w'

set_option maxHeartbeats 2000000 in
set_option maxRecDepth 100000 in
theorem cells56 (t n : Nat) (w : World) (ht : t < w.heap.size) (hn : w.cell? ⟨t, 0, none⟩ = some (.int .i64 (n : Int))) (h1 : 1 ≤ n) (h2 : n ≤ 20) :
    Calls Tryd.prog 56 #[.pointer (some ⟨t, 0, none⟩)] w (CellsPost n w) := by
  go_enter Tryd.func56, Tryd.ntmps56
  go_wp2_with fail
  go_loopg [3, 7] 2 (fun q v x wr => ∃ (k : Nat) (l : List Cell), x = .int .i64 k ∧ k ≤ 2 ∧ Hid (q = 2 - k) ∧ Hid (l = kindsTo n k) ∧ l.length ≤ k * 400 ∧ Hid (OwnC wr w.heap.size v l) ∧ Hid (Below w.heap.size w wr))
  case atStart => exact ⟨0, [], rfl, by omega, rfl, rfl, by simp, OwnC.nil _ _, Below.refl _ _⟩
  case round =>
    obtain ⟨k, l, rfl, hk, hq, HLk, hlen, HO, HL⟩ := hrel
    have hnr : wr.cell? ⟨t, 0, none⟩ = some (.int .i64 (n : Int)) := by rw [HL.out.cell (p := ⟨t, 0, none⟩) ht]; exact hn
    by_cases hlt : k < 2
    · have hb1 : decide ((k : Int) < 2) = true := by simp; omega
      go_wp2_with fail
      go_loopg [3, 16] (n - k) (fun q v2 x w2 => ∃ (i : Nat) (l2 : List Cell), x = .int .i64 i ∧ i ≤ n - k ∧ Hid (q = n - k - i) ∧ Hid (l2 = kindsTo n k ++ rowsTo n k i) ∧ l2.length ≤ k * 400 + i * 20 ∧ Hid (OwnC w2 w.heap.size v2 l2) ∧ Hid (Below w.heap.size w w2))
      case atStart =>
        refine ⟨0, l, rfl, Nat.zero_le _, ?_, ?_, ?_, HO, HL⟩
        · exact (Nat.sub_zero _).symm
        · exact HLk.out.trans (rows_zero n k)
        · simpa using hlen
      case round =>
        obtain ⟨i, l2, rfl, hi, hq2, HL2, hlen2, HO2, HB2⟩ := hrel
        have hn2 : wr.cell? ⟨t, 0, none⟩ = some (.int .i64 (n : Int)) := by rw [HB2.out.cell (p := ⟨t, 0, none⟩) ht]; exact hn
        by_cases hi2 : i < n - k
        · have hb2 : decide ((i : Int) < (n : Int) - k) = true := by simp; omega
          go_wp2_with fail
          go_loopg [3, 27] (n - k - i) (fun q v3 x w3 => ∃ (j : Nat) (l3 : List Cell), x = .int .i64 j ∧ j ≤ n - k - i ∧ Hid (q = n - k - i - j) ∧ Hid (l3 = kindsTo n k ++ rowsTo n k i ++ (List.range j).map fun j => (k, i, j)) ∧ l3.length ≤ k * 400 + i * 20 + j ∧ Hid (OwnC w3 w.heap.size v3 l3) ∧ Hid (Below w.heap.size w w3))
          case atStart => exact ⟨0, l2, rfl, Nat.zero_le _, (Nat.sub_zero _).symm, HL2.out.trans (List.append_nil _).symm, hlen2, HO2, HB2⟩
          case round =>
            obtain ⟨j, l3, rfl, hj, hq3, HL3, hlen3, HO3, HB3⟩ := hrel
            by_cases hj2 : j < n - k - i
            · have hbs := HB3.out.size
              go_wp2_with (at_builtin; refine app_cell rfl _ _ rfl w.heap.size _ l3 rfl HO3.out (k, i, j) rfl (by omega) hbs ?_; intro v' w4 hO4 hb4)
              go_roundg (n - k - i - (j + 1))
              case measure => have := hq3.out; omega
              case rel => exact ⟨j + 1, l3 ++ [(k, i, j)], by go_num, by omega, rfl, cell_next HL3.out, by simp; omega, hO4, HB3.out.trans hb4⟩
            · obtain rfl : j = n - k - i := by omega
              go_wp2_with fail
              go_roundg (n - k - (i + 1))
              case measure => have := hq2.out; omega
              case rel => exact ⟨i + 1, l3, by go_num, by omega, rfl, row_next HL3.out, by omega, HO3, HB3⟩
        · obtain rfl : i = n - k := by omega
          go_wp2_with fail
          go_roundg (2 - (k + 1))
          case measure => have := hq.out; omega
          case rel => exact ⟨k + 1, l2, by go_num, by omega, rfl, HL2.out.trans (kindsTo_succ n k).symm, by omega, HO2, HB2⟩
    · obtain rfl : k = 2 := by omega
      go_wp2_with fail
      go_ret
      exact ⟨_, rfl, by rw [← kindsTo_two, ← HLk.out]; exact HO.out, HL.out⟩

end Go.Proofs.YtpbiminbhihjnaaDoor
