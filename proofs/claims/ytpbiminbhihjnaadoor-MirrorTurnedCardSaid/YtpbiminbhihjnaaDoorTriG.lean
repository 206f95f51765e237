/-
  A part of the proofs over the mirror (layer 4): TriG.
-/
import Derived.Test.YtpbiminbhihjnaaDoorTriF
namespace Go.Proofs.YtpbiminbhihjnaaDoor
open Go.RowKit Tri Go.Maps Go.WideMaps Dist
set_option linter.unusedSimpArgs false
set_option linter.unusedVariables false

/-- A row of rows of integers, all of the call's own. -/
def OwnLL (w : World) (base : Nat) (v : Value) (ls : List (List Int)) : Prop :=
  ∃ vs : List Value, w.ownsRow base 33 1 v ls.length vs ∧ ∀ k, k < ls.length → ∃ u, vs[k]? = some u ∧ Own w base u (ls.getD k [])

theorem OwnLL.nil (w : World) (base : Nat) : OwnLL w base (.slice none 0 0) [] := ⟨[], ⟨rfl, .inl ⟨rfl, rfl⟩⟩, fun k h => by simp at h⟩
theorem OwnLL.below {w w' : World} {base : Nat} {v : Value} {ls : List (List Int)} (h : OwnLL w base v ls) (hb : Below w.heap.size w w') : OwnLL w' base v ls := by
  obtain ⟨vs, ⟨h1, h2⟩, h3⟩ := h
  refine ⟨vs, ⟨h1, h2.imp id ?_⟩, fun k hk => ?_⟩
  · rintro ⟨g, cap, cur, hv, hbase, hh, r⟩
    exact ⟨g, cap, cur, hv, hbase, (hb.block g (lt_of_block hh)).trans hh, r⟩
  · obtain ⟨u, hu, hO⟩ := h3 k hk
    exact ⟨u, hu, hO.more hb⟩
theorem OwnLL.lt {w : World} {base : Nat} {v : Value} {ls : List (List Int)} (h : OwnLL w base v ls) {g : Nat} (hg : v.ownBlock = some g) : base ≤ g ∧ g < w.heap.size := by
  obtain ⟨vs, ⟨h1, h2⟩, h3⟩ := h
  rcases h2 with ⟨hv, _⟩ | ⟨g', cap, cur, hv, hb, hh, _⟩
  · rw [hv] at hg; cases hg
  · rw [hv] at hg
    cases hg
    exact ⟨hb, lt_of_block hh⟩
theorem OwnLL.shape {w : World} {base : Nat} {v : Value} {ls : List (List Int)} (h : OwnLL w base v ls) : ∃ A cap, v = .slice A ls.length cap := by
  obtain ⟨vs, ⟨h1, h2⟩, h3⟩ := h
  rcases h2 with ⟨hv, h0⟩ | ⟨g, cap, cur, hv, _⟩
  · exact ⟨none, 0, by rw [hv, h0]⟩
  · exact ⟨_, cap, hv⟩

theorem info33 : (Tryd.prog.info? 33).map (fun i => (i.zero, i.size, i.bytes)) = some (some (.slice none 0 0), 1, 24) := by kernel_rfl

/-- A row stays, where another block alone has grown. -/
theorem Own.grown {w w' : World} {base : Nat} {v : Value} {l : List Int} {row : Option Nat} (h : Own w base v l) (hg : w.grownBy w' row) (hne : ∀ g, v.ownBlock = some g → some g ≠ row) : Own w' base v l := by
  obtain ⟨h1, h2⟩ := h
  refine ⟨h1, h2.imp id ?_⟩
  rintro ⟨g, cap, cur, hv, hbase, hh, r⟩
  exact ⟨g, cap, cur, hv, hbase, (hg.block g (lt_of_block hh) (hne g (by rw [hv]; rfl))).trans hh, r⟩

/-- A block of rows is no row of integers. -/
theorem OwnLL.apart {w : World} {base : Nat} {v u : Value} {vs : List Value} {n : Nat} {l : List Int} (h : w.ownsRow base 33 1 v n vs) (hu : Own w base u l) {g : Nat} (hg : u.ownBlock = some g) : some g ≠ v.ownBlock := by
  obtain ⟨_, h2⟩ := h
  obtain ⟨_, k2⟩ := hu
  rcases h2 with ⟨hv, _⟩ | ⟨g1, cap, cur, hv, hb, hh, _⟩
  · rw [hv]; simp [Value.ownBlock]
  · rcases k2 with ⟨hu', _⟩ | ⟨g2, cap2, cur2, hu', hb2, hh2, _⟩
    · rw [hu'] at hg; cases hg
    · rw [hu'] at hg
      cases hg
      rw [hv]
      intro e
      cases e
      rw [hh] at hh2
      injection hh2 with hh2
      injection hh2 with _ hh2
      cases hh2

/-- append(out, row). -/
theorem app_row {w : World} {ops : Array Oper} {rest : List Oper} {o : Oper} {a : Act} {Q : Exit → Act → World → Prop} (hgd : o.guard = none) (s x : Operand)
    (ho : o.op = .call { callee := .builtin .append, args := #[s, x], argTypes := #[40, 40] })
    (base : Nat) (v : Value) (ls : List (List Int)) (hs : a.eval s = v) (hown : OwnLL w base v ls) (u : Value) (y : List Int) (hu : Own w base u y) (hx : a.eval x = .slice (some ⟨w.heap.size, 0, none⟩) 1 1)
    (hlen : ls.length ≤ 1000000) (hbase : base ≤ w.heap.size)
    (h : ∀ v' w', OwnLL w' base v' (ls ++ [y]) → Below base w w' → wpList Tryd.prog ops Q rest (a.put o.dst v') w') :
    wpList Tryd.prog ops Q (o :: rest) a (w.alloc (.cells #[u] 33)) := by
  obtain ⟨i, hi, hz, hsz, hby⟩ := info_parts info33
  have hB := Below.alloc (Below.refl base w) hbase (.cells #[u] 33)
  have hA := Below.alloc (Below.refl w.heap.size w) (Nat.le_refl _) (.cells #[u] 33)
  have hown' := hown.below hA
  have hu' := hu.more hA
  obtain ⟨vs, hr, hk⟩ := hown'
  have hn := Blk.new w 33 #[u]
  refine wpList_append_own _ hgd s x 40 ho base 33 i _ 1 24 Tryd.underlying40 hi hz hsz hby rfl (by decide) v ls.length vs hs hr ⟨w.heap.size, 0, none⟩ 1 1 [u] hx rfl ?_ ?_ ?_ (by omega) (by simp; omega) ?_
  · intro j u' hj
    match j, hj with
    | 0, hj => simp only [List.getElem?_cons_zero, Option.some.injEq] at hj; subst hj; have := hn.cell 0; simp [Addr.add, this]
    | j + 1, hj => simp at hj
  · intro u' hu2
    simp only [List.mem_singleton] at hu2
    subst hu2
    obtain ⟨A, cap, hsh⟩ := hu.shape
    rw [hsh]; rfl
  · unfold maxLen; omega
  · intro v' w' h1 h2 _
    apply h v' w'
    · refine ⟨vs ++ [u], ?_, fun k hk' => ?_⟩
      · have e1 : ls.length + 1 = (ls ++ [y]).length := by simp
        rw [e1] at h1
        exact h1
      · have hvl : vs.length = ls.length := by have := hr.1; omega
        by_cases hkl : k < ls.length
        · obtain ⟨u1, hu1, hO1⟩ := hk k hkl
          refine ⟨u1, by rw [List.getElem?_append_left (by omega)]; exact hu1, ?_⟩
          have e : (ls ++ [y]).getD k [] = ls.getD k [] := by
            rw [List.getD_eq_getElem?_getD, List.getD_eq_getElem?_getD, List.getElem?_append_left hkl]
          rw [e]
          exact hO1.grown h2 fun g hg => OwnLL.apart hr hO1 hg
        · have hke : k = ls.length := by simp at hk'; omega
          subst hke
          refine ⟨u, by rw [List.getElem?_append_right (by omega), hvl]; simp, ?_⟩
          have e : (ls ++ [y]).getD ls.length [] = y := by
            rw [List.getD_eq_getElem?_getD, List.getElem?_append_right (by omega)]; simp
          rw [e]
          exact hu'.grown h2 fun g hg => OwnLL.apart hr hu' hg
    · refine hB.grown h2 (by simp; omega) fun k hk' => ?_
      exact (OwnLL.lt (⟨vs, hr, hk⟩ : OwnLL _ base v ls) hk').1

/-- The full cells of a colouring. -/
def cellL (x : Cell) : List Int := [(x.1 : Int), (x.2.1 : Int), (x.2.2 : Int)]
def fullTo (n : Nat) (s : ByteArray) (k : Nat) : List (List Int) := (((cells n).take k).filter (fullB n s)).map cellL
def fullList (n : Nat) (s : ByteArray) : List (List Int) := ((cells n).filter (fullB n s)).map cellL

theorem fullTo_next {n : Nat} {s : ByteArray} {k : Nat} (hk : k < (cells n).length) : fullTo n s (k + 1) = if fullB n s ((cells n).getD k (0, 0, 0)) then fullTo n s k ++ [cellL ((cells n).getD k (0, 0, 0))] else fullTo n s k := by
  unfold fullTo
  rw [List.take_succ_eq_append_getElem hk, List.filter_append, List.map_append]
  have : (cells n).getD k (0, 0, 0) = (cells n)[k] := by rw [List.getD_eq_getElem?_getD, List.getElem?_eq_getElem hk]; rfl
  rw [this]
  by_cases h : fullB n s (cells n)[k] = true
  · simp [h]
  · simp [h]

end Go.Proofs.YtpbiminbhihjnaaDoor
