/-
  Sums over triangles; cells, points and edges of a triangle.
-/

/-
  Sums over the small triangles of a coloured triangle: doors and full cells are counted twice, once by cells and once by edges (Sperner's count, with and without orientation).
-/
namespace Go.Proofs.YtpbiminbhihjnaaDoor
namespace Tri

/-- The sum of f 0 .. f (n - 1). -/
def sum : Nat → (Nat → Int) → Int
  | 0, _ => 0
  | n + 1, f => sum n f + f n

theorem sum_congr {n : Nat} {f g : Nat → Int} (h : ∀ i, i < n → f i = g i) : sum n f = sum n g := by
  induction n with
  | zero => rfl
  | succ n ih => simp only [sum]; rw [ih (fun i hi => h i (by omega)), h n (by omega)]

theorem sum_add (n : Nat) (f g : Nat → Int) : sum n (fun i => f i + g i) = sum n f + sum n g := by
  induction n with
  | zero => rfl
  | succ n ih => simp only [sum]; rw [ih]; omega

theorem sum_neg (n : Nat) (f : Nat → Int) : sum n (fun i => - f i) = - sum n f := by
  induction n with
  | zero => rfl
  | succ n ih => simp only [sum]; rw [ih]; omega

theorem sum_zero {n : Nat} {f : Nat → Int} (h : ∀ i, i < n → f i = 0) : sum n f = 0 := by
  induction n with
  | zero => rfl
  | succ n ih => simp only [sum]; rw [ih (fun i hi => h i (by omega)), h n (by omega)]; rfl

theorem sum_head (n : Nat) (f : Nat → Int) : sum (n + 1) f = f 0 + sum n (fun i => f (i + 1)) := by
  induction n with
  | zero => simp [sum]
  | succ n ih => rw [sum, ih]; simp only [sum]; omega

theorem sum_nonneg {n : Nat} {f : Nat → Int} (h : ∀ i, i < n → 0 ≤ f i) : 0 ≤ sum n f := by
  induction n with
  | zero => exact Int.le_refl 0
  | succ n ih => simp only [sum]; have := ih (fun i hi => h i (by omega)); have := h n (by omega); omega

/-- The sum over all i, j with i + j < n. -/
def tri (n : Nat) (f : Nat → Nat → Int) : Int := sum n fun i => sum (n - i) (f i)

theorem tri_congr {n : Nat} {f g : Nat → Nat → Int} (h : ∀ i j, i + j < n → f i j = g i j) : tri n f = tri n g :=
  sum_congr fun i hi => sum_congr fun j hj => h i j (by omega)

theorem tri_add (n : Nat) (f g : Nat → Nat → Int) : tri n (fun i j => f i j + g i j) = tri n f + tri n g := by
  unfold tri
  rw [← sum_add]
  exact sum_congr fun i _ => sum_add _ _ _

theorem tri_neg (n : Nat) (f : Nat → Nat → Int) : tri n (fun i j => - f i j) = - tri n f := by
  unfold tri
  rw [← sum_neg]
  exact sum_congr fun i _ => sum_neg _ _

theorem tri_nonneg {n : Nat} {f : Nat → Nat → Int} (h : ∀ i j, i + j < n → 0 ≤ f i j) : 0 ≤ tri n f :=
  sum_nonneg fun i hi => sum_nonneg fun j hj => h i j (by omega)

/-- The first row apart. -/
theorem tri_row (n : Nat) (f : Nat → Nat → Int) : tri (n + 1) f = sum (n + 1) (f 0) + tri n (fun i j => f (i + 1) j) := by
  unfold tri
  rw [sum_head]
  congr 1
  exact sum_congr fun i _ => by rw [Nat.add_sub_add_right]

/-- The first place of each row apart. -/
theorem tri_col (n : Nat) (f : Nat → Nat → Int) : tri (n + 1) f = sum (n + 1) (fun i => f i 0) + tri n (fun i j => f i (j + 1)) := by
  have h : ∀ i, i < n + 1 → sum (n + 1 - i) (f i) = f i 0 + sum (n - i) (fun j => f i (j + 1)) := by
    intro i hi
    have e : n + 1 - i = (n - i) + 1 := by omega
    rw [e, sum_head]
  unfold tri
  rw [sum_congr h, sum_add]
  congr 1
  simp only [sum]
  have e : n - n = 0 := by omega
  rw [e]
  simp [sum]

/-- The last place of each row apart. -/
theorem tri_diag (n : Nat) (f : Nat → Nat → Int) : tri (n + 1) f = sum (n + 1) (fun i => f i (n - i)) + tri n f := by
  have h : ∀ i, i < n + 1 → sum (n + 1 - i) (f i) = f i (n - i) + sum (n - i) (f i) := by
    intro i hi
    have e : n + 1 - i = (n - i) + 1 := by omega
    rw [e, sum]
    omega
  unfold tri
  rw [sum_congr h, sum_add]
  congr 1
  simp only [sum]
  have e : n - n = 0 := by omega
  rw [e]
  simp [sum]

/-- What the upper cells count at their three edges is what the lower ones count at theirs, and the border. -/
theorem border (n : Nat) (a b c : Nat → Nat → Int) :
    tri (n + 1) (fun i j => a i j + b i j + c i j) =
      tri n (fun i j => a i (j + 1) + b (i + 1) j + c i j) + (sum (n + 1) (fun i => a i 0) + sum (n + 1) (fun j => b 0 j) + sum (n + 1) (fun i => c i (n - i))) := by
  have h1 : tri (n + 1) (fun i j => a i j + b i j + c i j) = tri (n + 1) (fun i j => a i j) + tri (n + 1) (fun i j => b i j) + tri (n + 1) (fun i j => c i j) := by
    rw [tri_add, tri_add]
  have h2 : tri n (fun i j => a i (j + 1) + b (i + 1) j + c i j) = tri n (fun i j => a i (j + 1)) + tri n (fun i j => b (i + 1) j) + tri n (fun i j => c i j) := by
    rw [tri_add, tri_add]
  have ha : tri (n + 1) (fun i j => a i j) = sum (n + 1) (fun i => a i 0) + tri n (fun i j => a i (j + 1)) := tri_col n a
  have hb : tri (n + 1) (fun i j => b i j) = sum (n + 1) (fun j => b 0 j) + tri n (fun i j => b (i + 1) j) := tri_row n b
  have hc : tri (n + 1) (fun i j => c i j) = sum (n + 1) (fun i => c i (n - i)) + tri n (fun i j => c i j) := tri_diag n c
  rw [h1, h2, ha, hb, hc]
  omega

end Tri
end Go.Proofs.YtpbiminbhihjnaaDoor

/-
  The cells, points and edges of a triangle of size n as plain data; which cells lie at an edge.
-/
namespace Go.Proofs.YtpbiminbhihjnaaDoor
namespace Tri

abbrev Pt := Nat × Nat
abbrev Cell := Nat × Nat × Nat
abbrev Edge := Pt × Pt

/-- All cells, in ascending order. -/
def cells (n : Nat) : List Cell :=
  (List.range 2).flatMap fun k => (List.range (n - k)).flatMap fun i => (List.range (n - k - i)).map fun j => (k, i, j)

theorem mem_cells {n k i j : Nat} : (k, i, j) ∈ cells n ↔ k < 2 ∧ i + j + k < n := by
  unfold cells
  simp only [List.mem_flatMap, List.mem_range, List.mem_map, Prod.mk.injEq]
  constructor
  · rintro ⟨k', hk, i', hi, j', hj, rfl, rfl, rfl⟩
    omega
  · rintro ⟨hk, h⟩
    exact ⟨k, hk, i, by omega, j, by omega, rfl, rfl, rfl⟩

/-- The points of a cell, in their order. -/
def p0 (x : Cell) : Pt := if x.1 = 0 then (x.2.1, x.2.2) else (x.2.1 + 1, x.2.2)
def p1 (x : Cell) : Pt := if x.1 = 0 then (x.2.1 + 1, x.2.2) else (x.2.1, x.2.2 + 1)
def p2 (x : Cell) : Pt := if x.1 = 0 then (x.2.1, x.2.2 + 1) else (x.2.1 + 1, x.2.2 + 1)

/-- The edges, the lesser point first: along a column (j stays), along a row (i stays), and across. -/
def eA (i j : Nat) : Edge := ((i, j), (i + 1, j))
def eB (i j : Nat) : Edge := ((i, j), (i, j + 1))
def eC (i j : Nat) : Edge := ((i, j + 1), (i + 1, j))

/-- The edges of a cell, in the order p0 p1, p0 p2, p1 p2. -/
def edges (x : Cell) : List Edge :=
  if x.1 = 0 then [eA x.2.1 x.2.2, eB x.2.1 x.2.2, eC x.2.1 x.2.2] else [eC x.2.1 x.2.2, eB (x.2.1 + 1) x.2.2, eA x.2.1 (x.2.2 + 1)]

/-- A colouring: of a point its byte. -/
abbrev Col := Nat → Nat → Nat

def Col.at (c : Col) (p : Pt) : Nat := c p.1 p.2

/-- A door has the colours 0 and 1 (the bytes 48 and 49). -/
def door (c : Col) (e : Edge) : Bool := (c.at e.1 == 48 && c.at e.2 == 49) || (c.at e.1 == 49 && c.at e.2 == 48)

/-- All three colours. -/
def full (c : Col) (x : Cell) : Bool := c.at (p0 x) != c.at (p1 x) && c.at (p1 x) != c.at (p2 x) && c.at (p0 x) != c.at (p2 x)

/-- The colours of all points of a triangle are 0, 1, 2. -/
def Coloured (n : Nat) (c : Col) : Prop := ∀ i j, i + j ≤ n → 48 ≤ c i j ∧ c i j ≤ 50

/-- A proper colouring. -/
def Proper (n : Nat) (c : Col) : Prop := ∀ i j, i + j ≤ n → ¬ (j = 0 ∧ c i j = 50) ∧ ¬ (i = 0 ∧ c i j = 49) ∧ ¬ (i + j = n ∧ c i j = 48)

/-- The doors of a cell. -/
def doors (c : Col) (x : Cell) : List Edge := (edges x).filter (door c)

theorem edges_nodup (x : Cell) : (edges x).Nodup := by
  unfold edges
  split <;> simp [eA, eB, eC]

/-- A full cell has one door, another cell none or two. -/
theorem doors_full {n : Nat} {c : Col} (hc : Coloured n c) {x : Cell} (hx : x ∈ cells n) :
    (full c x = true ∧ (doors c x).length = 1) ∨ (full c x = false ∧ ((doors c x).length = 0 ∨ (doors c x).length = 2)) := by
  obtain ⟨k, i, j⟩ := x
  obtain ⟨hk, hn⟩ := mem_cells.1 hx
  have h2 := hc (i + 1) j (by omega)
  have h3 := hc i (j + 1) (by omega)
  have split3 : ∀ m, 48 ≤ m ∧ m ≤ 50 → m = 48 ∨ m = 49 ∨ m = 50 := fun m h => by omega
  by_cases h0 : k = 0
  · subst h0
    have h1 := hc i j (by omega)
    rcases split3 _ h1 with a | a | a <;> rcases split3 _ h2 with b | b | b <;> rcases split3 _ h3 with d | d | d <;>
      simp [full, doors, edges, door, Col.at, p0, p1, p2, eA, eB, eC, a, b, d]
  · have e : k = 1 := by omega
    subst e
    have h4 := hc (i + 1) (j + 1) (by omega)
    rcases split3 _ h2 with a | a | a <;> rcases split3 _ h3 with b | b | b <;> rcases split3 _ h4 with d | d | d <;>
      simp [full, doors, edges, door, Col.at, p0, p1, p2, eA, eB, eC, a, b, d]

/-- Two cells of one kind have no edge in common. -/
theorem same_kind {x y : Cell} {e : Edge} (hx : e ∈ edges x) (hy : e ∈ edges y) (h : (x.1 = 0 ↔ y.1 = 0)) : x.2 = y.2 := by
  obtain ⟨k, i, j⟩ := x
  obtain ⟨l, a, b⟩ := y
  unfold edges at hx hy
  simp only at h
  by_cases hk : k = 0
  · have hl := h.1 hk
    simp only [hk, hl, if_true, List.mem_cons, List.mem_nil_iff, or_false, eA, eB, eC] at hx hy
    simp only [Prod.mk.injEq]
    rcases hx with rfl | rfl | rfl <;> simp only [Prod.mk.injEq] at hy <;> omega
  · have hl : l ≠ 0 := fun hl => hk (h.2 hl)
    simp only [hk, hl, if_false, List.mem_cons, List.mem_nil_iff, or_false, eA, eB, eC] at hx hy
    simp only [Prod.mk.injEq]
    rcases hx with rfl | rfl | rfl <;> simp only [Prod.mk.injEq] at hy <;> omega

/-- At an edge there are at most two cells. -/
theorem two_at {n : Nat} {x y z : Cell} {e : Edge} (mx : x ∈ cells n) (my : y ∈ cells n) (mz : z ∈ cells n)
    (hx : e ∈ edges x) (hy : e ∈ edges y) (hz : e ∈ edges z) (h1 : x ≠ y) (h2 : z ≠ x) : z = y := by
  have key : ∀ u v : Cell, u ∈ cells n → v ∈ cells n → e ∈ edges u → e ∈ edges v → (u.1 = 0 ↔ v.1 = 0) → u = v := by
    rintro ⟨k, i, j⟩ ⟨l, a, b⟩ mu mv hu hv h
    have hp := same_kind hu hv h
    have hk := (mem_cells.1 mu).1
    have hl := (mem_cells.1 mv).1
    simp only [Prod.mk.injEq] at hp h ⊢
    omega
  by_cases c1 : x.1 = 0 <;> by_cases c2 : y.1 = 0 <;> by_cases c3 : z.1 = 0
  · exact absurd (key x y mx my hx hy (by simp [c1, c2])) h1
  · exact absurd (key x y mx my hx hy (by simp [c1, c2])) h1
  · exact absurd (key z x mz mx hz hx (by simp [c1, c3])) h2
  · exact key z y mz my hz hy (by simp [c2, c3])
  · exact key z y mz my hz hy (by simp [c2, c3])
  · exact absurd (key z x mz mx hz hx (by simp [c1, c3])) h2
  · exact absurd (key x y mx my hx hy (by simp [c1, c2])) h1
  · exact absurd (key x y mx my hx hy (by simp [c1, c2])) h1

/-- An edge of a cell is one of three kinds. -/
theorem edge_kind {n : Nat} {x : Cell} (mx : x ∈ cells n) {e : Edge} (hx : e ∈ edges x) :
    (∃ i j, i + j < n ∧ e = eA i j) ∨ (∃ i j, i + j < n ∧ e = eB i j) ∨ (∃ i j, i + j < n ∧ e = eC i j) := by
  obtain ⟨k, i, j⟩ := x
  obtain ⟨hk, hn⟩ := mem_cells.1 mx
  unfold edges at hx
  by_cases h0 : k = 0
  · subst h0
    simp only [if_true, List.mem_cons, List.mem_nil_iff, or_false] at hx
    rcases hx with rfl | rfl | rfl
    · exact .inl ⟨i, j, by omega, rfl⟩
    · exact .inr (.inl ⟨i, j, by omega, rfl⟩)
    · exact .inr (.inr ⟨i, j, by omega, rfl⟩)
  · simp only [h0, if_false, List.mem_cons, List.mem_nil_iff, or_false] at hx
    rcases hx with rfl | rfl | rfl
    · exact .inr (.inr ⟨i, j, by omega, rfl⟩)
    · exact .inr (.inl ⟨i + 1, j, by omega, rfl⟩)
    · exact .inl ⟨i, j + 1, by omega, rfl⟩

/-- In a proper colouring a door at which there is just one cell is at the first side. -/
theorem alone_side {n : Nat} {c : Col} (hp : Proper n c) {x : Cell} (mx : x ∈ cells n) {e : Edge} (hx : e ∈ edges x) (hd : door c e = true)
    (h1 : ∀ y, y ∈ cells n → e ∈ edges y → y = x) : ∃ i, i < n ∧ e = eA i 0 := by
  rcases edge_kind mx hx with ⟨i, j, hij, rfl⟩ | ⟨i, j, hij, rfl⟩ | ⟨i, j, hij, rfl⟩
  · cases j with
    | zero => exact ⟨i, by omega, rfl⟩
    | succ j =>
      have a := h1 (0, i, j + 1) (mem_cells.2 ⟨by omega, by omega⟩) (by simp [edges])
      have b := h1 (1, i, j) (mem_cells.2 ⟨by omega, by omega⟩) (by simp [edges])
      rw [← a] at b
      simp at b
  · cases i with
    | zero =>
      exfalso
      have q1 := hp 0 j (by omega)
      have q2 := hp 0 (j + 1) (by omega)
      simp only [door, Col.at, eB, Bool.or_eq_true, Bool.and_eq_true, beq_iff_eq] at hd
      omega
    | succ i =>
      have a := h1 (0, i + 1, j) (mem_cells.2 ⟨by omega, by omega⟩) (by simp [edges])
      have b := h1 (1, i, j) (mem_cells.2 ⟨by omega, by omega⟩) (by simp [edges])
      rw [← a] at b
      simp at b
  · by_cases hb : i + j + 1 < n
    · have a := h1 (0, i, j) (mem_cells.2 ⟨by omega, by omega⟩) (by simp [edges])
      have b := h1 (1, i, j) (mem_cells.2 ⟨by omega, by omega⟩) (by simp [edges])
      rw [← a] at b
      simp at b
    · exfalso
      have q1 := hp i (j + 1) (by omega)
      have q2 := hp (i + 1) j (by omega)
      simp only [door, Col.at, eC, Bool.or_eq_true, Bool.and_eq_true, beq_iff_eq] at hd
      omega

/-- At an edge of the first side there is just one cell. -/
theorem side_alone {n i : Nat} {x : Cell} (mx : x ∈ cells n) (hx : eA i 0 ∈ edges x) : x = (0, i, 0) := by
  obtain ⟨k, a, b⟩ := x
  obtain ⟨hk, hn⟩ := mem_cells.1 mx
  unfold edges at hx
  by_cases h0 : k = 0
  · subst h0
    simp only [if_true, List.mem_cons, List.mem_nil_iff, or_false] at hx
    rcases hx with hx | hx | hx <;> simp only [eA, eB, eC, Prod.mk.injEq] at hx
    · have e1 : a = i := by omega
      have e2 : b = 0 := by omega
      rw [e1, e2]
    · omega
    · omega
  · simp [h0, eA, eB, eC] at hx

end Tri
end Go.Proofs.YtpbiminbhihjnaaDoor
