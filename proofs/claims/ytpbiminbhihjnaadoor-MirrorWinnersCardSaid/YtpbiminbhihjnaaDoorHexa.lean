/-
  Hex has exactly one winner, and what that says of boards.
-/
import Derived.Test.YtpbiminbhihjnaaDoorPlain

/-
  Hex on a rhombus has exactly one winner. The board is laid into a triangle (the game of Y), and the triangle is made smaller step by step (each upward triple of cells becomes one cell, of the majority's colour).
-/
namespace Go.Proofs.YtpbiminbhihjnaaDoor
namespace HexY

/-- Two cells of the lattice are neighbours. -/
def Adj (a b : Nat × Nat) : Prop :=
  (b.1 = a.1 ∧ b.2 = a.2 + 1) ∨ (b.1 = a.1 + 1 ∧ b.2 = a.2) ∨ (b.1 = a.1 + 1 ∧ b.2 + 1 = a.2) ∨
  (a.1 = b.1 ∧ a.2 = b.2 + 1) ∨ (a.1 = b.1 + 1 ∧ a.2 = b.2) ∨ (a.1 = b.1 + 1 ∧ a.2 + 1 = b.2)

theorem Adj.symm {a b : Nat × Nat} (h : Adj a b) : Adj b a := by
  unfold Adj at *; omega

/-- b is reached from a over cells of the triangle of side N in which P is true. -/
inductive Conn (N : Nat) (P : Nat → Nat → Bool) : Nat × Nat → Nat × Nat → Prop
  | refl (a : Nat × Nat) : a.1 + a.2 < N → P a.1 a.2 = true → Conn N P a a
  | step (a b c : Nat × Nat) : Conn N P a b → Adj b c → c.1 + c.2 < N → P c.1 c.2 = true → Conn N P a c

theorem Conn.ends {N : Nat} {P : Nat → Nat → Bool} {a b : Nat × Nat} (h : Conn N P a b) :
    (a.1 + a.2 < N ∧ P a.1 a.2 = true) ∧ (b.1 + b.2 < N ∧ P b.1 b.2 = true) := by
  induction h with
  | refl h p => exact ⟨⟨h, p⟩, ⟨h, p⟩⟩
  | step b c _ _ h p ih => exact ⟨ih.1, ⟨h, p⟩⟩

theorem Conn.trans {N : Nat} {P : Nat → Nat → Bool} {a b c : Nat × Nat} (h : Conn N P a b) (k : Conn N P b c) : Conn N P a c := by
  induction k with
  | refl _ _ => exact h
  | step d e _ hA hn hp ih => exact .step _ _ _ ih hA hn hp

theorem Conn.edge {N : Nat} {P : Nat → Nat → Bool} {a b : Nat × Nat} (ha : a.1 + a.2 < N) (pa : P a.1 a.2 = true)
    (hb : b.1 + b.2 < N) (pb : P b.1 b.2 = true) (h : a = b ∨ Adj a b) : Conn N P a b := by
  rcases h with rfl | h
  · exact .refl _ ha pa
  · exact .step _ _ _ (.refl _ ha pa) h hb pb

theorem Conn.symm {N : Nat} {P : Nat → Nat → Bool} {a b : Nat × Nat} (h : Conn N P a b) : Conn N P b a := by
  induction h with
  | refl h p => exact .refl _ h p
  | step b c hab hA hn hp ih => exact (Conn.edge hn hp hab.ends.2.1 hab.ends.2.2 (.inr hA.symm)).trans ih

/-- A connected set in P that touches all three sides. -/
def YWin (N : Nat) (P : Nat → Nat → Bool) : Prop :=
  ∃ p a b d, Conn N P p a ∧ a.1 = 0 ∧ Conn N P p b ∧ b.2 = 0 ∧ Conn N P p d ∧ d.1 + d.2 + 1 = N

/-- The majority of an upward triple. -/
def maj (P : Nat → Nat → Bool) (i j : Nat) : Bool :=
  (P i j && P (i + 1) j) || (P i j && P i (j + 1)) || (P (i + 1) j && P i (j + 1))

/-- a is a corner of the upward triple t. -/
def Has (t a : Nat × Nat) : Prop := (a.1 = t.1 ∧ a.2 = t.2) ∨ (a.1 = t.1 + 1 ∧ a.2 = t.2) ∨ (a.1 = t.1 ∧ a.2 = t.2 + 1)

theorem has_pair {u v b : Nat × Nat} (h : Has u b) (k : Has v b) : u = v ∨ Adj u v := by
  obtain ⟨u1, u2⟩ := u
  obtain ⟨v1, v2⟩ := v
  unfold Has at *
  unfold Adj
  simp only [Prod.mk.injEq] at *
  omega

theorem has_in {N : Nat} {t a : Nat × Nat} (h : Has t a) (ht : t.1 + t.2 < N) : a.1 + a.2 < N + 1 := by
  unfold Has at h; omega

theorem has_same {t a b : Nat × Nat} (h : Has t a) (k : Has t b) : a = b ∨ Adj a b := by
  obtain ⟨a1, a2⟩ := a
  obtain ⟨b1, b2⟩ := b
  unfold Has at *
  unfold Adj
  simp only [Prod.mk.injEq] at *
  omega

theorem maj_of {P : Nat → Nat → Bool} {t a b : Nat × Nat} (h : Has t a) (k : Has t b) (hne : a ≠ b) (pa : P a.1 a.2 = true) (pb : P b.1 b.2 = true) :
    maj P t.1 t.2 = true := by
  obtain ⟨a1, a2⟩ := a
  obtain ⟨b1, b2⟩ := b
  obtain ⟨t1, t2⟩ := t
  unfold Has at *
  simp only [ne_eq, Prod.mk.injEq] at *
  unfold maj
  rcases h with ⟨rfl, rfl⟩ | ⟨rfl, rfl⟩ | ⟨rfl, rfl⟩ <;> rcases k with ⟨rfl, rfl⟩ | ⟨rfl, rfl⟩ | ⟨rfl, rfl⟩ <;> simp_all

theorem Adj.ne {a b : Nat × Nat} (h : Adj a b) : a ≠ b := by
  rintro rfl; unfold Adj at h; omega

theorem edge_triple {N : Nat} {b c : Nat × Nat} (hA : Adj b c) (hb : b.1 + b.2 < N + 1) (hc : c.1 + c.2 < N + 1) :
    ∃ v : Nat × Nat, v.1 + v.2 < N ∧ Has v b ∧ Has v c := by
  unfold Adj at hA
  rcases hA with h | h | h | h | h | h
  · exact ⟨b, by omega, by unfold Has; omega, by unfold Has; omega⟩
  · exact ⟨b, by omega, by unfold Has; omega, by unfold Has; omega⟩
  · exact ⟨(b.1, c.2), by show b.1 + c.2 < N; omega, .inr (.inr ⟨rfl, by show b.2 = c.2 + 1; omega⟩), .inr (.inl ⟨by show c.1 = b.1 + 1; omega, rfl⟩)⟩
  · exact ⟨c, by omega, by unfold Has; omega, by unfold Has; omega⟩
  · exact ⟨c, by omega, by unfold Has; omega, by unfold Has; omega⟩
  · exact ⟨(c.1, b.2), by show c.1 + b.2 < N; omega, .inr (.inl ⟨by show b.1 = c.1 + 1; omega, rfl⟩), .inr (.inr ⟨rfl, by show c.2 = b.2 + 1; omega⟩)⟩

theorem down_conn {N : Nat} {P : Nat → Nat → Bool} {a b : Nat × Nat} (h : Conn (N + 1) P a b) :
    a = b ∨ ∃ t u, Conn N (maj P) t u ∧ Has t a ∧ Has u b := by
  induction h with
  | refl _ _ => exact .inl rfl
  | step b c hab hA hn hp ih =>
    right
    obtain ⟨v, hv, vb, vc⟩ := edge_triple hA hab.ends.2.1 hn
    have hm := maj_of vb vc hA.ne hab.ends.2.2 hp
    rcases ih with rfl | ⟨t, u, htu, ta, ub⟩
    · exact ⟨v, v, .refl _ hv hm, vb, vc⟩
    · exact ⟨t, v, htu.trans (Conn.edge htu.ends.2.1 htu.ends.2.2 hv hm (has_pair ub vb)), ta, vc⟩

theorem down {N : Nat} {P : Nat → Nat → Bool} (hN : 1 ≤ N) (h : YWin (N + 1) P) : YWin N (maj P) := by
  obtain ⟨p, a, b, d, ha, a0, hb, b0, hd, d0⟩ := h
  have get : ∃ t, t.1 + t.2 < N ∧ maj P t.1 t.2 = true ∧ Has t p := by
    rcases down_conn ha with rfl | ⟨t, u, htu, tp, _⟩
    · rcases down_conn hb with rfl | ⟨t, u, htu, tp, _⟩
      · rcases down_conn hd with rfl | ⟨t, u, htu, tp, _⟩
        · omega
        · exact ⟨t, htu.ends.1.1, htu.ends.1.2, tp⟩
      · exact ⟨t, htu.ends.1.1, htu.ends.1.2, tp⟩
    · exact ⟨t, htu.ends.1.1, htu.ends.1.2, tp⟩
  obtain ⟨t0, ht0, mt0, tp0⟩ := get
  have go : ∀ x, Conn (N + 1) P p x → ∃ u, Conn N (maj P) t0 u ∧ Has u x := by
    intro x hx
    rcases down_conn hx with rfl | ⟨t, u, htu, tp, ux⟩
    · exact ⟨t0, .refl _ ht0 mt0, tp0⟩
    · exact ⟨u, (Conn.edge ht0 mt0 htu.ends.1.1 htu.ends.1.2 (has_pair tp0 tp)).trans htu, ux⟩
  obtain ⟨ua, hua, xa⟩ := go a ha
  obtain ⟨ub, hub, xb⟩ := go b hb
  obtain ⟨ud, hud, xd⟩ := go d hd
  have := hud.ends.2.1
  exact ⟨t0, ua, ub, ud, hua, by unfold Has at xa; omega, hub, by unfold Has at xb; omega, hud, by unfold Has at xd; omega⟩

/-- The corners of a triple that has the majority: at least one of any two. -/
theorem maj_two {P : Nat → Nat → Bool} {i j : Nat} (h : maj P i j = true) :
    (P i j = true ∧ P (i + 1) j = true) ∨ (P i j = true ∧ P i (j + 1) = true) ∨ (P (i + 1) j = true ∧ P i (j + 1) = true) := by
  unfold maj at h
  simp only [Bool.or_eq_true, Bool.and_eq_true] at h
  rcases h with (h | h) | h
  · exact .inl h
  · exact .inr (.inl h)
  · exact .inr (.inr h)

theorem up_link {P : Nat → Nat → Bool} {u v : Nat × Nat} (hA : Adj u v) (hu : maj P u.1 u.2 = true) (hv : maj P v.1 v.2 = true) :
    ∃ b c : Nat × Nat, Has u b ∧ P b.1 b.2 = true ∧ Has v c ∧ P c.1 c.2 = true ∧ (b = c ∨ Adj b c) := by
  obtain ⟨i, j⟩ := u
  obtain ⟨k, l⟩ := v
  have key : ∀ s : Nat × Nat, Has (i, j) s → Has (k, l) s → P s.1 s.2 = true →
      ∃ b c : Nat × Nat, Has (i, j) b ∧ P b.1 b.2 = true ∧ Has (k, l) c ∧ P c.1 c.2 = true ∧ (b = c ∨ Adj b c) :=
    fun s h1 h2 h3 => ⟨s, s, h1, h3, h2, h3, .inl rfl⟩
  have two : ∀ b c : Nat × Nat, Has (i, j) b → P b.1 b.2 = true → Has (k, l) c → P c.1 c.2 = true → Adj b c →
      ∃ b c : Nat × Nat, Has (i, j) b ∧ P b.1 b.2 = true ∧ Has (k, l) c ∧ P c.1 c.2 = true ∧ (b = c ∨ Adj b c) :=
    fun b c h1 h2 h3 h4 h5 => ⟨b, c, h1, h2, h3, h4, .inr h5⟩
  have m1 := maj_two hu
  have m2 := maj_two hv
  unfold Adj at hA
  simp only at hA m1 m2
  rcases hA with ⟨rfl, rfl⟩ | ⟨rfl, rfl⟩ | ⟨rfl, h⟩ | ⟨rfl, rfl⟩ | ⟨rfl, rfl⟩ | ⟨rfl, h⟩
  · by_cases hs : P k (j + 1) = true
    · exact key (k, j + 1) (by unfold Has; simp) (by unfold Has; simp) hs
    · refine two (k + 1, j) (k + 1, j + 1) (by unfold Has; simp) ?_ (by unfold Has; simp) ?_ (by unfold Adj; simp)
      · simp only; simp_all
      · simp only; simp_all
  · by_cases hs : P (i + 1) l = true
    · exact key (i + 1, l) (by unfold Has; simp) (by unfold Has; simp) hs
    · refine two (i, l + 1) (i + 1, l + 1) (by unfold Has; simp) ?_ (by unfold Has; simp) ?_ (by unfold Adj; simp)
      · simp only; simp_all
      · simp only; simp_all
  · subst h
    by_cases hs : P (i + 1) (l + 1) = true
    · exact key (i + 1, l + 1) (by unfold Has; simp) (by unfold Has; simp) hs
    · refine two (i, l + 1) (i + 1, l) (by unfold Has; simp) ?_ (by unfold Has; simp) ?_ (by unfold Adj; simp)
      · simp only; simp_all
      · simp only; simp_all
  · by_cases hs : P i (l + 1) = true
    · exact key (i, l + 1) (by unfold Has; simp) (by unfold Has; simp) hs
    · refine two (i + 1, l + 1) (i + 1, l) (by unfold Has; simp) ?_ (by unfold Has; simp) ?_ (by unfold Adj; simp)
      · simp only; simp_all
      · simp only; simp_all
  · by_cases hs : P (k + 1) j = true
    · exact key (k + 1, j) (by unfold Has; simp) (by unfold Has; simp) hs
    · refine two (k + 1, j + 1) (k, j + 1) (by unfold Has; simp) ?_ (by unfold Has; simp) ?_ (by unfold Adj; simp)
      · simp only; simp_all
      · simp only; simp_all
  · subst h
    by_cases hs : P (k + 1) (j + 1) = true
    · exact key (k + 1, j + 1) (by unfold Has; simp) (by unfold Has; simp) hs
    · refine two (k + 1, j) (k, j + 1) (by unfold Has; simp) ?_ (by unfold Has; simp) ?_ (by unfold Adj; simp)
      · simp only; simp_all
      · simp only; simp_all

theorem up_conn {N : Nat} {P : Nat → Nat → Bool} {t u : Nat × Nat} (h : Conn N (maj P) t u) :
    ∀ a b : Nat × Nat, Has t a → P a.1 a.2 = true → Has u b → P b.1 b.2 = true → Conn (N + 1) P a b := by
  induction h with
  | refl hn _ =>
    intro a b ha pa hb pb
    exact Conn.edge (has_in ha hn) pa (has_in hb hn) pb (has_same ha hb)
  | step u v htu hA hn hm ih =>
    intro a b ha pa hb pb
    obtain ⟨x, y, ux, px, vy, py, hxy⟩ := up_link hA htu.ends.2.2 hm
    exact ((ih a x ha pa ux px).trans (Conn.edge (has_in ux htu.ends.2.1) px (has_in vy hn) py hxy)).trans (Conn.edge (has_in vy hn) py (has_in hb hn) pb (has_same vy hb))

theorem up {N : Nat} {P : Nat → Nat → Bool} (h : YWin N (maj P)) : YWin (N + 1) P := by
  obtain ⟨t, u, v, x, hu, u0, hv, v0, hx, x0⟩ := h
  have gt : ∃ p, Has t p ∧ P p.1 p.2 = true := by
    rcases maj_two hu.ends.1.2 with h | h | h
    · exact ⟨t, by unfold Has; simp, h.1⟩
    · exact ⟨t, by unfold Has; simp, h.1⟩
    · exact ⟨(t.1 + 1, t.2), by unfold Has; simp, h.1⟩
  have ga : ∃ a, Has u a ∧ P a.1 a.2 = true ∧ a.1 = 0 := by
    rcases maj_two hu.ends.2.2 with h | h | h
    · exact ⟨u, by unfold Has; simp, h.1, u0⟩
    · exact ⟨u, by unfold Has; simp, h.1, u0⟩
    · exact ⟨(u.1, u.2 + 1), by unfold Has; simp, h.2, u0⟩
  have gb : ∃ a, Has v a ∧ P a.1 a.2 = true ∧ a.2 = 0 := by
    rcases maj_two hv.ends.2.2 with h | h | h
    · exact ⟨v, by unfold Has; simp, h.1, v0⟩
    · exact ⟨v, by unfold Has; simp, h.1, v0⟩
    · exact ⟨(v.1 + 1, v.2), by unfold Has; simp, h.1, v0⟩
  have gd : ∃ a, Has x a ∧ P a.1 a.2 = true ∧ a.1 + a.2 + 1 = N + 1 := by
    rcases maj_two hx.ends.2.2 with h | h | h
    · exact ⟨(x.1 + 1, x.2), by unfold Has; simp, h.2, by simp only; omega⟩
    · exact ⟨(x.1, x.2 + 1), by unfold Has; simp, h.2, by simp only; omega⟩
    · exact ⟨(x.1, x.2 + 1), by unfold Has; simp, h.2, by simp only; omega⟩
  obtain ⟨p, tp, pp⟩ := gt
  obtain ⟨a, ua, pa, a0⟩ := ga
  obtain ⟨b, vb, pb, b0⟩ := gb
  obtain ⟨d, xd, pd, d0⟩ := gd
  exact ⟨p, a, b, d, up_conn hu _ _ tp pp ua pa, a0, up_conn hv _ _ tp pp vb pb, b0, up_conn hx _ _ tp pp xd pd, d0⟩

def neg (P : Nat → Nat → Bool) (i j : Nat) : Bool := !P i j

theorem maj_neg (P : Nat → Nat → Bool) : maj (neg P) = neg (maj P) := by
  funext i j
  simp only [maj, neg]
  cases P i j <;> cases P (i + 1) j <;> cases P i (j + 1) <;> rfl

theorem one {P : Nat → Nat → Bool} : YWin 1 P ↔ P 0 0 = true := by
  constructor
  · rintro ⟨p, a, b, d, ha, _⟩
    have h := ha.ends.1
    have h1 : p.1 = 0 := by omega
    have h2 : p.2 = 0 := by omega
    rw [h1, h2] at h
    exact h.2
  · intro h
    have r : Conn 1 P (0, 0) (0, 0) := .refl _ (by simp) h
    exact ⟨(0, 0), (0, 0), (0, 0), (0, 0), r, rfl, r, rfl, r, rfl⟩

/-- The game of Y has exactly one winner. -/
theorem y_some (N : Nat) : ∀ P : Nat → Nat → Bool, YWin (N + 1) P ∨ YWin (N + 1) (neg P) := by
  induction N with
  | zero =>
    intro P
    rw [one, one]
    unfold neg
    cases P 0 0 <;> simp
  | succ N ih =>
    intro P
    rcases ih (maj P) with h | h
    · exact .inl (up h)
    · rw [← maj_neg] at h
      exact .inr (up h)

theorem y_one (N : Nat) : ∀ P : Nat → Nat → Bool, ¬ (YWin (N + 1) P ∧ YWin (N + 1) (neg P)) := by
  induction N with
  | zero =>
    intro P
    rw [one, one]
    unfold neg
    cases P 0 0 <;> simp
  | succ N ih =>
    rintro P ⟨h, k⟩
    have k' := down (by omega) k
    rw [maj_neg] at k'
    exact ih _ ⟨down (by omega) h, k'⟩

/-- A way over cells of a rhombus of side n in which B is true. -/
inductive Way (n : Nat) (B : Nat → Nat → Bool) : Nat × Nat → Nat × Nat → Prop
  | refl (a : Nat × Nat) : a.1 < n → a.2 < n → B a.1 a.2 = true → Way n B a a
  | step (a b c : Nat × Nat) : Way n B a b → Adj b c → c.1 < n → c.2 < n → B c.1 c.2 = true → Way n B a c

/-- From the first row to the last one. -/
def Rows (n : Nat) (B : Nat → Nat → Bool) : Prop := ∃ a b, Way n B a b ∧ a.1 = 0 ∧ b.1 + 1 = n

/-- From the first column to the last one. -/
def Cols (n : Nat) (B : Nat → Nat → Bool) : Prop := ∃ a b, Way n B a b ∧ a.2 = 0 ∧ b.2 + 1 = n

/-- The rhombus in the triangle of side 2 n: below it all is true, at its right all is false. -/
def lay (n : Nat) (B : Nat → Nat → Bool) (i j : Nat) : Bool := if i < n then (if j < n then B i j else false) else true

theorem Way.ends {n : Nat} {B : Nat → Nat → Bool} {a b : Nat × Nat} (h : Way n B a b) :
    (a.1 < n ∧ a.2 < n ∧ B a.1 a.2 = true) ∧ (b.1 < n ∧ b.2 < n ∧ B b.1 b.2 = true) := by
  induction h with
  | refl h1 h2 p => exact ⟨⟨h1, h2, p⟩, ⟨h1, h2, p⟩⟩
  | step b c _ _ h1 h2 p ih => exact ⟨ih.1, ⟨h1, h2, p⟩⟩

theorem lay_in {n : Nat} {B : Nat → Nat → Bool} {i j : Nat} (h1 : i < n) (h2 : j < n) : lay n B i j = B i j := by
  unfold lay; rw [if_pos h1, if_pos h2]

theorem lay_below {n : Nat} {B : Nat → Nat → Bool} {i j : Nat} (h1 : n ≤ i) : lay n B i j = true := by
  unfold lay; rw [if_neg (by omega)]

theorem conn_of_way {n : Nat} {B : Nat → Nat → Bool} {a b : Nat × Nat} (h : Way n B a b) : Conn (2 * n) (lay n B) a b := by
  induction h with
  | refl h1 h2 p => exact .refl _ (by omega) (by rw [lay_in h1 h2]; exact p)
  | step b c _ hA h1 h2 p ih => exact .step _ _ _ ih hA (by omega) (by rw [lay_in h1 h2]; exact p)

/-- Below the rhombus all cells of the row n are connected. -/
theorem along {n : Nat} {B : Nat → Nat → Bool} (j : Nat) (hj : n + j < 2 * n) : Conn (2 * n) (lay n B) (n, 0) (n, j) := by
  induction j with
  | zero => exact .refl _ (by simp only; omega) (lay_below (Nat.le_refl _))
  | succ j ih => exact .step _ _ _ (ih (by omega)) (by unfold Adj; simp) (by simp only; omega) (lay_below (Nat.le_refl _))

theorem y_of_rows {n : Nat} {B : Nat → Nat → Bool} (h : Rows n B) : YWin (2 * n) (lay n B) := by
  obtain ⟨a, b, hab, a0, bn⟩ := h
  have eb := hab.ends.2
  have c1 : Conn (2 * n) (lay n B) a (n, b.2) := .step _ _ _ (conn_of_way hab) (.inr (.inl ⟨by show n = b.1 + 1; omega, rfl⟩)) (by show n + b.2 < 2 * n; omega) (lay_below (Nat.le_refl _))
  have c2 := c1.trans (along (n := n) (B := B) b.2 (by omega)).symm
  exact ⟨a, a, (n, 0), (n, n - 1), (conn_of_way hab).trans (conn_of_way hab).symm, a0, c2, rfl,
    c2.trans (along (n - 1) (by omega)), by simp only; omega⟩

/-- Whoever comes from a cell of the rhombus to a cell below it goes through the last row. -/
theorem way_of_conn {n : Nat} {B : Nat → Nat → Bool} {a b : Nat × Nat} (h : Conn (2 * n) (lay n B) a b) (ha : a.1 < n) :
    (∃ c, Way n B a c ∧ c.1 + 1 = n) ∨ (b.1 < n ∧ Way n B a b) := by
  have inside : ∀ x : Nat × Nat, x.1 < n → lay n B x.1 x.2 = true → x.2 < n ∧ B x.1 x.2 = true := by
    intro x hx hl
    unfold lay at hl
    rw [if_pos hx] at hl
    split at hl
    · exact ⟨‹_›, hl⟩
    · cases hl
  induction h with
  | refl hn hp =>
    right
    exact ⟨ha, .refl _ ha (inside _ ha hp).1 (inside _ ha hp).2⟩
  | step b c _ hA hn hp ih =>
    rcases ih with h | ⟨hb, w⟩
    · exact .inl h
    · by_cases hc : c.1 < n
      · exact .inr ⟨hc, .step _ _ _ w hA hc (inside _ hc hp).1 (inside _ hc hp).2⟩
      · left
        refine ⟨b, w, ?_⟩
        unfold Adj at hA; omega

theorem rows_of_y {n : Nat} {B : Nat → Nat → Bool} (hn : 1 ≤ n) (h : YWin (2 * n) (lay n B)) : Rows n B := by
  obtain ⟨p, a, b, d, ha, a0, hb, b0, hd, d0⟩ := h
  have c := ha.symm.trans hd
  rcases way_of_conn c (by omega) with ⟨x, w, hx⟩ | ⟨hdn, w⟩
  · exact ⟨a, x, w, a0, hx⟩
  · have := w.ends.2; omega

/-- The same with rows and columns exchanged. -/
def swap (P : Nat → Nat → Bool) (i j : Nat) : Bool := P j i

theorem Adj.swap {a b : Nat × Nat} (h : Adj a b) : Adj (a.2, a.1) (b.2, b.1) := by
  unfold Adj at *; simp only; omega

theorem conn_swap {N : Nat} {P : Nat → Nat → Bool} {a b : Nat × Nat} (h : Conn N P a b) : Conn N (swap P) (a.2, a.1) (b.2, b.1) := by
  induction h with
  | refl hn hp => exact .refl _ (by simp only; omega) hp
  | step b c _ hA hn hp ih => exact .step _ _ _ ih hA.swap (by simp only; omega) hp

theorem y_swap {N : Nat} {P : Nat → Nat → Bool} (h : YWin N P) : YWin N (swap P) := by
  obtain ⟨p, a, b, d, ha, a0, hb, b0, hd, d0⟩ := h
  exact ⟨(p.2, p.1), (b.2, b.1), (a.2, a.1), (d.2, d.1), conn_swap hb, b0, conn_swap ha, a0, conn_swap hd, by simp only; omega⟩

theorem way_swap {n : Nat} {B : Nat → Nat → Bool} {a b : Nat × Nat} (h : Way n B a b) : Way n (swap B) (a.2, a.1) (b.2, b.1) := by
  induction h with
  | refl h1 h2 hp => exact .refl _ h2 h1 hp
  | step b c _ hA h1 h2 hp ih => exact .step _ _ _ ih hA.swap h2 h1 hp

theorem rows_swap {n : Nat} {B : Nat → Nat → Bool} (h : Rows n B) : Cols n (swap B) := by
  obtain ⟨a, b, w, a0, bn⟩ := h
  exact ⟨_, _, way_swap w, a0, bn⟩

theorem cols_swap {n : Nat} {B : Nat → Nat → Bool} (h : Cols n B) : Rows n (swap B) := by
  obtain ⟨a, b, w, a0, bn⟩ := h
  exact ⟨_, _, way_swap w, a0, bn⟩

/-- In the triangle the false cells, seen with rows and columns exchanged, are those of the exchanged board's complement, but where i, j are both at least n. -/
theorem conn_same {N : Nat} {P Q : Nat → Nat → Bool} (h : ∀ i j, i + j < N → P i j = Q i j) {a b : Nat × Nat} (c : Conn N P a b) : Conn N Q a b := by
  induction c with
  | refl hn hp => exact .refl _ hn (by rw [← h _ _ hn]; exact hp)
  | step b c _ hA hn hp ih => exact .step _ _ _ ih hA hn (by rw [← h _ _ hn]; exact hp)

theorem y_same {N : Nat} {P Q : Nat → Nat → Bool} (h : ∀ i j, i + j < N → P i j = Q i j) (y : YWin N P) : YWin N Q := by
  obtain ⟨p, a, b, d, ha, a0, hb, b0, hd, d0⟩ := y
  exact ⟨p, a, b, d, conn_same h ha, a0, conn_same h hb, b0, conn_same h hd, d0⟩

theorem lay_neg {n : Nat} {B : Nat → Nat → Bool} (i j : Nat) (h : i + j < 2 * n) : swap (neg (lay n B)) i j = lay n (swap (neg B)) i j := by
  unfold swap neg lay
  by_cases h1 : i < n
  · by_cases h2 : j < n
    · simp [h1, h2]
    · simp [h1, h2]
  · have h2 : j < n := by omega
    simp [h1, h2]

theorem cols_of_y {n : Nat} {B : Nat → Nat → Bool} (hn : 1 ≤ n) (h : YWin (2 * n) (neg (lay n B))) : Cols n (neg B) :=
  rows_swap (rows_of_y hn (y_same lay_neg (y_swap h)))

theorem y_of_cols {n : Nat} {B : Nat → Nat → Bool} (h : Cols n (neg B)) : YWin (2 * n) (neg (lay n B)) :=
  y_swap (y_same (fun i j hij => (lay_neg i j hij).symm) (y_of_rows (cols_swap h)))

/-- On a full board somebody has a bridge. -/
theorem hex_some {n : Nat} (hn : 1 ≤ n) (B : Nat → Nat → Bool) : Rows n B ∨ Cols n (neg B) := by
  obtain ⟨m, hm⟩ : ∃ m, 2 * n = m + 1 := ⟨2 * n - 1, by omega⟩
  rcases y_some m (lay n B) with h | h
  · rw [← hm] at h; exact .inl (rows_of_y hn h)
  · rw [← hm] at h; exact .inr (cols_of_y hn h)

/-- On a full board not both have one. -/
theorem hex_one {n : Nat} (hn : 1 ≤ n) (B : Nat → Nat → Bool) : ¬ (Rows n B ∧ Cols n (neg B)) := by
  obtain ⟨m, hm⟩ : ∃ m, 2 * n = m + 1 := ⟨2 * n - 1, by omega⟩
  rintro ⟨h, k⟩
  have h' := y_of_rows h
  have k' := y_of_cols k
  rw [hm] at h' k'
  exact y_one m _ ⟨h', k'⟩

end HexY
end Go.Proofs.YtpbiminbhihjnaaDoor

/-
  Who has a bridge: ways of the board's graph are ways of the rhombus; on a full board just one of the two players has one.
-/
namespace Go.Proofs.YtpbiminbhihjnaaDoor
open Dist
set_option linter.unusedSimpArgs false
set_option linter.unusedVariables false

/-- Some way leads from the first side of a player to the last one. -/
def Bridged (n : Nat) (s : ByteArray) (p own emp : Int) : Prop := ∃ a l, beginsB n p (a : Nat) = true ∧ (graph n s p own emp).Way (a :: l)

theorem least_exists (G : Graph) (a : Nat) : ∃ r, G.Least a r := by
  by_cases h : ∃ l, G.Way (a :: l)
  · have key : ∀ m, (∃ l, G.Way (a :: l) ∧ G.price (a :: l) ≤ m) → ∃ k, G.Least a (some k) := by
      intro m
      induction m with
      | zero =>
        rintro ⟨l, h1, h2⟩
        exact ⟨0, ⟨l, h1, by omega⟩, fun _ _ => Nat.zero_le _⟩
      | succ m ih =>
        rintro ⟨l, h1, h2⟩
        by_cases hm : ∃ l, G.Way (a :: l) ∧ G.price (a :: l) ≤ m
        · exact ih hm
        · refine ⟨m + 1, ⟨l, h1, ?_⟩, fun l' h' => ?_⟩
          · rcases Nat.lt_or_ge m (G.price (a :: l)) with h3 | h3
            · omega
            · exact absurd ⟨l, h1, h3⟩ hm
          · rcases Nat.lt_or_ge m (G.price (a :: l')) with h3 | h3
            · omega
            · exact absurd ⟨l', h', h3⟩ hm
    obtain ⟨l, hl⟩ := h
    obtain ⟨k, hk⟩ := key _ ⟨l, hl, Nat.le_refl _⟩
    exact ⟨some k, hk⟩
  · exact ⟨none, fun l hl => h ⟨l, hl⟩⟩

theorem way_lt {n : Nat} {s : ByteArray} {p own emp : Int} {a : Nat} {l : List Nat} (h : (graph n s p own emp).Way (a :: l)) : a < n * n := h.1

theorem best_none {n : Nat} {s : ByteArray} {p own emp : Int} : Best n s p own emp none ↔ ¬ Bridged n s p own emp := by
  constructor
  · rintro h ⟨a, l, hb, hw⟩
    exact h a (way_lt hw) hb l hw
  · intro h a ha hb l hw
    exact h ⟨a, l, hb, hw⟩

theorem best_bridged {n : Nat} {s : ByteArray} {p own emp : Int} {k : Nat} (h : Best n s p own emp (some k)) : Bridged n s p own emp := by
  obtain ⟨⟨a, _, hb, ⟨l, hw, _⟩, _⟩, _⟩ := h
  exact ⟨a, l, hb, hw⟩

/-- The least cost of a bridge: what it is, over all ways. -/
theorem best_some {n : Nat} {s : ByteArray} {p own emp : Int} {k : Nat} : Best n s p own emp (some k) ↔
    (∃ a l, beginsB n p (a : Nat) = true ∧ (graph n s p own emp).Way (a :: l) ∧ (graph n s p own emp).price (a :: l) = k) ∧
    ∀ a l, beginsB n p (a : Nat) = true → (graph n s p own emp).Way (a :: l) → k ≤ (graph n s p own emp).price (a :: l) := by
  constructor
  · rintro ⟨⟨a, ha, hb, ⟨l, hw, hp⟩, hm⟩, hall⟩
    refine ⟨⟨a, l, hb, hw, hp⟩, fun b m hb' hw' => ?_⟩
    obtain ⟨r, hr⟩ := least_exists (graph n s p own emp) b
    cases r with
    | none => exact absurd hw' (hr m)
    | some d =>
      have h1 := hall b d (way_lt hw') hb' hr
      have h2 := hr.2 m hw'
      omega
  · rintro ⟨⟨a, l, hb, hw, hp⟩, hall⟩
    refine ⟨⟨a, way_lt hw, hb, ⟨l, hw, hp⟩, fun m hm => hall a m hb hm⟩, fun b d _ hb' hd => ?_⟩
    obtain ⟨⟨m, hw', hp'⟩, _⟩ := hd
    have := hall b m hb' hw'
    omega

theorem best_exists (n : Nat) (s : ByteArray) (p own emp : Int) : ∃ r, Best n s p own emp r := by
  by_cases h : Bridged n s p own emp
  · have key : ∀ m, (∃ a l, beginsB n p (a : Nat) = true ∧ (graph n s p own emp).Way (a :: l) ∧ (graph n s p own emp).price (a :: l) ≤ m) → ∃ k, Best n s p own emp (some k) := by
      intro m
      induction m with
      | zero =>
        rintro ⟨a, l, hb, h1, h2⟩
        exact ⟨0, best_some.2 ⟨⟨a, l, hb, h1, by omega⟩, fun _ _ _ _ => Nat.zero_le _⟩⟩
      | succ m ih =>
        rintro ⟨a, l, hb, h1, h2⟩
        by_cases hm : ∃ a l, beginsB n p (a : Nat) = true ∧ (graph n s p own emp).Way (a :: l) ∧ (graph n s p own emp).price (a :: l) ≤ m
        · exact ih hm
        · refine ⟨m + 1, best_some.2 ⟨⟨a, l, hb, h1, ?_⟩, fun a' l' hb' h' => ?_⟩⟩
          · rcases Nat.lt_or_ge m ((graph n s p own emp).price (a :: l)) with h3 | h3
            · omega
            · exact absurd ⟨a, l, hb, h1, h3⟩ hm
          · rcases Nat.lt_or_ge m ((graph n s p own emp).price (a' :: l')) with h3 | h3
            · omega
            · exact absurd ⟨a', l', hb', h', h3⟩ hm
    obtain ⟨a, l, hb, hl⟩ := h
    obtain ⟨k, hk⟩ := key _ ⟨a, l, hb, hl, Nat.le_refl _⟩
    exact ⟨some k, hk⟩
  · exact ⟨none, best_none.2 h⟩

theorem best_is_some {n : Nat} {s : ByteArray} {p own emp : Int} (h : Bridged n s p own emp) : ∃ k, Best n s p own emp (some k) := by
  obtain ⟨r, hr⟩ := best_exists n s p own emp
  cases r with
  | none => exact absurd h (best_none.1 hr)
  | some k => exact ⟨k, hr⟩

theorem short_nil {n : Nat} {s : ByteArray} {p : Int} (h : Short n s p []) : ¬ Bridged n s p 1 1000 := by
  obtain ⟨r, hr, h⟩ := h
  cases r with
  | none => exact best_none.1 hr
  | some k =>
    have hk : k = 0 := h.1.symm
    subst hk
    obtain ⟨⟨a, l, hb, hw, hp⟩, _⟩ := best_some.1 hr
    have hc : costI s p 1 1000 a < 1000 := by
      have := hw.2.1
      simp only [graph] at this
      split at this
      · assumption
      · cases this
    have h1 : 1 ≤ costI s p 1 1000 a := by unfold costI; split <;> first | omega | (split <;> omega)
    have : (graph n s p 1 1000).price (a :: l) = (costI s p 1 1000 a).toNat + (graph n s p 1 1000).price l := by
      show ((graph n s p 1 1000).cost a).getD 0 + _ = _
      simp only [graph]
      rw [if_pos hc]; rfl
    omega

theorem short_bridged {n : Nat} {s : ByteArray} {p : Int} {l : List Nat} (h : Short n s p l) (hl : l ≠ []) : Bridged n s p 1 1000 := by
  obtain ⟨r, hr, h⟩ := h
  cases r with
  | none => exact absurd h hl
  | some k => exact best_bridged hr

/-- The cells that a player may use. -/
def open_ (n : Nat) (s : ByteArray) (p own emp : Int) (i j : Nat) : Bool := decide (costI s p own emp (i * n + j) < 1000)

theorem cost_isSome {n : Nat} {s : ByteArray} {p own emp : Int} (a : Nat) : ((graph n s p own emp).cost a).isSome = true ↔ costI s p own emp a < 1000 := by
  simp only [graph]
  split <;> simp_all

theorem place {n a : Nat} (h : a < n * n) : a / n < n ∧ a % n < n ∧ a / n * n + a % n = a := by
  have hn : 0 < n := by
    rcases Nat.eq_zero_or_pos n with e | e
    · subst e; omega
    · exact e
  exact ⟨Nat.div_lt_of_lt_mul h, Nat.mod_lt _ hn, Nat.div_add_mod' a n⟩

theorem place_back {n i j : Nat} (hi : i < n) (hj : j < n) : i * n + j < n * n ∧ (i * n + j) / n = i ∧ (i * n + j) % n = j := by
  have hn : 0 < n := by omega
  refine ⟨?_, ?_, ?_⟩
  · have : (i + 1) * n ≤ n * n := Nat.mul_le_mul_right n hi
    have e : (i + 1) * n = i * n + n := by rw [Nat.add_mul, Nat.one_mul]
    omega
  · rw [Nat.add_comm, Nat.add_mul_div_right _ _ hn, Nat.div_eq_of_lt hj, Nat.zero_add]
  · rw [Nat.add_comm, Nat.add_mul_mod_self_right, Nat.mod_eq_of_lt hj]

theorem near_adj (n a b : Nat) : nearB n a b = true ↔ HexY.Adj (a / n, a % n) (b / n, b % n) := by
  rw [near_iff]
  simp only [HexY.Adj]
  have e1 : ((a : Int) / (n : Int)) = ((a / n : Nat) : Int) := (Int.natCast_ediv a n).symm
  have e2 : ((b : Int) / (n : Int)) = ((b / n : Nat) : Int) := (Int.natCast_ediv b n).symm
  have e3 : ((a : Int) % (n : Int)) = ((a % n : Nat) : Int) := (Int.natCast_emod a n).symm
  have e4 : ((b : Int) % (n : Int)) = ((b % n : Nat) : Int) := (Int.natCast_emod b n).symm
  rw [e1, e2, e3, e4]
  generalize a / n = a1
  generalize b / n = b1
  generalize a % n = a2
  generalize b % n = b2
  omega

theorem hway_head {n : Nat} {B : Nat → Nat → Bool} {a b c : Nat × Nat} (h : HexY.Way n B b c) (h1 : a.1 < n) (h2 : a.2 < n) (hp : B a.1 a.2 = true) (hA : HexY.Adj a b) : HexY.Way n B a c := by
  induction h with
  | refl k1 k2 kp => exact .step _ _ _ (.refl _ h1 h2 hp) hA k1 k2 kp
  | step d e _ hA' k1 k2 kp ih => exact .step _ _ _ ih hA' k1 k2 kp

theorem way_hway {n : Nat} {s : ByteArray} {p own emp : Int} : ∀ (l : List Nat) (a : Nat), (graph n s p own emp).Way (a :: l) →
    ∃ b, b < n * n ∧ endsB n p (b : Nat) = true ∧ HexY.Way n (open_ n s p own emp) (a / n, a % n) (b / n, b % n) := by
  intro l
  induction l with
  | nil =>
    intro a h
    obtain ⟨h1, h2, h3⟩ := Graph.way_one.1 h
    have ha := place (n := n) (a := a) h1
    refine ⟨a, h1, h3, .refl _ ha.1 ha.2.1 ?_⟩
    unfold open_
    rw [ha.2.2]
    exact decide_eq_true ((cost_isSome a).1 h2)
  | cons b l ih =>
    intro a h
    obtain ⟨h1, h2, h3, h4⟩ := Graph.way_cons.1 h
    obtain ⟨c, hc, he, hw⟩ := ih b h4
    have ha := place (n := n) (a := a) h1
    refine ⟨c, hc, he, hway_head hw ha.1 ha.2.1 ?_ ((near_adj n a b).1 h3)⟩
    unfold open_
    rw [ha.2.2]
    exact decide_eq_true ((cost_isSome a).1 h2)

theorem hway_way {n : Nat} {s : ByteArray} {p own emp : Int} {x y : Nat × Nat} (h : HexY.Way n (open_ n s p own emp) x y) :
    ∀ l, (graph n s p own emp).Way ((y.1 * n + y.2) :: l) → ∃ l', (graph n s p own emp).Way ((x.1 * n + x.2) :: l') := by
  induction h with
  | refl k1 k2 kp => exact fun l hl => ⟨l, hl⟩
  | step b c hw hA k1 k2 kp ih =>
    intro l hl
    have e := hw.ends.2
    obtain ⟨q1, q2, q3⟩ := place_back e.1 e.2.1
    obtain ⟨r1, r2, r3⟩ := place_back k1 k2
    apply ih ((c.1 * n + c.2) :: l)
    refine Graph.way_cons.2 ⟨q1, (cost_isSome _).2 (of_decide_eq_true e.2.2), ?_, hl⟩
    show nearB n ((b.1 * n + b.2 : Nat) : Int) ((c.1 * n + c.2 : Nat) : Int) = true
    rw [near_adj, q2, q3, r2, r3]
    exact hA

theorem begins_x {n a : Nat} (h : a < n * n) : beginsB n 120 (a : Nat) = true ↔ a / n = 0 := by
  have hp := place h
  unfold beginsB
  simp only [beq_self_eq_true, if_true, decide_eq_true_eq]
  constructor
  · intro h1
    exact Nat.div_eq_of_lt (by omega)
  · intro h1
    have := hp.2.2
    rw [h1] at this
    omega
theorem ends_x {n a : Nat} (h : a < n * n) : endsB n 120 (a : Nat) = true ↔ a / n + 1 = n := by
  have hp := place h
  have hn : 1 ≤ n := by omega
  unfold endsB
  simp only [beq_self_eq_true, if_true, decide_eq_true_eq]
  have e : ((n : Int) * ((n : Int) - 1)) = ((n * (n - 1) : Nat) : Int) := by rw [Int.natCast_mul, Int.natCast_sub hn]; rfl
  rw [e]
  have e2 : n * (n - 1) = (n - 1) * n := Nat.mul_comm _ _
  constructor
  · intro h1
    have h2 : (n - 1) * n ≤ a := by omega
    have : n - 1 ≤ a / n := (Nat.le_div_iff_mul_le (by omega)).2 h2
    omega
  · intro h1
    have h3 : a / n = n - 1 := by omega
    have := hp.2.2
    rw [h3] at this
    omega
theorem begins_o {n a : Nat} : beginsB n 111 (a : Nat) = true ↔ a % n = 0 := by
  unfold beginsB
  rw [if_neg (by decide), beq_iff_eq]
  have e3 : ((a : Int) % (n : Int)) = ((a % n : Nat) : Int) := (Int.natCast_emod a n).symm
  rw [e3]
  omega
theorem ends_o {n a : Nat} (hn : 1 ≤ n) : endsB n 111 (a : Nat) = true ↔ a % n + 1 = n := by
  unfold endsB
  rw [if_neg (by decide), beq_iff_eq]
  have e3 : ((a : Int) % (n : Int)) = ((a % n : Nat) : Int) := (Int.natCast_emod a n).symm
  rw [e3]
  omega

theorem bridged_x {n : Nat} {s : ByteArray} {own emp : Int} (hn : 1 ≤ n) : Bridged n s 120 own emp ↔ HexY.Rows n (open_ n s 120 own emp) := by
  constructor
  · rintro ⟨a, l, hb, hw⟩
    have ha := way_lt hw
    obtain ⟨b, hbn, he, hh⟩ := way_hway l a hw
    exact ⟨_, _, hh, (begins_x ha).1 hb, (ends_x hbn).1 he⟩
  · rintro ⟨x, y, hh, hx, hy⟩
    have e1 := hh.ends.1
    have e2 := hh.ends.2
    obtain ⟨q1, q2, q3⟩ := place_back e1.1 e1.2.1
    obtain ⟨r1, r2, r3⟩ := place_back e2.1 e2.2.1
    obtain ⟨l, hl⟩ := hway_way hh [] (Graph.way_one.2 ⟨r1, (cost_isSome _).2 (of_decide_eq_true e2.2.2), (ends_x r1).2 (by rw [r2]; exact hy)⟩)
    exact ⟨_, l, (begins_x q1).2 (by rw [q2]; exact hx), hl⟩

theorem bridged_o {n : Nat} {s : ByteArray} {own emp : Int} (hn : 1 ≤ n) : Bridged n s 111 own emp ↔ HexY.Cols n (open_ n s 111 own emp) := by
  constructor
  · rintro ⟨a, l, hb, hw⟩
    obtain ⟨b, hbn, he, hh⟩ := way_hway l a hw
    exact ⟨_, _, hh, begins_o.1 hb, (ends_o hn).1 he⟩
  · rintro ⟨x, y, hh, hx, hy⟩
    have e1 := hh.ends.1
    have e2 := hh.ends.2
    obtain ⟨q1, q2, q3⟩ := place_back e1.1 e1.2.1
    obtain ⟨r1, r2, r3⟩ := place_back e2.1 e2.2.1
    obtain ⟨l, hl⟩ := hway_way hh [] (Graph.way_one.2 ⟨r1, (cost_isSome _).2 (of_decide_eq_true e2.2.2), (ends_o hn).2 (by rw [r3]; exact hy)⟩)
    exact ⟨_, l, begins_o.2 (by rw [q3]; exact hx), hl⟩

theorem way_congr {n : Nat} {B C : Nat → Nat → Bool} {a b : Nat × Nat} (h : HexY.Way n B a b) (hBC : ∀ i j, i < n → j < n → B i j = true → C i j = true) : HexY.Way n C a b := by
  induction h with
  | refl k1 k2 kp => exact .refl _ k1 k2 (hBC _ _ k1 k2 kp)
  | step b c _ hA k1 k2 kp ih => exact .step _ _ _ ih hA k1 k2 (hBC _ _ k1 k2 kp)

theorem rows_mono {n : Nat} {B C : Nat → Nat → Bool} (hBC : ∀ i j, i < n → j < n → B i j = true → C i j = true) (h : HexY.Rows n B) : HexY.Rows n C := by
  obtain ⟨a, b, hw, h1, h2⟩ := h
  exact ⟨a, b, way_congr hw hBC, h1, h2⟩
theorem cols_mono {n : Nat} {B C : Nat → Nat → Bool} (hBC : ∀ i j, i < n → j < n → B i j = true → C i j = true) (h : HexY.Cols n B) : HexY.Cols n C := by
  obtain ⟨a, b, hw, h1, h2⟩ := h
  exact ⟨a, b, way_congr hw hBC, h1, h2⟩

/-- Whoever may use more cells keeps the bridge. -/
theorem bridged_mono {n : Nat} {s t : ByteArray} {p own emp own' emp' : Int} (h : ∀ a, a < n * n → costI s p own emp a < 1000 → costI t p own' emp' a < 1000) (hb : Bridged n s p own emp) : Bridged n t p own' emp' := by
  obtain ⟨a, l, hb, hw⟩ := hb
  refine ⟨a, l, hb, ?_⟩
  have key : ∀ (l : List Nat) (a : Nat), (graph n s p own emp).Way (a :: l) → (graph n t p own' emp').Way (a :: l) := by
    intro l
    induction l with
    | nil =>
      intro a hw
      obtain ⟨h1, h2, h3⟩ := Graph.way_one.1 hw
      exact Graph.way_one.2 ⟨h1, (cost_isSome a).2 (h a h1 ((cost_isSome a).1 h2)), h3⟩
    | cons b l ih =>
      intro a hw
      obtain ⟨h1, h2, h3, h4⟩ := Graph.way_cons.1 hw
      exact Graph.way_cons.2 ⟨h1, (cost_isSome a).2 (h a h1 ((cost_isSome a).1 h2)), h3, ih b h4⟩
  exact key l a hw

/-- Not both have a bridge, if no cell is of both. -/
theorem not_both {n : Nat} {s : ByteArray} {o1 e1 o2 e2 : Int} (hn : 1 ≤ n) (hd : ∀ a, a < n * n → ¬ (costI s 120 o1 e1 a < 1000 ∧ costI s 111 o2 e2 a < 1000)) :
    ¬ (Bridged n s 120 o1 e1 ∧ Bridged n s 111 o2 e2) := by
  rintro ⟨h, k⟩
  refine HexY.hex_one hn (open_ n s 120 o1 e1) ⟨(bridged_x hn).1 h, cols_mono ?_ ((bridged_o hn).1 k)⟩
  intro i j hi hj hB
  have hp := place_back hi hj
  have h1 : costI s 111 o2 e2 (i * n + j) < 1000 := of_decide_eq_true hB
  have h2 := hd _ hp.1
  unfold HexY.neg open_
  rw [decide_eq_false (fun h3 => h2 ⟨h3, h1⟩)]
  rfl

/-- Somebody has a bridge, if each cell is of one of the two. -/
theorem some_one {n : Nat} {s : ByteArray} {o1 e1 o2 e2 : Int} (hn : 1 ≤ n) (hd : ∀ a, a < n * n → costI s 120 o1 e1 a < 1000 ∨ costI s 111 o2 e2 a < 1000) :
    Bridged n s 120 o1 e1 ∨ Bridged n s 111 o2 e2 := by
  rcases HexY.hex_some hn (open_ n s 120 o1 e1) with h | h
  · exact .inl ((bridged_x hn).2 h)
  · refine .inr ((bridged_o hn).2 (cols_mono ?_ h))
    intro i j hi hj hB
    have hp := place_back hi hj
    rcases hd _ hp.1 with h1 | h1
    · unfold HexY.neg open_ at hB
      rw [decide_eq_true h1] at hB
      cases hB
    · exact decide_eq_true h1

end Go.Proofs.YtpbiminbhihjnaaDoor
