/-
  Orientations: in a proper colouring one more full cell turns right than left (Sperner's lemma with orientations).
-/
import Derived.Test.YtpbiminbhihjnaaDoorTriK
import Derived.Test.YtpbiminbhihjnaaDoorTriI
namespace Go.Proofs.YtpbiminbhihjnaaDoor
open Tri
set_option linter.unusedSimpArgs false
set_option linter.unusedVariables false

theorem list_sum (n : Nat) (g : Nat → Int) : ((List.range n).map g).sum = sum n g := by
  induction n with
  | zero => rfl
  | succ n ih =>
    rw [List.range_succ, List.map_append, List.sum_append, ih]
    simp [sum]

theorem flat_sum {α : Type} (l : List α) (g : α → List Int) : (l.flatMap g).sum = (l.map fun a => (g a).sum).sum := by
  induction l with
  | nil => rfl
  | cons a l ih => simp [List.flatMap_cons, List.sum_append, ih]

/-- A sum over all cells. -/
theorem cells_sum (n : Nat) (f : Cell → Int) : ((cells n).map f).sum = tri n (fun i j => f (0, i, j)) + tri (n - 1) (fun i j => f (1, i, j)) := by
  have one : ∀ k, (((List.range (n - k)).flatMap fun i => (List.range (n - k - i)).map fun j => ((k, i, j) : Cell)).map f).sum = tri (n - k) (fun i j => f (k, i, j)) := by
    intro k
    rw [List.map_flatMap, flat_sum]
    unfold tri
    rw [← list_sum]
    congr 1
    apply List.map_congr_left
    intro i _
    rw [List.map_map, ← list_sum]
    rfl
  unfold cells
  rw [List.map_flatMap, flat_sum]
  have e : List.range 2 = [0, 1] := rfl
  rw [e]
  simp only [List.map_cons, List.map_nil, List.sum_cons, List.sum_nil]
  rw [one 0, one 1]
  simp

theorem countP_sum {α : Type} (p : α → Bool) (l : List α) : ((l.countP p : Nat) : Int) = (l.map fun x => if p x = true then (1 : Int) else 0).sum := by
  induction l with
  | nil => rfl
  | cons a l ih =>
    rw [List.countP_cons, List.map_cons, List.sum_cons, ← ih]
    by_cases h : p a = true
    · simp [h]; omega
    · simp [h]

theorem map_sub {α : Type} (f g : α → Int) (l : List α) : (l.map f).sum - (l.map g).sum = (l.map fun x => f x - g x).sum := by
  induction l with
  | nil => rfl
  | cons a l ih =>
    simp only [List.map_cons, List.sum_cons]
    rw [← ih]
    omega

/-- The step from one colour to another, around the three colours. -/
def dd (a b : Int) : Int := if a = b then 0 else if (a = 48 ∧ b = 49) ∨ (a = 49 ∧ b = 50) ∨ (a = 50 ∧ b = 48) then 1 else -1

def clr (n : Nat) (s : ByteArray) (i j : Nat) : Int := bt s (pos n i j)

theorem cell_turn {n : Nat} {s : ByteArray} (hB : ∀ i j, i + j ≤ n → 48 ≤ clr n s i j ∧ clr n s i j ≤ 50) {x : Cell} (hx : x ∈ cells n) :
    3 * ((if (fullB n s x && rightB n s x) = true then (1 : Int) else 0) - (if (fullB n s x && !rightB n s x) = true then (1 : Int) else 0)) =
      (if x.1 = 0 then 1 else -1) * (dd (clr n s (p0 x).1 (p0 x).2) (clr n s (p1 x).1 (p1 x).2) + dd (clr n s (p1 x).1 (p1 x).2) (clr n s (p2 x).1 (p2 x).2) + dd (clr n s (p2 x).1 (p2 x).2) (clr n s (p0 x).1 (p0 x).2)) := by
  obtain ⟨k, i, j⟩ := x
  obtain ⟨hk, hn⟩ := mem_cells.1 hx
  have b : ∀ p : Pt, p.1 + p.2 ≤ n → clr n s p.1 p.2 = 48 ∨ clr n s p.1 p.2 = 49 ∨ clr n s p.1 p.2 = 50 := fun p h => by have := hB p.1 p.2 h; omega
  have q0 := b (p0 (k, i, j)) (by unfold p0; split <;> simp <;> omega)
  have q1 := b (p1 (k, i, j)) (by unfold p1; split <;> simp <;> omega)
  have q2 := b (p2 (k, i, j)) (by unfold p2; split <;> simp <;> omega)
  have ht : tellL n s (k, i, j) = [clr n s (p0 (k, i, j)).1 (p0 (k, i, j)).2, clr n s (p1 (k, i, j)).1 (p1 (k, i, j)).2, clr n s (p2 (k, i, j)).1 (p2 (k, i, j)).2] := rfl
  unfold fullB rightB upB hasB tell
  rw [ht]
  generalize clr n s (p0 (k, i, j)).1 (p0 (k, i, j)).2 = a at *
  generalize clr n s (p1 (k, i, j)).1 (p1 (k, i, j)).2 = c at *
  generalize clr n s (p2 (k, i, j)).1 (p2 (k, i, j)).2 = d at *
  have hk2 : k = 0 ∨ k = 1 := by omega
  clear ht b hx hB hn hk
  have hq : ((k, i, j) : Cell).1 = k := rfl
  generalize ((k, i, j) : Cell).1 = q at hq ⊢
  subst hq
  rcases hk2 with rfl | rfl <;> rcases q0 with rfl | rfl | rfl <;> rcases q1 with rfl | rfl | rfl <;> rcases q2 with rfl | rfl | rfl <;> decide +kernel

theorem sum_mul {α : Type} (f : α → Int) (l : List α) : 3 * (l.map f).sum = (l.map fun x => 3 * f x).sum := by
  induction l with
  | nil => rfl
  | cons a l ih =>
    simp only [List.map_cons, List.sum_cons]
    rw [← ih]
    omega

theorem tele (n : Nat) (f : Nat → Int) : sum n (fun i => f (i + 1) - f i) = f n - f 0 := by
  induction n with
  | zero => simp [sum]
  | succ n ih =>
    simp only [sum]
    rw [ih]
    omega

theorem take_all {n : Nat} {s : ByteArray} : rights n s (cells n).length = (cells n).countP (fun x => fullB n s x && rightB n s x) ∧ lefts n s (cells n).length = (cells n).countP (fun x => fullB n s x && !rightB n s x) := by
  unfold rights lefts
  rw [List.take_length]
  exact ⟨rfl, rfl⟩

/-- Both together are the full cells. -/
theorem turns_full (n : Nat) (s : ByteArray) : rights n s (cells n).length + lefts n s (cells n).length = (fullList n s).length := by
  rw [take_all.1, take_all.2]
  unfold fullList
  rw [List.length_map, ← List.countP_eq_length_filter]
  induction (cells n) with
  | nil => rfl
  | cons a l ih =>
    simp only [List.countP_cons]
    rw [← ih]
    cases fullB n s a <;> cases rightB n s a <;> simp <;> omega

theorem turned {n : Nat} {s : ByteArray} (h1 : 1 ≤ n) (hB : ∀ i j, i + j ≤ n → 48 ≤ clr n s i j ∧ clr n s i j ≤ 50) (hP : PropT n s) :
    rights n s (cells n).length = lefts n s (cells n).length + 1 := by
  obtain ⟨m, rfl⟩ : ∃ m, n = m + 1 := ⟨n - 1, by omega⟩
  have key : 3 * (((rights (m + 1) s (cells (m + 1)).length : Nat) : Int) - (lefts (m + 1) s (cells (m + 1)).length : Nat)) = 3 := by
    rw [take_all.1, take_all.2, countP_sum, countP_sum, map_sub, sum_mul, List.map_congr_left (fun x hx => cell_turn hB hx), cells_sum]
    let A : Nat → Nat → Int := fun i j => dd (clr (m + 1) s i j) (clr (m + 1) s (i + 1) j)
    let B : Nat → Nat → Int := fun i j => dd (clr (m + 1) s i (j + 1)) (clr (m + 1) s i j)
    let C : Nat → Nat → Int := fun i j => dd (clr (m + 1) s (i + 1) j) (clr (m + 1) s i (j + 1))
    have e1 : ∀ i j : Nat, i + j < m + 1 → (if ((0, i, j) : Cell).1 = 0 then (1 : Int) else -1) * (dd (clr (m + 1) s (p0 (0, i, j)).1 (p0 (0, i, j)).2) (clr (m + 1) s (p1 (0, i, j)).1 (p1 (0, i, j)).2) + dd (clr (m + 1) s (p1 (0, i, j)).1 (p1 (0, i, j)).2) (clr (m + 1) s (p2 (0, i, j)).1 (p2 (0, i, j)).2) + dd (clr (m + 1) s (p2 (0, i, j)).1 (p2 (0, i, j)).2) (clr (m + 1) s (p0 (0, i, j)).1 (p0 (0, i, j)).2)) = A i j + B i j + C i j := by
      intro i j _
      show (1 : Int) * (dd (clr (m + 1) s i j) (clr (m + 1) s (i + 1) j) + dd (clr (m + 1) s (i + 1) j) (clr (m + 1) s i (j + 1)) + dd (clr (m + 1) s i (j + 1)) (clr (m + 1) s i j)) = _
      show _ = dd (clr (m + 1) s i j) (clr (m + 1) s (i + 1) j) + dd (clr (m + 1) s i (j + 1)) (clr (m + 1) s i j) + dd (clr (m + 1) s (i + 1) j) (clr (m + 1) s i (j + 1))
      omega
    have e2 : ∀ i j : Nat, i + j < m → (if ((1, i, j) : Cell).1 = 0 then (1 : Int) else -1) * (dd (clr (m + 1) s (p0 (1, i, j)).1 (p0 (1, i, j)).2) (clr (m + 1) s (p1 (1, i, j)).1 (p1 (1, i, j)).2) + dd (clr (m + 1) s (p1 (1, i, j)).1 (p1 (1, i, j)).2) (clr (m + 1) s (p2 (1, i, j)).1 (p2 (1, i, j)).2) + dd (clr (m + 1) s (p2 (1, i, j)).1 (p2 (1, i, j)).2) (clr (m + 1) s (p0 (1, i, j)).1 (p0 (1, i, j)).2)) = - (A i (j + 1) + B (i + 1) j + C i j) := by
      intro i j _
      show (-1 : Int) * (dd (clr (m + 1) s (i + 1) j) (clr (m + 1) s i (j + 1)) + dd (clr (m + 1) s i (j + 1)) (clr (m + 1) s (i + 1) (j + 1)) + dd (clr (m + 1) s (i + 1) (j + 1)) (clr (m + 1) s (i + 1) j)) = _
      show _ = - (dd (clr (m + 1) s i (j + 1)) (clr (m + 1) s (i + 1) (j + 1)) + dd (clr (m + 1) s (i + 1) (j + 1)) (clr (m + 1) s (i + 1) j) + dd (clr (m + 1) s (i + 1) j) (clr (m + 1) s i (j + 1)))
      omega
    rw [tri_congr e1, Nat.add_sub_cancel, tri_congr e2, tri_neg, border m A B C]
    have P := fun i j (h : i + j ≤ m + 1) => hP i j h
    have c3 : ∀ i j, i + j ≤ m + 1 → clr (m + 1) s i j = 48 ∨ clr (m + 1) s i j = 49 ∨ clr (m + 1) s i j = 50 := fun i j h => by have := hB i j h; omega
    have bottom : ∀ i, i ≤ m + 1 → clr (m + 1) s i 0 = 48 ∨ clr (m + 1) s i 0 = 49 := by
      intro i hi
      have h1 := c3 i 0 (by omega)
      have h2 := P i 0 (by omega)
      unfold BadPt at h2
      unfold clr at *
      omega
    have left : ∀ j, j ≤ m + 1 → clr (m + 1) s 0 j = 48 ∨ clr (m + 1) s 0 j = 50 := by
      intro j hj
      have h1 := c3 0 j (by omega)
      have h2 := P 0 j (by omega)
      unfold BadPt at h2
      unfold clr at *
      omega
    have diag : ∀ i, i ≤ m + 1 → clr (m + 1) s i (m + 1 - i) = 49 ∨ clr (m + 1) s i (m + 1 - i) = 50 := by
      intro i hi
      have h1 := c3 i (m + 1 - i) (by omega)
      have h2 := P i (m + 1 - i) (by omega)
      unfold BadPt at h2
      unfold clr at *
      omega
    have s1 : sum (m + 1) (fun i => A i 0) = 1 := by
      have : ∀ i, i < m + 1 → A i 0 = clr (m + 1) s (i + 1) 0 - clr (m + 1) s i 0 := by
        intro i hi
        show dd (clr (m + 1) s i 0) (clr (m + 1) s (i + 1) 0) = _
        have h1 := bottom i (by omega)
        have h2 := bottom (i + 1) (by omega)
        generalize clr (m + 1) s i 0 = x at *
        generalize clr (m + 1) s (i + 1) 0 = y at *
        rcases h1 with rfl | rfl <;> rcases h2 with rfl | rfl <;> decide
      rw [sum_congr this, tele (m + 1) (fun i => clr (m + 1) s i 0)]
      have h1 := bottom (m + 1) (Nat.le_refl _)
      have h2 := diag (m + 1) (Nat.le_refl _)
      have h3 := bottom 0 (by omega)
      have h4 := left 0 (by omega)
      rw [Nat.sub_self] at h2
      show clr (m + 1) s (m + 1) 0 - clr (m + 1) s 0 0 = 1
      omega
    have s2 : sum (m + 1) (fun j => B 0 j) = 1 := by
      have : ∀ j, j < m + 1 → B 0 j = (if clr (m + 1) s 0 (j + 1) = 50 then 1 else 0) - (if clr (m + 1) s 0 j = 50 then (1 : Int) else 0) := by
        intro j hj
        show dd (clr (m + 1) s 0 (j + 1)) (clr (m + 1) s 0 j) = _
        have h1 := left j (by omega)
        have h2 := left (j + 1) (by omega)
        generalize clr (m + 1) s 0 j = x at *
        generalize clr (m + 1) s 0 (j + 1) = y at *
        rcases h1 with rfl | rfl <;> rcases h2 with rfl | rfl <;> decide
      rw [sum_congr this, tele (m + 1) (fun j => if clr (m + 1) s 0 j = 50 then (1 : Int) else 0)]
      have h1 := left (m + 1) (Nat.le_refl _)
      have h2 := diag 0 (by omega)
      have h3 := bottom 0 (by omega)
      rw [Nat.sub_zero] at h2
      show (if clr (m + 1) s 0 (m + 1) = 50 then (1 : Int) else 0) - (if clr (m + 1) s 0 0 = 50 then (1 : Int) else 0) = 1
      rw [if_pos (by omega), if_neg (by omega)]
      rfl
    have s3 : sum (m + 1) (fun i => C i (m - i)) = 1 := by
      have : ∀ i, i < m + 1 → C i (m - i) = (fun i => if clr (m + 1) s i (m + 1 - i) = 50 then (-1 : Int) else 0) (i + 1) - (fun i => if clr (m + 1) s i (m + 1 - i) = 50 then (-1 : Int) else 0) i := by
        intro i hi
        show dd (clr (m + 1) s (i + 1) (m - i)) (clr (m + 1) s i (m - i + 1)) = (if clr (m + 1) s (i + 1) (m + 1 - (i + 1)) = 50 then (-1 : Int) else 0) - (if clr (m + 1) s i (m + 1 - i) = 50 then (-1 : Int) else 0)
        have e3 : m + 1 - (i + 1) = m - i := by omega
        have e4 : m + 1 - i = m - i + 1 := by omega
        have h1 := diag i (by omega)
        have h2 := diag (i + 1) (by omega)
        rw [e4] at h1
        rw [e3] at h2
        rw [e3, e4]
        generalize clr (m + 1) s (i + 1) (m - i) = x at *
        generalize clr (m + 1) s i (m - i + 1) = y at *
        rcases h1 with rfl | rfl <;> rcases h2 with rfl | rfl <;> decide
      rw [sum_congr this, tele (m + 1) (fun i => if clr (m + 1) s i (m + 1 - i) = 50 then (-1 : Int) else 0)]
      have h1 := left (m + 1) (Nat.le_refl _)
      have h2 := diag 0 (by omega)
      have h3 := bottom (m + 1) (by omega)
      rw [Nat.sub_zero] at h2
      show (if clr (m + 1) s (m + 1) (m + 1 - (m + 1)) = 50 then (-1 : Int) else 0) - (if clr (m + 1) s 0 (m + 1 - 0) = 50 then (-1 : Int) else 0) = 1
      rw [Nat.sub_self, Nat.sub_zero, if_pos (show clr (m + 1) s 0 (m + 1) = 50 by omega), if_neg (by omega)]
      rfl
    rw [s1, s2, s3]
    omega
  omega

end Go.Proofs.YtpbiminbhihjnaaDoor
