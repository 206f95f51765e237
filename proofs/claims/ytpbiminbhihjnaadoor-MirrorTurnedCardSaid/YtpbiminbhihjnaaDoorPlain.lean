/-
  Boards as plain data: least costs of ways in finite graphs, tables of costs, bridges, neighbours; no program in sight.
-/

/-
  Shortest ways in a finite graph whose places cost something: what a least cost is, that it is unique, that it is met by a way without repetition, and what a table of least costs satisfies.
-/
namespace Go.Proofs.YtpbiminbhihjnaaDoor
namespace Dist

/-- A finite graph: N places, who is near whom, what a place costs (none: it may not be entered), where a way may end. -/
structure Graph where
  N : Nat
  near : Nat → Nat → Prop
  cost : Nat → Option Nat
  last : Nat → Prop

/-- A way: each place may be entered, each is near the next one, and the last one is where a way may end. -/
def Graph.Way (G : Graph) : List Nat → Prop
  | [] => False
  | a :: l => a < G.N ∧ (G.cost a).isSome = true ∧ (match l with | [] => G.last a | b :: _ => G.near a b) ∧ (l = [] ∨ G.Way l)

def Graph.price (G : Graph) : List Nat → Nat
  | [] => 0
  | a :: l => (G.cost a).getD 0 + G.price l

theorem Graph.way_cons {G : Graph} {a b : Nat} {l : List Nat} : G.Way (a :: b :: l) ↔ a < G.N ∧ (G.cost a).isSome = true ∧ G.near a b ∧ G.Way (b :: l) := by
  constructor
  · rintro ⟨h1, h2, h3, h4⟩
    rcases h4 with h4 | h4
    · cases h4
    · exact ⟨h1, h2, h3, h4⟩
  · rintro ⟨h1, h2, h3, h4⟩
    exact ⟨h1, h2, h3, .inr h4⟩

theorem Graph.way_one {G : Graph} {a : Nat} : G.Way [a] ↔ a < G.N ∧ (G.cost a).isSome = true ∧ G.last a := by
  constructor
  · rintro ⟨h1, h2, h3, _⟩
    exact ⟨h1, h2, h3⟩
  · rintro ⟨h1, h2, h3⟩
    exact ⟨h1, h2, h3, .inl rfl⟩

theorem Graph.way_mem {G : Graph} {l : List Nat} (h : G.Way l) : ∀ a, a ∈ l → a < G.N ∧ (G.cost a).isSome = true := by
  induction l with
  | nil => exact fun a ha => absurd ha (by simp)
  | cons b l ih =>
    intro a ha
    obtain ⟨h1, h2, _, h4⟩ := h
    rcases List.mem_cons.1 ha with rfl | ha
    · exact ⟨h1, h2⟩
    · rcases h4 with rfl | h4
      · cases ha
      · exact ih h4 a ha

/-- What is left of a way from one of its places on is a way. -/
theorem Graph.way_tail {G : Graph} {s t : List Nat} {a : Nat} (h : G.Way (s ++ a :: t)) : G.Way (a :: t) := by
  induction s with
  | nil => exact h
  | cons b s ih =>
    obtain ⟨_, _, _, h4⟩ := h
    rcases h4 with h4 | h4
    · simp at h4
    · exact ih h4

theorem Graph.price_append {G : Graph} (s t : List Nat) : G.price (s ++ t) = G.price s + G.price t := by
  induction s with
  | nil => simp [Graph.price]
  | cons b s ih => simp only [List.cons_append, Graph.price, ih]; omega

/-- Every way can be made one without repetition, not dearer, from the same place. -/
theorem Graph.simple {G : Graph} (l : List Nat) : ∀ a, G.Way (a :: l) → ∃ l', G.Way (a :: l') ∧ (a :: l').Nodup ∧ G.price (a :: l') ≤ G.price (a :: l) := by
  induction l with
  | nil => exact fun a h => ⟨[], h, by simp, Nat.le_refl _⟩
  | cons b l ih =>
    intro a h
    obtain ⟨h1, h2, h3, h4⟩ := Graph.way_cons.1 h
    obtain ⟨l', w, nd, hp⟩ := ih b h4
    by_cases ha : a ∈ b :: l'
    · obtain ⟨s, t, e⟩ := List.append_of_mem ha
      rw [e] at w nd hp
      have nd' : (a :: t).Nodup := (List.nodup_append.1 nd).2.1
      refine ⟨t, Graph.way_tail w, nd', ?_⟩
      rw [Graph.price_append] at hp
      have : G.price (a :: b :: l) = (G.cost a).getD 0 + G.price (b :: l) := rfl
      omega
    · refine ⟨b :: l', Graph.way_cons.2 ⟨h1, h2, h3, w⟩, List.nodup_cons.2 ⟨ha, nd⟩, ?_⟩
      have e1 : G.price (a :: b :: l) = (G.cost a).getD 0 + G.price (b :: l) := rfl
      have e2 : G.price (a :: b :: l') = (G.cost a).getD 0 + G.price (b :: l') := rfl
      omega

/-- A list without repetition of numbers below N has at most N of them. -/
theorem nodup_length (N : Nat) : ∀ l : List Nat, l.Nodup → (∀ a, a ∈ l → a < N) → l.length ≤ N := by
  induction N with
  | zero =>
    intro l _ h
    cases l with
    | nil => simp
    | cons a l => exact absurd (h a (by simp)) (by omega)
  | succ N ih =>
    intro l nd h
    have h1 : (l.erase N).length ≤ N := ih _ (nd.erase N) (by
      intro a ha
      have ha' := (List.Nodup.mem_erase_iff nd).1 ha
      have := h a ha'.2
      omega)
    have h2 : l.length ≤ (l.erase N).length + 1 := by
      rw [List.length_erase]
      split <;> omega
    omega

theorem Graph.simple_length {G : Graph} {l : List Nat} (w : G.Way l) (nd : l.Nodup) : l.length ≤ G.N :=
  nodup_length G.N l nd fun a ha => (G.way_mem w a ha).1

/-- r is the least cost of a way from a; none: there is no way. -/
def Graph.Least (G : Graph) (a : Nat) : Option Nat → Prop
  | none => ∀ l, ¬ G.Way (a :: l)
  | some k => (∃ l, G.Way (a :: l) ∧ G.price (a :: l) = k) ∧ ∀ l, G.Way (a :: l) → k ≤ G.price (a :: l)

theorem Graph.least_unique {G : Graph} {a : Nat} {r s : Option Nat} (h : G.Least a r) (k : G.Least a s) : r = s := by
  cases r with
  | none =>
    cases s with
    | none => rfl
    | some s =>
      obtain ⟨⟨l, w, _⟩, _⟩ := k
      exact absurd w (h l)
  | some r =>
    cases s with
    | none =>
      obtain ⟨⟨l, w, _⟩, _⟩ := h
      exact absurd w (k l)
    | some s =>
      obtain ⟨⟨l, w, e⟩, m⟩ := h
      obtain ⟨⟨l', w', e'⟩, m'⟩ := k
      have h1 := m _ w'
      have h2 := m' _ w
      congr 1
      omega

/-- If each place costs at most one, the least cost is at most N. -/
theorem Graph.least_le {G : Graph} (hc : ∀ a k, G.cost a = some k → k ≤ 1) {a k : Nat} (h : G.Least a (some k)) : k ≤ G.N := by
  have bound : ∀ l : List Nat, G.price l ≤ l.length := by
    intro l
    induction l with
    | nil => simp [Graph.price]
    | cons b l ih =>
      have : (G.cost b).getD 0 ≤ 1 := by
        cases hb : G.cost b with
        | none => simp
        | some k => simpa using hc b k hb
      simp only [Graph.price, List.length_cons]
      omega
  obtain ⟨⟨l, w, e⟩, m⟩ := h
  obtain ⟨l', w', nd, _⟩ := Graph.simple l a w
  have h1 := m _ w'
  have h2 := bound (a :: l')
  have h3 := G.simple_length w' nd
  omega

/-- A table in which each number is the cost of some way. -/
def Graph.Sound (G : Graph) (t : Nat → Option Nat) : Prop := ∀ a, a < G.N → ∀ k, t a = some k → ∃ l, G.Way (a :: l) ∧ G.price (a :: l) = k

/-- A table that is as good as all ways of at most m places. -/
def Graph.Good (G : Graph) (m : Nat) (t : Nat → Option Nat) (a : Nat) : Prop := ∀ l, G.Way (a :: l) → (a :: l).length ≤ m → ∃ k, t a = some k ∧ k ≤ G.price (a :: l)

theorem Graph.least_of {G : Graph} {t : Nat → Option Nat} (hs : G.Sound t) {a : Nat} (ha : a < G.N) (hg : G.Good G.N t a) : G.Least a (t a) := by
  cases ht : t a with
  | none =>
    intro l w
    obtain ⟨l', w', nd, _⟩ := Graph.simple l a w
    obtain ⟨k, hk, _⟩ := hg l' w' (G.simple_length w' nd)
    rw [ht] at hk
    cases hk
  | some k =>
    refine ⟨hs a ha k ht, ?_⟩
    intro l w
    obtain ⟨l', w', nd, hp⟩ := Graph.simple l a w
    obtain ⟨k', hk, hle⟩ := hg l' w' (G.simple_length w' nd)
    rw [ht] at hk
    cases hk
    omega

/-- What one place should have, seen from the others. -/
def Graph.Step (G : Graph) (t : Nat → Option Nat) (a : Nat) (r : Option Nat) : Prop :=
  match G.cost a with
  | none => r = none
  | some c =>
    (∀ k, r = some k → (G.last a ∧ k = c) ∨ ∃ b d, G.near a b ∧ b < G.N ∧ t b = some d ∧ k = d + c) ∧
    (G.last a → ∃ k, r = some k ∧ k ≤ c) ∧ (∀ b d, G.near a b → b < G.N → t b = some d → ∃ k, r = some k ∧ k ≤ d + c)

/-- Relaxing a place keeps a table sound. -/
theorem Graph.sound_step {G : Graph} {t : Nat → Option Nat} {a : Nat} {r : Option Nat} (ha : a < G.N) (hs : G.Sound t) (h : G.Step t a r) :
    ∀ k, r = some k → ∃ l, G.Way (a :: l) ∧ G.price (a :: l) = k := by
  intro k hk
  unfold Graph.Step at h
  cases hc : G.cost a with
  | none => rw [hc] at h; rw [h] at hk; cases hk
  | some c =>
    rw [hc] at h
    rcases h.1 k hk with ⟨hl, rfl⟩ | ⟨b, d, hn, hbN, hb, rfl⟩
    · exact ⟨[], Graph.way_one.2 ⟨ha, by rw [hc]; rfl, hl⟩, by simp [Graph.price, hc]⟩
    · obtain ⟨l, w, e⟩ := hs b hbN d hb
      refine ⟨b :: l, Graph.way_cons.2 ⟨ha, by rw [hc]; rfl, hn, w⟩, ?_⟩
      have : G.price (a :: b :: l) = (G.cost a).getD 0 + G.price (b :: l) := rfl
      rw [this, e, hc, Option.getD_some]
      omega

/-- Relaxing a place makes it better by one place. -/
theorem Graph.good_step {G : Graph} {t t' : Nat → Option Nat} {a m : Nat} (hg : ∀ b, b < G.N → G.Good m t b) (h : G.Step t a (t' a)) : G.Good (m + 1) t' a := by
  intro l w hl
  unfold Graph.Step at h
  cases l with
  | nil =>
    obtain ⟨_, h2, h3⟩ := Graph.way_one.1 w
    cases hc : G.cost a with
    | none => rw [hc] at h2; cases h2
    | some c =>
      rw [hc] at h
      obtain ⟨k, hk, hle⟩ := h.2.1 h3
      exact ⟨k, hk, by simp [Graph.price, hc]; exact hle⟩
  | cons b l =>
    obtain ⟨_, h2, h3, h4⟩ := Graph.way_cons.1 w
    have hb : b < G.N := (G.way_mem h4 b (by simp)).1
    obtain ⟨d, hd, hle⟩ := hg b hb l h4 (by simp only [List.length_cons] at *; omega)
    cases hc : G.cost a with
    | none => rw [hc] at h2; cases h2
    | some c =>
      rw [hc] at h
      obtain ⟨k, hk, hk'⟩ := h.2.2 b d h3 hb hd
      refine ⟨k, hk, ?_⟩
      have : G.price (a :: b :: l) = (G.cost a).getD 0 + G.price (b :: l) := rfl
      rw [this, hc, Option.getD_some]
      omega

theorem Graph.good_le {G : Graph} {t : Nat → Option Nat} {a m m' : Nat} (h : G.Good m' t a) (hm : m ≤ m') : G.Good m t a :=
  fun l w hl => h l w (Nat.le_trans hl hm)

/-- A table that no step betters is as good as all ways. -/
theorem Graph.good_fix {G : Graph} {t : Nat → Option Nat} (h : ∀ a, a < G.N → ∀ c, G.cost a = some c → (G.last a → ∃ k, t a = some k ∧ k ≤ c) ∧ (∀ b d, G.near a b → b < G.N → t b = some d → ∃ k, t a = some k ∧ k ≤ d + c)) (m : Nat) :
    ∀ a, a < G.N → G.Good m t a := by
  intro a ha l
  induction l generalizing a with
  | nil =>
    intro w _
    obtain ⟨_, h2, h3⟩ := Graph.way_one.1 w
    obtain ⟨c, hc⟩ := Option.isSome_iff_exists.1 h2
    obtain ⟨k, hk, hle⟩ := (h a ha c hc).1 h3
    exact ⟨k, hk, by simp [Graph.price, hc]; exact hle⟩
  | cons b l ih =>
    intro w hl
    obtain ⟨_, h2, h3, h4⟩ := Graph.way_cons.1 w
    have hb : b < G.N := (G.way_mem h4 b (by simp)).1
    obtain ⟨d, hd, hle⟩ := ih b hb h4 (by simp only [List.length_cons] at *; omega)
    obtain ⟨c, hc⟩ := Option.isSome_iff_exists.1 h2
    obtain ⟨k, hk, hk'⟩ := (h a ha c hc).2 b d h3 hb hd
    refine ⟨k, hk, ?_⟩
    have : G.price (a :: b :: l) = (G.cost a).getD 0 + G.price (b :: l) := rfl
    rw [this, hc, Option.getD_some]
    omega

/-- Where the least cost is not met at the place itself, some place near it has just so much less. -/
theorem Graph.least_next {G : Graph} {a c k : Nat} (h : G.Least a (some k)) (hc : G.cost a = some c) :
    (G.last a ∧ k = c) ∨ ∃ b d, G.near a b ∧ b < G.N ∧ G.Least b (some d) ∧ k = d + c := by
  obtain ⟨⟨l, w, e⟩, m⟩ := h
  cases l with
  | nil =>
    obtain ⟨_, _, h3⟩ := Graph.way_one.1 w
    left
    exact ⟨h3, by simp [Graph.price, hc] at e; omega⟩
  | cons b l =>
    obtain ⟨h1, h2, h3, h4⟩ := Graph.way_cons.1 w
    right
    have e' : G.price (a :: b :: l) = (G.cost a).getD 0 + G.price (b :: l) := rfl
    rw [hc, Option.getD_some] at e'
    refine ⟨b, G.price (b :: l), h3, (G.way_mem h4 b (by simp)).1, ⟨⟨l, h4, rfl⟩, ?_⟩, by omega⟩
    intro l' w'
    have h5 := m (b :: l') (Graph.way_cons.2 ⟨h1, h2, h3, w'⟩)
    have e2 : G.price (a :: b :: l') = (G.cost a).getD 0 + G.price (b :: l') := rfl
    rw [hc, Option.getD_some] at e2
    omega

end Dist
end Go.Proofs.YtpbiminbhihjnaaDoor

/-
  Boards as plain data: their bytes, neighbours, sides, what a hexagon costs; the graph in which bridges are ways.
-/
namespace Go.Proofs.YtpbiminbhihjnaaDoor
set_option linter.unusedSimpArgs false
set_option linter.unusedVariables false

theorem mul_bd {a b A B : Int} (ha : 0 ≤ a) (hA : a ≤ A) (hb : 0 ≤ b) (hB : b ≤ B) : 0 ≤ a * b ∧ a * b ≤ A * B :=
  ⟨Int.mul_nonneg ha hb, Int.mul_le_mul hA hB hb (by omega)⟩

/-- The byte of s at a place. -/
def bt (s : ByteArray) (a : Nat) : Int := ((s.data.toList.getD a 0).toNat : Int)

theorem bt_eq (s : ByteArray) (k : Nat) (h : k < s.size) : (s[k].toNat : Int) = bt s k := by
  unfold bt
  have h' : k < s.data.toList.length := by simpa using h
  have e : s.data.toList.getD k 0 = s.data.toList[k] := by rw [List.getD_eq_getElem?_getD, List.getElem?_eq_getElem h']; rfl
  rw [e]
  rfl

theorem bt_bd (s : ByteArray) (k : Nat) : 0 ≤ bt s k ∧ bt s k ≤ 255 := by
  unfold bt
  have := UInt8.toNat_lt (s.data.toList.getD k 0)
  omega

/-- Where a bridge may begin. -/
def beginsB (n p a : Int) : Bool := if p == 120 then decide (a < n) else a % n == 0
/-- Where a bridge may end. -/
def endsB (n p a : Int) : Bool := if p == 120 then decide (n * (n - 1) ≤ a) else a % n == n - 1

/-- Neighbours on the board, by their places. -/
def nearB (n a b : Int) : Bool :=
  ((b / n - a / n == 0) && ((b % n - a % n == 1) || (b % n - a % n == -1))) || ((b / n - a / n == -1) && ((b % n - a % n == 0) || (b % n - a % n == 1))) ||
    ((b / n - a / n == 1) && ((b % n - a % n == -1) || (b % n - a % n == 0)))

/-- How many of the first k bytes of s are b. -/
def many (s : ByteArray) (b : Int) (k : Nat) : Int := ((s.data.toList.take k).filter fun c => (c.toNat : Int) == b).length

/-- A byte that may stand on a board. -/
def okByte (empty : Bool) (c : UInt8) : Bool := (c.toNat : Int) == 120 || (c.toNat : Int) == 111 || ((c.toNat : Int) == 46 && empty)
def okBytes (empty : Bool) (s : ByteArray) (k : Nat) : Bool := (s.data.toList.take k).all (okByte empty)

/-- The error of a board. -/
def boardErr (n : Int) (s : ByteArray) (empty : Bool) : Int :=
  if n < 1 ∨ 11 < n then 2 else if (s.size : Int) ≠ n * n then 5 else if okBytes empty s s.size then 0 else 5

theorem okBytes_succ (empty : Bool) (s : ByteArray) (k : Nat) (h : k < s.size) : okBytes empty s (k + 1) = (okBytes empty s k && okByte empty s[k]) := by
  unfold okBytes
  rw [List.take_succ_eq_append_getElem (by simpa using h), List.all_append]
  have : s.data.toList[k]'(by simpa using h) = s[k] := rfl
  simp [this]

theorem okBytes_full {empty : Bool} {s : ByteArray} {k : Nat} (hk : k ≤ s.size) (h : okBytes empty s k = false) : okBytes empty s s.size = false := by
  unfold okBytes at *
  rw [Bool.eq_false_iff] at *
  intro h2
  apply h
  rw [List.all_eq_true] at *
  intro x hx
  apply h2 x
  rw [List.take_of_length_le (by simp)]
  exact List.mem_of_mem_take hx

theorem okBytes_at {empty : Bool} {s : ByteArray} (h : okBytes empty s s.size = true) (a : Nat) (ha : a < s.size) :
    bt s a = 120 ∨ bt s a = 111 ∨ (bt s a = 46 ∧ empty = true) := by
  unfold okBytes at h
  rw [List.all_eq_true] at h
  have hm : s[a] ∈ s.data.toList.take s.size := by
    rw [List.take_of_length_le (by simp)]
    have : s.data.toList[a]'(by simpa using ha) = s[a] := rfl
    rw [← this]
    exact List.getElem_mem _
  have h1 := h _ hm
  rw [← bt_eq s a ha]
  simp only [okByte, Bool.or_eq_true, beq_iff_eq, Bool.and_eq_true] at h1
  rcases h1 with (h1 | h1) | h1
  · exact .inl h1
  · exact .inr (.inl h1)
  · exact .inr (.inr h1)

/-- A board without error: its size, its length, its bytes. -/
theorem board_ok {n : Int} {s : ByteArray} {empty : Bool} (h : boardErr n s empty = 0) :
    ∃ m : Nat, n = m ∧ 1 ≤ m ∧ m ≤ 11 ∧ s.size = m * m ∧ okBytes empty s s.size = true := by
  unfold boardErr at h
  split at h
  · omega
  · split at h
    · omega
    · split at h
      · rename_i h1 h2 h3
        obtain ⟨m, rfl⟩ : ∃ m : Nat, n = m := ⟨n.toNat, by omega⟩
        refine ⟨m, rfl, by omega, by omega, ?_, h3⟩
        have : ((m * m : Nat) : Int) = (m : Int) * m := Int.natCast_mul _ _
        simp only [ne_eq, Decidable.not_not] at h2
        omega
      · omega

/-- What a hexagon costs a player: 'own' of the player's own, 'empty' of an empty one, 1000 else. -/
def costI (s : ByteArray) (p own empty : Int) (a : Nat) : Int := if bt s a = p then own else if bt s a = 46 then empty else 1000

open Dist

/-- The graph of a board for a player. -/
def graph (n : Nat) (s : ByteArray) (p own empty : Int) : Graph where
  N := n * n
  near a b := nearB n a b = true
  cost a := if costI s p own empty a < 1000 then some (costI s p own empty a).toNat else none
  last a := endsB n p a = true

/-- A table of distances in which 1000 says that there is no way. -/
def tab (o : Nat → Int) (a : Nat) : Option Nat := if o a < 1000 then some (o a).toNat else none

/-- A table that no step betters, and that is sound, is the table of least costs. -/
theorem table_least {n : Nat} {s : ByteArray} {p own empty : Int} (hn : n ≤ 11) (hown : 0 ≤ own ∧ own ≤ 1) (hemp : (0 ≤ empty ∧ empty ≤ 1) ∨ empty = 1000) {o : Nat → Int}
    (hs : (graph n s p own empty).Sound (tab o)) (h0 : ∀ a, a < n * n → 0 ≤ o a ∧ o a ≤ 1000)
    (hi : ∀ a, a < n * n → costI s p own empty a < 1000 → endsB n p a = true → o a ≤ costI s p own empty a)
    (hf : ∀ a b, a < n * n → b < n * n → costI s p own empty a < 1000 → nearB n a b = true → o a ≤ o b + costI s p own empty a) :
    ∀ a, a < n * n → (graph n s p own empty).Least a (tab o a) := by
  have cpos : ∀ a, 0 ≤ costI s p own empty a := by
    intro a
    unfold costI
    split
    · omega
    · split <;> omega
  have csmall : ∀ a, costI s p own empty a < 1000 → costI s p own empty a ≤ 1 := by
    intro a
    unfold costI
    split
    · omega
    · split <;> omega
  have some_of : ∀ a, ((graph n s p own empty).cost a).isSome = true → costI s p own empty a < 1000 ∧ (((graph n s p own empty).cost a).getD 0 : Int) = costI s p own empty a := by
    intro a h
    have e : (graph n s p own empty).cost a = if costI s p own empty a < 1000 then some (costI s p own empty a).toNat else none := rfl
    rw [e] at h ⊢
    by_cases hc : costI s p own empty a < 1000
    · rw [if_pos hc]
      have := cpos a
      exact ⟨hc, by simp; omega⟩
    · rw [if_neg hc] at h
      cases h
  have le : ∀ l a, (graph n s p own empty).Way (a :: l) → o a ≤ ((graph n s p own empty).price (a :: l) : Int) := by
    intro l
    induction l with
    | nil =>
      intro a w
      obtain ⟨h1, h2, h3⟩ := Graph.way_one.1 w
      obtain ⟨c1, c2⟩ := some_of a h2
      have h4 := hi a h1 c1 h3
      simp only [Graph.price, Nat.add_zero]
      omega
    | cons b l ih =>
      intro a w
      obtain ⟨h1, h2, h3, h4⟩ := Graph.way_cons.1 w
      obtain ⟨c1, c2⟩ := some_of a h2
      have hb := (Graph.way_mem h4 b (by simp)).1
      have h5 := hf a b h1 hb c1 h3
      have h6 := ih b h4
      have e : (graph n s p own empty).price (a :: b :: l) = ((graph n s p own empty).cost a).getD 0 + (graph n s p own empty).price (b :: l) := rfl
      omega
  intro a ha
  apply Graph.least_of hs ha
  intro l w hl
  have h1 := le l a w
  have bound : ∀ l : List Nat, (∀ b, b ∈ l → ((graph n s p own empty).cost b).isSome = true) → (graph n s p own empty).price l ≤ l.length := by
    intro l
    induction l with
    | nil => intro _; simp [Graph.price]
    | cons b l ih =>
      intro h
      obtain ⟨c1, c2⟩ := some_of b (h b (by simp))
      have := csmall b c1
      have := ih (fun x hx => h x (List.mem_cons_of_mem _ hx))
      simp only [Graph.price, List.length_cons]
      omega
  have h2 := bound (a :: l) (fun b hb => (Graph.way_mem w b hb).2)
  have hN : (graph n s p own empty).N = n * n := rfl
  have h3 : n * n ≤ 11 * 11 := Nat.mul_le_mul hn hn
  have h4 := (h0 a ha).1
  refine ⟨(o a).toNat, ?_, by omega⟩
  unfold tab
  rw [if_pos (by omega)]

end Go.Proofs.YtpbiminbhihjnaaDoor

/-
  What the search of the reference does to its table: it stays sound, and each round that changes something lowers its sum.
-/
namespace Go.Proofs.YtpbiminbhihjnaaDoor
open Dist
set_option linter.unusedSimpArgs false
set_option linter.unusedVariables false

/-- The sum of a table. -/
def tsum : List Int → Nat
  | [] => 0
  | x :: l => x.toNat + tsum l

theorem tsum_set (l : List Int) (a : Nat) (v : Int) (h : a < l.length) (h0 : 0 ≤ v) (hv : v < l.getD a 0) : tsum (l.set a v) < tsum l := by
  induction l generalizing a with
  | nil => simp at h
  | cons x l ih =>
    cases a with
    | zero =>
      simp only [List.set_cons_zero, tsum]
      simp at hv
      omega
    | succ a =>
      simp only [List.set_cons_succ, tsum]
      have := ih a (by simpa using h) (by simpa using hv)
      omega

theorem getD_set (l : List Int) (a b : Nat) (v d : Int) (h : a < l.length) : (l.set a v).getD b d = if b = a then v else l.getD b d := by
  simp only [List.getD_eq_getElem?_getD, List.getElem?_set]
  by_cases hb : a = b
  · subst hb
    simp [h]
  · have hb' : ¬ b = a := fun e => hb e.symm
    rw [if_neg hb, if_neg hb']

variable {n : Nat} {s : ByteArray} {p own empty : Int}

structure TabInv (n : Nat) (s : ByteArray) (p own empty : Int) (o : List Int) : Prop where
  len : o.length = n * n
  bd : ∀ a, a < n * n → 0 ≤ o.getD a 0 ∧ o.getD a 0 ≤ 1000
  sound : (graph n s p own empty).Sound (tab fun a => o.getD a 0)
  init : ∀ a, a < n * n → costI s p own empty a < 1000 → endsB n p a = true → o.getD a 0 ≤ costI s p own empty a

/-- What a hexagon has at first. -/
def initI (n : Nat) (s : ByteArray) (p own empty : Int) (a : Nat) : Int :=
  if endsB n p a = true ∧ costI s p own empty a < 1000 then costI s p own empty a else 1000

theorem cost_nonneg (hown : 0 ≤ own) (hemp : 0 ≤ empty) (a : Nat) : 0 ≤ costI s p own empty a := by
  unfold costI
  split
  · exact hown
  · split <;> omega

theorem cost_le (hown : own ≤ 1000) (hemp : empty ≤ 1000) (a : Nat) : costI s p own empty a ≤ 1000 := by
  unfold costI
  split
  · exact hown
  · split <;> omega

theorem graph_cost {a : Nat} (h : costI s p own empty a < 1000) : (graph n s p own empty).cost a = some (costI s p own empty a).toNat := by
  show (if costI s p own empty a < 1000 then some (costI s p own empty a).toNat else none) = _
  rw [if_pos h]

theorem TabInv.start (hown : 0 ≤ own ∧ own ≤ 1000) (hemp : 0 ≤ empty ∧ empty ≤ 1000) {o : List Int} (hl : o.length = n * n) (h : ∀ a, a < n * n → o.getD a 0 = initI n s p own empty a) :
    TabInv n s p own empty o where
  len := hl
  bd a ha := by
    rw [h a ha]
    have h1 := cost_nonneg (s := s) (p := p) hown.1 hemp.1 a
    have h2 := cost_le (s := s) (p := p) hown.2 hemp.2 a
    unfold initI
    split <;> omega
  sound a ha k hk := by
    have ha' : a < n * n := ha
    have h1 := cost_nonneg (s := s) (p := p) hown.1 hemp.1 a
    unfold tab at hk
    simp only [h a ha', initI] at hk
    by_cases hc : endsB n p a = true ∧ costI s p own empty a < 1000
    · rw [if_pos hc, if_pos hc.2] at hk
      injection hk with hk
      refine ⟨[], Graph.way_one.2 ⟨ha, by rw [graph_cost hc.2]; rfl, hc.1⟩, ?_⟩
      simp [Graph.price, graph_cost hc.2, hk]
    · rw [if_neg hc] at hk
      simp at hk
  init a ha hc he := by
    rw [h a ha]
    unfold initI
    rw [if_pos ⟨he, hc⟩]
    exact Int.le_refl _

theorem TabInv.relax (hown : 0 ≤ own ∧ own ≤ 1) (hemp : (0 ≤ empty ∧ empty ≤ 1) ∨ empty = 1000) {o : List Int} (h : TabInv n s p own empty o) {a b : Nat} (ha : a < n * n) (hb : b < n * n)
    (hc : costI s p own empty a < 1000) (hn : nearB n a b = true) (hlt : o.getD b 0 + costI s p own empty a < o.getD a 0) :
    TabInv n s p own empty (o.set a (o.getD b 0 + costI s p own empty a)) ∧ tsum (o.set a (o.getD b 0 + costI s p own empty a)) < tsum o := by
  have hl := h.len
  have c0 := cost_nonneg (s := s) (p := p) hown.1 (show 0 ≤ empty by omega) a
  have b0 := h.bd b hb
  have a0 := h.bd a ha
  refine ⟨⟨by simp [hl], ?_, ?_, ?_⟩, tsum_set _ _ _ (by omega) (by omega) hlt⟩
  · intro x hx
    rw [getD_set _ _ _ _ _ (by omega)]
    split
    · omega
    · exact h.bd x hx
  · intro x hx k hk
    unfold tab at hk
    simp only [getD_set o a x _ 0 (by omega)] at hk
    by_cases e : x = a
    · subst e
      simp only [if_true] at hk
      rw [if_pos (by omega)] at hk
      injection hk with hk
      obtain ⟨l, w, e⟩ := h.sound b hb (o.getD b 0).toNat (by unfold tab; simp only; rw [if_pos (by omega)])
      refine ⟨b :: l, Graph.way_cons.2 ⟨hx, by rw [graph_cost hc]; rfl, hn, w⟩, ?_⟩
      have e2 : (graph n s p own empty).price (x :: b :: l) = ((graph n s p own empty).cost x).getD 0 + (graph n s p own empty).price (b :: l) := rfl
      rw [e2, graph_cost hc, e, Option.getD_some]
      omega
    · rw [if_neg e] at hk
      exact h.sound x hx k hk
  · intro x hx hcx he
    rw [getD_set _ _ _ _ _ (by omega)]
    split
    · rename_i e
      subst e
      have := h.init x hx hcx he
      omega
    · exact h.init x hx hcx he

/-- Nothing before the place i, j can be bettered. -/
def FixTo (n : Nat) (s : ByteArray) (p own empty : Int) (o : List Int) (i j : Nat) : Prop :=
  ∀ a b, a < n * n → b < n * n → (a < i ∨ (a = i ∧ b < j)) → costI s p own empty a < 1000 → nearB n a b = true → o.getD a 0 ≤ o.getD b 0 + costI s p own empty a

/-- The state within a round: o0 is the table at its begin. -/
structure St (n : Nat) (s : ByteArray) (p own empty : Int) (o0 o : List Int) (ag : Bool) (i j : Nat) : Prop where
  inv : TabInv n s p own empty o
  same : ag = false → o = o0 ∧ FixTo n s p own empty o i j
  less : ag = true → tsum o < tsum o0

theorem St.begin_ {o : List Int} (h : TabInv n s p own empty o) : St n s p own empty o o false 0 0 :=
  ⟨h, fun _ => ⟨rfl, fun a b _ _ hl => by omega⟩, fun h => by cases h⟩

theorem St.skip {o0 o : List Int} {ag : Bool} {i j : Nat} (h : St n s p own empty o0 o ag i j) (hno : ¬ (costI s p own empty i < 1000 ∧ nearB n i j = true ∧ o.getD j 0 + costI s p own empty i < o.getD i 0)) :
    St n s p own empty o0 o ag i (j + 1) := by
  refine ⟨h.inv, fun e => ⟨(h.same e).1, ?_⟩, h.less⟩
  intro a b ha hb hl hc hn
  by_cases hx : a = i ∧ b = j
  · obtain ⟨rfl, rfl⟩ := hx
    apply Classical.byContradiction
    intro hg
    exact hno ⟨hc, hn, by omega⟩
  · exact (h.same e).2 a b ha hb (by omega) hc hn

theorem St.relax (hown : 0 ≤ own ∧ own ≤ 1) (hemp : (0 ≤ empty ∧ empty ≤ 1) ∨ empty = 1000) {o0 o : List Int} {ag : Bool} {i j : Nat} (h : St n s p own empty o0 o ag i j) (hi : i < n * n) (hj : j < n * n)
    (hc : costI s p own empty i < 1000) (hn : nearB n i j = true) (hlt : o.getD j 0 + costI s p own empty i < o.getD i 0) (i' j' : Nat) :
    St n s p own empty o0 (o.set i (o.getD j 0 + costI s p own empty i)) true i' j' := by
  obtain ⟨h1, h2⟩ := h.inv.relax hown hemp hi hj hc hn hlt
  refine ⟨h1, fun e => by (cases e), fun _ => ?_⟩
  cases ag with
  | false => have := (h.same rfl).1; rw [this] at h2 ⊢; exact h2
  | true => have := h.less rfl; omega

theorem St.row {o0 o : List Int} {ag : Bool} {i : Nat} (h : St n s p own empty o0 o ag i (n * n)) : St n s p own empty o0 o ag (i + 1) 0 := by
  refine ⟨h.inv, fun e => ⟨(h.same e).1, ?_⟩, h.less⟩
  intro a b ha hb hl hc hn
  exact (h.same e).2 a b ha hb (by omega) hc hn

/-- Behind the last round: the table of least costs. -/
theorem fix_least (hn : n ≤ 11) (hown : 0 ≤ own ∧ own ≤ 1) (hemp : (0 ≤ empty ∧ empty ≤ 1) ∨ empty = 1000) {o : List Int} (h : TabInv n s p own empty o) (hf : FixTo n s p own empty o (n * n) 0) :
    ∀ a, a < n * n → (graph n s p own empty).Least a (tab (fun a => o.getD a 0) a) :=
  table_least hn hown hemp h.sound h.bd h.init fun a b ha hb hc hn => hf a b ha hb (.inl ha) hc hn

end Go.Proofs.YtpbiminbhihjnaaDoor

/-
  What Needs, Winner and Bridge answer, as plain relations: the least cost from the first side, and the first shortest bridge; each relation has one answer alone.
-/
namespace Go.Proofs.YtpbiminbhihjnaaDoor
open Dist
set_option linter.unusedSimpArgs false
set_option linter.unusedVariables false

/-- The least cost of a way that begins at the first side. -/
def Best (n : Nat) (s : ByteArray) (p own emp : Int) : Option Nat → Prop
  | none => ∀ a, a < n * n → beginsB n p a = true → (graph n s p own emp).Least a none
  | some k => (∃ a, a < n * n ∧ beginsB n p a = true ∧ (graph n s p own emp).Least a (some k)) ∧
      ∀ a d, a < n * n → beginsB n p a = true → (graph n s p own emp).Least a (some d) → k ≤ d

theorem best_unique {n : Nat} {s : ByteArray} {p own emp : Int} {r q : Option Nat} (h : Best n s p own emp r) (k : Best n s p own emp q) : r = q := by
  cases r with
  | none =>
    cases q with
    | none => rfl
    | some q =>
      obtain ⟨⟨a, ha, hb, hl⟩, _⟩ := k
      have := Graph.least_unique (h a ha hb) hl
      cases this
  | some r =>
    cases q with
    | none =>
      obtain ⟨⟨a, ha, hb, hl⟩, _⟩ := h
      have := Graph.least_unique (k a ha hb) hl
      cases this
    | some q =>
      obtain ⟨⟨a, ha, hb, hl⟩, m⟩ := h
      obtain ⟨⟨a', ha', hb', hl'⟩, m'⟩ := k
      have h1 := m a' q ha' hb' hl'
      have h2 := m' a r ha hb hl
      congr 1
      omega

/-- The least entry of the first j places at the first side; 1000 where there is none. -/
def MinTo (n : Nat) (p : Int) (o : List Int) (best : Int) (j : Nat) : Prop :=
  best ≤ 1000 ∧ (best = 1000 ∨ ∃ a, a < j ∧ beginsB n p a = true ∧ best = o.getD a 0) ∧ ∀ a, a < j → beginsB n p a = true → best ≤ o.getD a 0

theorem MinTo.start (n : Nat) (p : Int) (o : List Int) : MinTo n p o 1000 0 := ⟨by omega, .inl rfl, fun a ha => by omega⟩

theorem MinTo.skip {n : Nat} {p : Int} {o : List Int} {best : Int} {j : Nat} (h : MinTo n p o best j) (hb : beginsB n p j = false) : MinTo n p o best (j + 1) := by
  obtain ⟨h1, h2, h3⟩ := h
  refine ⟨h1, ?_, ?_⟩
  · rcases h2 with h2 | ⟨a, ha, hx, e⟩
    · exact .inl h2
    · exact .inr ⟨a, by omega, hx, e⟩
  · intro a ha hx
    by_cases e : a = j
    · subst e; rw [hb] at hx; cases hx
    · exact h3 a (by omega) hx

theorem MinTo.take {n : Nat} {p : Int} {o : List Int} {best x : Int} {j : Nat} (h : MinTo n p o best j) (hb : beginsB n p j = true) (hx : x = min best (o.getD j 0)) : MinTo n p o x (j + 1) := by
  obtain ⟨h1, h2, h3⟩ := h
  have hm : x ≤ best ∧ x ≤ o.getD j 0 ∧ (x = best ∨ x = o.getD j 0) := by rw [hx, Int.min_def]; split <;> omega
  refine ⟨by omega, ?_, ?_⟩
  · rcases hm.2.2 with e | e
    · rcases h2 with h2 | ⟨a, ha, hy, e'⟩
      · exact .inl (e.trans h2)
      · exact .inr ⟨a, by omega, hy, e.trans e'⟩
    · exact .inr ⟨j, by omega, hb, e⟩
  · intro a ha hy
    by_cases e : a = j
    · subst e; exact hm.2.1
    · have := h3 a (by omega) hy; omega

theorem best_of {n : Nat} {s : ByteArray} {p own emp : Int} {o : List Int} {best : Int} (hl : ∀ a, a < n * n → (graph n s p own emp).Least a (tab (fun a => o.getD a 0) a))
    (h0 : ∀ a, a < n * n → 0 ≤ o.getD a 0 ∧ o.getD a 0 ≤ 1000) (h : MinTo n p o best (n * n)) : Best n s p own emp (if best < 1000 then some best.toNat else none) := by
  obtain ⟨h1, h2, h3⟩ := h
  by_cases hb : best < 1000
  · rw [if_pos hb]
    rcases h2 with h2 | ⟨a, ha, hx, e⟩
    · omega
    · refine ⟨⟨a, ha, hx, ?_⟩, ?_⟩
      · have := hl a ha
        unfold tab at this
        simp only at this
        rw [← e, if_pos hb] at this
        exact this
      · intro a' d ha' hx' hd
        have h4 := hl a' ha'
        have h5 := Graph.least_unique h4 hd
        have h6 := h3 a' ha' hx'
        have h7 := h0 a ha
        unfold tab at h5
        simp only at h5
        split at h5
        · injection h5 with h5; omega
        · cases h5
  · rw [if_neg hb]
    intro a ha hx
    have h4 := hl a ha
    have h6 := h3 a ha hx
    unfold tab at h4
    simp only at h4
    rw [if_neg (by omega)] at h4
    exact h4

def isX (pl : ByteArray) : Bool := pl.data.toList == [120]
def isO (pl : ByteArray) : Bool := pl.data.toList == [111]

theorem isX_eq {pl : ByteArray} (h : isX pl = true) : pl = ⟨#[120]⟩ := by
  obtain ⟨d⟩ := pl
  have h1 : d.toList = [120] := by simpa [isX] using h
  have : d = #[120] := Array.toList_inj.1 h1
  rw [this]

theorem isO_eq {pl : ByteArray} (h : isO pl = true) : pl = ⟨#[111]⟩ := by
  obtain ⟨d⟩ := pl
  have h1 : d.toList = [111] := by simpa [isO] using h
  have : d = #[111] := Array.toList_inj.1 h1
  rw [this]

/-- What Needs answers: the number and the error. -/
def NeedsIs (n : Int) (s pl : ByteArray) (v er : Int) : Prop :=
  (boardErr n s true ≠ 0 ∧ v = 0 ∧ er = boardErr n s true) ∨
  (boardErr n s true = 0 ∧ isX pl = false ∧ isO pl = false ∧ v = 0 ∧ er = 2) ∨
  (boardErr n s true = 0 ∧ ∃ p : Int, ((isX pl = true ∧ p = 120) ∨ (isX pl = false ∧ isO pl = true ∧ p = 111)) ∧ ∃ r, Best n.toNat s p 0 1 r ∧ v = (r.getD 0 : Nat) ∧ er = match r with | none => 10 | some _ => 0)

theorem needs_unique {n : Int} {s pl : ByteArray} {v er v' er' : Int} (h : NeedsIs n s pl v er) (k : NeedsIs n s pl v' er') : v = v' ∧ er = er' := by
  rcases h with ⟨a1, rfl, rfl⟩ | ⟨a1, a2, a3, rfl, rfl⟩ | ⟨a1, p, hp, r, hr, rfl, rfl⟩ <;> rcases k with ⟨b1, rfl, rfl⟩ | ⟨b1, b2, b3, rfl, rfl⟩ | ⟨b1, q, hq, r', hr', rfl, rfl⟩
  · exact ⟨rfl, rfl⟩
  · exact absurd b1 a1
  · exact absurd b1 a1
  · exact absurd a1 b1
  · exact ⟨rfl, rfl⟩
  · rcases hq with ⟨hq, _⟩ | ⟨_, hq, _⟩
    · rw [a2] at hq; cases hq
    · rw [a3] at hq; cases hq
  · exact absurd a1 b1
  · rcases hp with ⟨hp, _⟩ | ⟨_, hp, _⟩
    · rw [b2] at hp; cases hp
    · rw [b3] at hp; cases hp
  · have e : p = q := by
      rcases hp with ⟨hp, rfl⟩ | ⟨hp, _, rfl⟩ <;> rcases hq with ⟨hq, rfl⟩ | ⟨hq, _, rfl⟩
      · rfl
      · rw [hp] at hq; cases hq
      · rw [hp] at hq; cases hq
      · rfl
    subst e
    have := best_unique hr hr'
    subst this
    exact ⟨rfl, rfl⟩

/-- Place a may be the i-th one of the first shortest bridge l of cost k. -/
def Fits (n : Nat) (s : ByteArray) (p : Int) (k : Nat) (l : List Nat) (i a : Nat) : Prop :=
  (graph n s p 1 1000).Least a (some (k - i)) ∧ ((i = 0 ∧ beginsB n p a = true) ∨ ∃ b, 0 < i ∧ l[i - 1]? = some b ∧ nearB n b a = true)

/-- l is a part, from its begin on, of the first shortest bridge of cost k. -/
def Lead (n : Nat) (s : ByteArray) (p : Int) (k : Nat) (l : List Nat) : Prop :=
  ∀ i a, l[i]? = some a → a < n * n ∧ Fits n s p k l i a ∧ ∀ a', a' < a → ¬ Fits n s p k l i a'

/-- The first shortest bridge; the empty list: there is none. -/
def Short (n : Nat) (s : ByteArray) (p : Int) (l : List Nat) : Prop :=
  ∃ r, Best n s p 1 1000 r ∧ match r with | none => l = [] | some k => l.length = k ∧ Lead n s p k l

theorem lead_unique {n : Nat} {s : ByteArray} {p : Int} {k : Nat} {l l' : List Nat} (h : Lead n s p k l) (h' : Lead n s p k l') (hl : l.length = l'.length) : l = l' := by
  have key : ∀ i j : Nat, j ≤ i → l[j]? = l'[j]? := by
    intro i
    induction i with
    | zero =>
      intro j hj
      obtain rfl : j = 0 := by omega
      cases e : l[0]? with
      | none =>
        have : l.length = 0 := by simpa using e
        have : l'.length = 0 := by omega
        simp_all
      | some a =>
        have h0 : 0 < l'.length := by
          have : 0 < l.length := by
            apply Classical.byContradiction
            intro hn
            rw [List.getElem?_eq_none (by omega)] at e
            cases e
          omega
        have e' : l'[0]? = some l'[0] := List.getElem?_eq_getElem h0
        rw [e']
        obtain ⟨_, f, m⟩ := h 0 a e
        obtain ⟨_, f', m'⟩ := h' 0 l'[0] e'
        have tr : ∀ x, Fits n s p k l 0 x ↔ Fits n s p k l' 0 x := by
          intro x
          unfold Fits
          constructor
          · rintro ⟨q1, q2 | ⟨b, q2, _⟩⟩
            · exact ⟨q1, .inl q2⟩
            · omega
          · rintro ⟨q1, q2 | ⟨b, q2, _⟩⟩
            · exact ⟨q1, .inl q2⟩
            · omega
        congr 1
        rcases Nat.lt_trichotomy a l'[0] with hlt | he | hgt
        · exact absurd ((tr a).1 f) (m' a hlt)
        · exact he
        · exact absurd ((tr _).2 f') (m _ hgt)
    | succ i ih =>
      intro j hj
      by_cases hji : j ≤ i
      · exact ih j hji
      · obtain rfl : j = i + 1 := by omega
        have hprev := ih i (Nat.le_refl i)
        cases e : l[i + 1]? with
        | none =>
          have : l.length ≤ i + 1 := by simpa using e
          rw [List.getElem?_eq_none (by omega)]
        | some a =>
          have h0 : i + 1 < l'.length := by
            have : i + 1 < l.length := by
              apply Classical.byContradiction
              intro hn
              rw [List.getElem?_eq_none (by omega)] at e
              cases e
            omega
          have e' : l'[i + 1]? = some l'[i + 1] := List.getElem?_eq_getElem h0
          rw [e']
          obtain ⟨_, f, m⟩ := h (i + 1) a e
          obtain ⟨_, f', m'⟩ := h' (i + 1) l'[i + 1] e'
          have tr : ∀ x, Fits n s p k l (i + 1) x ↔ Fits n s p k l' (i + 1) x := by
            intro x
            unfold Fits
            simp only [Nat.add_sub_cancel, hprev]
          congr 1
          rcases Nat.lt_trichotomy a l'[i + 1] with hlt | he | hgt
          · exact absurd ((tr a).1 f) (m' a hlt)
          · exact he
          · exact absurd ((tr _).2 f') (m _ hgt)
  apply List.ext_getElem?
  intro i
  exact key i i (Nat.le_refl i)

theorem short_unique {n : Nat} {s : ByteArray} {p : Int} {l l' : List Nat} (h : Short n s p l) (h' : Short n s p l') : l = l' := by
  obtain ⟨r, hr, h⟩ := h
  obtain ⟨r', hr', h'⟩ := h'
  have := best_unique hr hr'
  subst this
  cases r with
  | none => rw [h, h']
  | some k => exact lead_unique h.2 h'.2 (by rw [h.1, h'.1])

/-- In the table of least costs the place a costs d. -/
theorem least_tab {n : Nat} {s : ByteArray} {p own emp : Int} {o : List Int} (hl : ∀ a, a < n * n → (graph n s p own emp).Least a (tab (fun a => o.getD a 0) a))
    (h0 : ∀ a, a < n * n → 0 ≤ o.getD a 0 ∧ o.getD a 0 ≤ 1000) {a : Nat} (ha : a < n * n) {d : Nat} (hd : d < 1000) : (graph n s p own emp).Least a (some d) ↔ o.getD a 0 = d := by
  have h := hl a ha
  have hb := h0 a ha
  unfold tab at h
  simp only at h
  constructor
  · intro k
    have e := Graph.least_unique h k
    split at e
    · injection e with e; omega
    · cases e
  · intro e
    rw [if_pos (by omega)] at h
    have : (o.getD a 0).toNat = d := by omega
    rw [this] at h
    exact h

theorem lead_nil (n : Nat) (s : ByteArray) (p : Int) (k : Nat) : Lead n s p k [] := fun i a h => by simp at h

theorem lead_snoc {n : Nat} {s : ByteArray} {p : Int} {k : Nat} {l : List Nat} (h : Lead n s p k l) {a : Nat} (ha : a < n * n) (hf : Fits n s p k l l.length a) (hm : ∀ a', a' < a → ¬ Fits n s p k l l.length a') :
    Lead n s p k (l ++ [a]) := by
  have same : ∀ i x, i ≤ l.length → (Fits n s p k (l ++ [a]) i x ↔ Fits n s p k l i x) := by
    intro i x hi
    unfold Fits
    constructor
    · rintro ⟨q1, q2 | ⟨b, q2, q3, q4⟩⟩
      · exact ⟨q1, .inl q2⟩
      · exact ⟨q1, .inr ⟨b, q2, by rw [List.getElem?_append_left (by omega)] at q3; exact q3, q4⟩⟩
    · rintro ⟨q1, q2 | ⟨b, q2, q3, q4⟩⟩
      · exact ⟨q1, .inl q2⟩
      · exact ⟨q1, .inr ⟨b, q2, by rw [List.getElem?_append_left (by omega)]; exact q3, q4⟩⟩
  intro i x hx
  by_cases hi : i < l.length
  · rw [List.getElem?_append_left hi] at hx
    obtain ⟨h1, h2, h3⟩ := h i x hx
    exact ⟨h1, (same i x (by omega)).2 h2, fun a' ha' hf' => h3 a' ha' ((same i a' (by omega)).1 hf')⟩
  · have e : i = l.length := by
      have : i < (l ++ [a]).length := by
        apply Classical.byContradiction
        intro hn
        rw [List.getElem?_eq_none (by omega)] at hx
        cases hx
      simp at this
      omega
    subst e
    simp at hx
    subst hx
    exact ⟨ha, (same _ _ (Nat.le_refl _)).2 hf, fun a' ha' hf' => hm a' ha' ((same _ _ (Nat.le_refl _)).1 hf')⟩

/-- While the bridge is too short, some place fits next. -/
theorem fits_some {n : Nat} {s : ByteArray} {p : Int} {k : Nat} {l : List Nat} (hb : Best n s p 1 1000 (some k)) (h : Lead n s p k l) (hk : l.length < k) : ∃ a, a < n * n ∧ Fits n s p k l l.length a := by
  rcases Nat.eq_zero_or_pos l.length with h0 | h0
  · obtain ⟨⟨a, ha, hx, hl⟩, _⟩ := hb
    exact ⟨a, ha, by rw [h0]; exact hl, .inl ⟨h0, hx⟩⟩
  · have e : l[l.length - 1]? = some l[l.length - 1] := List.getElem?_eq_getElem (by omega)
    obtain ⟨h1, h2, _⟩ := h _ _ e
    have hl := h2.1
    have hc : ∃ c, (graph n s p 1 1000).cost l[l.length - 1] = some c ∧ c = 1 := by
      obtain ⟨⟨l', w, _⟩, _⟩ := hl
      have := (Graph.way_mem w l[l.length - 1] (by simp)).2
      show ∃ c, (if costI s p 1 1000 l[l.length - 1] < 1000 then some (costI s p 1 1000 l[l.length - 1]).toNat else none) = some c ∧ c = 1
      have h4 : (if costI s p 1 1000 l[l.length - 1] < 1000 then some (costI s p 1 1000 l[l.length - 1]).toNat else none).isSome = true := this
      have h5 : costI s p 1 1000 l[l.length - 1] < 1000 := by
        apply Classical.byContradiction
        intro hn
        rw [if_neg hn] at h4
        cases h4
      rw [if_pos h5]
      refine ⟨_, rfl, ?_⟩
      unfold costI at h5 ⊢
      split
      · rfl
      · split
        · rename_i e1 e2
          rw [if_neg e1, if_pos e2] at h5
          omega
        · rename_i e1 e2
          rw [if_neg e1, if_neg e2] at h5
          omega
    obtain ⟨c, hc, rfl⟩ := hc
    rcases Graph.least_next hl hc with ⟨_, e1⟩ | ⟨b, d, hn, hbN, hbl, e1⟩
    · omega
    · refine ⟨b, hbN, ?_, .inr ⟨_, h0, e, hn⟩⟩
      have : k - l.length = d := by omega
      rw [this]
      exact hbl

end Go.Proofs.YtpbiminbhihjnaaDoor

/-
  The neighbours of a hexagon by the table of steps: just those that are near, in ascending order.
-/
namespace Go.Proofs.YtpbiminbhihjnaaDoor
set_option linter.unusedSimpArgs false
set_option linter.unusedVariables false

def stepL : List Int := [0, -1, 0, 1, -1, 0, -1, 1, 1, -1, 1, 0]
def stepR (k : Nat) : Int := stepL.getD (2 * k) 0
def stepC (k : Nat) : Int := stepL.getD (2 * k + 1) 0

theorem step_bd (k : Nat) : -1 ≤ stepR k ∧ stepR k ≤ 1 ∧ -1 ≤ stepC k ∧ stepC k ≤ 1 := by
  unfold stepR stepC stepL
  by_cases h : k < 6
  · have h' : k = 0 ∨ k = 1 ∨ k = 2 ∨ k = 3 ∨ k = 4 ∨ k = 5 := by omega
    rcases h' with rfl | rfl | rfl | rfl | rfl | rfl <;> decide
  · rw [List.getD_eq_getElem?_getD, List.getElem?_eq_none (by simp; omega), List.getD_eq_getElem?_getD, List.getElem?_eq_none (by simp; omega)]
    decide

/-- The neighbour in the direction k, if it is on the board. -/
def nbOk (n i k : Nat) : Bool := decide (0 ≤ (i : Int) / n + stepR k) && decide ((i : Int) / n + stepR k < n) && decide (0 ≤ (i : Int) % n + stepC k) && decide ((i : Int) % n + stepC k < n)
def nbAt (n i k : Nat) : Int := ((i : Int) / n + stepR k) * n + ((i : Int) % n + stepC k)

def nbTo (n i : Nat) : Nat → List Int
  | 0 => []
  | k + 1 => if nbOk n i k then nbTo n i k ++ [nbAt n i k] else nbTo n i k

theorem nbTo_len (n i k : Nat) : (nbTo n i k).length ≤ k := by
  induction k with
  | zero => simp [nbTo]
  | succ k ih =>
    unfold nbTo
    split
    · simp; omega
    · omega

/-- The neighbours of a hexagon, ascending. -/
def nbs (n i : Nat) : List Int := (nbTo n i 6).mergeSort fun x y => decide (x ≤ y)


theorem mem_nbTo (n i : Nat) (x : Int) : ∀ k, x ∈ nbTo n i k ↔ ∃ j, j < k ∧ nbOk n i j = true ∧ x = nbAt n i j
  | 0 => by simp [nbTo]
  | k + 1 => by
    have ih := mem_nbTo n i x k
    unfold nbTo
    constructor
    · intro h
      split at h
      · rename_i hk
        rcases List.mem_append.1 h with h | h
        · obtain ⟨j, hj, h1, h2⟩ := ih.1 h
          exact ⟨j, by omega, h1, h2⟩
        · exact ⟨k, by omega, hk, by simpa using h⟩
      · obtain ⟨j, hj, h1, h2⟩ := ih.1 h
        exact ⟨j, by omega, h1, h2⟩
    · rintro ⟨j, hj, h1, h2⟩
      by_cases e : j = k
      · subst e
        rw [if_pos h1]
        exact List.mem_append.2 (.inr (by simp [h2]))
      · have := ih.2 ⟨j, by omega, h1, h2⟩
        split
        · exact List.mem_append.2 (.inl this)
        · exact this

theorem div_of {n r c : Int} (hn : 0 < n) (h0 : 0 ≤ c) (h1 : c < n) : (r * n + c) / n = r ∧ (r * n + c) % n = c := by
  constructor
  · rw [Int.add_comm, Int.add_mul_ediv_right _ _ (by omega), Int.ediv_eq_zero_of_lt h0 h1, Int.zero_add]
  · rw [Int.add_comm, Int.add_mul_emod_self_right, Int.emod_eq_of_lt h0 h1]

theorem step_val (k : Nat) (hk : k < 6) : (k = 0 ∧ stepR k = 0 ∧ stepC k = -1) ∨ (k = 1 ∧ stepR k = 0 ∧ stepC k = 1) ∨ (k = 2 ∧ stepR k = -1 ∧ stepC k = 0) ∨ (k = 3 ∧ stepR k = -1 ∧ stepC k = 1) ∨
    (k = 4 ∧ stepR k = 1 ∧ stepC k = -1) ∨ (k = 5 ∧ stepR k = 1 ∧ stepC k = 0) := by
  have h' : k = 0 ∨ k = 1 ∨ k = 2 ∨ k = 3 ∨ k = 4 ∨ k = 5 := by omega
  rcases h' with rfl | rfl | rfl | rfl | rfl | rfl <;> decide

theorem near_iff (n a b : Int) : nearB n a b = true ↔ (b / n - a / n = 0 ∧ (b % n - a % n = 1 ∨ b % n - a % n = -1)) ∨ (b / n - a / n = -1 ∧ (b % n - a % n = 0 ∨ b % n - a % n = 1)) ∨
    (b / n - a / n = 1 ∧ (b % n - a % n = -1 ∨ b % n - a % n = 0)) := by
  unfold nearB
  simp only [Bool.or_eq_true, Bool.and_eq_true, beq_iff_eq, or_assoc]

theorem mem_nbs {n i : Nat} (h1 : 1 ≤ n) (hi : i < n * n) (x : Int) : x ∈ nbs n i ↔ 0 ≤ x ∧ x < (n * n : Nat) ∧ nearB n i x = true := by
  have hn : (0 : Int) < n := by omega
  have hnn : ((n * n : Nat) : Int) = (n : Int) * n := Int.natCast_mul n n
  unfold nbs
  rw [(List.mergeSort_perm _ _).mem_iff, mem_nbTo, near_iff]
  constructor
  · rintro ⟨k, hk, hok, rfl⟩
    unfold nbOk at hok
    simp only [Bool.and_eq_true, decide_eq_true_eq] at hok
    obtain ⟨⟨⟨q1, q2⟩, q3⟩, q4⟩ := hok
    unfold nbAt
    obtain ⟨d1, d2⟩ := div_of (r := (i : Int) / n + stepR k) hn q3 q4
    rw [d1, d2]
    have m0 : 0 ≤ ((i : Int) / n + stepR k) * n := Int.mul_nonneg q1 (by omega)
    have m1 : ((i : Int) / n + stepR k) * n ≤ ((n : Int) - 1) * n := Int.mul_le_mul_of_nonneg_right (by omega) (by omega)
    have m2 : ((n : Int) - 1) * n = (n : Int) * n - n := by rw [Int.sub_mul, Int.one_mul]
    refine ⟨by omega, by omega, ?_⟩
    rcases step_val k hk with ⟨_, e1, e2⟩ | ⟨_, e1, e2⟩ | ⟨_, e1, e2⟩ | ⟨_, e1, e2⟩ | ⟨_, e1, e2⟩ | ⟨_, e1, e2⟩ <;> rw [e1, e2] <;> omega
  · rintro ⟨h0, hx, hnear⟩
    have r0 : 0 ≤ x / n := Int.ediv_nonneg h0 (by omega)
    have r1 : x / n < n := Int.ediv_lt_of_lt_mul hn (by omega)
    have c0 : 0 ≤ x % n := Int.emod_nonneg _ (by omega)
    have c1 : x % n < n := Int.emod_lt_of_pos _ hn
    have ex : x = x / n * n + x % n := by have := Int.mul_ediv_add_emod x n; rw [Int.mul_comm] at this; omega
    have key : ∀ k, k < 6 → stepR k = x / n - (i : Int) / n → stepC k = x % n - (i : Int) % n → ∃ j, j < 6 ∧ nbOk n i j = true ∧ x = nbAt n i j := by
      intro k hk e1 e2
      refine ⟨k, hk, ?_, ?_⟩
      · unfold nbOk
        rw [e1, e2]
        simp only [Bool.and_eq_true, decide_eq_true_eq]
        omega
      · unfold nbAt
        rw [e1, e2]
        rw [show (i : Int) / n + (x / n - (i : Int) / n) = x / n by omega, show (i : Int) % n + (x % n - (i : Int) % n) = x % n by omega]
        exact ex
    rcases hnear with ⟨e1, e2 | e2⟩ | ⟨e1, e2 | e2⟩ | ⟨e1, e2 | e2⟩
    · exact key 1 (by omega) (by rw [e1]; decide) (by rw [e2]; decide)
    · exact key 0 (by omega) (by rw [e1]; decide) (by rw [e2]; decide)
    · exact key 2 (by omega) (by rw [e1]; decide) (by rw [e2]; decide)
    · exact key 3 (by omega) (by rw [e1]; decide) (by rw [e2]; decide)
    · exact key 4 (by omega) (by rw [e1]; decide) (by rw [e2]; decide)
    · exact key 5 (by omega) (by rw [e1]; decide) (by rw [e2]; decide)

theorem nbs_len (n i : Nat) : (nbs n i).length ≤ 6 := by
  unfold nbs
  rw [List.length_mergeSort]
  exact nbTo_len n i 6

theorem nbs_sorted (n i : Nat) : (nbs n i).Pairwise fun x y => x ≤ y := by
  unfold nbs
  have h := List.pairwise_mergeSort (le := fun x y : Int => decide (x ≤ y)) (fun a b c h1 h2 => by simp at *; omega) (fun a b => by simp; omega) (nbTo n i 6)
  exact h.imp fun h => by simpa using h

end Go.Proofs.YtpbiminbhihjnaaDoor

/-
  The program's search for distances: rounds over all places, each place relaxed by its neighbours; behind N rounds the table is that of least costs.
-/
namespace Go.Proofs.YtpbiminbhihjnaaDoor
open Dist
set_option linter.unusedSimpArgs false
set_option linter.unusedVariables false

/-- What the program's closure says of a place: below 0 where it may not be entered. -/
def pcost (s : ByteArray) (p own emp : Int) (a : Nat) : Int := if costI s p own emp a < 1000 then costI s p own emp a else -1

/-- A table in which a number below 0 says that there is no way. -/
def tabN (o : List Int) (a : Nat) : Option Nat := if 0 ≤ o.getD a 0 then some (o.getD a 0).toNat else none

/-- The best of the first k neighbours. -/
def BestTo (o : List Int) (own : Int) (lst : Bool) (L : List Int) (k : Nat) (best : Int) : Prop :=
  -1 ≤ best ∧ (0 ≤ best → (lst = true ∧ best = own) ∨ ∃ j, j ∈ L.take k ∧ 0 ≤ o.getD j.toNat 0 ∧ best = o.getD j.toNat 0 + own) ∧
    (lst = true → 0 ≤ best ∧ best ≤ own) ∧ ∀ j, j ∈ L.take k → 0 ≤ o.getD j.toNat 0 → 0 ≤ best ∧ best ≤ o.getD j.toNat 0 + own

theorem BestTo.start (o : List Int) {own : Int} (h0 : 0 ≤ own) (lst : Bool) (L : List Int) : BestTo o own lst L 0 (if lst then own else -1) := by
  cases lst
  · refine ⟨by simp, fun h => absurd h (by simp), fun h => absurd h (by decide), fun j hj => by simp at hj⟩
  · refine ⟨by simp; omega, fun _ => .inl ⟨rfl, rfl⟩, fun _ => ⟨h0, by simp⟩, fun j hj => by simp at hj⟩

theorem take_succ_mem {L : List Int} {k : Nat} {x j : Int} (h : L[k]? = some x) : j ∈ L.take (k + 1) ↔ j ∈ L.take k ∨ j = x := by
  rw [List.take_add_one, h]
  simp

theorem BestTo.keep {o : List Int} {own : Int} {lst : Bool} {L : List Int} {k : Nat} {best x : Int} (h : BestTo o own lst L k best) (hx : L[k]? = some x)
    (hn : ¬ (0 ≤ o.getD x.toNat 0 ∧ (best < 0 ∨ o.getD x.toNat 0 + own < best))) : BestTo o own lst L (k + 1) best := by
  obtain ⟨h1, h2, h3, h4⟩ := h
  refine ⟨h1, fun hb => ?_, h3, fun j hj h0 => ?_⟩
  · rcases h2 hb with h | ⟨j, hj, h⟩
    · exact .inl h
    · exact .inr ⟨j, (take_succ_mem hx).2 (.inl hj), h⟩
  · rcases (take_succ_mem hx).1 hj with hj | rfl
    · exact h4 j hj h0
    · omega

theorem BestTo.better {o : List Int} {own : Int} {lst : Bool} {L : List Int} {k : Nat} {best x : Int} (h : BestTo o own lst L k best) (hx : L[k]? = some x) (h0 : 0 ≤ own)
    (hy : 0 ≤ o.getD x.toNat 0) (hn : best < 0 ∨ o.getD x.toNat 0 + own < best) : BestTo o own lst L (k + 1) (o.getD x.toNat 0 + own) := by
  obtain ⟨h1, h2, h3, h4⟩ := h
  refine ⟨by omega, fun hb => .inr ⟨x, (take_succ_mem hx).2 (.inr rfl), hy, rfl⟩, fun hl => ?_, fun j hj h0' => ?_⟩
  · have := h3 hl; omega
  · rcases (take_succ_mem hx).1 hj with hj | rfl
    · have := h4 j hj h0'; omega
    · omega

variable {n : Nat} {s : ByteArray} {p own emp : Int}

structure FarInv (n : Nat) (s : ByteArray) (p own emp : Int) (o : List Int) (r i : Nat) : Prop where
  len : o.length = n * n
  low : ∀ a, a < n * n → -1 ≤ o.getD a 0
  up : ∀ a, a < n * n → o.getD a 0 ≤ (r * 200 + i : Nat)
  sound : (graph n s p own emp).Sound (tabN o)
  good : ∀ a, a < n * n → (graph n s p own emp).Good r (tabN o) a
  more : ∀ a, a < i → a < n * n → (graph n s p own emp).Good (r + 1) (tabN o) a

theorem FarInv.start : FarInv n s p own emp (List.replicate (n * n) (-1)) 0 0 where
  len := by simp
  low a ha := by simp [List.getD_eq_getElem?_getD, List.getElem?_replicate, ha]
  up a ha := by simp [List.getD_eq_getElem?_getD, List.getElem?_replicate, ha]
  sound a ha k hk := by
    have ha' : a < n * n := ha
    unfold tabN at hk
    rw [if_neg (by simp [List.getD_eq_getElem?_getD, List.getElem?_replicate, ha'])] at hk
    cases hk
  good a ha l w hl := by simp at hl
  more a ha := by omega

theorem cost_none {a : Nat} (h : pcost s p own emp a < 0) (hown : 0 ≤ own) (hemp : 0 ≤ emp) : (graph n s p own emp).cost a = none := by
  have h1 := cost_nonneg (s := s) (p := p) hown hemp a
  unfold pcost at h
  show (if costI s p own emp a < 1000 then some (costI s p own emp a).toNat else none) = none
  split at h
  · omega
  · rename_i hc; rw [if_neg hc]

theorem cost_some {a : Nat} (h : ¬ pcost s p own emp a < 0) : (graph n s p own emp).cost a = some (pcost s p own emp a).toNat ∧ pcost s p own emp a = costI s p own emp a ∧ costI s p own emp a < 1000 := by
  unfold pcost at h ⊢
  split at h
  · rename_i hc
    rw [if_pos hc]
    exact ⟨graph_cost hc, rfl, hc⟩
  · omega

theorem FarInv.skip {o : List Int} {r i : Nat} (h : FarInv n s p own emp o r i) (hown : 0 ≤ own) (hemp : 0 ≤ emp) (hc : pcost s p own emp i < 0) : FarInv n s p own emp o r (i + 1) where
  len := h.len
  low := h.low
  up a ha := by have := h.up a ha; omega
  sound := h.sound
  good := h.good
  more a ha ha' := by
    by_cases e : a = i
    · subst e
      intro l w _
      have := (Graph.way_mem w a (by simp)).2
      rw [cost_none hc hown hemp] at this
      cases this
    · exact h.more a (by omega) ha'

theorem FarInv.step {o : List Int} {r i : Nat} (h : FarInv n s p own emp o r i) (hi : i < n * n) (hc : ¬ pcost s p own emp i < 0) (hc1 : pcost s p own emp i ≤ 1) {L : List Int} {best : Int}
    (hL : ∀ x : Int, x ∈ L ↔ 0 ≤ x ∧ x < (n * n : Nat) ∧ nearB n i x = true) (hb : BestTo o (pcost s p own emp i) (endsB n p i) L L.length best) :
    FarInv n s p own emp (o.set i best) r (i + 1) := by
  obtain ⟨b1, b2, b3, b4⟩ := hb
  rw [List.take_length] at b2 b4
  obtain ⟨cs, _, _⟩ := cost_some (n := n) hc
  have hlen := h.len
  have tab_set : ∀ a, tabN (o.set i best) a = if a = i then (if 0 ≤ best then some best.toNat else none) else tabN o a := by
    intro a
    unfold tabN
    rw [getD_set _ _ _ _ _ (by omega)]
    by_cases e : a = i
    · rw [if_pos e, if_pos e]
    · rw [if_neg e, if_neg e]
  have hstep : (graph n s p own emp).Step (tabN o) i (if 0 ≤ best then some best.toNat else none) := by
    unfold Graph.Step
    rw [cs]
    refine ⟨fun k hk => ?_, fun hl => ?_, fun b d hn hbN hd => ?_⟩
    · split at hk
      · rename_i h0
        injection hk with hk
        rcases b2 h0 with ⟨hl, e⟩ | ⟨j, hj, hj0, e⟩
        · exact .inl ⟨hl, by rw [← hk, e]⟩
        · obtain ⟨j0, jN, jn⟩ := (hL j).1 hj
          refine .inr ⟨j.toNat, (o.getD j.toNat 0).toNat, ?_, ?_, ?_, by omega⟩
          · show nearB n i ((j.toNat : Nat) : Int) = true
            rw [show ((j.toNat : Nat) : Int) = j by omega]
            exact jn
          · show j.toNat < n * n
            omega
          · unfold tabN
            rw [if_pos hj0]
      · cases hk
    · have := b3 hl
      exact ⟨best.toNat, by rw [if_pos this.1], by omega⟩
    · have hj : (b : Int) ∈ L := (hL b).2 ⟨by omega, by have : b < n * n := hbN; omega, hn⟩
      have hd' := hd
      unfold tabN at hd'
      split at hd'
      · rename_i h0
        injection hd' with hd'
        have := b4 (b : Int) hj (by simpa using h0)
        simp only [Int.toNat_natCast] at this
        exact ⟨best.toNat, by rw [if_pos this.1], by omega⟩
      · cases hd'
  have hown : 0 ≤ pcost s p own emp i := by omega
  refine ⟨by simp [hlen], ?_, ?_, ?_, ?_, ?_⟩
  · intro a ha
    rw [getD_set _ _ _ _ _ (by omega)]
    split
    · exact b1
    · exact h.low a ha
  · intro a ha
    rw [getD_set _ _ _ _ _ (by omega)]
    split
    · by_cases h0 : 0 ≤ best
      · rcases b2 h0 with ⟨_, e⟩ | ⟨j, hj, hj0, e⟩
        · omega
        · obtain ⟨j0, jN, jn⟩ := (hL j).1 hj
          have := h.up j.toNat (by omega)
          omega
      · omega
    · have := h.up a ha; omega
  · intro a ha k hk
    rw [tab_set] at hk
    by_cases e : a = i
    · subst e
      rw [if_pos rfl] at hk
      exact Graph.sound_step ha h.sound hstep k hk
    · rw [if_neg e] at hk
      exact h.sound a ha k hk
  · intro a ha
    by_cases e : a = i
    · subst e
      have g : (graph n s p own emp).Good (r + 1) (tabN (o.set a best)) a := Graph.good_step (fun b hb => h.good b hb) (by rw [tab_set, if_pos rfl]; exact hstep)
      exact Graph.good_le g (by omega)
    · intro l w hl
      rw [tab_set, if_neg e]
      exact h.good a ha l w hl
  · intro a ha ha'
    by_cases e : a = i
    · subst e
      exact Graph.good_step (fun b hb => h.good b hb) (by rw [tab_set, if_pos rfl]; exact hstep)
    · intro l w hl
      rw [tab_set, if_neg e]
      exact h.more a (by omega) ha' l w hl

theorem FarInv.row {o : List Int} {r : Nat} (h : FarInv n s p own emp o r (n * n)) (hn : n * n ≤ 200) : FarInv n s p own emp o (r + 1) 0 where
  len := h.len
  low := h.low
  up a ha := by have := h.up a ha; omega
  sound := h.sound
  good a ha := h.more a ha ha
  more a ha := by omega

/-- Behind n * n rounds: least costs. -/
theorem FarInv.least {o : List Int} (h : FarInv n s p own emp o (n * n) 0) : ∀ a, a < n * n → (graph n s p own emp).Least a (tabN o a) :=
  fun a ha => Graph.least_of h.sound ha (h.good a ha)

/-- The least number not below 0 of the first j places at the first side; -1 where there is none. -/
def MinP (n : Nat) (p : Int) (o : List Int) (best : Int) (j : Nat) : Prop :=
  -1 ≤ best ∧ (0 ≤ best → ∃ a, a < j ∧ beginsB n p a = true ∧ o.getD a 0 = best) ∧ ∀ a, a < j → beginsB n p a = true → 0 ≤ o.getD a 0 → 0 ≤ best ∧ best ≤ o.getD a 0

theorem MinP.start (n : Nat) (p : Int) (o : List Int) : MinP n p o (-1) 0 := ⟨by omega, fun h => by omega, fun a ha => by omega⟩

theorem MinP.keep {n : Nat} {p : Int} {o : List Int} {best : Int} {j : Nat} (h : MinP n p o best j) (hn : ¬ (beginsB n p j = true ∧ 0 ≤ o.getD j 0 ∧ (best < 0 ∨ o.getD j 0 < best))) : MinP n p o best (j + 1) := by
  obtain ⟨h1, h2, h3⟩ := h
  refine ⟨h1, fun hb => ?_, fun a ha hx h0 => ?_⟩
  · obtain ⟨a, ha, h⟩ := h2 hb
    exact ⟨a, by omega, h⟩
  · by_cases e : a = j
    · subst e
      by_cases hb : best < 0
      · exact absurd ⟨hx, h0, .inl hb⟩ hn
      · refine ⟨by omega, ?_⟩
        apply Classical.byContradiction
        intro hlt
        exact hn ⟨hx, h0, .inr (by omega)⟩
    · exact h3 a (by omega) hx h0

theorem MinP.take {n : Nat} {p : Int} {o : List Int} {best : Int} {j : Nat} (h : MinP n p o best j) (hb : beginsB n p j = true) (h0 : 0 ≤ o.getD j 0) (hn : best < 0 ∨ o.getD j 0 < best) : MinP n p o (o.getD j 0) (j + 1) := by
  obtain ⟨h1, h2, h3⟩ := h
  refine ⟨by omega, fun _ => ⟨j, by omega, hb, rfl⟩, fun a ha hx h0' => ?_⟩
  by_cases e : a = j
  · subst e; omega
  · have := h3 a (by omega) hx h0'; omega

theorem best_of_far {o : List Int} {best : Int} (hl : ∀ a, a < n * n → (graph n s p own emp).Least a (tabN o a)) (h : MinP n p o best (n * n)) :
    Best n s p own emp (if 0 ≤ best then some best.toNat else none) := by
  obtain ⟨h1, h2, h3⟩ := h
  by_cases hb : 0 ≤ best
  · rw [if_pos hb]
    obtain ⟨a, ha, hx, e⟩ := h2 hb
    refine ⟨⟨a, ha, hx, ?_⟩, ?_⟩
    · have := hl a ha
      unfold tabN at this
      rw [e, if_pos hb] at this
      exact this
    · intro a' d ha' hx' hd
      have h5 := Graph.least_unique (hl a' ha') hd
      unfold tabN at h5
      split at h5
      · rename_i h0
        injection h5 with h5
        have := h3 a' ha' hx' h0
        omega
      · cases h5
  · rw [if_neg hb]
    intro a ha hx
    have h4 := hl a ha
    unfold tabN at h4
    split at h4
    · rename_i h0
      have := h3 a ha hx h0
      omega
    · exact h4

/-- The first place with the least number not below 0 among the first j places at the first side; -1: there is none. -/
def AtTo (n : Nat) (p : Int) (o : List Int) (at_ : Int) (j : Nat) : Prop :=
  (at_ = -1 ∧ ∀ a, a < j → beginsB n p a = true → o.getD a 0 < 0) ∨
  ∃ t : Nat, at_ = t ∧ t < j ∧ beginsB n p t = true ∧ 0 ≤ o.getD t 0 ∧ (∀ a, a < j → beginsB n p a = true → 0 ≤ o.getD a 0 → o.getD t 0 ≤ o.getD a 0) ∧
    ∀ a, a < t → beginsB n p a = true → 0 ≤ o.getD a 0 → o.getD t 0 < o.getD a 0

theorem AtTo.start (n : Nat) (p : Int) (o : List Int) : AtTo n p o (-1) 0 := .inl ⟨rfl, fun a ha => by omega⟩

theorem AtTo.keepNo {n : Nat} {p : Int} {o : List Int} {at_ : Int} {j : Nat} (h : AtTo n p o at_ j) (hn : ¬ (beginsB n p j = true ∧ 0 ≤ o.getD j 0)) : AtTo n p o at_ (j + 1) := by
  rcases h with ⟨e, h⟩ | ⟨t, e, ht, h1, h2, h3, h4⟩
  · refine .inl ⟨e, fun a ha hx => ?_⟩
    by_cases ea : a = j
    · subst ea
      apply Classical.byContradiction
      intro hc
      exact hn ⟨hx, by omega⟩
    · exact h a (by omega) hx
  · refine .inr ⟨t, e, by omega, h1, h2, fun a ha hx h0 => ?_, h4⟩
    by_cases ea : a = j
    · subst ea; exact absurd ⟨hx, h0⟩ hn
    · exact h3 a (by omega) hx h0

theorem AtTo.keepLe {n : Nat} {p : Int} {o : List Int} {t j : Nat} (h : AtTo n p o t j) (hn : o.getD t 0 ≤ o.getD j 0) : AtTo n p o t (j + 1) := by
  rcases h with ⟨e, h⟩ | ⟨t', e, ht, h1, h2, h3, h4⟩
  · omega
  · obtain rfl : t = t' := by omega
    refine .inr ⟨t, rfl, by omega, h1, h2, fun a ha hx h0 => ?_, h4⟩
    by_cases ea : a = j
    · subst ea; exact hn
    · exact h3 a (by omega) hx h0

theorem AtTo.first {n : Nat} {p : Int} {o : List Int} {at_ : Int} {j : Nat} (h : AtTo n p o at_ j) (he : at_ < 0) (hb : beginsB n p j = true) (h0 : 0 ≤ o.getD j 0) : AtTo n p o j (j + 1) := by
  rcases h with ⟨e, h⟩ | ⟨t', e, ht, _⟩
  · refine .inr ⟨j, rfl, by omega, hb, h0, fun a ha hx h0' => ?_, fun a ha hx h0' => ?_⟩
    · by_cases ea : a = j
      · subst ea; exact Int.le_refl _
      · have := h a (by omega) hx; omega
    · have := h a (by omega) hx; omega
  · omega

theorem AtTo.better {n : Nat} {p : Int} {o : List Int} {t j : Nat} (h : AtTo n p o t j) (hb : beginsB n p j = true) (h0 : 0 ≤ o.getD j 0) (hlt : o.getD j 0 < o.getD t 0) : AtTo n p o j (j + 1) := by
  rcases h with ⟨e, h⟩ | ⟨t', e, ht, h1, h2, h3, h4⟩
  · omega
  · obtain rfl : t = t' := by omega
    refine .inr ⟨j, rfl, by omega, hb, h0, fun a ha hx h0' => ?_, fun a ha hx h0' => ?_⟩
    · by_cases ea : a = j
      · subst ea; exact Int.le_refl _
      · have := h3 a (by omega) hx h0'; omega
    · have := h3 a (by omega) hx h0'; omega

/-- In the program's table the place a costs d. -/
theorem least_tabN {o : List Int} (hl : ∀ a, a < n * n → (graph n s p own emp).Least a (tabN o a)) {a : Nat} (ha : a < n * n) (d : Nat) : (graph n s p own emp).Least a (some d) ↔ o.getD a 0 = d := by
  have h := hl a ha
  unfold tabN at h
  constructor
  · intro k
    have e := Graph.least_unique h k
    split at e
    · injection e with e; omega
    · cases e
  · intro e
    rw [if_pos (by omega)] at h
    have : (o.getD a 0).toNat = d := by omega
    rw [this] at h
    exact h

theorem at_none {o : List Int} (hl : ∀ a, a < n * n → (graph n s p 1 1000).Least a (tabN o a)) {at_ : Int} (h : AtTo n p o at_ (n * n)) (hneg : at_ < 0) : Short n s p [] := by
  rcases h with ⟨e, h⟩ | ⟨t, e, _⟩
  · refine ⟨none, fun a ha hx => ?_, rfl⟩
    have h4 := hl a ha
    unfold tabN at h4
    rw [if_neg (by have := h a ha hx; omega)] at h4
    exact h4
  · omega

theorem at_some {o : List Int} (hl : ∀ a, a < n * n → (graph n s p 1 1000).Least a (tabN o a)) {t : Nat} (h : AtTo n p o t (n * n)) :
    t < n * n ∧ ∃ k : Nat, o.getD t 0 = k ∧ Best n s p 1 1000 (some k) ∧ Lead n s p k [t] := by
  rcases h with ⟨e, _⟩ | ⟨t', e, ht, h1, h2, h3, h4⟩
  · omega
  · obtain rfl : t = t' := by omega
    refine ⟨ht, (o.getD t 0).toNat, by omega, ⟨⟨t, ht, h1, (least_tabN hl ht _).2 (by omega)⟩, fun a d ha hx hd => ?_⟩, ?_⟩
    · have := (least_tabN hl ha d).1 hd
      have := h3 a ha hx (by omega)
      omega
    · have hf : Fits n s p (o.getD t 0).toNat [] ([] : List Nat).length t := ⟨(least_tabN hl ht _).2 (by show o.getD t 0 = (((o.getD t 0).toNat - 0 : Nat) : Int); omega), .inl ⟨rfl, h1⟩⟩
      have := lead_snoc (lead_nil n s p (o.getD t 0).toNat) ht hf (by
        intro a' ha' hf'
        obtain ⟨q1, q2 | ⟨b, q2, _⟩⟩ := hf'
        · have e1 := (least_tabN hl (show a' < n * n by omega) _).1 q1
          have := h4 a' ha' q2.2 (by omega)
          have e2 : o.getD a' 0 = (((o.getD t 0).toNat - 0 : Nat) : Int) := e1
          omega
        · simp at q2)
      simpa using this

/-- The next place of the bridge: the first neighbour whose number is one less. -/
theorem lead_next {o : List Int} (hl : ∀ a, a < n * n → (graph n s p 1 1000).Least a (tabN o a)) {k : Nat} {l : List Nat} {t : Nat} (h : Lead n s p k l) (ht : l[l.length - 1]? = some t) (h0 : 0 < l.length)
    (hk : l.length < k) {L : List Int} (hL : ∀ x : Int, x ∈ L ↔ 0 ≤ x ∧ x < (n * n : Nat) ∧ nearB n t x = true) (hs : L.Pairwise fun x y => x ≤ y) {i j : Nat} (hi : L[i]? = some (j : Int))
    (hj : o.getD j 0 = (k : Int) - l.length) (hno : ∀ x, x ∈ L.take i → o.getD x.toNat 0 ≠ (k : Int) - l.length) : j < n * n ∧ Lead n s p k (l ++ [j]) := by
  obtain ⟨j0, jN, jn⟩ := (hL j).1 (List.mem_of_getElem? hi)
  have hjN : j < n * n := by omega
  refine ⟨hjN, lead_snoc h hjN ⟨(least_tabN hl hjN _).2 (by omega), .inr ⟨t, h0, ht, jn⟩⟩ ?_⟩
  intro a' ha' hf'
  obtain ⟨q1, q2 | ⟨b, q2, q3, q4⟩⟩ := hf'
  · omega
  · rw [ht] at q3
    injection q3 with q3
    subst q3
    have haN : a' < n * n := by omega
    have e1 := (least_tabN hl haN _).1 q1
    have hm : (a' : Int) ∈ L := (hL a').2 ⟨by omega, by omega, q4⟩
    obtain ⟨i', hi'⟩ := List.getElem?_of_mem hm
    by_cases hlt : i' < i
    · have hm' : (a' : Int) ∈ L.take i := by
        have : (L.take i)[i']? = some (a' : Int) := by rw [List.getElem?_take, if_pos hlt]; exact hi'
        exact List.mem_of_getElem? this
      have := hno _ hm'
      simp only [Int.toNat_natCast] at this
      omega
    · by_cases he : i' = i
      · subst he
        rw [hi] at hi'
        injection hi' with hi'
        omega
      · have hl1 : i < L.length := (List.getElem?_eq_some_iff.1 hi).1
        have hl2 : i' < L.length := (List.getElem?_eq_some_iff.1 hi').1
        have := List.pairwise_iff_getElem.1 hs i i' hl1 hl2 (by omega)
        have e2 := (List.getElem?_eq_some_iff.1 hi).2
        have e3 := (List.getElem?_eq_some_iff.1 hi').2
        omega

/-- Some neighbour's number is one less. -/
theorem next_some {o : List Int} (hl : ∀ a, a < n * n → (graph n s p 1 1000).Least a (tabN o a)) {k : Nat} {l : List Nat} {t : Nat} (hb : Best n s p 1 1000 (some k)) (h : Lead n s p k l) (ht : l[l.length - 1]? = some t) (h0 : 0 < l.length)
    (hk : l.length < k) {L : List Int} (hL : ∀ x : Int, x ∈ L ↔ 0 ≤ x ∧ x < (n * n : Nat) ∧ nearB n t x = true) : ∃ x, x ∈ L ∧ o.getD x.toNat 0 = (k : Int) - l.length := by
  obtain ⟨a, ha, hf⟩ := fits_some hb h hk
  obtain ⟨q1, q2 | ⟨b, q2, q3, q4⟩⟩ := hf
  · omega
  · rw [ht] at q3
    injection q3 with q3
    subst q3
    have e1 := (least_tabN hl ha _).1 q1
    exact ⟨a, (hL a).2 ⟨by omega, by omega, q4⟩, by simp only [Int.toNat_natCast]; omega⟩

end Go.Proofs.YtpbiminbhihjnaaDoor
