/-
  What the answers of Needs, Winner and Wins say of one another: full boards, a stone more, boards flipped, games; no walk.
-/
import Derived.Test.YtpbiminbhihjnaaDoorHexa
import Derived.Test.YtpbiminbhihjnaaDoorRunJ
namespace Go.Proofs.YtpbiminbhihjnaaDoor
open Dist
set_option linter.unusedSimpArgs false
set_option linter.unusedVariables false

theorem full_byte {s : ByteArray} (h : okBytes false s s.size = true) {a : Nat} (ha : a < s.size) : bt s a = 120 ∨ bt s a = 111 := by
  rcases okBytes_at h a ha with h | h | ⟨_, h⟩
  · exact .inl h
  · exact .inr h
  · cases h

theorem cost_own {s : ByteArray} {p own emp : Int} {a : Nat} (h : bt s a = p) : costI s p own emp a = own := by unfold costI; rw [if_pos h]
theorem cost_emp {s : ByteArray} {p own emp : Int} {a : Nat} (h : bt s a = 46) (hp : p ≠ 46) : costI s p own emp a = emp := by unfold costI; rw [if_neg (by omega), if_pos h]
theorem cost_far {s : ByteArray} {p own emp : Int} {a : Nat} (h : bt s a ≠ 46) (hp : bt s a ≠ p) : costI s p own emp a = 1000 := by unfold costI; rw [if_neg hp, if_neg h]

/-- A full board: somebody has a bridge. -/
theorem hex_nobody {n : Int} {s : ByteArray} (h : boardErr n s false = 0) : ¬ WhoIs n.toNat s 0 := by
  obtain ⟨m, rfl, h1, h2, h3, h4⟩ := board_ok h
  rw [Int.toNat_natCast]
  intro hw
  have hs : Short m s 120 [] ∧ Short m s 111 [] := by
    rcases hw with ⟨l, _, _, e⟩ | ⟨_, l, _, _, e⟩ | ⟨a, b, _⟩
    · cases e
    · cases e
    · exact ⟨a, b⟩
  rcases some_one (n := m) (s := s) (o1 := 1) (e1 := 1000) (o2 := 1) (e2 := 1000) h1 (fun a ha => by
    rcases full_byte h4 (a := a) (by omega) with e | e
    · left; rw [cost_own e]; omega
    · right; rw [cost_own e]; omega) with k | k
  · exact short_nil hs.1 k
  · exact short_nil hs.2 k

/-- x and o do not both have a bridge of their own stones, and x's ways over empty hexagons and a bridge of o's do not both exist; nor the other way round. -/
theorem own_both {n : Nat} {s : ByteArray} (hn : 1 ≤ n) : ¬ (Bridged n s 120 1 1000 ∧ Bridged n s 111 1 1000) := not_both hn fun a _ => by
  rintro ⟨h, k⟩
  unfold costI at h k
  split at h
  · split at k <;> omega
  · split at h <;> omega
theorem own_any {n : Nat} {s : ByteArray} (hn : 1 ≤ n) : ¬ (Bridged n s 120 1 1000 ∧ Bridged n s 111 0 1) := not_both hn fun a _ => by
  rintro ⟨h, k⟩
  unfold costI at h k
  split at h
  · split at k
    · omega
    · split at k <;> omega
  · split at h <;> omega
theorem any_own {n : Nat} {s : ByteArray} (hn : 1 ≤ n) : ¬ (Bridged n s 120 0 1 ∧ Bridged n s 111 1 1000) := not_both hn fun a _ => by
  rintro ⟨h, k⟩
  unfold costI at h k
  split at k
  · split at h
    · omega
    · split at h <;> omega
  · split at k <;> omega

theorem own_to_any {n : Nat} {s : ByteArray} {p : Int} (h : Bridged n s p 1 1000) : Bridged n s p 0 1 := bridged_mono (fun a _ h => by
  unfold costI at *
  split at h
  · omega
  · split at h <;> omega) h

theorem who_x {n : Nat} {s : ByteArray} (hn : 1 ≤ n) : WhoIs n s 120 ↔ Bridged n s 120 1 1000 := by
  constructor
  · rintro (⟨l, h, hl, _⟩ | ⟨_, l, _, _, e⟩ | ⟨_, _, e⟩)
    · exact short_bridged h hl
    · cases e
    · cases e
  · intro h
    obtain ⟨r, hr⟩ := best_exists n s 120 1 1000
    cases r with
    | none => exact absurd h (best_none.1 hr)
    | some k =>
      obtain ⟨l, hl, hL⟩ : ∃ l, l.length = k ∧ Lead n s 120 k l := by
        have key : ∀ i, i ≤ k → ∃ l, l.length = i ∧ Lead n s 120 k l := by
          intro i
          induction i with
          | zero => exact fun _ => ⟨[], rfl, lead_nil n s 120 k⟩
          | succ i ih =>
            intro hi
            obtain ⟨l, hl, hL⟩ := ih (by omega)
            have hex := fits_some hr hL (by omega)
            have hmin : ∀ m, (∃ a, a ≤ m ∧ a < n * n ∧ Fits n s 120 k l l.length a) → ∃ a, a < n * n ∧ Fits n s 120 k l l.length a ∧ ∀ a', a' < a → ¬ Fits n s 120 k l l.length a' := by
              intro m
              induction m with
              | zero =>
                rintro ⟨a, h1, h2, h3⟩
                exact ⟨a, h2, h3, fun a' ha' => by omega⟩
              | succ m ihm =>
                rintro ⟨a, h1, h2, h3⟩
                by_cases hlt : ∃ a, a ≤ m ∧ a < n * n ∧ Fits n s 120 k l l.length a
                · exact ihm hlt
                · exact ⟨a, h2, h3, fun a' ha' hf => hlt ⟨a', by omega, by omega, hf⟩⟩
            obtain ⟨a, ha, hf⟩ := hex
            obtain ⟨a, ha, hf, hm⟩ := hmin a ⟨a, Nat.le_refl _, ha, hf⟩
            exact ⟨l ++ [a], by simp [hl], lead_snoc hL ha hf hm⟩
        exact key k (Nat.le_refl k)
      refine .inl ⟨l, ⟨some k, hr, hl, hL⟩, ?_, rfl⟩
      rintro rfl
      have hk : k = 0 := hl.symm
      subst hk
      exact short_nil ⟨some 0, hr, rfl, hL⟩ h

/-- Each player has a first shortest bridge, or none. -/
theorem short_exists (n : Nat) (s : ByteArray) (p : Int) : ∃ l, Short n s p l := by
  obtain ⟨r, hr⟩ := best_exists n s p 1 1000
  cases r with
  | none => exact ⟨[], none, hr, rfl⟩
  | some k =>
    have key : ∀ i, i ≤ k → ∃ l, l.length = i ∧ Lead n s p k l := by
      intro i
      induction i with
      | zero => exact fun _ => ⟨[], rfl, lead_nil n s p k⟩
      | succ i ih =>
        intro hi
        obtain ⟨l, hl, hL⟩ := ih (by omega)
        have hex := fits_some hr hL (by omega)
        have hmin : ∀ m, (∃ a, a ≤ m ∧ a < n * n ∧ Fits n s p k l l.length a) → ∃ a, a < n * n ∧ Fits n s p k l l.length a ∧ ∀ a', a' < a → ¬ Fits n s p k l l.length a' := by
          intro m
          induction m with
          | zero =>
            rintro ⟨a, h1, h2, h3⟩
            exact ⟨a, h2, h3, fun a' ha' => by omega⟩
          | succ m ihm =>
            rintro ⟨a, h1, h2, h3⟩
            by_cases hlt : ∃ a, a ≤ m ∧ a < n * n ∧ Fits n s p k l l.length a
            · exact ihm hlt
            · exact ⟨a, h2, h3, fun a' ha' hf => hlt ⟨a', by omega, by omega, hf⟩⟩
        obtain ⟨a, ha, hf⟩ := hex
        obtain ⟨a, ha, hf, hm⟩ := hmin a ⟨a, Nat.le_refl _, ha, hf⟩
        exact ⟨l ++ [a], by simp [hl], lead_snoc hL ha hf hm⟩
    obtain ⟨l, hl, hL⟩ := key k (Nat.le_refl k)
    exact ⟨l, some k, hr, hl, hL⟩

theorem short_of {n : Nat} {s : ByteArray} {p : Int} (h : Bridged n s p 1 1000) : ∃ l, Short n s p l ∧ l ≠ [] := by
  obtain ⟨l, hl⟩ := short_exists n s p
  refine ⟨l, hl, ?_⟩
  rintro rfl
  exact short_nil hl h

theorem short_none {n : Nat} {s : ByteArray} {p : Int} (h : ¬ Bridged n s p 1 1000) : Short n s p [] := by
  obtain ⟨l, hl⟩ := short_exists n s p
  cases l with
  | nil => exact hl
  | cons a l => exact absurd (short_bridged hl (by simp)) h

theorem who_o {n : Nat} {s : ByteArray} (hn : 1 ≤ n) : WhoIs n s 111 ↔ Bridged n s 111 1 1000 := by
  constructor
  · rintro (⟨l, h, hl, e⟩ | ⟨_, l, h, hl, _⟩ | ⟨_, _, e⟩)
    · cases e
    · exact short_bridged h hl
    · cases e
  · intro h
    obtain ⟨l, hl, hne⟩ := short_of h
    exact .inr (.inl ⟨short_none fun k => own_both hn ⟨k, h⟩, l, hl, hne, rfl⟩)

theorem who_of {n : Nat} {s : ByteArray} {p : Int} (hn : 1 ≤ n) (hp : p = 120 ∨ p = 111) : WhoIs n s p ↔ Bridged n s p 1 1000 := by
  rcases hp with rfl | rfl
  · exact who_x hn
  · exact who_o hn

theorem who_exists (n : Nat) (s : ByteArray) : ∃ r, WhoIs n s r := by
  by_cases h : Bridged n s 120 1 1000
  · obtain ⟨l, hl, hne⟩ := short_of h
    exact ⟨120, .inl ⟨l, hl, hne, rfl⟩⟩
  · by_cases k : Bridged n s 111 1 1000
    · obtain ⟨l, hl, hne⟩ := short_of k
      exact ⟨111, .inr (.inl ⟨short_none h, l, hl, hne, rfl⟩)⟩
    · exact ⟨0, .inr (.inr ⟨short_none h, short_none k, rfl⟩)⟩

/-- On cheaper hexagons the least cost is not greater. -/
theorem best_le {n : Nat} {s t : ByteArray} {p own emp own' emp' : Int} {k : Nat} (h : ∀ a, a < n * n → costI s p own emp a < 1000 → 0 ≤ costI t p own' emp' a ∧ costI t p own' emp' a ≤ costI s p own emp a)
    (hb : Best n s p own emp (some k)) : ∃ k', k' ≤ k ∧ Best n t p own' emp' (some k') := by
  obtain ⟨⟨a, l, hb, hw, hp⟩, _⟩ := best_some.1 hb
  have key : ∀ (l : List Nat) (a : Nat), (graph n s p own emp).Way (a :: l) → (graph n t p own' emp').Way (a :: l) ∧ (graph n t p own' emp').price (a :: l) ≤ (graph n s p own emp).price (a :: l) := by
    have one : ∀ a, a < n * n → costI s p own emp a < 1000 → ((graph n t p own' emp').cost a).getD 0 ≤ ((graph n s p own emp).cost a).getD 0 := by
      intro a ha hc
      have := h a ha hc
      simp only [graph]
      rw [if_pos hc, if_pos (by omega)]
      simp only [Option.getD_some]
      omega
    intro l
    induction l with
    | nil =>
      intro a hw
      obtain ⟨h1, h2, h3⟩ := Graph.way_one.1 hw
      have hc := (cost_isSome a).1 h2
      refine ⟨Graph.way_one.2 ⟨h1, (cost_isSome a).2 (by have := h a h1 hc; omega), h3⟩, ?_⟩
      show _ + 0 ≤ _ + 0
      exact one a h1 hc
    | cons b l ih =>
      intro a hw
      obtain ⟨h1, h2, h3, h4⟩ := Graph.way_cons.1 hw
      have hc := (cost_isSome a).1 h2
      obtain ⟨i1, i2⟩ := ih b h4
      refine ⟨Graph.way_cons.2 ⟨h1, (cost_isSome a).2 (by have := h a h1 hc; omega), h3, i1⟩, ?_⟩
      show _ + _ ≤ _ + _
      exact Nat.add_le_add (one a h1 hc) i2
  obtain ⟨w1, w2⟩ := key l a hw
  obtain ⟨k', hk'⟩ := best_is_some (n := n) (s := t) (p := p) (own := own') (emp := emp') ⟨a, l, hb, w1⟩
  have := (best_some.1 hk').2 a l hb w1
  exact ⟨k', by omega, hk'⟩

/-- One stone more of the player's. -/
theorem best_put {n : Nat} {s : ByteArray} {i : Nat} (hi : i < s.size) {k : Nat} (h : Best n s 120 0 1 (some k)) : ∃ k', k' ≤ k ∧ Best n (put s i 120) 120 0 1 (some k') := by
  refine best_le (fun a ha hc => ?_) h
  by_cases e : a = i
  · subst e
    rw [cost_own (s := put s a 120) (by rw [bt_put _ _ _ _ hi, if_pos rfl]; rfl)]
    have : 0 ≤ costI s 120 0 1 a := by unfold costI; split <;> first | omega | (split <;> omega)
    omega
  · have : costI (put s i 120) 120 0 1 a = costI s 120 0 1 a := by
      unfold costI
      rw [bt_put _ _ _ _ hi, if_neg e]
    rw [this]
    unfold costI; split <;> first | omega | (split <;> omega)

theorem bridged_put {n : Nat} {s : ByteArray} {i : Nat} (hi : i < s.size) (h : Bridged n s 120 1 1000) : Bridged n (put s i 120) 120 1 1000 := by
  refine bridged_mono (fun a ha hc => ?_) h
  by_cases e : a = i
  · subst e
    rw [cost_own (s := put s a 120) (by rw [bt_put _ _ _ _ hi, if_pos rfl]; rfl)]
    omega
  · have : costI (put s i 120) 120 1 1000 a = costI s 120 1 1000 a := by
      unfold costI
      rw [bt_put _ _ _ _ hi, if_neg e]
    rw [this]
    exact hc

/-- On a full board: 0 for whoever has a bridge, and no way for the other. -/
theorem full_best {n : Int} {s : ByteArray} (h : boardErr n s false = 0) {p : Int} (hp : p = 120 ∨ p = 111) :
    (Bridged n.toNat s p 1 1000 → Best n.toNat s p 0 1 (some 0)) ∧ (¬ Bridged n.toNat s p 1 1000 → Best n.toNat s p 0 1 none) := by
  obtain ⟨m, rfl, h1, h2, h3, h4⟩ := board_ok h
  rw [Int.toNat_natCast]
  have fb : ∀ a, a < m * m → costI s p 0 1 a < 1000 → bt s a = p := by
    intro a ha hc
    unfold costI at hc
    split at hc
    · assumption
    · rcases full_byte h4 (a := a) (by omega) with e | e
      · split at hc <;> omega
      · split at hc <;> omega
  constructor
  · intro hb
    obtain ⟨k, hk⟩ := best_is_some (own_to_any hb)
    have : k = 0 := by
      obtain ⟨⟨a, l, hb', hw, hpr⟩, _⟩ := best_some.1 hk
      have key : ∀ l : List Nat, (∀ a, a ∈ l → a < m * m ∧ ((graph m s p 0 1).cost a).isSome = true) → (graph m s p 0 1).price l = 0 := by
        intro l
        induction l with
        | nil => exact fun _ => rfl
        | cons a l ih =>
          intro hm
          show _ + _ = 0
          rw [ih fun b hb => hm b (List.mem_cons_of_mem _ hb)]
          obtain ⟨q1, q2⟩ := hm a List.mem_cons_self
          have e := fb a q1 ((cost_isSome a).1 q2)
          simp only [graph]
          rw [cost_own e]
          rfl
      rw [key (a :: l) (Graph.way_mem hw)] at hpr
      exact hpr.symm
    subst this
    exact hk
  · intro hb
    refine best_none.2 fun k => hb (bridged_mono (fun a ha hc => ?_) k)
    rw [cost_own (fb a ha hc)]
    omega

end Go.Proofs.YtpbiminbhihjnaaDoor
