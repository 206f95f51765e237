/-
  Boards with rows, columns and players exchanged; who wins a game, seen from what the players need.
-/
import Derived.Test.YtpbiminbhihjnaaDoorHexB
import Derived.Test.YtpbiminbhihjnaaDoorCerts
namespace Go.Proofs.YtpbiminbhihjnaaDoor
open Dist
set_option linter.unusedSimpArgs false
set_option linter.unusedVariables false

/-- The place of a hexagon when rows and columns are exchanged. -/
def tr (n a : Nat) : Nat := a % n * n + a / n
/-- The byte of a hexagon when the players are exchanged. -/
def fl (x : Int) : Int := if x = 120 then 111 else if x = 111 then 120 else x

theorem tr_at {n a : Nat} (h : a < n * n) : tr n a < n * n ∧ tr n a / n = a % n ∧ tr n a % n = a / n ∧ tr n (tr n a) = a := by
  obtain ⟨h1, h2, h3⟩ := place h
  obtain ⟨q1, q2, q3⟩ := place_back h2 h1
  refine ⟨q1, q2, q3, ?_⟩
  show tr n a % n * n + tr n a / n = a
  have e1 : tr n a % n = a / n := q3
  have e2 : tr n a / n = a % n := q2
  rw [e1, e2]; exact h3

theorem fl_fl (x : Int) : fl (fl x) = x := by
  unfold fl
  split
  · rw [if_neg (by omega), if_pos rfl]; omega
  · split
    · rw [if_pos rfl]; omega
    · rfl

def FlipOf (n : Nat) (s t : ByteArray) : Prop := ∀ a, a < n * n → bt t (tr n a) = fl (bt s a)

theorem FlipOf.symm {n : Nat} {s t : ByteArray} (h : FlipOf n s t) : FlipOf n t s := by
  intro a ha
  obtain ⟨h1, _, _, h4⟩ := tr_at ha
  have := h (tr n a) h1
  rw [h4] at this
  rw [this, fl_fl]

theorem flip_cost {n : Nat} {s t : ByteArray} (h : FlipOf n s t) {p own emp : Int} (hp : p = 120 ∨ p = 111) {a : Nat} (ha : a < n * n) : costI t (231 - p) own emp (tr n a) = costI s p own emp a := by
  unfold costI
  rw [h a ha]
  generalize bt s a = x
  unfold fl
  rcases hp with rfl | rfl <;>
    (by_cases e : x = 120
     · subst e; simp
     · by_cases e' : x = 111
       · subst e'; simp
       · by_cases e2 : x = 46
         · subst e2; simp
         · simp [e, e', e2])

theorem flip_begins {n : Nat} {p : Int} (hp : p = 120 ∨ p = 111) {a : Nat} (ha : a < n * n) : beginsB n (231 - p) (tr n a : Nat) = true ↔ beginsB n p (a : Nat) = true := by
  obtain ⟨h1, h2, h3, _⟩ := tr_at ha
  rcases hp with rfl | rfl
  · rw [show (231 : Int) - 120 = 111 from rfl, begins_o, begins_x ha, h3]
  · rw [show (231 : Int) - 111 = 120 from rfl, begins_o, begins_x h1, h2]

theorem flip_ends {n : Nat} {p : Int} (hn : 1 ≤ n) (hp : p = 120 ∨ p = 111) {a : Nat} (ha : a < n * n) : endsB n (231 - p) (tr n a : Nat) = true ↔ endsB n p (a : Nat) = true := by
  obtain ⟨h1, h2, h3, _⟩ := tr_at ha
  rcases hp with rfl | rfl
  · rw [show (231 : Int) - 120 = 111 from rfl, ends_o hn, ends_x ha, h3]
  · rw [show (231 : Int) - 111 = 120 from rfl, ends_o hn, ends_x h1, h2]

theorem flip_near {n a b : Nat} (ha : a < n * n) (hb : b < n * n) (h : nearB n a b = true) : nearB n (tr n a : Nat) (tr n b : Nat) = true := by
  obtain ⟨_, h2, h3, _⟩ := tr_at ha
  obtain ⟨_, k2, k3, _⟩ := tr_at hb
  rw [near_adj] at h ⊢
  rw [h2, h3, k2, k3]
  exact HexY.Adj.swap h

theorem flip_way {n : Nat} {s t : ByteArray} (hn : 1 ≤ n) (h : FlipOf n s t) {p own emp : Int} (hp : p = 120 ∨ p = 111) : ∀ (l : List Nat) (a : Nat), (graph n s p own emp).Way (a :: l) →
    (graph n t (231 - p) own emp).Way (tr n a :: l.map (tr n)) ∧ (graph n t (231 - p) own emp).price (tr n a :: l.map (tr n)) = (graph n s p own emp).price (a :: l) := by
  have one : ∀ a, a < n * n → (graph n t (231 - p) own emp).cost (tr n a) = (graph n s p own emp).cost a := by
    intro a ha
    simp only [graph]
    rw [flip_cost h hp ha]
  intro l
  induction l with
  | nil =>
    intro a hw
    obtain ⟨h1, h2, h3⟩ := Graph.way_one.1 hw
    refine ⟨Graph.way_one.2 ⟨(tr_at h1).1, by rw [one a h1]; exact h2, (flip_ends hn hp h1).2 h3⟩, ?_⟩
    show (_ : Option Nat).getD 0 + 0 = (_ : Option Nat).getD 0 + 0
    rw [one a h1]
  | cons b l ih =>
    intro a hw
    obtain ⟨h1, h2, h3, h4⟩ := Graph.way_cons.1 hw
    obtain ⟨i1, i2⟩ := ih b h4
    refine ⟨Graph.way_cons.2 ⟨(tr_at h1).1, by rw [one a h1]; exact h2, flip_near h1 (way_lt h4) h3, i1⟩, ?_⟩
    show (_ : Option Nat).getD 0 + _ = (_ : Option Nat).getD 0 + _
    rw [one a h1]
    exact congrArg _ i2

theorem flip_back {p : Int} : 231 - (231 - p) = p := by omega

theorem flip_bridged {n : Nat} {s t : ByteArray} (hn : 1 ≤ n) (h : FlipOf n s t) {p own emp : Int} (hp : p = 120 ∨ p = 111) (hb : Bridged n s p own emp) : Bridged n t (231 - p) own emp := by
  obtain ⟨a, l, h1, h2⟩ := hb
  exact ⟨_, _, (flip_begins hp (way_lt h2)).2 h1, (flip_way hn h hp l a h2).1⟩

theorem flip_best {n : Nat} {s t : ByteArray} (hn : 1 ≤ n) (h : FlipOf n s t) {p own emp : Int} (hp : p = 120 ∨ p = 111) {r : Option Nat} (hb : Best n s p own emp r) : Best n t (231 - p) own emp r := by
  have hp' : (231 - p = 120 ∨ 231 - p = 111) := by omega
  cases r with
  | none =>
    refine best_none.2 fun k => best_none.1 hb ?_
    have := flip_bridged hn h.symm hp' k
    rw [flip_back] at this
    exact this
  | some k =>
    obtain ⟨⟨a, l, h1, h2, h3⟩, hall⟩ := best_some.1 hb
    refine best_some.2 ⟨⟨_, _, (flip_begins hp (way_lt h2)).2 h1, (flip_way hn h hp l a h2).1, (flip_way hn h hp l a h2).2.trans h3⟩, fun b m k1 k2 => ?_⟩
    obtain ⟨q1, q2⟩ := flip_way hn h.symm hp' m b k2
    have q3 := (flip_begins hp' (way_lt k2)).2 k1
    rw [flip_back] at q1 q2 q3
    have := hall _ _ q3 q1
    omega

theorem flip_who {n : Nat} {s t : ByteArray} (hn : 1 ≤ n) (h : FlipOf n s t) {p : Int} (hp : p = 120 ∨ p = 111) (hw : WhoIs n s p) : WhoIs n t (231 - p) :=
  (who_of hn (by omega)).2 (flip_bridged hn h hp ((who_of hn hp).1 hw))

theorem flip_short {n : Nat} {s t : ByteArray} (hn : 1 ≤ n) (h : FlipOf n s t) {p : Int} (hp : p = 120 ∨ p = 111) {l l' : List Nat} (hs : Short n s p l) (ht : Short n t (231 - p) l') : l.length = l'.length := by
  obtain ⟨r, hr, hs⟩ := hs
  obtain ⟨r', hr', ht⟩ := ht
  have := best_unique hr' (flip_best hn h hp hr)
  subst this
  cases r' with
  | none =>
    have e1 : l = [] := hs
    have e2 : l' = [] := ht
    rw [e1, e2]
  | some k => rw [hs.1, ht.1]

/-- A board of stones and empty hexagons. -/
def Good3 (n : Nat) (s : ByteArray) : Prop := s.size = n * n ∧ ∀ a, a < n * n → bt s a = 120 ∨ bt s a = 111 ∨ bt s a = 46

theorem good3_of {n : Nat} {s : ByteArray} (h : boardErr n s true = 0) : Good3 n s := by
  obtain ⟨m, e, h1, h2, h3, h4⟩ := board_ok h
  obtain rfl : n = m := by omega
  refine ⟨h3, fun a ha => ?_⟩
  rcases okBytes_at h4 a (by omega) with e | e | ⟨e, _⟩
  · exact .inl e
  · exact .inr (.inl e)
  · exact .inr (.inr e)

theorem Good3.put_ {n : Nat} {s : ByteArray} (h : Good3 n s) {k : Nat} (hk : k < n * n) {who : Int} (hw : who = 120 ∨ who = 111) : Good3 n (put s k (pb who)) := by
  refine ⟨by rw [put_size]; exact h.1, fun a ha => ?_⟩
  rw [bt_put _ _ _ _ (by rw [h.1]; exact hk)]
  split
  · rw [pb_val hw]; rcases hw with e | e
    · exact .inl e
    · exact .inr (.inl e)
  · exact h.2 a ha

/-- An empty hexagon filled by who: what it costs p then. -/
theorem put_cost {n : Nat} {s : ByteArray} (h : Good3 n s) {k : Nat} (hk : k < n * n) {who : Int} (hw : who = 120 ∨ who = 111) {p own emp : Int} {a : Nat} : costI (put s k (pb who)) p own emp a = if a = k then (if who = p then own else 1000) else costI s p own emp a := by
  unfold costI
  rw [bt_put _ _ _ _ (by rw [h.1]; exact hk), pb_val hw]
  by_cases e : a = k
  · rw [if_pos e, if_pos e]
    split
    · rfl
    · rw [if_neg (by omega)]
  · rw [if_neg e, if_neg e]

/-- Where the other player has no way left, p wins. -/
theorem plays_sure {n : Nat} {s : ByteArray} {who v : Int} (hn : 1 ≤ n) (hn11 : n ≤ 11) (h : Plays n s who v) {p : Int} (hp : p = 120 ∨ p = 111) (hw : who = 120 ∨ who = 111) (hg : Good3 n s) (hb : ¬ Bridged n s (231 - p) 0 1) : v = p := by
  have q : 231 - p = 120 ∨ 231 - p = 111 := by omega
  have sub : ∀ (s : ByteArray) (who : Int) (k : Nat), Good3 n s → (who = 120 ∨ who = 111) → k < n * n → bt s k = 46 → ¬ Bridged n s (231 - p) 0 1 → ¬ Bridged n (put s k (pb who)) (231 - p) 0 1 := by
    intro s who k hg hw hk hd hb h
    refine hb (bridged_mono (fun a ha hc => ?_) h)
    rw [put_cost hg hk hw] at hc
    by_cases e : a = k
    · subst e
      rw [cost_emp hd (by omega)]
      omega
    · rw [if_neg e] at hc
      exact hc
  induction h with
  | won s who r hw' hr =>
    rcases who_two hw' hr with rfl | rfl
    · rcases hp with rfl | rfl
      · rfl
      · exact absurd (own_to_any ((who_x hn).1 hw')) hb
    · rcases hp with rfl | rfl
      · exact absurd (own_to_any ((who_o hn).1 hw')) hb
      · rfl
  | good s who k h0 hk hd hpl ih => exact ih (by omega) (hg.put_ hk hw) (sub s who k hg hw hk hd hb)
  | bad s who h0 hall ih =>
    by_cases hex : ∃ k, k < n * n ∧ bt s k = 46
    · obtain ⟨k, hk, hd⟩ := hex
      exact ih k hk hd (by omega) (hg.put_ hk hw) (sub s who k hg hw hk hd hb)
    · exfalso
      have hf : boardErr (n : Int) s false = 0 := by
        unfold boardErr
        rw [if_neg (by omega), if_neg (by rw [hg.1]; simp), if_pos]
        unfold okBytes
        rw [List.all_eq_true]
        intro c hc
        rw [List.take_of_length_le (by simp)] at hc
        obtain ⟨i, hi, rfl⟩ := List.getElem_of_mem hc
        have hi' : i < s.size := by simpa using hi
        have e : bt s i = ((s.data.toList[i].toNat : Nat) : Int) := by rw [← bt_eq s i hi']; rfl
        have hi2 : i < n * n := by rw [← hg.1]; exact hi'
        rcases hg.2 i hi2 with e' | e' | e'
        · unfold okByte; rw [← e, e']; rfl
        · unfold okByte; rw [← e, e']; rfl
        · exact absurd ⟨i, hi2, e'⟩ hex
      have := hex_nobody hf
      rw [Int.toNat_natCast] at this
      exact this h0

theorem plays_bridge {n : Nat} {s : ByteArray} {who v p : Int} (hn : 1 ≤ n) (h : Plays n s who v) (hw : who = 120 ∨ who = 111) (hp : p = 120 ∨ p = 111) (hb : Bridged n s p 1 1000) : v = p :=
  h.unique hw (.won s who p ((who_of hn hp).2 hb) (by omega))

/-- What costs nothing is a bridge of the player's own stones. -/
theorem zero_bridge {n : Nat} {s : ByteArray} {p : Int} (hp : p ≠ 46) (h : Best n s p 0 1 (some 0)) : Bridged n s p 1 1000 := by
  obtain ⟨⟨a, l, hb, hw, hpr⟩, _⟩ := best_some.1 h
  refine ⟨a, l, hb, ?_⟩
  have one : ∀ a, ((graph n s p 0 1).cost a).isSome = true → ((graph n s p 0 1).cost a).getD 0 = 0 → ((graph n s p 1 1000).cost a).isSome = true := by
    intro a h1 h2
    have hc := (cost_isSome a).1 h1
    refine (cost_isSome a).2 ?_
    simp only [graph] at h2
    rw [if_pos hc] at h2
    unfold costI at h2 hc ⊢
    split
    · omega
    · rename_i e
      rw [if_neg e] at h2 hc
      split at hc
      · rename_i e'
        rw [if_pos e'] at h2
        simp at h2
      · omega
  have key : ∀ (l : List Nat) (a : Nat), (graph n s p 0 1).Way (a :: l) → (graph n s p 0 1).price (a :: l) = 0 → (graph n s p 1 1000).Way (a :: l) := by
    intro l
    induction l with
    | nil =>
      intro a hw hpr
      obtain ⟨h1, h2, h3⟩ := Graph.way_one.1 hw
      have hpr' : ((graph n s p 0 1).cost a).getD 0 + 0 = 0 := hpr
      exact Graph.way_one.2 ⟨h1, one a h2 (by omega), h3⟩
    | cons b l ih =>
      intro a hw hpr
      obtain ⟨h1, h2, h3, h4⟩ := Graph.way_cons.1 hw
      have hpr' : ((graph n s p 0 1).cost a).getD 0 + (graph n s p 0 1).price (b :: l) = 0 := hpr
      exact Graph.way_cons.2 ⟨h1, one a h2 (by omega), h3, ih b h4 (by omega)⟩
  exact key l a hw hpr

theorem plays_zero {n : Nat} {s : ByteArray} {who v p : Int} (hn : 1 ≤ n) (h : Plays n s who v) (hw : who = 120 ∨ who = 111) (hp : p = 120 ∨ p = 111) (hb : Best n s p 0 1 (some 0)) : v = p :=
  plays_bridge hn h hw hp (zero_bridge (by omega) hb)

/-- Who needs just one hexagon, and is next, wins. -/
theorem plays_one {n : Nat} {s : ByteArray} {v p : Int} (hn : 1 ≤ n) (h : Plays n s p v) (hp : p = 120 ∨ p = 111) (hg : Good3 n s) (hb : Best n s p 0 1 (some 1)) : v = p := by
  obtain ⟨r, hr⟩ := who_exists n s
  by_cases h0 : r = 0
  · subst h0
    obtain ⟨⟨a, l, hbg, hw, hpr⟩, _⟩ := best_some.1 hb
    -- an empty hexagon on the way
    have c1 : ∀ a, ((graph n s p 0 1).cost a).isSome = true → (bt s a = p ∧ ((graph n s p 0 1).cost a).getD 0 = 0) ∨ (bt s a = 46 ∧ ((graph n s p 0 1).cost a).getD 0 = 1) := by
      intro a h1
      have hc := (cost_isSome a).1 h1
      simp only [graph]
      rw [if_pos hc]
      unfold costI at hc ⊢
      split
      · rename_i e; exact .inl ⟨e, rfl⟩
      · rename_i e
        rw [if_neg e] at hc
        split
        · rename_i e'; exact .inr ⟨e', rfl⟩
        · rename_i e'; rw [if_neg e'] at hc; omega
    have ex : ∀ l : List Nat, (∀ a, a ∈ l → ((graph n s p 0 1).cost a).isSome = true) → (graph n s p 0 1).price l = 1 → ∃ k, k ∈ l ∧ bt s k = 46 ∧ ∀ a, a ∈ l → bt s a = 46 → a = k := by
      have zero : ∀ l : List Nat, (∀ a, a ∈ l → ((graph n s p 0 1).cost a).isSome = true) → (graph n s p 0 1).price l = 0 → ∀ a, a ∈ l → bt s a ≠ 46 := by
        intro l
        induction l with
        | nil => intro _ _ a ha; cases ha
        | cons b l ih =>
          intro hm hp0 a ha
          have e : ((graph n s p 0 1).cost b).getD 0 + (graph n s p 0 1).price l = 0 := hp0
          rcases List.mem_cons.1 ha with rfl | ha
          · rcases c1 a (hm a List.mem_cons_self) with ⟨e1, _⟩ | ⟨_, e1⟩
            · omega
            · omega
          · exact ih (fun c hc => hm c (List.mem_cons_of_mem _ hc)) (by omega) a ha
      intro l
      induction l with
      | nil => intro _ h1; cases h1
      | cons b l ih =>
        intro hm h1
        have e : ((graph n s p 0 1).cost b).getD 0 + (graph n s p 0 1).price l = 1 := h1
        have hm' : ∀ a, a ∈ l → ((graph n s p 0 1).cost a).isSome = true := fun c hc => hm c (List.mem_cons_of_mem _ hc)
        rcases c1 b (hm b List.mem_cons_self) with ⟨e1, e2⟩ | ⟨e1, e2⟩
        · obtain ⟨k, k1, k2, k3⟩ := ih hm' (by omega)
          refine ⟨k, List.mem_cons_of_mem _ k1, k2, fun a ha hd => ?_⟩
          rcases List.mem_cons.1 ha with rfl | ha
          · omega
          · exact k3 a ha hd
        · refine ⟨b, List.mem_cons_self, e1, fun a ha hd => ?_⟩
          rcases List.mem_cons.1 ha with rfl | ha
          · rfl
          · exact absurd hd (zero l hm' (by omega) a ha)
    have hm := Graph.way_mem hw
    obtain ⟨k, k1, k2, k3⟩ := ex (a :: l) (fun a ha => (hm a ha).2) hpr
    have hk : k < n * n := (hm k k1).1
    have key : ∀ (l : List Nat) (a : Nat), (graph n s p 0 1).Way (a :: l) → (∀ b, b ∈ a :: l → bt s b = 46 → b = k) → (graph n (put s k (pb p)) p 1 1000).Way (a :: l) := by
      have one : ∀ a, a < n * n → ((graph n s p 0 1).cost a).isSome = true → (bt s a = 46 → a = k) → ((graph n (put s k (pb p)) p 1 1000).cost a).isSome = true := by
        intro a ha h1 h2
        refine (cost_isSome a).2 ?_
        rw [put_cost hg hk hp]
        by_cases e : a = k
        · rw [if_pos e, if_pos rfl]; omega
        · rw [if_neg e]
          rcases c1 a h1 with ⟨e1, _⟩ | ⟨e1, _⟩
          · rw [cost_own e1]; omega
          · exact absurd (h2 e1) e
      intro l
      induction l with
      | nil =>
        intro a hw h2
        obtain ⟨q1, q2, q3⟩ := Graph.way_one.1 hw
        exact Graph.way_one.2 ⟨q1, one a q1 q2 (h2 a List.mem_cons_self), q3⟩
      | cons b l ih =>
        intro a hw h2
        obtain ⟨q1, q2, q3, q4⟩ := Graph.way_cons.1 hw
        exact Graph.way_cons.2 ⟨q1, one a q1 q2 (h2 a List.mem_cons_self), q3, ih b q4 fun c hc => h2 c (List.mem_cons_of_mem _ hc)⟩
    have hB : Bridged n (put s k (pb p)) p 1 1000 := ⟨a, l, hbg, key l a hw k3⟩
    exact h.unique hp (.good s p k hr hk k2 (.won _ _ p ((who_of hn hp).2 hB) (by omega)))
  · rcases who_two hr h0 with rfl | rfl
    · have e := h.unique hp (.won s p 120 hr (by omega))
      rcases hp with rfl | rfl
      · exact e
      · exact absurd ⟨(who_x hn).1 hr, best_bridged hb⟩ (own_any hn)
    · have e := h.unique hp (.won s p 111 hr (by omega))
      rcases hp with rfl | rfl
      · exact absurd ⟨best_bridged hb, (who_o hn).1 hr⟩ (any_own hn)
      · exact e

/-- x wins a board, checked: some way of a list is all x, or some move of a list wins, or all of o's moves lose. -/
def gameX (n : Nat) (ways : List (List Nat)) (mv : List Nat) : Nat → ByteArray → Int → Bool
  | 0, _, _ => false
  | f + 1, s, who =>
    (ways.any fun l => wayB n s 120 1 1000 l && (match l with | [] => false | a :: _ => beginsB n 120 (a : Nat))) ||
    (if who = 120 then mv.any fun (k : Nat) => decide (k < n * n) && decide (bt s k = 46) && gameX n ways mv f (put s k 120) 111
     else ((List.range (n * n)).any fun (k : Nat) => decide (bt s k = 46)) && (List.range (n * n)).all fun (k : Nat) => !decide (bt s k = 46) || gameX n ways mv f (put s k 111) 120)

theorem gameX_plays {n : Nat} {W : List (List Nat)} {mv : List Nat} (hn : 1 ≤ n) : ∀ (f : Nat) (s : ByteArray) (who : Int), Good3 n s → (who = 120 ∨ who = 111) → gameX n W mv f s who = true → Plays n s who 120
  | 0, _, _, _, _, h => by cases h
  | f + 1, s, who, hg, hw, h => by
    unfold gameX at h
    rw [Bool.or_eq_true] at h
    rcases h with h | h
    · rw [List.any_eq_true] at h
      obtain ⟨l, _, h⟩ := h
      rw [Bool.and_eq_true] at h
      obtain ⟨h1, h2⟩ := h
      cases l with
      | nil => cases h2
      | cons a l => exact .won s who 120 ((who_x hn).2 ⟨a, l, h2, wayB_way h1⟩) (by omega)
    · obtain ⟨r, hr⟩ := who_exists n s
      by_cases h0 : r = 0
      · subst h0
        split at h
        · rename_i e
          subst e
          rw [List.any_eq_true] at h
          obtain ⟨k, _, h⟩ := h
          simp only [Bool.and_eq_true, decide_eq_true_eq] at h
          obtain ⟨⟨hk, hd⟩, hgx⟩ := h
          exact .good s 120 k hr hk hd (gameX_plays hn f _ _ (hg.put_ hk (.inl rfl)) (.inr rfl) hgx)
        · rename_i e
          obtain rfl : who = 111 := by omega
          simp only [Bool.and_eq_true, List.all_eq_true, List.mem_range, Bool.or_eq_true, Bool.not_eq_true', decide_eq_false_iff_not] at h
          refine .bad s 111 hr fun k hk hd => ?_
          rcases h.2 k hk with h | h
          · exact absurd hd h
          · exact gameX_plays hn f _ _ (hg.put_ hk (.inr rfl)) (.inl rfl) h
      · rcases who_two hr h0 with rfl | rfl
        · exact .won s who 120 hr (by omega)
        · exfalso
          have ob := (who_o hn).1 hr
          have keep : ∀ (k : Nat) (c : Int), k < n * n → bt s k = 46 → (c = 120 ∨ c = 111) → Bridged n (put s k (pb c)) 111 1 1000 := by
            intro k c hk hd hc
            refine bridged_mono (fun a ha hcost => ?_) ob
            rw [put_cost hg hk hc]
            by_cases e : a = k
            · subst e
              rw [cost_emp hd (by omega)] at hcost
              omega
            · rw [if_neg e]; exact hcost
          split at h
          · rename_i e
            subst e
            rw [List.any_eq_true] at h
            obtain ⟨k, _, h⟩ := h
            simp only [Bool.and_eq_true, decide_eq_true_eq] at h
            obtain ⟨⟨hk, hd⟩, hgx⟩ := h
            have := plays_bridge hn (gameX_plays hn f _ _ (hg.put_ hk (.inl rfl)) (.inr rfl) hgx) (.inr rfl) (.inr rfl) (keep k 120 hk hd (.inl rfl))
            cases this
          · rename_i e
            simp only [Bool.and_eq_true, List.all_eq_true, List.mem_range, Bool.or_eq_true, Bool.not_eq_true', decide_eq_false_iff_not, List.any_eq_true, decide_eq_true_eq] at h
            obtain ⟨⟨k, hk, hd⟩, hall⟩ := h
            rcases hall k hk with h | h
            · exact h hd
            · have := plays_bridge hn (gameX_plays hn f _ _ (hg.put_ hk (.inr rfl)) (.inl rfl) h) (.inl rfl) (.inr rfl) (keep k 111 hk hd (.inr rfl))
              cases this

def b1 : ByteArray := ⟨#[46]⟩
def b3 : ByteArray := ⟨#[46, 46, 46, 46, 46, 46, 46, 46, 46]⟩
theorem good_b1 : boardErr 1 b1 true = 0 := by decide +kernel
theorem good_b3 : boardErr 3 b3 true = 0 := by decide +kernel
theorem plays_b1 : Plays 1 b1 120 120 := gameX_plays (by omega) 2 _ _ (good3_of (n := 1) good_b1) (.inl rfl) (show gameX 1 [[0]] [0] 2 b1 120 = true by decide +kernel)
theorem plays_b3 : Plays 3 b3 120 120 := gameX_plays (by omega) 10 _ _ (good3_of (n := 3) good_b3) (.inl rfl) (show gameX 3 [[1, 4, 6], [1, 4, 7], [2, 4, 6], [2, 4, 7]] [4, 1, 2, 6, 7] 10 b3 120 = true by decide +kernel)

end Go.Proofs.YtpbiminbhihjnaaDoor
