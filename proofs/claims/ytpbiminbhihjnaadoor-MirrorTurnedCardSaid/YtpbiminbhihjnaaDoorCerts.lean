/-
  Checked tables of least costs, and checked games, on given boards.
-/
import Derived.Test.YtpbiminbhihjnaaDoorGame

namespace Go.Proofs.YtpbiminbhihjnaaDoor
open Dist
set_option linter.unusedSimpArgs false
set_option linter.unusedVariables false

def costOk (s : ByteArray) (p own emp : Int) (a : Nat) : Bool := decide (costI s p own emp a < 1000)
/-- Is a list a way? -/
def wayB (n : Nat) (s : ByteArray) (p own emp : Int) : List Nat → Bool
  | [] => false
  | a :: l => decide (a < n * n) && costOk s p own emp a && (match l with | [] => endsB n p a | b :: _ => nearB n a b) && (l.isEmpty || wayB n s p own emp l)

theorem wayB_way {n : Nat} {s : ByteArray} {p own emp : Int} : ∀ {l : List Nat}, wayB n s p own emp l = true → (graph n s p own emp).Way l
  | [], h => by simp [wayB] at h
  | a :: l, h => by
    unfold wayB at h
    simp only [Bool.and_eq_true, Bool.or_eq_true, decide_eq_true_eq] at h
    obtain ⟨⟨⟨h1, h2⟩, h3⟩, h4⟩ := h
    refine ⟨h1, ?_, ?_, ?_⟩
    · have : costI s p own emp a < 1000 := of_decide_eq_true h2
      show (if costI s p own emp a < 1000 then some (costI s p own emp a).toNat else none).isSome = true
      rw [if_pos this]; rfl
    · cases l with
      | nil => exact h3
      | cons b l => exact h3
    · rcases h4 with h4 | h4
      · left; simpa using h4
      · right; exact wayB_way h4

def priceB (s : ByteArray) (p own emp : Int) : List Nat → Nat
  | [] => 0
  | a :: l => (if costI s p own emp a < 1000 then (costI s p own emp a).toNat else 0) + priceB s p own emp l

theorem priceB_eq {n : Nat} {s : ByteArray} {p own emp : Int} : ∀ l, (graph n s p own emp).price l = priceB s p own emp l
  | [] => rfl
  | a :: l => by
    show ((graph n s p own emp).cost a).getD 0 + (graph n s p own emp).price l = _
    rw [priceB_eq l, show priceB s p own emp (a :: l) = (if costI s p own emp a < 1000 then (costI s p own emp a).toNat else 0) + priceB s p own emp l from rfl]
    show (if costI s p own emp a < 1000 then some (costI s p own emp a).toNat else none).getD 0 + _ = _
    by_cases h : costI s p own emp a < 1000
    · rw [if_pos h, if_pos h]; rfl
    · rw [if_neg h, if_neg h]; rfl

abbrev WT := List (Option (List Nat))

/-- The lesser way of two. -/
def less2 (s : ByteArray) (p own emp : Int) : Option (List Nat) → Option (List Nat) → Option (List Nat)
  | none, b => b
  | a, none => a
  | some a, some b => if priceB s p own emp b < priceB s p own emp a then some b else some a

def relax (n : Nat) (s : ByteArray) (p own emp : Int) (t : WT) (a : Nat) : WT :=
  if costOk s p own emp a then
    t.set a ((List.range (n * n)).foldl (fun acc (b : Nat) => if nearB n a b then less2 s p own emp acc (((t.getD b none)).map (a :: ·)) else acc) (less2 s p own emp (t.getD a none) (if endsB n p a then some [a] else none)))
  else t
def table (n : Nat) (s : ByteArray) (p own emp : Int) : Nat → WT
  | 0 => List.replicate (n * n) none
  | r + 1 => (List.range (n * n)).foldl (relax n s p own emp) (table n s p own emp r)

def oF (s : ByteArray) (p own emp : Int) (t : WT) (a : Nat) : Int := match t.getD a none with | some l => priceB s p own emp l | none => 1000

/-- Is the table the table of least costs? -/
def checkT (n : Nat) (s : ByteArray) (p own emp : Int) (t : WT) : Bool :=
  (List.range (n * n)).all fun (a : Nat) =>
    (match t.getD a none with | some l => l.head? == some a && wayB n s p own emp l | none => true) && decide (oF s p own emp t a ≤ 1000) &&
    (!costOk s p own emp a || ((!endsB n p a || decide (oF s p own emp t a ≤ costI s p own emp a)) &&
      (List.range (n * n)).all fun (b : Nat) => !nearB n a b || decide (oF s p own emp t a ≤ oF s p own emp t b + costI s p own emp a)))

theorem checkT_least {n : Nat} {s : ByteArray} {p own emp : Int} {t : WT} (hn : n ≤ 11) (hown : 0 ≤ own ∧ own ≤ 1) (hemp : (0 ≤ emp ∧ emp ≤ 1) ∨ emp = 1000) (h : checkT n s p own emp t = true) :
    ∀ a, a < n * n → (graph n s p own emp).Least a (tab (oF s p own emp t) a) := by
  unfold checkT at h
  rw [List.all_eq_true] at h
  have key : ∀ a, a < n * n → (match t.getD a none with | some l => (l.head? == some a) = true ∧ wayB n s p own emp l = true | none => True) ∧ oF s p own emp t a ≤ 1000 ∧
      (costI s p own emp a < 1000 → (endsB n p a = true → oF s p own emp t a ≤ costI s p own emp a) ∧ ∀ b, b < n * n → nearB n a b = true → oF s p own emp t a ≤ oF s p own emp t b + costI s p own emp a) := by
    intro a ha
    have := h a (List.mem_range.2 ha)
    simp only [Bool.and_eq_true, decide_eq_true_eq] at this
    obtain ⟨⟨h1, h2⟩, h3⟩ := this
    refine ⟨?_, h2, fun hc => ?_⟩
    · cases ht : t.getD a none with
      | none => trivial
      | some l => rw [ht] at h1; simpa using h1
    · have hco : costOk s p own emp a = true := decide_eq_true hc
      rw [hco] at h3
      simp only [Bool.not_true, Bool.false_or, Bool.and_eq_true] at h3
      obtain ⟨h4, h5⟩ := h3
      refine ⟨fun he => ?_, fun b hb hnear => ?_⟩
      · rw [he] at h4; simpa using h4
      · rw [List.all_eq_true] at h5
        have := h5 b (List.mem_range.2 hb)
        rw [hnear] at this
        simpa using this
  have h0 : ∀ a, 0 ≤ oF s p own emp t a := by
    intro a
    unfold oF
    split <;> omega
  refine table_least hn hown hemp ?_ (fun a ha => ⟨h0 a, (key a ha).2.1⟩) (fun a ha hc he => ((key a ha).2.2 hc).1 he) (fun a b ha hb hc hnear => ((key a ha).2.2 hc).2 b hb hnear)
  intro a ha k hk
  have h1 := (key a ha).1
  unfold tab at hk
  have ho : oF s p own emp t a = (match t.getD a none with | some l => (priceB s p own emp l : Int) | none => 1000) := rfl
  cases ht : t.getD a none with
  | none => rw [ht] at ho; simp only at ho; rw [ho] at hk; simp at hk
  | some l =>
    rw [ht] at ho h1
    simp only at ho h1
    rw [ho] at hk
    cases l with
    | nil => simp at h1
    | cons x l =>
      have hx : x = a := by simpa using h1.1
      subst hx
      refine ⟨l, wayB_way h1.2, ?_⟩
      rw [priceB_eq]
      split at hk
      · simpa using hk
      · cases hk

def bestB (n : Nat) (s : ByteArray) (p own emp : Int) (t : WT) : Option Nat → Bool
  | none => (List.range (n * n)).all fun (a : Nat) => !beginsB n p a || decide (1000 ≤ oF s p own emp t a)
  | some k => decide (k < 1000) && ((List.range (n * n)).any fun (a : Nat) => beginsB n p a && decide (oF s p own emp t a = k)) && (List.range (n * n)).all fun (a : Nat) => !beginsB n p a || decide ((k : Int) ≤ oF s p own emp t a)

theorem bestB_best {n : Nat} {s : ByteArray} {p own emp : Int} {t : WT} (hn : n ≤ 11) (hown : 0 ≤ own ∧ own ≤ 1) (hemp : (0 ≤ emp ∧ emp ≤ 1) ∨ emp = 1000) (h : checkT n s p own emp t = true) {r : Option Nat} (hb : bestB n s p own emp t r = true) :
    Best n s p own emp r := by
  have hl := checkT_least hn hown hemp h
  have h0 : ∀ a, 0 ≤ oF s p own emp t a := by intro a; unfold oF; split <;> omega
  cases r with
  | none =>
    intro a ha hbeg
    unfold bestB at hb
    rw [List.all_eq_true] at hb
    have := hb a (List.mem_range.2 ha)
    rw [hbeg] at this
    have h1 : 1000 ≤ oF s p own emp t a := by simpa using this
    have h2 := hl a ha
    unfold tab at h2
    rw [if_neg (by omega)] at h2
    exact h2
  | some k =>
    unfold bestB at hb
    simp only [Bool.and_eq_true, List.any_eq_true, List.all_eq_true, decide_eq_true_eq, List.mem_range] at hb
    obtain ⟨⟨hk, a, ha, hbeg, ho⟩, hall⟩ := hb
    have get : ∀ a, a < n * n → oF s p own emp t a < 1000 → (graph n s p own emp).Least a (some (oF s p own emp t a).toNat) := by
      intro a ha hlt
      have h2 := hl a ha
      unfold tab at h2
      rw [if_pos hlt] at h2
      exact h2
    refine ⟨⟨a, ha, hbeg, ?_⟩, ?_⟩
    · have := get a ha (by omega)
      rw [ho] at this
      simpa using this
    · intro a' d ha' hbeg' hd
      have h3 := hall a' ha'
      rw [hbeg'] at h3
      have h3' : (k : Int) ≤ oF s p own emp t a' := by simpa using h3
      by_cases hlt : oF s p own emp t a' < 1000
      · have := Graph.least_unique (get a' ha' hlt) hd
        injection this with this
        omega
      · have h2 := hl a' ha'
        unfold tab at h2
        rw [if_neg hlt] at h2
        have := Graph.least_unique h2 hd
        cases this

def fitsB (n : Nat) (s : ByteArray) (p : Int) (t : WT) (k : Nat) (l : List Nat) (i a : Nat) : Bool :=
  decide (oF s p 1 1000 t a = ((k - i : Nat) : Int)) && ((i == 0 && beginsB n p a) || (decide (0 < i) && match l[i - 1]? with | some b => nearB n b a | none => false))

theorem fitsB_iff {n : Nat} {s : ByteArray} {p : Int} {t : WT} {k : Nat} {l : List Nat} {i a : Nat} (hn : n ≤ 11) (h : checkT n s p 1 1000 t = true) (ha : a < n * n) (hk : k < 1000) : fitsB n s p t k l i a = true ↔ Fits n s p k l i a := by
  have hl := checkT_least hn (by omega) (.inr rfl) h a ha
  have h0 : 0 ≤ oF s p 1 1000 t a := by unfold oF; split <;> omega
  have hle : (graph n s p 1 1000).Least a (some (k - i)) ↔ oF s p 1 1000 t a = ((k - i : Nat) : Int) := by
    unfold tab at hl
    constructor
    · intro hd
      by_cases hlt : oF s p 1 1000 t a < 1000
      · rw [if_pos hlt] at hl
        have := Graph.least_unique hl hd
        injection this with this
        omega
      · rw [if_neg hlt] at hl
        have := Graph.least_unique hl hd
        cases this
    · intro e
      rw [if_pos (by omega), e] at hl
      simpa using hl
  unfold fitsB Fits
  rw [hle]
  simp only [Bool.and_eq_true, Bool.or_eq_true, decide_eq_true_eq, beq_iff_eq]
  refine and_congr_right fun _ => or_congr Iff.rfl ?_
  constructor
  · rintro ⟨h1, h2⟩
    cases e : l[i - 1]? with
    | none => rw [e] at h2; cases h2
    | some b => rw [e] at h2; exact ⟨b, h1, rfl, h2⟩
  · rintro ⟨b, h1, h2, h3⟩
    rw [h2]
    exact ⟨h1, h3⟩

def shortB (n : Nat) (s : ByteArray) (p : Int) (t : WT) (l : List Nat) : Bool :=
  checkT n s p 1 1000 t && match l with
  | [] => bestB n s p 1 1000 t none
  | _ :: _ => bestB n s p 1 1000 t (some l.length) && decide (l.length < 1000) && (List.range l.length).all fun (i : Nat) =>
      match l[i]? with | none => true | some a => decide (a < n * n) && fitsB n s p t l.length l i a && (List.range a).all fun (a' : Nat) => !fitsB n s p t l.length l i a'

theorem shortB_short {n : Nat} {s : ByteArray} {p : Int} {t : WT} {l : List Nat} (hn : n ≤ 11) (h : shortB n s p t l = true) : Short n s p l := by
  unfold shortB at h
  rw [Bool.and_eq_true] at h
  obtain ⟨h1, h2⟩ := h
  cases l with
  | nil => exact ⟨none, bestB_best hn (by omega) (.inr rfl) h1 h2, rfl⟩
  | cons x l =>
    simp only [Bool.and_eq_true, decide_eq_true_eq, List.all_eq_true, List.mem_range] at h2
    obtain ⟨⟨h2, h3⟩, h4⟩ := h2
    refine ⟨some (x :: l).length, bestB_best hn (by omega) (.inr rfl) h1 h2, rfl, ?_⟩
    intro i a hia
    have hi : i < (x :: l).length := (List.getElem?_eq_some_iff.1 hia).1
    have h5 := h4 i hi
    rw [hia] at h5
    simp only [Bool.and_eq_true, decide_eq_true_eq, List.all_eq_true, List.mem_range, Bool.not_eq_true'] at h5
    obtain ⟨⟨h5, h6⟩, h7⟩ := h5
    refine ⟨h5, (fitsB_iff hn h1 h5 h3).1 h6, fun a' ha' hf => ?_⟩
    have := h7 a' ha'
    rw [(fitsB_iff hn h1 (by omega) h3).2 hf] at this
    cases this

end Go.Proofs.YtpbiminbhihjnaaDoor

namespace Go.Proofs.YtpbiminbhihjnaaDoor
open Dist
set_option linter.unusedSimpArgs false
set_option linter.unusedVariables false

def bestF (n : Nat) (s : ByteArray) (p own emp : Int) (t : WT) : Option Nat :=
  (List.range (n * n)).foldl (fun acc (a : Nat) => if beginsB n p a then (match acc, t.getD a none with | none, some l => some (priceB s p own emp l) | some k, some l => some (min k (priceB s p own emp l)) | acc, none => acc) else acc) none
def leadF (n : Nat) (s : ByteArray) (p : Int) (t : WT) (k : Nat) : Nat → List Nat
  | 0 => []
  | i + 1 => match (List.range (n * n)).find? (fun (a : Nat) => fitsB n s p t k (leadF n s p t k i) i a) with
    | some a => leadF n s p t k i ++ [a]
    | none => leadF n s p t k i
def bridgeF (n : Nat) (s : ByteArray) (p : Int) (t : WT) : List Nat := match bestF n s p 1 1000 t with | none => [] | some k => leadF n s p t k k

/-- Who has a bridge, with its own check. -/
def whoF (n : Nat) (s : ByteArray) : Option Int :=
  let tx := table n s 120 1 1000 (n + 1)
  let lx := bridgeF n s 120 tx
  if shortB n s 120 tx lx then
    if lx.isEmpty then
      let to := table n s 111 1 1000 (n + 1)
      let lo := bridgeF n s 111 to
      if shortB n s 111 to lo then (if lo.isEmpty then some 0 else some 111) else none
    else some 120
  else none

theorem whoF_who {n : Nat} {s : ByteArray} {r : Int} (hn : n ≤ 11) (h : whoF n s = some r) : WhoIs n s r := by
  unfold whoF at h
  simp only at h
  split at h
  · rename_i h1
    have S1 := shortB_short hn h1
    split at h
    · rename_i h2
      rw [List.isEmpty_iff] at h2
      rw [h2] at S1
      split at h
      · rename_i h3
        have S2 := shortB_short hn h3
        split at h
        · rename_i h4
          rw [List.isEmpty_iff] at h4
          rw [h4] at S2
          injection h with h
          exact .inr (.inr ⟨S1, S2, h.symm⟩)
        · rename_i h4
          injection h with h
          exact .inr (.inl ⟨S1, _, S2, fun e => h4 (by rw [e]; rfl), h.symm⟩)
      · cases h
    · rename_i h2
      injection h with h
      exact .inl ⟨_, S1, fun e => h2 (by rw [e]; rfl), h.symm⟩
  · cases h

/-- Who wins a board, with its own check. -/
def gameOk (n : Nat) : Nat → ByteArray → Int → Int → Bool
  | 0, _, _, _ => false
  | f + 1, s, who, v =>
    match whoF n s with
    | none => false
    | some r =>
      if r = 0 then
        (decide (v = who) && (List.range (n * n)).any fun (k : Nat) => decide (bt s k = 46) && gameOk n f (put s k (pb who)) (231 - who) who) ||
        (decide (v = 231 - who) && (List.range (n * n)).all fun (k : Nat) => !decide (bt s k = 46) || gameOk n f (put s k (pb who)) (231 - who) (231 - who))
      else decide (v = r)

theorem gameOk_plays {n : Nat} (hn : n ≤ 11) : ∀ (f : Nat) (s : ByteArray) (who v : Int), gameOk n f s who v = true → Plays n s who v
  | 0, _, _, _, h => by cases h
  | f + 1, s, who, v, h => by
    unfold gameOk at h
    split at h
    · cases h
    · rename_i r hr
      have W := whoF_who hn hr
      split at h
      · rename_i h0
        subst h0
        rw [Bool.or_eq_true] at h
        rcases h with h | h
        · simp only [Bool.and_eq_true, decide_eq_true_eq, List.any_eq_true, List.mem_range] at h
          obtain ⟨rfl, k, hk, hd, hg⟩ := h
          exact .good _ _ k W hk hd (gameOk_plays hn f _ _ _ hg)
        · simp only [Bool.and_eq_true, decide_eq_true_eq, List.all_eq_true, List.mem_range, Bool.or_eq_true, Bool.not_eq_true', decide_eq_false_iff_not] at h
          obtain ⟨rfl, hall⟩ := h
          refine .bad _ _ W fun k hk hd => ?_
          rcases hall k hk with h | h
          · exact absurd hd h
          · exact gameOk_plays hn f _ _ _ h
      · rename_i h0
        have := of_decide_eq_true h
        rw [this]
        exact .won _ _ _ W h0

def b2 : ByteArray := ⟨#[46, 46, 46, 46]⟩
def f2 : ByteArray := ⟨#[120, 111, 111, 120]⟩

theorem plays_b2 : Plays 2 b2 120 120 := gameOk_plays (by omega) 5 _ _ _ (by decide +kernel)
theorem short_x : Short 2 f2 120 [] := shortB_short (t := table 2 f2 120 1 1000 3) (by omega) (by decide +kernel)
theorem short_o : Short 2 f2 111 [2, 1] := shortB_short (t := table 2 f2 111 1 1000 3) (by omega) (by decide +kernel)
theorem best_b2 : Best 2 b2 120 0 1 (some 2) := bestB_best (t := table 2 b2 120 0 1 3) (by omega) (by omega) (.inl (by omega)) (by decide +kernel) (by decide +kernel)

end Go.Proofs.YtpbiminbhihjnaaDoor
