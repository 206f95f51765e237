/-
  A part of the proofs over the mirror (layer 4): Game.
-/
import Derived.Test.YtpbiminbhihjnaaDoorRunH
import Derived.Maps.OwnSet
namespace Go.Proofs.YtpbiminbhihjnaaDoor
open Go.RowKit Dist Go.Maps
set_option linter.unusedSimpArgs false
set_option linter.unusedVariables false

/-- A board with another byte at a place. -/
def put (s : ByteArray) (k : Nat) (c : UInt8) : ByteArray := ⟨s.data.setIfInBounds k c⟩

theorem put_size (s : ByteArray) (k : Nat) (c : UInt8) : (put s k c).size = s.size := by
  show (s.data.setIfInBounds k c).size = s.data.size
  simp

theorem put_list (s : ByteArray) (k : Nat) (c : UInt8) : (put s k c).data.toList = s.data.toList.set k c := by simp [put]

theorem bt_put (s : ByteArray) (k : Nat) (c : UInt8) (i : Nat) (hk : k < s.size) : bt (put s k c) i = if i = k then (c.toNat : Int) else bt s i := by
  have hk' : k < s.data.toList.length := by simpa using hk
  unfold bt
  rw [put_list]
  by_cases h : i = k
  · subst h
    rw [if_pos rfl, List.getD_eq_getElem?_getD, List.getElem?_set_self (by exact hk')]
    rfl
  · rw [if_neg h, List.getD_eq_getElem?_getD, List.getD_eq_getElem?_getD, List.getElem?_set_ne (by omega)]

theorem byte_eq (s : ByteArray) (k : Nat) (hk : k < s.data.toList.length) (c : UInt8) (h : bt s k = (c.toNat : Int)) : s.data.toList[k] = c := by
  unfold bt at h
  rw [List.getD_eq_getElem?_getD, List.getElem?_eq_getElem hk] at h
  apply UInt8.toNat_inj.1
  have h' : ((s.data.toList[k].toNat : Nat) : Int) = (c.toNat : Int) := h
  exact Int.ofNat.inj h'

theorem put_back (s : ByteArray) (k : Nat) (c : UInt8) (hk : k < s.size) (h : bt s k = 46) : put (put s k c) k 46 = s := by
  have hk' : k < s.data.toList.length := by simpa using hk
  have e := byte_eq s k hk' 46 h
  apply ByteArray.ext
  apply Array.toList_inj.1
  show (put (put s k c) k 46).data.toList = s.data.toList
  rw [put_list, put_list, List.set_set, ← e, List.set_getElem_self]

/-- How often a byte stands on a board. -/
def cnt (s : ByteArray) (c : UInt8) : Nat := s.data.toList.count c
/-- How many empty hexagons stand ahead of a place. -/
def pre (s : ByteArray) (k : Nat) : Nat := (s.data.toList.take k).count 46

theorem pre_zero (s : ByteArray) : pre s 0 = 0 := by simp [pre]

theorem pre_next (s : ByteArray) (k : Nat) (hk : k < s.size) : pre s (k + 1) = pre s k + (if bt s k = 46 then 1 else 0) := by
  have hk' : k < s.data.toList.length := by simpa using hk
  unfold pre
  rw [List.take_succ_eq_append_getElem hk', List.count_append, List.count_singleton]
  congr 1
  by_cases h : bt s k = 46
  · rw [byte_eq s k hk' 46 h, if_pos h]; rfl
  · rw [if_neg h]
    have : ¬ s.data.toList[k] = 46 := by
      intro e
      apply h
      unfold bt
      rw [List.getD_eq_getElem?_getD, List.getElem?_eq_getElem hk', e]
      rfl
    simpa using this

theorem pre_le (s : ByteArray) (k : Nat) : pre s k ≤ cnt s 46 := (List.take_sublist _ _).count_le _

theorem pre_lt (s : ByteArray) (k : Nat) (hk : k < s.size) (h : bt s k = 46) : pre s k + 1 ≤ cnt s 46 := by
  have := pre_next s k hk
  rw [if_pos h] at this
  have := pre_le s (k + 1)
  omega

theorem cnt_put (s : ByteArray) (k : Nat) (c d : UInt8) (hk : k < s.size) (h : bt s k = 46) (hd : d ≠ 46) : cnt (put s k d) c = if c = 46 then cnt s c - 1 else if c = d then cnt s c + 1 else cnt s c := by
  have hk' : k < s.data.toList.length := by simpa using hk
  unfold cnt
  rw [put_list, List.count_set hk', byte_eq s k hk' 46 h]
  by_cases h1 : c = 46
  · subst h1
    have : ¬ d = 46 := hd
    simp [this]
  · have h1' : ¬ (46 : UInt8) = c := fun e => h1 e.symm
    by_cases h2 : c = d
    · subst h2; simp [h1, h1']
    · have h2' : ¬ d = c := fun e => h2 e.symm
      simp [h1, h2, h1', h2']

/-- Whose move it is. -/
def Turn (s : ByteArray) (who : Int) : Prop := (who = 120 ∧ cnt s 120 = cnt s 111) ∨ (who = 111 ∧ cnt s 120 = cnt s 111 + 1)

theorem Turn.unique {s : ByteArray} {a b : Int} (h : Turn s a) (k : Turn s b) : a = b := by
  rcases h with ⟨rfl, h⟩ | ⟨rfl, h⟩ <;> rcases k with ⟨rfl, k⟩ | ⟨rfl, k⟩ <;> first | rfl | omega

/-- The byte of a player. -/
def pb (who : Int) : UInt8 := if who = 120 then 120 else 111

theorem pb_val {who : Int} (h : who = 120 ∨ who = 111) : ((pb who).toNat : Int) = who := by
  rcases h with rfl | rfl <;> decide

theorem pb_ne (who : Int) : pb who ≠ 46 := by
  unfold pb; split <;> decide

theorem Turn.next {s : ByteArray} {who : Int} {k : Nat} (h : Turn s who) (hk : k < s.size) (hd : bt s k = 46) : Turn (put s k (pb who)) (231 - who) := by
  rcases h with ⟨rfl, h⟩ | ⟨rfl, h⟩
  · right
    refine ⟨rfl, ?_⟩
    rw [cnt_put s k 120 (pb 120) hk hd (pb_ne _), cnt_put s k 111 (pb 120) hk hd (pb_ne _)]
    have e1 : (120 : UInt8) ≠ 46 := by decide
    have e2 : (120 : UInt8) = pb 120 := rfl
    have e3 : (111 : UInt8) ≠ 46 := by decide
    have e4 : (111 : UInt8) ≠ pb 120 := by decide
    rw [if_neg e1, if_pos e2, if_neg e3, if_neg e4, h]
  · left
    refine ⟨rfl, ?_⟩
    rw [cnt_put s k 120 (pb 111) hk hd (pb_ne _), cnt_put s k 111 (pb 111) hk hd (pb_ne _)]
    have e1 : (120 : UInt8) ≠ 46 := by decide
    have e2 : (120 : UInt8) ≠ pb 111 := by decide
    have e3 : (111 : UInt8) ≠ 46 := by decide
    have e4 : (111 : UInt8) = pb 111 := rfl
    rw [if_neg e1, if_neg e2, if_neg e3, if_pos e4, h]

/-- Who wins a board, if a player is next. -/
inductive Plays (n : Nat) : ByteArray → Int → Int → Prop
  | won (s : ByteArray) (who r : Int) : WhoIs n s r → r ≠ 0 → Plays n s who r
  | good (s : ByteArray) (who : Int) (k : Nat) : WhoIs n s 0 → k < n * n → bt s k = 46 → Plays n (put s k (pb who)) (231 - who) who → Plays n s who who
  | bad (s : ByteArray) (who : Int) : WhoIs n s 0 → (∀ k, k < n * n → bt s k = 46 → Plays n (put s k (pb who)) (231 - who) (231 - who)) → Plays n s who (231 - who)

theorem who_unique {n : Nat} {s : ByteArray} {r r' : Int} (h : WhoIs n s r) (h' : WhoIs n s r') : r = r' := by
  rcases h with ⟨l, h1, h2, rfl⟩ | ⟨h0, l, h1, h2, rfl⟩ | ⟨h0, h1, rfl⟩ <;> rcases h' with ⟨m, k1, k2, rfl⟩ | ⟨k0, m, k1, k2, rfl⟩ | ⟨k0, k1, rfl⟩
  · rfl
  · exact absurd (short_unique h1 k0) h2
  · exact absurd (short_unique h1 k0) h2
  · exact absurd (short_unique k1 h0) k2
  · rfl
  · exact absurd (short_unique h1 k1) h2
  · exact absurd (short_unique k1 h0) k2
  · exact absurd (short_unique k1 h1) k2
  · rfl

theorem Plays.unique {n : Nat} {s : ByteArray} {who v : Int} (h : Plays n s who v) : ∀ {v' : Int}, who = 120 ∨ who = 111 → Plays n s who v' → v = v' := by
  induction h with
  | won s who r h1 h2 =>
    intro v' hw h'
    cases h' with
    | won _ _ _ k1 k2 => exact who_unique h1 k1
    | good _ _ k k1 => exact absurd (who_unique h1 k1) h2
    | bad _ _ k1 => exact absurd (who_unique h1 k1) h2
  | good s who k h1 h2 h3 h4 ih =>
    intro v' hw h'
    generalize hv : v' = x at h'
    cases h' with
    | won _ _ _ k1 k2 => exact absurd (who_unique k1 h1) k2
    | good _ _ k k1 => rfl
    | bad _ _ k1 k2 => exact ih (by omega) (k2 k h2 h3)
  | bad s who h1 h2 ih =>
    intro v' hw h'
    generalize hv : v' = x at h'
    cases h' with
    | won _ _ _ k1 k2 => exact absurd (who_unique k1 h1) k2
    | good _ _ k k1 k2 k3 k4 => exact ih k k2 k3 (by omega) k4
    | bad _ _ k1 k2 => rfl

/-- All that is known is right. -/
def Known (n : Nat) (D : DataW Unit) : Prop :=
  IsMap D ∧ ∀ (t : ByteArray) (who c : Int), t.size = n * n → Turn t who → has D (.string t.data.toList) = true → D.atKey (.string t.data.toList) (.lit (.int .u8 0)) = .lit (.int .u8 c) → Plays n t who c

theorem known_empty (n : Nat) : Known n (.map []) := ⟨isMap_empty, fun t who c _ _ h => by cases h⟩

theorem Known.put {n : Nat} {D : DataW Unit} (h : Known n D) {s : ByteArray} {who v : Int} (hT : Turn s who) (hP : Plays n s who v) : Known n (D.put (.string s.data.toList) (.lit (.int .u8 v))) := by
  refine ⟨h.1.put _ _, ?_⟩
  intro t who' c ht hT' hh ha
  by_cases e : Lit.string t.data.toList = Lit.string s.data.toList
  · have e' : t = s := by
      injection e with e
      exact ByteArray.ext (Array.toList_inj.1 e)
    subst e'
    rw [atKey_put_same h.1 (by trivial)] at ha
    injection ha with ha
    injection ha with _ ha
    rw [← ha, hT'.unique hT]
    exact hP
  · rw [has_put_other e] at hh
    rw [atKey_put_other e] at ha
    exact h.2 t who' c ht hT' hh ha

/-- How many boards are met at most. -/
def Tn : Nat → Nat
  | 0 => 1
  | e + 1 => 1 + (e + 1) * Tn e

theorem tn9 : ∀ e, e ≤ 9 → Tn e ≤ 1000000 := by
  intro e he
  have : ∀ e : Fin 10, Tn e.val ≤ 1000000 := by decide
  exact this ⟨e, by omega⟩

theorem om_below {w w' : World} {k m c B : Nat} {R : Value → Option (DataW Unit × List MemPlace)} {D : DataW Unit} (h : w.ownsMap Tryd.prog k R m c D) (hb : Below B w w') (hm : m < B) : w'.ownsMap Tryd.prog k R m c D := by
  obtain ⟨es, clock, hh, r⟩ := h
  exact ⟨es, clock, (hb.block m hm).trans hh, r⟩

theorem om_lt {w : World} {k m c : Nat} {R : Value → Option (DataW Unit × List MemPlace)} {D : DataW Unit} (h : w.ownsMap Tryd.prog k R m c D) : m < w.heap.size := by
  obtain ⟨es, clock, hh, r⟩ := h
  exact lt_of_block hh

theorem BB.set_ {w : World} {g : Nat} {s : ByteArray} (h : BB w g s) (k : Nat) (c : UInt8) : BB (w.setCell ⟨g, k, none⟩ (.int .u8 (c.toNat : Int))) g (put s k c) := by
  obtain ⟨cs, fr, h1, h2, h3, h4⟩ := h
  refine ⟨cs.setIfInBounds k (.int .u8 (c.toNat : Int)), fr, by simp [World.setCell, Array.getElem?_modify, h1], by rw [put_size]; simpa using h2, by simpa using h3, fun i hi => ?_⟩
  rw [put_size] at hi
  by_cases hk : k < s.size
  · rw [bt_put s k c i hk]
    by_cases e : i = k
    · subst e
      rw [if_pos rfl, Array.getElem?_setIfInBounds_self_of_lt (by omega)]
    · rw [if_neg e, Array.getElem?_setIfInBounds_ne (by omega)]
      exact h4 i hi
  · have e : put s k c = s := by
      apply ByteArray.ext
      show s.data.setIfInBounds k c = s.data
      apply Array.ext
      · simp
      · intro j hj1 hj2
        have : j < s.size := hj2
        rw [Array.getElem_setIfInBounds_ne] <;> omega
    rw [e, Array.getElem?_setIfInBounds_ne (by omega)]
    exact h4 i hi

theorem om_ne {w : World} {k m c g : Nat} {s : ByteArray} {R : Value → Option (DataW Unit × List MemPlace)} {D : DataW Unit} (h : w.ownsMap Tryd.prog k R m c D) (hB : BB w g s) : g ≠ m := by
  obtain ⟨es, clock, hh, r⟩ := h
  obtain ⟨cs, fr, h1, _⟩ := hB
  intro e
  subst e
  rw [h1] at hh
  cases hh

end Go.Proofs.YtpbiminbhihjnaaDoor
