/-
  The first shortest bridge beside all bridges: it is one, and no bridge is shorter or, with the same length, lexicographically less.
-/
import Derived.Test.YtpbiminbhihjnaaDoorRunK
namespace Go.Proofs.YtpbiminbhihjnaaDoor
open Dist
set_option linter.unusedSimpArgs false
set_option linter.unusedVariables false

theorem graph_one {n : Nat} {s : ByteArray} {p : Int} {a : Nat} (h : bt s a = p) : (graph n s p 1 1000).cost a = some 1 := by
  simp only [graph]
  rw [cost_own h]
  rfl
theorem graph_stone {n : Nat} {s : ByteArray} {p : Int} {a : Nat} (h : ((graph n s p 1 1000).cost a).isSome = true) : bt s a = p := by
  have hc := (cost_isSome a).1 h
  unfold costI at hc
  split at hc
  · assumption
  · split at hc <;> omega

/-- Stones in a row ahead of a way. -/
theorem pre_way {n : Nat} {s : ByteArray} {p : Int} : ∀ (pre : List Nat) (x : Nat) (t : List Nat), (graph n s p 1 1000).Way (x :: t) → (∀ a, a ∈ pre → a < n * n ∧ bt s a = p) →
    (∀ (i a b : Nat), (pre ++ [x])[i]? = some a → (pre ++ [x])[i + 1]? = some b → nearB n a b = true) →
    (graph n s p 1 1000).Way (pre ++ x :: t) ∧ (graph n s p 1 1000).price (pre ++ x :: t) = pre.length + (graph n s p 1 1000).price (x :: t) := by
  intro pre
  induction pre with
  | nil => exact fun x t h _ _ => ⟨h, by simp⟩
  | cons c pre ih =>
    intro x t h hm hn
    obtain ⟨i1, i2⟩ := ih x t h (fun a ha => hm a (List.mem_cons_of_mem _ ha)) (fun i a b h1 h2 => hn (i + 1) a b h1 h2)
    obtain ⟨c1, c2⟩ := hm c List.mem_cons_self
    have hg := graph_one (n := n) c2
    refine ⟨?_, ?_⟩
    · cases pre with
      | nil => exact Graph.way_cons.2 ⟨c1, by rw [hg]; rfl, hn 0 c x rfl rfl, i1⟩
      | cons d pre => exact Graph.way_cons.2 ⟨c1, by rw [hg]; rfl, hn 0 c d rfl rfl, i1⟩
    · show ((graph n s p 1 1000).cost c).getD 0 + (graph n s p 1 1000).price (pre ++ x :: t) = (c :: pre).length + _
      rw [i2, hg, List.length_cons]
      simp only [Option.getD_some]
      omega

/-- A bridge's places. -/
def Stones (n : Nat) (s : ByteArray) (p : Int) (l : List Nat) : Prop :=
  (∀ a, a ∈ l → a < n * n ∧ bt s a = p) ∧ (∀ (i a b : Nat), l[i]? = some a → l[i + 1]? = some b → nearB n a b = true)

theorem stones_way {n : Nat} {s : ByteArray} {p : Int} {l : List Nat} (h : Stones n s p l) {i a e : Nat} (hi : l[i]? = some a) (hl : l[l.length - 1]? = some e) (he : endsB n p e = true) :
    ∃ t, (graph n s p 1 1000).Way (a :: t) ∧ (graph n s p 1 1000).price (a :: t) = l.length - i := by
  have hil : i < l.length := by
    apply Classical.byContradiction
    intro hn
    rw [List.getElem?_eq_none (by omega)] at hi
    cases hi
  have key : ∀ d i a, l[i]? = some a → i + d + 1 = l.length → ∃ t, (graph n s p 1 1000).Way (a :: t) ∧ (graph n s p 1 1000).price (a :: t) = l.length - i := by
    intro d
    induction d with
    | zero =>
      intro i a hi hd
      have e1 : i = l.length - 1 := by omega
      rw [e1, hl] at hi
      injection hi with hi
      subst hi
      obtain ⟨c1, c2⟩ := h.1 e (List.mem_of_getElem? hl)
      refine ⟨[], Graph.way_one.2 ⟨c1, by rw [graph_one c2]; rfl, he⟩, ?_⟩
      show ((graph n s p 1 1000).cost e).getD 0 + 0 = _
      rw [graph_one c2]
      simp only [Option.getD_some]
      omega
    | succ d ih =>
      intro i a hi hd
      have hb : l[i + 1]? = some (l[i + 1]'(by omega)) := List.getElem?_eq_getElem (by omega)
      obtain ⟨t, t1, t2⟩ := ih (i + 1) _ hb (by omega)
      obtain ⟨c1, c2⟩ := h.1 a (List.mem_of_getElem? hi)
      refine ⟨_ :: t, Graph.way_cons.2 ⟨c1, by rw [graph_one c2]; rfl, h.2 i a _ hi hb, t1⟩, ?_⟩
      show ((graph n s p 1 1000).cost a).getD 0 + _ = _
      rw [graph_one c2]
      simp only [Option.getD_some]
      rw [t2]
      omega
  exact key (l.length - 1 - i) i a hi (by omega)

/-- A path that is a bridge is a list of stones, from the first side to the last one. -/
theorem path_stones {n : Nat} {s : ByteArray} {q : List Int} (h : PathOk n s q) : ∃ l : List Nat, q = asInts l ∧ 0 < l.length ∧ Stones n s (bt s (q.getD 0 0).toNat) l ∧
    (∃ a : Nat, l[0]? = some a ∧ beginsB n (bt s (q.getD 0 0).toNat) a = true) ∧ (∃ e : Nat, l[l.length - 1]? = some e ∧ endsB n (bt s (q.getD 0 0).toNat) e = true) := by
  obtain ⟨h0, h1, h2, h3⟩ := h
  have hq : q = asInts (q.map Int.toNat) := by
    unfold asInts
    rw [List.map_map]
    symm
    have : ∀ x, x ∈ q → ((fun (a : Nat) => (a : Int)) ∘ Int.toNat) x = id x := by
      intro x hx
      obtain ⟨i, hi, rfl⟩ := List.getElem_of_mem hx
      have := (h1 i hi).1
      simp only [List.getD_eq_getElem?_getD, List.getElem?_eq_getElem hi, Option.getD_some] at this
      simp only [Function.comp, id]
      omega
    rw [List.map_congr_left this, List.map_id]
  have at_ : ∀ i, i < q.length → (q.map Int.toNat)[i]? = some (q.getD i 0).toNat := by
    intro i hi
    rw [List.getElem?_map, List.getElem?_eq_getElem hi, List.getD_eq_getElem?_getD, List.getElem?_eq_getElem hi]
    rfl
  have pos : ∀ i, i < q.length → (((q.getD i 0).toNat : Nat) : Int) = q.getD i 0 := fun i hi => by have := (h1 i hi).1; omega
  refine ⟨q.map Int.toNat, hq, by simpa using h0, ⟨?_, ?_⟩, ⟨_, at_ 0 h0, by rw [pos 0 h0]; exact h2⟩, ⟨(q.getD (q.length - 1) 0).toNat, by rw [List.length_map]; exact at_ _ (by omega), by rw [pos _ (by omega)]; exact h3⟩⟩
  · intro a ha
    obtain ⟨x, hx, rfl⟩ := List.mem_map.1 ha
    obtain ⟨i, hi, rfl⟩ := List.getElem_of_mem hx
    obtain ⟨a1, a2, a3, _⟩ := h1 i hi
    have e : q.getD i 0 = q[i] := by rw [List.getD_eq_getElem?_getD, List.getElem?_eq_getElem hi]; rfl
    rw [e] at a1 a2 a3
    exact ⟨by omega, a3⟩
  · intro i a b ha hb
    have hi : i + 1 < q.length := by
      apply Classical.byContradiction
      intro hn
      rw [List.getElem?_eq_none (by rw [List.length_map]; omega)] at hb
      cases hb
    rw [at_ i (by omega)] at ha
    rw [at_ (i + 1) hi] at hb
    injection ha with ha
    injection hb with hb
    subst ha hb
    have := (h1 (i + 1) hi).2.2.2.2 (by omega)
    rw [pos i (by omega), pos (i + 1) hi]
    exact this

theorem path_bridged {n : Nat} {s : ByteArray} {q : List Int} (h : PathOk n s q) : Bridged n s (bt s (q.getD 0 0).toNat) 1 1000 := by
  obtain ⟨l, hq, h0, hS, ⟨a, ha, hb⟩, ⟨e, he, hE⟩⟩ := path_stones h
  obtain ⟨t, t1, t2⟩ := stones_way hS ha he hE
  exact ⟨a, t, hb, t1⟩

/-- No bridge is shorter than the first shortest one; with the same length none is less. -/
theorem short_first {n : Nat} {s : ByteArray} {q : List Int} {l : List Nat} (h : PathOk n s q) (hl : Short n s (bt s (q.getD 0 0).toNat) l) :
    l.length ≤ q.length ∧ (l.length = q.length → ∀ i, i < l.length → (∀ j, j < i → q.getD j 0 = (asInts l).getD j 0) → (asInts l).getD i 0 ≤ q.getD i 0) := by
  obtain ⟨r, hr, hl⟩ := hl
  obtain ⟨m, hq, h0, hS, ⟨a, ha, hb⟩, ⟨e, he, hE⟩⟩ := path_stones h
  generalize bt s (q.getD 0 0).toNat = p at *
  cases r with
  | none =>
    exfalso
    obtain ⟨t, t1, t2⟩ := stones_way hS ha he hE
    exact best_none.1 hr ⟨a, t, hb, t1⟩
  | some k =>
    obtain ⟨hk, hL⟩ := hl
    have hql : q.length = m.length := by rw [hq, asInts_len]
    obtain ⟨t, t1, t2⟩ := stones_way hS ha he hE
    have hmin := (best_some.1 hr).2
    have hkm := hmin a t hb t1
    refine ⟨by rw [hk, hql]; omega, fun hlq i hi hpre => ?_⟩
    have hkm2 : k = m.length := by omega
    have him : i < m.length := by omega
    have hmi : m[i]? = some m[i] := List.getElem?_eq_getElem him
    obtain ⟨t', w1, w2⟩ := stones_way hS hmi he hE
    -- the least cost from here
    have least : (graph n s p 1 1000).Least m[i] (some (k - i)) := by
      refine ⟨⟨t', w1, by omega⟩, fun u hu => ?_⟩
      have hpw := pre_way (m.take i) m[i] u hu (fun c hc => hS.1 c (List.mem_of_mem_take hc)) (fun j c d h1 h2 => by
        have e1 : m.take i ++ [m[i]] = m.take (i + 1) := (List.take_succ_eq_append_getElem him).symm
        rw [e1, List.getElem?_take] at h1 h2
        split at h2
        · rename_i h3
          rw [if_pos (by omega)] at h1
          exact hS.2 j c d h1 h2
        · cases h2)
      cases i with
      | zero =>
        have ea : m[0]? = some m[0] := List.getElem?_eq_getElem (by omega)
        rw [ea] at ha
        injection ha with ha
        have := hmin m[0] u (by rw [ha]; exact hb) hu
        omega
      | succ i =>
        have e1 : m.take (i + 1) = a :: (m.drop 1).take i := by
          cases m with
          | nil => simp at h0
          | cons c m =>
            simp at ha
            subst ha
            simp
        obtain ⟨q1, q2⟩ := hpw
        rw [e1] at q1 q2
        have := hmin a ((m.drop 1).take i ++ m[i + 1] :: u) hb q1
        have e2 : (a :: (m.drop 1).take i).length = i + 1 := by rw [← e1, List.length_take]; omega
        rw [e2] at q2
        have q2' : (graph n s p 1 1000).price (a :: ((m.drop 1).take i ++ m[i + 1] :: u)) = i + 1 + (graph n s p 1 1000).price (m[i + 1] :: u) := q2
        omega
    have hli : l[i]? = some l[i] := List.getElem?_eq_getElem hi
    obtain ⟨_, _, hmn⟩ := hL i l[i] hli
    have fits : Fits n s p k l i m[i] := by
      refine ⟨least, ?_⟩
      rcases Nat.eq_zero_or_pos i with h0' | h0'
      · subst h0'
        left
        have ea : m[0]? = some m[0] := List.getElem?_eq_getElem (by omega)
        rw [ea] at ha
        injection ha with ha
        exact ⟨rfl, by rw [ha]; exact hb⟩
      · right
        have hp := hpre (i - 1) (by omega)
        have g1 : l[i - 1]? = some (l[i - 1]'(by omega)) := List.getElem?_eq_getElem (by omega)
        have g2 : m[i - 1]? = some (m[i - 1]'(by omega)) := List.getElem?_eq_getElem (by omega)
        rw [hq, asInts_getD m (i - 1) _ g2, asInts_getD l (i - 1) _ g1] at hp
        have hp' : m[i - 1]'(by omega) = l[i - 1]'(by omega) := by omega
        refine ⟨_, h0', g1, ?_⟩
        rw [← hp']
        exact hS.2 (i - 1) _ _ g2 (by rw [show i - 1 + 1 = i by omega]; exact hmi)
    have hge : ¬ m[i] < l[i] := fun hlt => hmn m[i] hlt fits
    rw [hq, asInts_getD m i _ hmi, asInts_getD l i _ hli]
    omega

/-- The first shortest bridge is a bridge. -/
theorem short_path {n : Nat} {s : ByteArray} {p : Int} {l : List Nat} (hl : Short n s p l) (hne : l ≠ []) : PathOk n s (asInts l) ∧ bt s ((asInts l).getD 0 0).toNat = p := by
  obtain ⟨r, hr, hl⟩ := hl
  cases r with
  | none => exact absurd hl hne
  | some k =>
    obtain ⟨hk, hL⟩ := hl
    have h0 : 0 < l.length := by
      cases l with
      | nil => exact absurd rfl hne
      | cons a l => simp
    have at_ : ∀ i (hi : i < l.length), l[i]? = some l[i] := fun i hi => List.getElem?_eq_getElem hi
    have val : ∀ i (hi : i < l.length), (asInts l).getD i 0 = (l[i] : Int) := fun i hi => asInts_getD l i _ (at_ i hi)
    have stone : ∀ i (hi : i < l.length), l[i] < n * n ∧ bt s l[i] = p := by
      intro i hi
      obtain ⟨q1, ⟨q2, _⟩, _⟩ := hL i l[i] (at_ i hi)
      obtain ⟨⟨t, hw, _⟩, _⟩ := q2
      exact ⟨q1, graph_stone hw.2.1⟩
    have b0 : bt s ((asInts l).getD 0 0).toNat = p := by rw [val 0 h0, Int.toNat_natCast]; exact (stone 0 h0).2
    refine ⟨⟨by rw [asInts_len]; exact h0, ?_, ?_, ?_⟩, b0⟩
    · intro i hi
      rw [asInts_len] at hi
      obtain ⟨q1, ⟨q2, q3⟩, _⟩ := hL i l[i] (at_ i hi)
      refine ⟨by rw [val i hi]; omega, by rw [val i hi]; omega, by rw [b0, val i hi, Int.toNat_natCast]; exact (stone i hi).2, ?_, ?_⟩
      · intro j hj e
        rw [val i hi, val j (by omega)] at e
        have e' : l[j] = l[i] := by omega
        obtain ⟨_, ⟨q2', _⟩, _⟩ := hL j l[j] (at_ j (by omega))
        rw [e'] at q2'
        have := Graph.least_unique q2 q2'
        injection this with this
        omega
      · intro hi0
        rcases q3 with ⟨q3, _⟩ | ⟨b, _, hb, hn⟩
        · omega
        · rw [val i hi, asInts_getD l (i - 1) b hb]
          exact hn
    · rw [b0, val 0 h0]
      obtain ⟨q1, ⟨q2, q3⟩, _⟩ := hL 0 l[0] (at_ 0 h0)
      rcases q3 with ⟨_, q3⟩ | ⟨b, hb, _⟩
      · exact q3
      · omega
    · rw [b0, asInts_len, val (l.length - 1) (by omega)]
      obtain ⟨q1, ⟨q2, q3⟩, _⟩ := hL (l.length - 1) _ (at_ (l.length - 1) (by omega))
      obtain ⟨⟨t, hw, hp⟩, _⟩ := q2
      have hs := stone (l.length - 1) (by omega)
      have hp' : ((graph n s p 1 1000).cost l[l.length - 1]).getD 0 + (graph n s p 1 1000).price t = k - (l.length - 1) := hp
      rw [graph_one hs.2] at hp'
      simp only [Option.getD_some] at hp'
      cases t with
      | nil => exact (Graph.way_one.1 hw).2.2
      | cons c t =>
        exfalso
        obtain ⟨_, _, _, hw'⟩ := Graph.way_cons.1 hw
        have hc := graph_stone hw'.2.1
        have : (graph n s p 1 1000).price (c :: t) = 1 + (graph n s p 1 1000).price t := by
          show ((graph n s p 1 1000).cost c).getD 0 + _ = _
          rw [graph_one hc]
          rfl
        omega

end Go.Proofs.YtpbiminbhihjnaaDoor
