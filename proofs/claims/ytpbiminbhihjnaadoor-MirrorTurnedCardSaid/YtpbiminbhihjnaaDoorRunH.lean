/-
  A part of the proofs over the mirror (layer 4): RunH.
-/
import Derived.Test.YtpbiminbhihjnaaDoorRunG
import Derived.Lib.SlBytesConst
namespace Go.Proofs.YtpbiminbhihjnaaDoor
open Go.RowKit Dist
set_option linter.unusedSimpArgs false
set_option linter.unusedVariables false

/-- Who has a bridge: 120, 111, or 0. -/
def WhoIs (n : Nat) (s : ByteArray) (r : Int) : Prop :=
  (∃ l, Short n s 120 l ∧ l ≠ [] ∧ r = 120) ∨ (Short n s 120 [] ∧ ∃ l, Short n s 111 l ∧ l ≠ [] ∧ r = 111) ∨ (Short n s 120 [] ∧ Short n s 111 [] ∧ r = 0)

theorem nil_iff {w : World} {base : Nat} {A : Option Addr} {n cap : Nat} {l : List Nat} (hO : Own w base (.slice A n cap) (asInts l)) (hnil : l = [] → Value.slice A n cap = .slice none 0 0) : A.isNone = true ↔ l = [] := by
  constructor
  · intro h
    cases l with
    | nil => rfl
    | cons a l =>
      obtain ⟨g, c, hv, _⟩ := hO.form (by simp [asInts])
      injection hv with hA
      rw [hA] at h
      cases h
  · intro h
    have := hnil h
    injection this with hA
    rw [hA]
    rfl

def WhoPost (n : Nat) (s : ByteArray) (w : World) (e : Ending) (w' : World) : Prop := ∃ r, e = .returned (.int .u8 r) ∧ WhoIs n s r ∧ Below w.heap.size w w'

set_option maxHeartbeats 1000000 in
set_option maxRecDepth 100000 in
theorem winner_any (b g cap n : Nat) (s : ByteArray) (w : World) (hB : BoardAt w b g cap n s) (h1 : 1 ≤ n) (h2 : n ≤ 11) (hsz : s.size = n * n) (hS : StepsAt w) :
    Calls Tryd.prog 48 #[.pointer (some ⟨b, 0, none⟩)] w (WhoPost n s w) := by
  have HB := Lib.hid hB
  have HS := Lib.hid hS
  have HSZ := Lib.hid hsz
  clear hB hS hsz
  have kc := fun (w : World) (C : Array Value) (n c : Nat) => Lib.run_convert_bytes_const (P := Tryd.prog) w 65 5 C n c Tryd.underlying65 Tryd.underlying5
  have hne := fun (w : World) (a : Option Addr) (n c n' c' : Nat) => run_neq_slice_nil_any (P := Tryd.prog) w 33 3 a n c n' c' Tryd.underlying33
  go_enter Tryd.func48, Tryd.ntmps48
  go_wp2_with fail
  have hLx : Below w.heap.size w (w.alloc (.cells #[.int .u8 120, .int .u8 111] 5 (2, 3))) := (Below.refl _ _).alloc (Nat.le_refl _) _
  have x0 : (w.alloc (.cells #[.int .u8 120, .int .u8 111] 5 (2, 3))).cell? ⟨w.heap.size, 0, none⟩ = some (.int .u8 120) := by rw [cell_of_row _ w.heap.size 0 _ 5 (2, 3) (heap_alloc_new w _)]; rfl
  have x1 : (w.alloc (.cells #[.int .u8 120, .int .u8 111] 5 (2, 3))).cell? ⟨w.heap.size, 1, none⟩ = some (.int .u8 111) := by rw [cell_of_row _ w.heap.size 1 _ 5 (2, 3) (heap_alloc_new w _)]; rfl
  have hz : w.heap.size < (w.alloc (.cells #[.int .u8 120, .int .u8 111] 5 (2, 3))).heap.size := by simp
  generalize w.alloc (.cells #[.int .u8 120, .int .u8 111] 5 (2, 3)) = w1 at *
  go_loopg [8] 2 (fun q x wr => ∃ k : Nat, x = .int .i64 k ∧ k ≤ 2 ∧ Hid (q = 2 - k) ∧ Below w1.heap.size w1 wr ∧ Hid (1 ≤ k → Short n s 120 []) ∧ Hid (2 ≤ k → Short n s 111 []))
  case atStart => exact ⟨0, rfl, by omega, rfl, Below.refl _ _, fun h => by omega, fun h => by omega⟩
  case round =>
    obtain ⟨k, rfl, hk, hq, hL, N1, N2⟩ := hrel
    have HBr := Lib.hid ((HB.out.more hLx).more hL)
    have HSr := Lib.hid ((HS.out.below hLx).below hL)
    by_cases k0 : k = 0
    · subst k0
      have x0' : wr.cell? ⟨w.heap.size, 0, none⟩ = some (.int .u8 120) := by rw [hL.cell (p := ⟨w.heap.size, 0, none⟩) hz]; exact x0
      have wz : w.heap.size ≤ wr.heap.size := by have := hL.size; omega
      go_wp2_with (go_at_call 49; refine (bridge_any b g cap n s 120 _ HBr.out h1 h2 HSZ.out HSr.out (by omega)).mono ?_; rintro e w2 ⟨v, l, rfl, SH0, hO, hnil, hL2, -⟩; obtain ⟨A, cp, rfl⟩ := hO.shape; have SH := Lib.hid SH0; have NI := Lib.hid (show A.isSome = true → l ≠ [] from fun h e => by have := (nil_iff hO hnil).2 e; cases A <;> cases h; cases this); have SE := Lib.hid (show A.isSome = false → Short n s 120 [] from fun h => by rw [← (nil_iff hO hnil).1 (by cases A; rfl; cases h)]; exact SH0); clear hO hnil SH0)
      go_ways
      · rename_i hA
        go_ret
        exact ⟨120, rfl, .inl ⟨l, SH.out, NI.out hA, rfl⟩, ((hLx.trans (hL.mono (Nat.le_of_lt hz))).trans (hL2.mono wz))⟩
      · rename_i hA
        go_roundg 1
        case measure => have := hq.out; omega
        case rel => exact ⟨1, rfl, by omega, rfl, hL.trans (hL2.mono hL.size), fun _ => SE.out hA, fun h => by omega⟩
    · by_cases k1 : k = 1
      · subst k1
        have x0' : wr.cell? ⟨w.heap.size, 1, none⟩ = some (.int .u8 111) := by rw [hL.cell (p := ⟨w.heap.size, 1, none⟩) hz]; exact x1
        have wz : w.heap.size ≤ wr.heap.size := by have := hL.size; omega
        go_wp2_with (go_at_call 49; refine (bridge_any b g cap n s 111 _ HBr.out h1 h2 HSZ.out HSr.out (by omega)).mono ?_; rintro e w2 ⟨v, l, rfl, SH0, hO, hnil, hL2, -⟩; obtain ⟨A, cp, rfl⟩ := hO.shape; have SH := Lib.hid SH0; have NI := Lib.hid (show A.isSome = true → l ≠ [] from fun h e => by have := (nil_iff hO hnil).2 e; cases A <;> cases h; cases this); have SE := Lib.hid (show A.isSome = false → Short n s 111 [] from fun h => by rw [← (nil_iff hO hnil).1 (by cases A; rfl; cases h)]; exact SH0); clear hO hnil SH0)
        go_ways
        · rename_i hA
          go_ret
          exact ⟨111, rfl, .inr (.inl ⟨N1.out (by omega), l, SH.out, NI.out hA, rfl⟩), ((hLx.trans (hL.mono (Nat.le_of_lt hz))).trans (hL2.mono wz))⟩
        · rename_i hA
          go_roundg 0
          case measure => have := hq.out; omega
          case rel => exact ⟨2, rfl, by omega, rfl, hL.trans (hL2.mono hL.size), fun _ => N1.out (by omega), fun _ => SE.out hA⟩
      · obtain rfl : k = 2 := by omega
        go_wp2_with fail
        try go_ret
        exact ⟨0, rfl, .inr (.inr ⟨N1.out (by omega), N2.out (by omega), rfl⟩), hLx.trans (hL.mono (Nat.le_of_lt hz))⟩

end Go.Proofs.YtpbiminbhihjnaaDoor
