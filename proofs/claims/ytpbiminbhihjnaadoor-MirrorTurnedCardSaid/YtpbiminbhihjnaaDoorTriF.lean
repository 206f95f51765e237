/-
  A part of the proofs over the mirror (layer 4): TriF.
-/
import Derived.Test.YtpbiminbhihjnaaDoorTriE
namespace Go.Proofs.YtpbiminbhihjnaaDoor
open Go.RowKit Tri Go.Maps Go.WideMaps Dist
set_option linter.unusedSimpArgs false
set_option linter.unusedVariables false

/-- Does the text of a cell have a byte? -/
def hasB (n : Nat) (s : ByteArray) (x : Cell) (c : UInt8) : Bool := decide (0 ≤ Lib.indexByte (tell n s x).data.toList c)
def fullB (n : Nat) (s : ByteArray) (x : Cell) : Bool := hasB n s x 48 && hasB n s x 49 && hasB n s x 50

def BoolPost (v : Bool) (w : World) (e : Ending) (w' : World) : Prop := e = .returned (.bool v) ∧ Below w.heap.size w w'

set_option maxHeartbeats 2000000 in
set_option maxRecDepth 100000 in
theorem full57 (t m n : Nat) (s : ByteArray) (x : Cell) (w : World) (hT : TriAt w t m n s) (hn : n ≤ 20) (hx : x ∈ cells n) :
    Calls Tryd.prog 57 #[.pointer (some ⟨t, 0, none⟩), cellV x] w (BoolPost (fullB n s x) w) := by
  obtain ⟨x0, x1, x2⟩ := x
  have TX := Lib.hid (show ∀ W, TriAt W t m n s → Calls Tryd.prog 61 #[.pointer (some ⟨t, 0, none⟩), .agg #[.int .i64 (x0 : Int), .int .i64 (x1 : Int), .int .i64 (x2 : Int)]] W (fun e w' => e = .returned (.string (tell n s (x0, x1, x2))) ∧ Below W.heap.size W w') from fun W h => text61 t m n s (x0, x1, x2) W h hn hx)
  have CT := fun (c : UInt8) (W : World) => (Tryd.strings_Contains_one (tell n s (x0, x1, x2)) c W)
  have HF : fullB n s (x0, x1, x2) = (hasB n s (x0, x1, x2) 48 && hasB n s (x0, x1, x2) 49 && hasB n s (x0, x1, x2) 50) := rfl
  have CT0 := Lib.hid (show ∀ W, Calls Tryd.prog 60 #[.string (tell n s (x0, x1, x2)), .string ⟨#[48]⟩] W fun e w' => e = .returned (.bool (hasB n s (x0, x1, x2) 48)) ∧ w' = W from fun W => CT 48 W)
  have CT1 := Lib.hid (show ∀ W, Calls Tryd.prog 60 #[.string (tell n s (x0, x1, x2)), .string ⟨#[49]⟩] W fun e w' => e = .returned (.bool (hasB n s (x0, x1, x2) 49)) ∧ w' = W from fun W => CT 49 W)
  have CT2 := Lib.hid (show ∀ W, Calls Tryd.prog 60 #[.string (tell n s (x0, x1, x2)), .string ⟨#[50]⟩] W fun e w' => e = .returned (.bool (hasB n s (x0, x1, x2) 50)) ∧ w' = W from fun W => CT 50 W)
  clear CT
  rw [HF]
  clear HF
  generalize hasB n s (x0, x1, x2) 48 = h0 at *
  generalize hasB n s (x0, x1, x2) 49 = h1 at *
  generalize hasB n s (x0, x1, x2) 50 = h2 at *
  generalize tell n s (x0, x1, x2) = tl at *
  have HT := Lib.hid hT
  clear hT hx
  show Calls Tryd.prog 57 #[.pointer (some ⟨t, 0, none⟩), .agg #[.int .i64 (x0 : Int), .int .i64 (x1 : Int), .int .i64 (x2 : Int)]] w _
  have hA : Below w.heap.size w (w.alloc (.cells #[.int .i64 (x0 : Int), .int .i64 (x1 : Int), .int .i64 (x2 : Int)] 80)) := (Below.refl _ _).alloc (Nat.le_refl _) _
  have HTA := Lib.hid (HT.out.more hA)
  cases h0
  · go_enter Tryd.func57, Tryd.ntmps57
    go_wp2_with (first
      | (go_at_call 61; refine (TX.out _ HTA.out).mono ?_; rintro e w1 ⟨rfl, hL⟩)
      | (go_at_call 60; refine (CT0.out _).mono ?_; rintro e w2 ⟨rfl, rfl⟩))
    go_ret
    exact ⟨rfl, hA.trans (hL.mono (by simp))⟩
  · cases h1
    · go_enter Tryd.func57, Tryd.ntmps57
      go_wp2_with (first
        | (go_at_call 61; refine (TX.out _ HTA.out).mono ?_; rintro e w1 ⟨rfl, hL⟩)
        | (go_at_call 60; refine (CT0.out _).mono ?_; rintro e w2 ⟨rfl, rfl⟩)
        | (go_at_call 60; refine (CT1.out _).mono ?_; rintro e w2 ⟨rfl, rfl⟩))
      go_ret
      exact ⟨rfl, hA.trans (hL.mono (by simp))⟩
    · go_enter Tryd.func57, Tryd.ntmps57
      go_wp2_with (first
        | (go_at_call 61; refine (TX.out _ HTA.out).mono ?_; rintro e w1 ⟨rfl, hL⟩)
        | (go_at_call 60; refine (CT0.out _).mono ?_; rintro e w2 ⟨rfl, rfl⟩)
        | (go_at_call 60; refine (CT1.out _).mono ?_; rintro e w2 ⟨rfl, rfl⟩)
        | (go_at_call 60; refine (CT2.out _).mono ?_; rintro e w2 ⟨rfl, rfl⟩))
      go_ret
      exact ⟨rfl, hA.trans (hL.mono (by simp))⟩

end Go.Proofs.YtpbiminbhihjnaaDoor
