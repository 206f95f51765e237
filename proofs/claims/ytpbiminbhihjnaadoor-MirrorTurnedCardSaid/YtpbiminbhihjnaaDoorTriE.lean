/-
  A part of the proofs over the mirror (layer 4): TriE.
-/
import Derived.Test.YtpbiminbhihjnaaDoorTriD
import Derived.Test.YtpbiminbhihjnaaDoorRunI
import Derived.StillTailTactics
namespace Go.Proofs.YtpbiminbhihjnaaDoor
open Go.RowKit Tri Go.Maps Go.WideMaps Dist
set_option linter.unusedSimpArgs false
set_option linter.unusedVariables false

theorem TriAt.below {w w' : World} {t m n B : Nat} {s : ByteArray} (h : TriAt w t m n s) (hb : Below B w w') (h1 : t < B) (h2 : m < B) : TriAt w' t m n s := by
  obtain ⟨a, c, D, hM, r⟩ := h
  exact ⟨a.below hb h1, c, D, om_below hM hb h2, r⟩
theorem TriAt.more {w w' : World} {t m n : Nat} {s : ByteArray} (h : TriAt w t m n s) (hb : Below w.heap.size w w') : TriAt w' t m n s := by
  have h1 := h.1.lt
  obtain ⟨a, c, D, hM, r⟩ := h
  exact ⟨a.below hb h1, c, D, om_below hM hb (om_lt hM), r⟩
theorem TriAt.n_ {w : World} {t m n : Nat} {s : ByteArray} (h : TriAt w t m n s) : w.cell? ⟨t, 0, none⟩ = some (.int .i64 (n : Int)) := by rw [h.1.cell]; rfl
theorem TriAt.m_ {w : World} {t m n : Nat} {s : ByteArray} (h : TriAt w t m n s) : w.cell? ⟨t, 1, none⟩ = some (.map (some m)) := by rw [h.1.cell]; rfl

set_option maxRecDepth 100000 in
/-- What the map says of a point. -/
theorem TriAt.look {w : World} {t m n : Nat} {s : ByteArray} (h : TriAt w t m n s) (hn : n ≤ 20) {i j : Nat} (hij : i + j ≤ n) :
    (Instr.lookup 114 (.map (some m)) (ptV i j) false).run Tryd.prog w = .ok (.int .u8 (bt s (pos n i j))) w := by
  obtain ⟨_, c, D, hM, _, hat, _⟩ := h
  obtain ⟨c', hrun, hat', _⟩ := hM.lookup_int keyed94 Tryd.underlying114 Tryd.underlying5 (zero5 _) (key94 i j (by omega) (by omega))
  rw [hat i j hij] at hat'
  have e : bt s (pos n i j) = c' := by
    have := hat'
    simpa using this
  rw [e]
  exact hrun

/-- The colours of a cell's points. -/
def tellL (n : Nat) (s : ByteArray) (x : Cell) : List Int := [bt s (pos n (p0 x).1 (p0 x).2), bt s (pos n (p1 x).1 (p1 x).2), bt s (pos n (p2 x).1 (p2 x).2)]
def tell (n : Nat) (s : ByteArray) (x : Cell) : ByteArray := strOfNums (tellL n s x)

theorem wpStill_lookup {P : Program} {ops : Array Oper} {w : World} {Q : Act → Prop} {o : Oper} {rest : List Oper} {a : Act} (hg : o.guard = none) (m x : Operand) (t : TypeId) (hop : o.op = Op.lookup t m x false) {mv kv v : Value}
    (hm : a.eval m = mv) (hx : a.eval x = kv) (hrun : (Instr.lookup t mv kv false).run P w = .ok v w) (h : wpStill P ops w Q rest (a.put o.dst v)) : wpStill P ops w Q (o :: rest) a := by
  refine wpStill_step fun K hK => ?_
  rw [if_pos (by simp [Region.wanted, hg])]
  unfold Oper.still
  have : (execOp a.eval o).run P w = .ok (.value v) w := by simp [execOp, hop, hm, hx, hrun, Result.andThen]
  rw [this, Oper.stillUpon_value]
  exact hK _ h

def TextPost (n : Nat) (s : ByteArray) (x : Cell) (w : World) (e : Ending) (w' : World) : Prop := e = .returned (.string (tell n s x)) ∧ Below w.heap.size w w'

theorem cell_bound {n : Nat} {x : Cell} (hx : x ∈ cells n) (hn : n ≤ 20) : (x.1 < 2 ∧ x.2.1 < 100 ∧ x.2.2 < 100) ∧ (p0 x).1 + (p0 x).2 ≤ n ∧ (p1 x).1 + (p1 x).2 ≤ n ∧ (p2 x).1 + (p2 x).2 ≤ n := by
  obtain ⟨k, i, j⟩ := x
  obtain ⟨h1, h2⟩ := mem_cells.1 hx
  refine ⟨⟨h1, by show i < 100; omega, by show j < 100; omega⟩, ?_⟩
  simp only [p0, p1, p2]
  have : k = 0 ∨ k = 1 := by omega
  rcases this with rfl | rfl
  · simp; omega
  · simp; omega

set_option maxHeartbeats 2000000 in
set_option maxRecDepth 100000 in
theorem text61 (t m n : Nat) (s : ByteArray) (x : Cell) (w : World) (hT : TriAt w t m n s) (hn : n ≤ 20) (hx : x ∈ cells n) :
    Calls Tryd.prog 61 #[.pointer (some ⟨t, 0, none⟩), cellV x] w (TextPost n s x w) := by
  obtain ⟨hxb, q0, q1, q2⟩ := cell_bound hx hn
  have HT := Lib.hid hT
  have HX := Lib.hid hxb
  have P0 := Lib.hid q0
  have P1 := Lib.hid q1
  have P2 := Lib.hid q2
  clear hT hxb q0 q1 q2 hx
  have htell : tell n s x = strOfNums [bt s (pos n (p0 x).1 (p0 x).2), bt s (pos n (p1 x).1 (p1 x).2), bt s (pos n (p2 x).1 (p2 x).2)] := rfl
  have hpts : ptsV x = #[.int .i64 ((p0 x).1 : Int), .int .i64 ((p0 x).2 : Int), .int .i64 ((p1 x).1 : Int), .int .i64 ((p1 x).2 : Int), .int .i64 ((p2 x).1 : Int), .int .i64 ((p2 x).2 : Int)] := rfl
  have LK0 := Lib.hid (fun (W : World) (h : TriAt W t m n s) => h.look hn P0.out)
  have LK1 := Lib.hid (fun (W : World) (h : TriAt W t m n s) => h.look hn P1.out)
  have LK2 := Lib.hid (fun (W : World) (h : TriAt W t m n s) => h.look hn P2.out)
  obtain ⟨x0, x1, x2⟩ := x
  generalize (p0 (x0, x1, x2)).1 = a0 at *
  generalize (p0 (x0, x1, x2)).2 = b0 at *
  generalize (p1 (x0, x1, x2)).1 = a1 at *
  generalize (p1 (x0, x1, x2)).2 = b1 at *
  generalize (p2 (x0, x1, x2)).1 = a2 at *
  generalize (p2 (x0, x1, x2)).2 = b2 at *
  have B0 : 0 ≤ bt s (pos n a0 b0) ∧ bt s (pos n a0 b0) < 256 := by unfold bt; have := (s.data.toList.getD (pos n a0 b0) 0).toNat_lt; omega
  have B1 : 0 ≤ bt s (pos n a1 b1) ∧ bt s (pos n a1 b1) < 256 := by unfold bt; have := (s.data.toList.getD (pos n a1 b1) 0).toNat_lt; omega
  have B2 : 0 ≤ bt s (pos n a2 b2) ∧ bt s (pos n a2 b2) < 256 := by unfold bt; have := (s.data.toList.getD (pos n a2 b2) 0).toNat_lt; omega
  generalize bt s (pos n a0 b0) = c0 at *
  generalize bt s (pos n a1 b1) = c1 at *
  generalize bt s (pos n a2 b2) = c2 at *
  have HTELL := Lib.hid htell
  clear htell
  show Calls Tryd.prog 61 #[.pointer (some ⟨t, 0, none⟩), .agg #[.int .i64 (x0 : Int), .int .i64 (x1 : Int), .int .i64 (x2 : Int)]] w _
  go_enter Tryd.func61, Tryd.ntmps61
  go_wp2_with (go_at_call 80; refine (points80 (x0, x1, x2) HX.out _).mono ?_; rintro e w1 ⟨rfl, hL⟩; rw [hpts])
  have hLw : Below w.heap.size w w1 := ((Below.refl _ _).alloc (Nat.le_refl _) _).trans (hL.mono (by simp))
  have hb := Blk.new w1 117 #[.int .i64 (a0 : Int), .int .i64 (b0 : Int), .int .i64 (a1 : Int), .int .i64 (b1 : Int), .int .i64 (a2 : Int), .int .i64 (b2 : Int)]
  have hL2 := (Below.refl w1.heap.size w1).alloc (Nat.le_refl _) (.cells #[.int .i64 (a0 : Int), .int .i64 (b0 : Int), .int .i64 (a1 : Int), .int .i64 (b1 : Int), .int .i64 (a2 : Int), .int .i64 (b2 : Int)] 117)
  have hLW := Lib.hid (hLw.trans (hL2.mono hLw.size))
  have hT2 := HT.out.below hLW.out HT.out.1.lt (by obtain ⟨_, _, _, hM, _⟩ := HT.out; exact om_lt hM)
  generalize w1.alloc (.cells #[.int .i64 (a0 : Int), .int .i64 (b0 : Int), .int .i64 (a1 : Int), .int .i64 (b1 : Int), .int .i64 (a2 : Int), .int .i64 (b2 : Int)] 117) = W at *
  generalize w1.heap.size = g at *
  have k0 : (Instr.lookup 114 (.map (some m)) (.agg #[.int .i64 (a0 : Int), .int .i64 (b0 : Int)]) false).run Tryd.prog { heap := W.heap, tape := W.tape, drawn := W.drawn + 1, os := W.os, output := W.output } = .ok (.int .u8 c0) { heap := W.heap, tape := W.tape, drawn := W.drawn + 1, os := W.os, output := W.output } := LK0.out W.drew hT2
  have k1 : (Instr.lookup 114 (.map (some m)) (.agg #[.int .i64 (a1 : Int), .int .i64 (b1 : Int)]) false).run Tryd.prog { heap := W.heap, tape := W.tape, drawn := W.drawn + 1, os := W.os, output := W.output } = .ok (.int .u8 c1) { heap := W.heap, tape := W.tape, drawn := W.drawn + 1, os := W.os, output := W.output } := LK1.out W.drew hT2
  have k2 : (Instr.lookup 114 (.map (some m)) (.agg #[.int .i64 (a2 : Int), .int .i64 (b2 : Int)]) false).run Tryd.prog { heap := W.heap, tape := W.tape, drawn := W.drawn + 1, os := W.os, output := W.output } = .ok (.int .u8 c2) { heap := W.heap, tape := W.tape, drawn := W.drawn + 1, os := W.os, output := W.output } := LK2.out W.drew hT2
  have f0 : W.cell? ⟨g, 0, none⟩ = some (.int .i64 (a0 : Int)) := by rw [hb.cell]; rfl
  have f1 : W.cell? ⟨g, 1, none⟩ = some (.int .i64 (b0 : Int)) := by rw [hb.cell]; rfl
  have f2 : W.cell? ⟨g, 2, none⟩ = some (.int .i64 (a1 : Int)) := by rw [hb.cell]; rfl
  have f3 : W.cell? ⟨g, 3, none⟩ = some (.int .i64 (b1 : Int)) := by rw [hb.cell]; rfl
  have f4 : W.cell? ⟨g, 4, none⟩ = some (.int .i64 (a2 : Int)) := by rw [hb.cell]; rfl
  have f5 : W.cell? ⟨g, 5, none⟩ = some (.int .i64 (b2 : Int)) := by rw [hb.cell]; rfl
  have fm := hT2.m_
  have fn := hT2.n_
  have HG := Lib.hid (show g < W.heap.size from hb.lt)
  have HWL := Lib.hid (show w.heap.size ≤ W.heap.size from hLW.out.size)
  clear hb hL2 hT2 hL hLw hpts
  go_still_tail 21, (by kernel_rfl)
  refine wpStill_lookup rfl _ _ 114 rfl rfl rfl k0 ?_
  repeat still_step
  refine wpStill_lookup rfl _ _ 114 rfl rfl rfl k1 ?_
  repeat still_step
  refine wpStill_lookup rfl _ _ 114 rfl rfl rfl k2 ?_
  refine wpStill_nil ?_
  change wpList Tryd.prog _ _ _ _ W.drew
  have kcv : ∀ W2 : World, (convert 65 9 (.slice (some ⟨W2.heap.size, 0, none⟩) 3 3)).run Tryd.prog (W2.alloc (.cells #[.int .u8 c0, .int .u8 c1, .int .u8 c2] 5)) = .ok (.string (strOfNums [c0, c1, c2])) (W2.alloc (.cells #[.int .u8 c0, .int .u8 c1, .int .u8 c2] 5)) := fun W2 =>
    run_convert_bytes_arg _ 65 5 Tryd.underlying65 Tryd.underlying5 W2.heap.size 0 3 3 [c0, c1, c2] rfl (fun i hi => by
      rw [Nat.zero_add, (Blk.new W2 5 _).cell]
      have : i = 0 ∨ i = 1 ∨ i = 2 := by omega
      rcases this with rfl | rfl | rfl <;> rfl) 9 Tryd.underlying9
  have HLD := Lib.hid (show Below w.heap.size w W.drew from hLW.out.drew)
  have HSD := Lib.hid (show w.heap.size ≤ W.drew.heap.size from HWL.out)
  generalize W.drew = W2 at *
  go_wp2_with fail
  go_ret
  exact ⟨by rw [HTELL.out]; rfl, HLD.out.alloc HSD.out _⟩

end Go.Proofs.YtpbiminbhihjnaaDoor
