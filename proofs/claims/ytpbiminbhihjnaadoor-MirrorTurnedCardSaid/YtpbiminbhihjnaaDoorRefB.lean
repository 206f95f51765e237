/-
  A part of the proofs over the mirror (layer 4): RefB.
-/
import Derived.Test.YtpbiminbhihjnaaDoorRefA
import Derived.Test.YtpbiminbhihjnaaDoorPlain
import Derived.Test.YtpbiminbhihjnaaDoorWords
namespace Go.Proofs.YtpbiminbhihjnaaDoor
open Go.RowKit Dist
set_option linter.unusedSimpArgs false
set_option linter.unusedVariables false

/-- The two rows after the first k places. -/
def Filled (n : Nat) (s : ByteArray) (p own emp : Int) (o c : List Int) (k : Nat) : Prop :=
  o.length = n * n ∧ c.length = n * n ∧ ∀ a, a < k → o.getD a 0 = initI n s p own emp a ∧ c.getD a 0 = costI s p own emp a

def WaysPost (n : Nat) (s : ByteArray) (p own emp : Int) (w : World) (e : Ending) (w' : World) : Prop :=
  ∃ (g : Nat) (o : List Int), e = .returned (.slice (some ⟨g, 0, none⟩) (n * n) (n * n)) ∧ w.heap.size ≤ g ∧ Blk w' g 3 (ints o) ∧ Below w.heap.size w w' ∧
    TabInv n s p own emp o ∧ FixTo n s p own emp o (n * n) 0

set_option maxHeartbeats 1000000 in
set_option maxRecDepth 100000 in
theorem ways_any (n : Nat) (s : ByteArray) (p own emp : Int) (w : World) (h1 : 1 ≤ n) (h : n ≤ 11) (hs : s.size = n * n) (hown : 0 ≤ own ∧ own ≤ 1) (hemp : (0 ≤ emp ∧ emp ≤ 1) ∨ emp = 1000) :
    Calls Tryd.prog 44 #[.int .i64 n, .string s, .int .u8 p, .int .i64 own, .int .i64 emp] w (WaysPost n s p own emp w) := by
  obtain ⟨N, hN⟩ : ∃ N, N = n * n := ⟨_, rfl⟩
  have hN121 : N ≤ 121 := by have := Nat.mul_le_mul h h; omega
  have hnn : (n : Int) * n = (N : Int) := by rw [hN]; exact (Int.natCast_mul n n).symm
  have hmk := make_ints N (by omega)
  rw [← hN] at hs
  have HN := Lib.hid hN
  clear hN
  have hs' : N ≤ s.size := by omega
  have hs'' : s.size ≤ N := by omega
  clear hs
  go_enter Tryd.func44, Tryd.ntmps44
  go_wp2
  go_loopg [13] N (fun k a wr => ∃ (j : Nat) (o c : List Int), a = .int .i64 j ∧ Hid (k = N - j) ∧ j ≤ N ∧ Below w.heap.size w wr ∧ Blk wr w.heap.size 3 (ints o) ∧ Blk wr (w.heap.size + 1) 3 (ints c) ∧ Filled n s p own emp o c j)
  case atStart =>
    refine ⟨0, List.replicate N 0, List.replicate N 0, rfl, rfl, by omega, ((Below.refl _ _).alloc (Nat.le_refl _) _).alloc (by simp) _, ?_, ?_, ?_⟩
    · exact (Blk.new _ _ _).alloc _
    · have := Blk.new (w.alloc (.cells (ints (List.replicate N 0)) 3)) 3 (ints (List.replicate N 0))
      simpa using this
    · exact ⟨by simp [HN.out], by simp [HN.out], fun a ha => by omega⟩
  case round =>
    obtain ⟨j, o, c, rfl, hk, hj, hb, ho, hc, hf⟩ := hrel
    by_cases hlt : j < N
    · have hol := Lib.hid hf.1
      have hcl := Lib.hid hf.2.1
      have co : wr.cell? ⟨w.heap.size, j, none⟩ = some (.int .i64 (o.getD j 0)) := by rw [ho.cell, ints_get _ _ (by have := hol.out; have := HN.out; omega)]
      have cc : wr.cell? ⟨w.heap.size + 1, j, none⟩ = some (.int .i64 (c.getD j 0)) := by rw [hc.cell, ints_get _ _ (by have := hcl.out; have := HN.out; omega)]
      have fo : wr.frozen? ⟨w.heap.size, j, none⟩ = false := ho.frozen j
      have fc : wr.frozen? ⟨w.heap.size + 1, j, none⟩ = false := hc.frozen j
      have fill : ∀ v : Int, v = costI s p own emp j → ∀ x, x = initI n s p own emp j → Filled n s p own emp ((o.set j 1000).set j x) (c.set j v) (j + 1) := by
        intro v hv x hx
        refine ⟨by simp [hol.out], by simp [hcl.out], fun a ha => ?_⟩
        have h1 := hol.out
        have h2 := hcl.out
        have h3 := HN.out
        rw [getD_set _ _ _ _ _ (by simp; omega), getD_set _ _ _ _ _ (by omega), getD_set _ _ _ _ _ (by omega)]
        by_cases e : a = j
        · subst e
          rw [if_pos rfl, if_pos rfl]
          exact ⟨hx, hv⟩
        · rw [if_neg e, if_neg e, if_neg e]
          exact hf.2.2 a (by omega)
      have fill' : ∀ v : Int, v = costI s p own emp j → 1000 = initI n s p own emp j → Filled n s p own emp (o.set j 1000) (c.set j v) (j + 1) := by
        intro v hv hx
        have := fill v hv 1000 hx
        rwa [List.set_set] at this
      have world : ∀ v : Int, Blk ((wr.setCell ⟨w.heap.size, j, none⟩ (.int .i64 1000)).setCell ⟨w.heap.size + 1, j, none⟩ (.int .i64 v)) w.heap.size 3 (ints (o.set j 1000)) ∧
          Blk ((wr.setCell ⟨w.heap.size, j, none⟩ (.int .i64 1000)).setCell ⟨w.heap.size + 1, j, none⟩ (.int .i64 v)) (w.heap.size + 1) 3 (ints (c.set j v)) ∧
          Below w.heap.size w ((wr.setCell ⟨w.heap.size, j, none⟩ (.int .i64 1000)).setCell ⟨w.heap.size + 1, j, none⟩ (.int .i64 v)) := by
        intro v
        refine ⟨?_, ?_, (hb.setCell (Nat.le_refl _) _).setCell (by simp) _⟩
        · have := (ho.set_ j (.int .i64 1000)).far (p := ⟨w.heap.size + 1, j, none⟩) (by simp) (.int .i64 v)
          rwa [ints_set] at this
        · have := (hc.far (p := ⟨w.heap.size, j, none⟩) (by simp) (.int .i64 1000)).set_ j (.int .i64 v)
          rwa [ints_set] at this
      have cell2 : ∀ v : Int, ((wr.setCell ⟨w.heap.size, j, none⟩ (.int .i64 1000)).setCell ⟨w.heap.size + 1, j, none⟩ (.int .i64 v)).cell? ⟨w.heap.size + 1, j, none⟩ = some (.int .i64 v) := by
        intro v
        rw [(world v).2.1.cell, ints_get _ _ (by have := hcl.out; have := HN.out; simp; omega), getD_set _ _ _ _ _ (by have := hcl.out; have := HN.out; omega), if_pos rfl]
      have cell1 : ∀ v : Int, ((wr.setCell ⟨w.heap.size, j, none⟩ (.int .i64 1000)).setCell ⟨w.heap.size + 1, j, none⟩ (.int .i64 v)).cell? ⟨w.heap.size, j, none⟩ = some (.int .i64 1000) := by
        intro v
        rw [(world v).1.cell, ints_get _ _ (by have := hol.out; have := HN.out; simp; omega), getD_set _ _ _ _ _ (by have := hol.out; have := HN.out; omega), if_pos rfl]
      have free1 : ∀ v : Int, ((wr.setCell ⟨w.heap.size, j, none⟩ (.int .i64 1000)).setCell ⟨w.heap.size + 1, j, none⟩ (.int .i64 v)).frozen? ⟨w.heap.size, j, none⟩ = false := fun v => (world v).1.frozen j
      have FILL := Lib.hid fill
      have FILL' := Lib.hid fill'
      have WORLD := Lib.hid world
      have hbt := Lib.hid (bt_eq s j (by omega))
      clear fill fill' world hf ho hc hb
      by_cases hp : ((s[j].toNat : Int) == p) = true
      · have hv := Lib.hid (show own = costI s p own emp j by unfold costI; rw [if_pos (by rw [← hbt.out]; exact beq_iff_eq.1 hp)])
        have o1 : own < 1000 := by omega
        have c2 := cell2 own
        have c1 := cell1 own
        have f1 := free1 own
        clear cell2 cell1 free1
        by_cases he : endsB n p j = true
        · have hx := Lib.hid (show own = initI n s p own emp j by unfold initI; rw [if_pos ⟨he, by rw [← hv.out]; omega⟩]; exact hv.out)
          go_wp2_with (go_at_call 66; refine (ends_any _ _ _ _ (by omega) (by omega) (by omega)).mono ?_; rintro e w' ⟨rfl, rfl⟩)
          go_roundg (N - (j + 1))
          case measure => have := hk.out; omega
          case rel =>
            refine ⟨j + 1, _, _, by go_num, rfl, by omega, ?_, ?_, ?_, FILL.out own hv.out own hx.out⟩
            · exact (WORLD.out own).2.2.setCell (Nat.le_refl _) _
            · have := (WORLD.out own).1.set_ j (.int .i64 own)
              rwa [ints_set] at this
            · exact (WORLD.out own).2.1.far (p := ⟨w.heap.size, j, none⟩) (by simp) _
        · have he' : endsB n p j = false := by simpa using he
          have hx := Lib.hid (show 1000 = initI n s p own emp j by unfold initI; rw [if_neg (by simp [he])])
          clear he
          go_wp2_with (go_at_call 66; refine (ends_any _ _ _ _ (by omega) (by omega) (by omega)).mono ?_; rintro e w' ⟨rfl, rfl⟩)
          go_roundg (N - (j + 1))
          case measure => have := hk.out; omega
          case rel =>
            exact ⟨j + 1, _, _, by go_num, rfl, by omega, (WORLD.out own).2.2, (WORLD.out own).1, (WORLD.out own).2.1, FILL'.out own hv.out hx.out⟩
      · have hp' : ((s[j].toNat : Int) == p) = false := by simpa using hp
        by_cases hd : ((s[j].toNat : Int) == 46) = true
        · have hv := Lib.hid (show emp = costI s p own emp j by
            unfold costI
            rw [if_neg (by rw [← hbt.out]; exact fun e => hp (beq_iff_eq.2 e)), if_pos (by rw [← hbt.out]; exact beq_iff_eq.1 hd)])
          clear hp
          by_cases o1 : emp < 1000
          · skip
            have c2 := cell2 emp
            have c1 := cell1 emp
            have f1 := free1 emp
            clear cell2 cell1 free1
            by_cases he : endsB n p j = true
            · have hx := Lib.hid (show emp = initI n s p own emp j by unfold initI; rw [if_pos ⟨he, by rw [← hv.out]; omega⟩]; exact hv.out)
              go_wp2_with (go_at_call 66; refine (ends_any _ _ _ _ (by omega) (by omega) (by omega)).mono ?_; rintro e w' ⟨rfl, rfl⟩)
              go_roundg (N - (j + 1))
              case measure => have := hk.out; omega
              case rel =>
                refine ⟨j + 1, _, _, by go_num, rfl, by omega, ?_, ?_, ?_, FILL.out emp hv.out emp hx.out⟩
                · exact (WORLD.out emp).2.2.setCell (Nat.le_refl _) _
                · have := (WORLD.out emp).1.set_ j (.int .i64 emp)
                  rwa [ints_set] at this
                · exact (WORLD.out emp).2.1.far (p := ⟨w.heap.size, j, none⟩) (by simp) _
            · have he' : endsB n p j = false := by simpa using he
              have hx := Lib.hid (show 1000 = initI n s p own emp j by unfold initI; rw [if_neg (by simp [he])])
              clear he
              go_wp2_with (go_at_call 66; refine (ends_any _ _ _ _ (by omega) (by omega) (by omega)).mono ?_; rintro e w' ⟨rfl, rfl⟩)
              go_roundg (N - (j + 1))
              case measure => have := hk.out; omega
              case rel =>
                exact ⟨j + 1, _, _, by go_num, rfl, by omega, (WORLD.out emp).2.2, (WORLD.out emp).1, (WORLD.out emp).2.1, FILL'.out emp hv.out hx.out⟩
          · have o2 : 1000 ≤ emp := by omega
            have c2 := cell2 emp
            have c1 := cell1 emp
            have f1 := free1 emp
            clear cell2 cell1 free1
            by_cases he : endsB n p j = true
            · have hx := Lib.hid (show 1000 = initI n s p own emp j by unfold initI; rw [if_neg (by rw [← hv.out]; omega)])
              go_wp2_with (go_at_call 66; refine (ends_any _ _ _ _ (by omega) (by omega) (by omega)).mono ?_; rintro e w' ⟨rfl, rfl⟩)
              go_roundg (N - (j + 1))
              case measure => have := hk.out; omega
              case rel =>
                exact ⟨j + 1, _, _, by go_num, rfl, by omega, (WORLD.out emp).2.2, (WORLD.out emp).1, (WORLD.out emp).2.1, FILL'.out emp hv.out hx.out⟩
            · have he' : endsB n p j = false := by simpa using he
              have hx := Lib.hid (show 1000 = initI n s p own emp j by unfold initI; rw [if_neg (by simp [he])])
              clear he
              go_wp2_with (go_at_call 66; refine (ends_any _ _ _ _ (by omega) (by omega) (by omega)).mono ?_; rintro e w' ⟨rfl, rfl⟩)
              go_roundg (N - (j + 1))
              case measure => have := hk.out; omega
              case rel =>
                exact ⟨j + 1, _, _, by go_num, rfl, by omega, (WORLD.out emp).2.2, (WORLD.out emp).1, (WORLD.out emp).2.1, FILL'.out emp hv.out hx.out⟩
        · have hd' : ((s[j].toNat : Int) == 46) = false := by simpa using hd
          have hv := Lib.hid (show 1000 = costI s p own emp j by
            unfold costI
            rw [if_neg (by rw [← hbt.out]; exact fun e => hp (beq_iff_eq.2 e)), if_neg (by rw [← hbt.out]; exact fun e => hd (beq_iff_eq.2 e))])
          clear hp hd
          have c2 := cell2 1000
          have c1 := cell1 1000
          have f1 := free1 1000
          clear cell2 cell1 free1
          by_cases he : endsB n p j = true
          · have hx := Lib.hid (show 1000 = initI n s p own emp j by unfold initI; rw [if_neg (by rw [← hv.out]; omega)])
            go_wp2_with (go_at_call 66; refine (ends_any _ _ _ _ (by omega) (by omega) (by omega)).mono ?_; rintro e w' ⟨rfl, rfl⟩)
            go_roundg (N - (j + 1))
            case measure => have := hk.out; omega
            case rel =>
              exact ⟨j + 1, _, _, by go_num, rfl, by omega, (WORLD.out 1000).2.2, (WORLD.out 1000).1, (WORLD.out 1000).2.1, FILL'.out 1000 hv.out hx.out⟩
          · have he' : endsB n p j = false := by simpa using he
            have hx := Lib.hid (show 1000 = initI n s p own emp j by unfold initI; rw [if_neg (by simp [he])])
            clear he
            go_wp2_with (go_at_call 66; refine (ends_any _ _ _ _ (by omega) (by omega) (by omega)).mono ?_; rintro e w' ⟨rfl, rfl⟩)
            go_roundg (N - (j + 1))
            case measure => have := hk.out; omega
            case rel =>
              exact ⟨j + 1, _, _, by go_num, rfl, by omega, (WORLD.out 1000).2.2, (WORLD.out 1000).1, (WORLD.out 1000).2.1, FILL'.out 1000 hv.out hx.out⟩
    · obtain rfl : N = j := by omega
      have INV := Lib.hid (show TabInv n s p own emp o from TabInv.start (by omega) (by omega) hf.1 fun a ha => (hf.2.2 a (by have := HN.out; omega)).1)
      have COST := Lib.hid (show c.length = n * n ∧ ∀ a, a < n * n → c.getD a 0 = costI s p own emp a from ⟨hf.2.1, fun a ha => (hf.2.2 a (by have := HN.out; omega)).2⟩)
      clear hf hk
      go_wp2_with fail
      go_loopg [14] (tsum o + 1) (fun k ag wr => ∃ (b : Bool) (o : List Int), ag = .bool b ∧ Hid (k = if b then tsum o + 1 else 0) ∧ Below w.heap.size w wr ∧ Blk wr w.heap.size 3 (ints o) ∧ Blk wr (w.heap.size + 1) 3 (ints c) ∧ Hid (TabInv n s p own emp o) ∧ Hid (b = false → FixTo n s p own emp o (n * n) 0))
      case atStart => exact ⟨true, o, rfl, rfl, hb, ho, hc, INV, fun h => by cases h⟩
      case round =>
        clear ho hb INV hc
        obtain ⟨b, o0, rfl, hk, hb, ho, hc, INV, FIX⟩ := hrel
        cases b with
        | false =>
          have FIX' := Lib.hid (FIX.out rfl)
          clear FIX
          go_wp2_with fail
          go_ret
          exact ⟨w.heap.size, o0, by rw [← HN.out]; rfl, Nat.le_refl _, ho, hb, INV.out, FIX'.out⟩
        | true =>
          clear FIX
          go_wp2_with fail
          go_loopg [14, 15] N (fun k ag i wr => ∃ (b : Bool) (a : Nat) (o : List Int), ag = .bool b ∧ i = .int .i64 a ∧ a ≤ N ∧ Hid (k = N - a) ∧ Below w.heap.size w wr ∧ Blk wr w.heap.size 3 (ints o) ∧ Blk wr (w.heap.size + 1) 3 (ints c) ∧ Hid (St n s p own emp o0 o b a 0))
          case atStart => exact ⟨false, 0, o0, rfl, rfl, by omega, rfl, hb, ho, hc, St.begin_ INV.out⟩
          case round =>
            clear ho hb hc INV
            obtain ⟨b, a, o1, rfl, rfl, ha, hk3, hb, ho, hc, ST⟩ := hrel
            by_cases hlt : a < N
            · go_wp2_with fail
              go_loopg [14, 16] N (fun k ag i wr => ∃ (b : Bool) (q : Nat) (o : List Int), ag = .bool b ∧ i = .int .i64 q ∧ q ≤ N ∧ Hid (k = N - q) ∧ Below w.heap.size w wr ∧ Blk wr w.heap.size 3 (ints o) ∧ Blk wr (w.heap.size + 1) 3 (ints c) ∧ Hid (St n s p own emp o0 o b a q))
              case atStart => exact ⟨b, 0, o1, rfl, rfl, by omega, rfl, hb, ho, hc, ST⟩
              case round =>
                clear ho hb hc ST
                obtain ⟨b, q, o, rfl, rfl, hq, hk4, hb, ho, hc, ST⟩ := hrel
                by_cases hlq : q < N
                · have INV := ST.out.inv
                  have L1 := Lib.hid INV.len
                  have L2 := Lib.hid COST.out.1
                  have B1 := INV.bd a (by rw [← HN.out]; exact hlt)
                  have B2 := INV.bd q (by rw [← HN.out]; exact hlq)
                  have HC := Lib.hid (COST.out.2 a (by rw [← HN.out]; exact hlt))
                  have C1 : 0 ≤ c.getD a 0 ∧ c.getD a 0 ≤ 1000 := by
                    rw [HC.out]
                    exact ⟨cost_nonneg hown.1 (by omega) a, cost_le (by omega) (by omega) a⟩
                  have co : wr.cell? ⟨w.heap.size, a, none⟩ = some (.int .i64 (o.getD a 0)) := by rw [ho.cell, ints_get _ _ (by have := L1.out; have := HN.out; omega)]
                  have cq : wr.cell? ⟨w.heap.size, q, none⟩ = some (.int .i64 (o.getD q 0)) := by rw [ho.cell, ints_get _ _ (by have := L1.out; have := HN.out; omega)]
                  have cc : wr.cell? ⟨w.heap.size + 1, a, none⟩ = some (.int .i64 (c.getD a 0)) := by rw [hc.cell, ints_get _ _ (by have := L2.out; have := HN.out; omega)]
                  have fo : wr.frozen? ⟨w.heap.size, a, none⟩ = false := ho.frozen a
                  clear INV
                  generalize hca : c.getD a 0 = ca at *
                  generalize hoa : o.getD a 0 = oa at *
                  generalize hoq : o.getD q 0 = oq at *
                  have HCA := Lib.hid hca
                  have HOA := Lib.hid hoa
                  have HOQ := Lib.hid hoq
                  clear hca hoa hoq
                  by_cases t1 : ca < 1000
                  · by_cases t2 : nearB n a q = true
                    · by_cases t3 : oq + ca < oa
                      · go_wp2_with fail
                        go_quiet ((go_at_call 65; exact Calls.quiet_of (near_any _ _ _ _ (by omega) (by omega) (by omega) (by omega) (by omega) (by omega))))
                        go_wp2_with fail
                        go_region
                        go_wp2_with fail
                        go_roundg (N - (q + 1))
                        case measure => have := hk4.out; omega
                        case rel =>
                          have R := St.relax hown hemp ST.out (by rw [← HN.out]; exact hlt) (by rw [← HN.out]; exact hlq) (by rw [← HC.out]; exact t1) t2 (by rw [← HC.out, HOA.out, HOQ.out]; exact t3) a (q + 1)
                          rw [← HC.out, HOQ.out] at R
                          have hb' := ((below_drewN' hb nq).drew).setCell (p := ⟨w.heap.size, a, none⟩) (Nat.le_refl _) (.int .i64 (oq + ca))
                          have ho' := (((ho.drewN nq).drew)).set_ a (.int .i64 (oq + ca))
                          rw [ints_set] at ho'
                          exact ⟨true, q + 1, _, rfl, by go_num, by omega, rfl, hb', ho', ((hc.drewN nq).drew).far (p := ⟨w.heap.size, a, none⟩) (by simp) _, R⟩
                      · have d3 : decide (oq + ca < oa) = false := by simpa using t3
                        go_wp2_with fail
                        go_quiet ((go_at_call 65; exact Calls.quiet_of (near_any _ _ _ _ (by omega) (by omega) (by omega) (by omega) (by omega) (by omega))))
                        go_wp2_with fail
                        go_roundg (N - (q + 1))
                        case measure => have := hk4.out; omega
                        case rel => exact ⟨b, q + 1, o, rfl, by go_num, by omega, rfl, below_drewN' hb nq, ho.drewN nq, hc.drewN nq, St.skip ST.out (by rintro ⟨_, _, x⟩; rw [← HC.out, HOA.out, HOQ.out] at x; omega)⟩
                    · have d2 : nearB n a q = false := by simpa using t2
                      go_wp2_with fail
                      go_quiet ((go_at_call 65; exact Calls.quiet_of (near_any _ _ _ _ (by omega) (by omega) (by omega) (by omega) (by omega) (by omega))))
                      go_wp2_with fail
                      go_roundg (N - (q + 1))
                      case measure => have := hk4.out; omega
                      case rel => exact ⟨b, q + 1, o, rfl, by go_num, by omega, rfl, below_drewN' hb nq, ho.drewN nq, hc.drewN nq, St.skip ST.out (by rintro ⟨_, x, _⟩; exact t2 x)⟩
                  · have d1 : decide (ca < 1000) = false := by simpa using t1
                    go_wp2_with fail
                    go_quiet ((go_at_call 65; exact Calls.quiet_of (near_any _ _ _ _ (by omega) (by omega) (by omega) (by omega) (by omega) (by omega))))
                    go_wp2_with fail
                    go_roundg (N - (q + 1))
                    case measure => have := hk4.out; omega
                    case rel => exact ⟨b, q + 1, o, rfl, by go_num, by omega, rfl, below_drewN' hb nq, ho.drewN nq, hc.drewN nq, St.skip ST.out (by rintro ⟨x, _, _⟩; rw [← HC.out] at x; omega)⟩
                · obtain rfl : N = q := by omega
                  go_wp2_with fail
                  go_roundg (N - (a + 1))
                  case measure => have := hk3.out; omega
                  case rel => exact ⟨b, a + 1, o, rfl, by go_num, by omega, rfl, hb, ho, hc, St.row (by rw [← HN.out]; exact ST.out)⟩
            · obtain rfl : N = a := by omega
              go_wp2_with fail
              cases b with
              | true =>
                go_roundg (tsum o1 + 1)
                case measure => have h1 := hk.out; have h2 := ST.out.less rfl; rw [if_pos trivial] at h1; omega
                case rel => exact ⟨true, o1, rfl, rfl, hb, ho, hc, ST.out.inv, fun h => by cases h⟩
              | false =>
                go_roundg 0
                case measure => have h1 := hk.out; rw [if_pos trivial] at h1; omega
                case rel => exact ⟨false, o1, rfl, rfl, hb, ho, hc, ST.out.inv, fun _ => by have := (ST.out.same rfl).2; rw [← HN.out]; exact this⟩

end Go.Proofs.YtpbiminbhihjnaaDoor
