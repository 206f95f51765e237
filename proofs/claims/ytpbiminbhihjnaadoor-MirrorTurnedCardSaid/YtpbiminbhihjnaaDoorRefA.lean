/-
  A part of the proofs over the mirror (layer 4): RefA.
-/
import Derived.Test.YtpbiminbhihjnaaDoorProg
import Derived.Test.YtpbiminbhihjnaaDoorWords
import Derived.Test.YtpbiminbhihjnaaDoorPlain
namespace Go.Proofs.YtpbiminbhihjnaaDoor
open Go.RowKit
set_option linter.unusedSimpArgs false
set_option linter.unusedVariables false




theorem points_any (n : Int) (w : World) (h0 : 0 ≤ n) (h : n ≤ 100) :
    Calls Tryd.prog 59 #[.int .i64 n] w fun e w' => e = .returned (.int .i64 ((n + 1) * (n + 2) / 2)) ∧ w = w' := by
  have hb := mul_bd (a := n + 1) (b := n + 2) (A := 101) (B := 102) (by omega) (by omega) (by omega) (by omega)
  go_enter Tryd.func59, Tryd.ntmps59
  go_wp2
  go_ret
  exact ⟨rfl, rfl⟩

theorem begins_any (n p a : Int) (w : World) (h1 : 1 ≤ n) (h : n ≤ 11) (ha : 0 ≤ a) :
    Calls Tryd.prog 45 #[.int .i64 n, .int .u8 p, .int .i64 a] w fun e w' => e = .returned (.bool (beginsB n p a)) ∧ w = w' := by
  by_cases hp : p = 120
  · have e : beginsB n p a = decide (a < n) := by unfold beginsB; rw [if_pos (by simp [hp])]
    have E := Lib.hid e
    clear e
    have hp' : (p == 120) = true := by simp [hp]
    clear hp
    go_enter Tryd.func45, Tryd.ntmps45
    go_wp2
    go_ret
    exact ⟨ret_bool E.out.symm, rfl⟩
  · have e : beginsB n p a = (a % n == 0) := by unfold beginsB; rw [if_neg (by simp [hp])]
    have E := Lib.hid e
    clear e
    have hp' : (p == 120) = false := by simp [hp]
    clear hp
    go_enter Tryd.func45, Tryd.ntmps45
    go_wp2
    go_ret
    exact ⟨ret_bool E.out.symm, rfl⟩

theorem ends_any (n p a : Int) (w : World) (h1 : 1 ≤ n) (h : n ≤ 11) (ha : 0 ≤ a) :
    Calls Tryd.prog 66 #[.int .i64 n, .int .u8 p, .int .i64 a] w fun e w' => e = .returned (.bool (endsB n p a)) ∧ w = w' := by
  have hb := mul_bd (a := n) (b := n - 1) (A := 11) (B := 11) (by omega) (by omega) (by omega) (by omega)
  by_cases hp : p = 120
  · have e : endsB n p a = decide (n * (n - 1) ≤ a) := by unfold endsB; rw [if_pos (by simp [hp])]
    have E := Lib.hid e
    clear e
    have hp' : (p == 120) = true := by simp [hp]
    clear hp
    go_enter Tryd.func66, Tryd.ntmps66
    go_wp2
    go_ret
    exact ⟨ret_bool E.out.symm, rfl⟩
  · have e : endsB n p a = (a % n == n - 1) := by unfold endsB; rw [if_neg (by simp [hp])]
    have E := Lib.hid e
    clear e
    have hp' : (p == 120) = false := by simp [hp]
    clear hp
    go_enter Tryd.func66, Tryd.ntmps66
    go_wp2
    go_ret
    exact ⟨ret_bool E.out.symm, rfl⟩

theorem near_any (n a b : Int) (w : World) (h1 : 1 ≤ n) (h : n ≤ 11) (ha : 0 ≤ a) (hb : 0 ≤ b) (ha' : a ≤ 121) (hb' : b ≤ 121) :
    Calls Tryd.prog 65 #[.int .i64 n, .int .i64 a, .int .i64 b] w fun e w' => e = .returned (.bool (nearB n a b)) ∧ ∃ k, w' = w.drewN k := by
  have q1 : 0 ≤ b / n := Int.ediv_nonneg hb (by omega)
  have q2 : b / n ≤ b := Int.ediv_le_self _ hb
  have q3 : 0 ≤ a / n := Int.ediv_nonneg ha (by omega)
  have q4 : a / n ≤ a := Int.ediv_le_self _ ha
  have q5 : 0 ≤ b % n := Int.emod_nonneg _ (by omega)
  have q6 : b % n < n := Int.emod_lt_of_pos _ (by omega)
  have q7 : 0 ≤ a % n := Int.emod_nonneg _ (by omega)
  have q8 : a % n < n := Int.emod_lt_of_pos _ (by omega)
  go_enter Tryd.func65, Tryd.ntmps65
  go_wp2
  go_quiet (fail)
  go_wp2
  all_goals go_ret
  all_goals (refine ⟨ret_bool ?_, _, rfl⟩; simp [nearB, *])

theorem many_any (s : ByteArray) (b : Int) (w : World) (hs : s.size ≤ 1000) :
    Calls Tryd.prog 19 #[.string s, .int .u8 b] w fun e w' => e = .returned (.int .i64 (many s b s.size)) ∧ w = w' := by
  go_enter Tryd.func19, Tryd.ntmps19
  go_wp2
  go_loop [5, 6] (fun n i => ∃ k : Nat, k ≤ s.size ∧ i = .int .i64 k ∧ n = .int .i64 (many s b k)) (fun _ i => s.size - (intOf i).toNat)
  case atStart => exact ⟨0, Nat.zero_le _, rfl, rfl⟩
  case round =>
    obtain ⟨k, hk, rfl, rfl⟩ := hrel
    have hd : 0 ≤ many s b k ∧ many s b k ≤ k := by
      unfold many
      have h1 := List.length_filter_le (fun c : UInt8 => (c.toNat : Int) == b) (s.data.toList.take k)
      have h2 : (s.data.toList.take k).length ≤ k := List.length_take_le _ _
      omega
    by_cases hlt : k < s.size
    · have hsn : many s b (k + 1) = many s b k + if ((s[k].toNat : Int) == b) = true then 1 else 0 := by
        unfold many
        rw [List.take_succ_eq_append_getElem (by simpa using hlt), List.filter_append]
        by_cases h : ((s[k].toNat : Int) == b) = true
        · rw [if_pos h]
          have : s.data.toList[k]'(by simpa using hlt) = s[k] := rfl
          simp [List.filter_cons, this, h]
        · rw [if_neg h]
          have : s.data.toList[k]'(by simpa using hlt) = s[k] := rfl
          simp [List.filter_cons, this, h]
      have HS := Lib.hid hsn
      clear hsn
      go_wp2
      all_goals
        go_round
        case rel => exact ⟨k + 1, by omega, by go_num, by rw [HS.out]; first | (rw [if_pos (by assumption)]; done) | (rw [if_neg (Bool.eq_false_iff.1 (by assumption))]; go_num)⟩
        case measure => simp [intOf]; omega
    · go_wp2
      go_ret
      exact ⟨ret_int (by rw [show k = s.size by omega]), rfl⟩

theorem board_any (n : Int) (s : ByteArray) (empty : Bool) (w : World) (hs : s.size ≤ 1000) :
    Calls Tryd.prog 20 #[.int .i64 n, .string s, .bool empty] w fun e w' => e = .returned (.int .i64 (boardErr n s empty)) ∧ w = w' := by
  by_cases h1 : n < 1 ∨ 11 < n
  · have e := Lib.hid (show boardErr n s empty = 2 by unfold boardErr; rw [if_pos h1])
    by_cases h2 : n < 1
    · clear h1
      go_enter Tryd.func20, Tryd.ntmps20
      go_wp2
      go_ret
      exact ⟨ret_int e.out.symm, rfl⟩
    · have h3 : 11 < n := by omega
      clear h1
      go_enter Tryd.func20, Tryd.ntmps20
      go_wp2
      go_ret
      exact ⟨ret_int e.out.symm, rfl⟩
  · have a1 : ¬ n < 1 := by omega
    have a2 : ¬ 11 < n := by omega
    have a3 : n ≤ 11 := by omega
    have a4 : 1 ≤ n := by omega
    have hb := mul_bd (a := n) (b := n) (A := 11) (B := 11) (by omega) (by omega) (by omega) (by omega)
    by_cases h4 : (s.size : Int) = n * n
    · have e := Lib.hid (show boardErr n s empty = if okBytes empty s s.size then 0 else 5 by unfold boardErr; rw [if_neg h1, if_neg (by simp [h4])])
      have h4b : ((s.size : Int) != n * n) = false := by simp [h4]
      clear h4 h1
      go_enter Tryd.func20, Tryd.ntmps20
      go_wp2
      go_loop [7] (fun i => ∃ k : Nat, k ≤ s.size ∧ i = .int .i64 k ∧ Hid (okBytes empty s k = true)) (fun i => s.size - (intOf i).toNat)
      case atStart => exact ⟨0, Nat.zero_le _, rfl, (by unfold okBytes; simp : okBytes empty s 0 = true)⟩
      case round =>
        obtain ⟨k, hk, rfl, hok⟩ := hrel
        by_cases hlt : k < s.size
        · have hsn := Lib.hid (okBytes_succ empty s k hlt)
          go_wp2
          all_goals first
            | (go_round
               case rel => exact ⟨k + 1, by omega, by go_num, by show okBytes empty s (k + 1) = true; rw [hsn.out, hok.out]; first | (simp [okByte, *]; done) | (simp_all [okByte]; done)⟩
               case measure => simp [intOf]; omega)
            | (go_ret
               refine ⟨ret_int ?_, rfl⟩
               rw [e.out, okBytes_full (k := k + 1) (by omega) (by rw [hsn.out, hok.out]; first | (simp [okByte, *]; done) | (simp_all [okByte]; done))]
               rfl)
        · go_wp2
          go_ret
          refine ⟨ret_int ?_, rfl⟩
          have hk' : k = s.size := by omega
          have h := hok.out
          rw [hk'] at h
          rw [e.out, h]
          rfl
    · have e := Lib.hid (show boardErr n s empty = 5 by unfold boardErr; rw [if_neg h1, if_pos h4])
      have h4b : ((s.size : Int) != n * n) = true := by simp [h4]
      clear h4 h1
      go_enter Tryd.func20, Tryd.ntmps20
      go_wp2
      go_ret
      exact ⟨ret_int e.out.symm, rfl⟩

end Go.Proofs.YtpbiminbhihjnaaDoor
