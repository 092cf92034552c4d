/- What lies beside a whole float, and its opposite: Nextafter's answers and that Work takes none of them. -/
import Derived.Test.YtdofdchckdchfaaWork
namespace Go.Proofs.Ytdofdchckdchfaa
open Go.RowKit
set_option linter.unusedVariables false

theorem rung_low {n : Nat} (h0 : 0 < n) (h1 : n ≤ 1048576) : rung n % 4294967296 = 0 := by
  have hL : n.log2 < 21 := (Nat.log2_lt (Nat.pos_iff_ne_zero.1 h0)).2 (by omega)
  unfold rung
  obtain ⟨j, hj⟩ : ∃ j, 52 - n.log2 = 32 + j := ⟨20 - n.log2, by omega⟩
  rw [hj, Nat.pow_add, show (4503599627370496 : Nat) = 1048576 * 4294967296 from rfl, show (2 : Nat) ^ 32 = 4294967296 from rfl]
  have e : (n.log2 + 1022) * (1048576 * 4294967296) + n * (4294967296 * 2 ^ j) = 4294967296 * ((n.log2 + 1022) * 1048576 + n * 2 ^ j) := by
    rw [Nat.mul_add, ← Nat.mul_assoc, Nat.mul_comm _ 4294967296, ← Nat.mul_assoc n, Nat.mul_comm n 4294967296, Nat.mul_assoc 4294967296 n]
  rw [e]
  exact Nat.mul_mod_right _ _

theorem fine_low {x : Nat} (h : kindOf x = 5) : x % 4294967296 = 0 := by
  obtain ⟨n, h0, h1, rfl, _⟩ := kind_fine h
  exact rung_low h0 h1

theorem work_none (x : Nat) (hx : x < 18446744073709551616) (h : ¬ kindOf x = 5) (w : World) : Calls Try.prog 13 #[.float .f64 x] w fun e w' => e = .returned (.tuple #[.int .i64 0, .bool false]) ∧ w' = w := by
  have := work_any x hx w
  rw [decide_eq_false h, show workOf x = 0 from if_neg h] at this
  exact this
theorem work_fine {n : Nat} (h0 : 0 < n) (h1 : n ≤ 1048576) (w : World) : Calls Try.prog 13 #[.float .f64 (rung n)] w fun e w' => e = .returned (.tuple #[.int .i64 n, .bool true]) ∧ w' = w := by
  have hk := fine_kind h0 h1
  obtain ⟨_, b, _, hv⟩ := rung_fine h0 h1
  have := work_any (rung n) (by omega) w
  rw [decide_eq_true hk, show workOf (rung n) = (n : Int) from (if_pos hk).trans (by rw [hv])] at this
  exact this

theorem next_up (x : Nat) (h0 : 0 < x) (h1 : x < 9218868437227405312) (w : World) : Calls Try.prog 21 #[.float .f64 x, .float .f64 9218868437227405312] w fun e w' => e = .returned (.float .f64 (x + 1)) ∧ w' = w := by
  have n1 := isnan_any x (by omega)
  have n2 := isnan_any 9218868437227405312 (by decide)
  rw [decide_eq_false (show ¬ isNan x by unfold isNan; omega)] at n1
  rw [decide_eq_false (show ¬ isNan 9218868437227405312 by unfold isNan; decide)] at n2
  have e1 := eq_pos (x := x) (y := 9218868437227405312) (by omega) (by decide)
  rw [decide_eq_false (by omega)] at e1
  have e2 := eq_pos (x := x) (y := 0) (by omega) (by decide)
  rw [decide_eq_false (by omega)] at e2
  have e3 := gt_pos (x := 9218868437227405312) (y := x) (by decide) (by omega)
  rw [decide_eq_true h1] at e3
  have e4 := gt_pos (x := x) (y := 0) (by omega) (by decide)
  rw [decide_eq_true h0] at e4
  have e5 : IntKind.u64.wrap ((x : Int) + 1) = ((x + 1 : Nat) : Int) := by simp [IntKind.wrap, IntKind.bits, IntKind.signed]; omega
  go_enter Try.func21, Try.ntmps21
  go_wp2_with (first | (go_at_call 29; with_reducible refine (n1 _).mono ?_; rintro e w1 ⟨rfl, rfl⟩) | (go_at_call 29; with_reducible refine (n2 _).mono ?_; rintro e w1 ⟨rfl, rfl⟩) | fail)
  go_ret
  exact ⟨by first | rfl | simp, rfl⟩
theorem next_down (x : Nat) (h0 : 0 < x) (h1 : x < 9218868437227405312) (w : World) : Calls Try.prog 21 #[.float .f64 x, .float .f64 0] w fun e w' => e = .returned (.float .f64 (x - 1)) ∧ w' = w := by
  have n1 := isnan_any x (by omega)
  have n2 := isnan_any 0 (by decide)
  rw [decide_eq_false (show ¬ isNan x by unfold isNan; omega)] at n1
  rw [decide_eq_false (show ¬ isNan 0 by unfold isNan; decide)] at n2
  have e2 := eq_pos (x := x) (y := 0) (by omega) (by decide)
  rw [decide_eq_false (by omega)] at e2
  have e3 := gt_pos (x := 0) (y := x) (by decide) (by omega)
  rw [decide_eq_false (by omega)] at e3
  have e4 := gt_pos (x := x) (y := 0) (by omega) (by decide)
  rw [decide_eq_true h0] at e4
  have e5 : IntKind.u64.wrap ((x : Int) - 1) = ((x - 1 : Nat) : Int) := by simp [IntKind.wrap, IntKind.bits, IntKind.signed]; omega
  go_enter Try.func21, Try.ntmps21
  go_wp2_with (first | (go_at_call 29; with_reducible refine (n1 _).mono ?_; rintro e w1 ⟨rfl, rfl⟩) | (go_at_call 29; with_reducible refine (n2 _).mono ?_; rintro e w1 ⟨rfl, rfl⟩) | fail)
  go_ret
  exact ⟨by first | rfl | simp, rfl⟩

theorem neg_word {x : Nat} (h : x < 9223372036854775808) : 9223372036854775808 ≤ Op.negFloat .f64 x ∧ Op.negFloat .f64 x < 18446744073709551616 := by
  have e : Op.negFloat .f64 x = x ^^^ 2 ^ 63 := rfl
  rw [e]
  refine ⟨?_, Nat.xor_lt_two_pow (n := 64) (by omega) (by decide)⟩
  have : (x ^^^ 2 ^ 63).testBit 63 = true := by
    rw [Nat.testBit_xor, Nat.testBit_lt_two_pow (by omega), Nat.testBit_two_pow_self]
    rfl
  exact Nat.ge_two_pow_of_testBit this
/-- a number that is work, its float, what lies beside it, and what stands over against it. -/
theorem near (n : Nat) (h0 : 0 < n) (h1 : n ≤ 1048576) : ∃ X Y : Nat, (∀ w, Calls Try.prog 15 #[.int .i64 n] w fun e w' => e = .returned (.tuple #[.float .f64 X, .bool true]) ∧ w' = w) ∧
    (∀ w, Calls Try.prog 13 #[.float .f64 X] w fun e w' => e = .returned (.tuple #[.int .i64 n, .bool true]) ∧ w' = w) ∧
    (∀ w, Calls Try.prog 21 #[.float .f64 X, .float .f64 9218868437227405312] w fun e w' => e = .returned (.float .f64 (X + 1)) ∧ w' = w) ∧
    (∀ w, Calls Try.prog 13 #[.float .f64 (X + 1)] w fun e w' => e = .returned (.tuple #[.int .i64 0, .bool false]) ∧ w' = w) ∧
    (∀ w, Calls Try.prog 21 #[.float .f64 X, .float .f64 0] w fun e w' => e = .returned (.float .f64 (X - 1)) ∧ w' = w) ∧
    (∀ w, Calls Try.prog 13 #[.float .f64 (X - 1)] w fun e w' => e = .returned (.tuple #[.int .i64 0, .bool false]) ∧ w' = w) ∧
    (∀ w, (Op.unary UnOp.neg (.float .f64 X)).run Try.prog w = .ok (.float .f64 Y) w) ∧
    (∀ w, Calls Try.prog 13 #[.float .f64 Y] w fun e w' => e = .returned (.tuple #[.int .i64 0, .bool false]) ∧ w' = w) := by
  obtain ⟨a, b, _, _⟩ := rung_fine h0 h1
  have hl := rung_low h0 h1
  refine ⟨rung n, Op.negFloat .f64 (rung n), fun w => ?_, work_fine h0 h1, next_up _ (by omega) (by omega), work_none _ (by omega) fun h => ?_, next_down _ (by omega) (by omega), work_none _ (by omega) fun h => ?_, fun w => rfl, work_none _ (neg_word (by omega)).2 fun h => ?_⟩
  · have := float_any (n : Int) w
    rw [show fits (n : Int) = true from decide_eq_true (by omega), show floatOf (n : Int) = rung n from (if_pos (by omega)).trans (by rw [Int.toNat_natCast])] at this
    exact this
  · have := fine_low h; omega
  · have := fine_low h; omega
  · obtain ⟨m, m0, m1, e, _⟩ := kind_fine h
    obtain ⟨_, b', _, _⟩ := rung_fine m0 m1
    have := (neg_word (x := rung n) (by omega)).1
    omega
end Go.Proofs.Ytdofdchckdchfaa
