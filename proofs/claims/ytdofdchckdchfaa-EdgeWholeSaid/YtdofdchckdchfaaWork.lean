/- Contracts of the reference's Kind, of Work and Float on both sides and of awake; no condition but that the words are words. -/
import Derived.Test.YtdofdchckdchfaaKind
namespace Go.Proofs.Ytdofdchckdchfaa
open Go.RowKit

theorem refkind_any (x : Nat) (hx : x < 18446744073709551616) (w : World) : Calls Try.prog 18 #[.float .f64 x] w fun e w' => e = .returned (.int .i64 (kindOf x)) ∧ w' = w := by
  unfold kindOf
  have hi := isinf_any x hx
  have hs := signbit_any x hx
  have hn := ord_self hx
  by_cases h1 : isNan x
  · rw [if_pos h1]
    rw [decide_eq_true h1] at hn
    clear h1 hi hs
    go_enter Try.func18, Try.ntmps18
    go_wp2_with fail
    go_ret
    exact ⟨rfl, rfl⟩
  rw [if_neg h1]
  rw [decide_eq_false h1] at hn
  by_cases h2 : x % 9223372036854775808 = 9218868437227405312
  · rw [if_pos h2]
    rw [decide_eq_true h2] at hi
    clear h1 h2 hs
    go_enter Try.func18, Try.ntmps18
    go_wp2_with (first | (go_at_call 31; refine (hi _).mono ?_; rintro e w1 ⟨rfl, rfl⟩) | fail)
    go_ret
    exact ⟨rfl, rfl⟩
  rw [if_neg h2]
  rw [decide_eq_false h2] at hi
  by_cases h3 : 9223372036854775808 ≤ x
  · rw [if_pos h3]
    rw [decide_eq_true h3] at hs
    clear h1 h2 h3
    go_enter Try.func18, Try.ntmps18
    go_wp2_with (first | (go_at_call 31; refine (hi _).mono ?_; rintro e w1 ⟨rfl, rfl⟩) | (go_at_call 30; refine (hs _).mono ?_; rintro e w1 ⟨rfl, rfl⟩) | fail)
    go_ret
    exact ⟨rfl, rfl⟩
  rw [if_neg h3]
  rw [decide_eq_false h3] at hs
  have hf : x < 9218868437227405312 := by unfold isNan at h1; omega
  have hw := whole_both hf
  have ht := floor_any x h1
  rw [hw.1] at ht
  have e0 := eq_pos (x := x) (y := 0) (by omega) (by omega)
  have e1 := neq_pos (x := x) (y := wholeOf .zero x) (by omega) (by omega)
  have e2 := gt_pos (x := x) (y := 4697254411347427328) (by omega) (by omega)
  replace hw := hw.2
  clear h1 h2 h3
  by_cases h4 : x = 0
  · rw [if_pos (.inl h4)]
    rw [decide_eq_true h4] at e0
    clear h4 e1 e2 hw
    go_enter Try.func18, Try.ntmps18
    go_wp2_with (first | (go_at_call 31; refine (hi _).mono ?_; rintro e w1 ⟨rfl, rfl⟩) | (go_at_call 30; refine (hs _).mono ?_; rintro e w1 ⟨rfl, rfl⟩) | (go_at_call 33; refine (ht _).mono ?_; rintro e w1 ⟨rfl, rfl⟩) | fail)
    go_ret
    exact ⟨rfl, rfl⟩
  rw [decide_eq_false h4] at e0
  by_cases h5 : wholeOf .zero x < x
  · rw [if_pos (.inr h5)]
    rw [decide_eq_false (show ¬ x = wholeOf .zero x by omega)] at e1
    clear h4 h5 e2 hw
    go_enter Try.func18, Try.ntmps18
    go_wp2_with (first | (go_at_call 31; refine (hi _).mono ?_; rintro e w1 ⟨rfl, rfl⟩) | (go_at_call 30; refine (hs _).mono ?_; rintro e w1 ⟨rfl, rfl⟩) | (go_at_call 33; refine (ht _).mono ?_; rintro e w1 ⟨rfl, rfl⟩) | fail)
    go_ret
    exact ⟨rfl, rfl⟩
  rw [if_neg (by omega)]
  rw [decide_eq_true (show x = wholeOf .zero x by omega)] at e1
  by_cases h6 : 4697254411347427328 < x
  · rw [if_pos h6]
    rw [decide_eq_true h6] at e2
    clear h4 h5 h6 hw
    go_enter Try.func18, Try.ntmps18
    go_wp2_with (first | (go_at_call 31; refine (hi _).mono ?_; rintro e w1 ⟨rfl, rfl⟩) | (go_at_call 30; refine (hs _).mono ?_; rintro e w1 ⟨rfl, rfl⟩) | (go_at_call 33; refine (ht _).mono ?_; rintro e w1 ⟨rfl, rfl⟩) | fail)
    go_ret
    exact ⟨rfl, rfl⟩
  rw [if_neg h6]
  rw [decide_eq_false h6] at e2
  clear h4 h5 h6 hw
  go_enter Try.func18, Try.ntmps18
  go_wp2_with (first | (go_at_call 31; refine (hi _).mono ?_; rintro e w1 ⟨rfl, rfl⟩) | (go_at_call 30; refine (hs _).mono ?_; rintro e w1 ⟨rfl, rfl⟩) | (go_at_call 33; refine (ht _).mono ?_; rintro e w1 ⟨rfl, rfl⟩) | fail)
  go_ret
  exact ⟨rfl, rfl⟩

theorem kind_fine {x : Nat} (h : kindOf x = 5) : ∃ n, 0 < n ∧ n ≤ 1048576 ∧ x = rung n ∧ val x / U = n := by
  unfold kindOf at h
  by_cases h1 : isNan x
  · rw [if_pos h1] at h; omega
  rw [if_neg h1] at h
  by_cases h2 : x % 9223372036854775808 = 9218868437227405312
  · rw [if_pos h2] at h; omega
  rw [if_neg h2] at h
  by_cases h3 : 9223372036854775808 ≤ x
  · rw [if_pos h3] at h; omega
  rw [if_neg h3] at h
  by_cases h4 : x = 0 ∨ wholeOf .zero x < x
  · rw [if_pos h4] at h; omega
  rw [if_neg h4] at h
  by_cases h6 : 4697254411347427328 < x
  · rw [if_pos h6] at h; omega
  have hf : x < 9218868437227405312 := by omega
  have := (whole_both hf).2
  exact fine_rung (by omega) (by omega) (by omega)
theorem fine_kind {n : Nat} (h0 : 0 < n) (h1 : n ≤ 1048576) : kindOf (rung n) = 5 := by
  obtain ⟨a, b, c, _⟩ := rung_fine h0 h1
  unfold kindOf
  rw [if_neg (by unfold isNan; omega), if_neg (by omega), if_neg (by omega), if_neg (by omega), if_neg (by omega)]

def workOf (x : Nat) : Int := if kindOf x = 5 then ((val x / U : Nat) : Int) else 0
theorem work_conv {x : Nat} (h : kindOf x = 5) (w : World) : (convert 24 3 (.float .f64 x)).run Try.prog w = .ok (.int .i64 (workOf x)) w := by
  refine run_convert_float_int w 24 3 .f64 .i64 x _ (by kernel_rfl) (by kernel_rfl) ?_
  obtain ⟨n, h0, h1, e, hv⟩ := kind_fine h
  obtain ⟨_, b, _, _⟩ := rung_fine h0 h1
  have hu : up x < 1074 := by unfold up; split <;> omega
  obtain ⟨_, _, _, _, hi⟩ := whole_less (x := x) (by omega) hu
  unfold floatToIntVal workOf
  rw [hi, if_pos h, hv]
  show (if (-9223372036854775808 : Int) ≤ (n : Int) ∧ (n : Int) ≤ 9223372036854775807 then some (n : Int) else none) = _
  rw [if_pos (by omega)]

theorem work_any (x : Nat) (hx : x < 18446744073709551616) (w : World) : Calls Try.prog 13 #[.float .f64 x] w fun e w' => e = .returned (.tuple #[.int .i64 (workOf x), .bool (decide (kindOf x = 5))]) ∧ w' = w := by
  have hk := kind_any x hx
  by_cases h : kindOf x = 5
  · have hc := work_conv h
    rw [h] at hk
    rw [decide_eq_true h]
    clear h
    go_enter Try.func13, Try.ntmps13
    go_wp2_with (first | (go_at_call 17; refine (hk _).mono ?_; rintro e w1 ⟨rfl, rfl⟩) | fail)
    go_ret2
    exact ⟨rfl, rfl⟩
  · rw [decide_eq_false h]
    have e : workOf x = 0 := if_neg h
    rw [e]
    clear e
    generalize kindOf x = k at *
    go_enter Try.func13, Try.ntmps13
    go_wp2_with (first | (go_at_call 17; refine (hk _).mono ?_; rintro e w1 ⟨rfl, rfl⟩) | fail)
    go_ret2
    exact ⟨rfl, rfl⟩
theorem refwork_any (x : Nat) (hx : x < 18446744073709551616) (w : World) : Calls Try.prog 14 #[.float .f64 x] w fun e w' => e = .returned (.tuple #[.int .i64 (workOf x), .bool (decide (kindOf x = 5))]) ∧ w' = w := by
  have hk := refkind_any x hx
  by_cases h : kindOf x = 5
  · have hc := work_conv h
    rw [h] at hk
    rw [decide_eq_true h]
    clear h
    go_enter Try.func14, Try.ntmps14
    go_wp2_with (first | (go_at_call 18; refine (hk _).mono ?_; rintro e w1 ⟨rfl, rfl⟩) | fail)
    go_ret2
    exact ⟨rfl, rfl⟩
  · rw [decide_eq_false h]
    have e : workOf x = 0 := if_neg h
    rw [e]
    clear e
    generalize kindOf x = k at *
    go_enter Try.func14, Try.ntmps14
    go_wp2_with (first | (go_at_call 18; refine (hk _).mono ?_; rintro e w1 ⟨rfl, rfl⟩) | fail)
    go_ret2
    exact ⟨rfl, rfl⟩

theorem awake_any (w : World) : Calls Try.prog 8 #[] w fun e w' => e = .returned (.bool true) ∧ w' = w := by
  have k3 : kindOf 4613937818241073152 = 5 := by decide +kernel
  have kh : kindOf 4602678819172646912 = 3 := by decide +kernel
  have ks : kindOf 9223372036854775808 = 2 := by decide +kernel
  have w3 := work_any 4613937818241073152 (by decide)
  have wh := work_any 4602678819172646912 (by decide)
  have e3 : workOf 4613937818241073152 = 3 := by decide +kernel
  have eh : workOf 4602678819172646912 = 0 := by decide +kernel
  have hk := kind_any 9223372036854775808 (by decide)
  rw [k3, e3] at w3
  rw [kh, eh] at wh
  rw [ks] at hk
  clear k3 kh ks e3 eh
  go_enter Try.func8, Try.ntmps8
  go_wp2_with (first | (go_at_call 13; with_reducible refine (w3 _).mono ?_; rintro e w1 ⟨rfl, rfl⟩) | (go_at_call 13; with_reducible refine (wh _).mono ?_; rintro e w1 ⟨rfl, rfl⟩) | (go_at_call 26; with_reducible refine (copysign_awake _).mono ?_; rintro e w1 ⟨rfl, rfl⟩) | (go_at_call 17; with_reducible refine (hk _).mono ?_; rintro e w1 ⟨rfl, rfl⟩) | fail)
  go_ret
  exact ⟨rfl, rfl⟩

def fits (n : Int) : Bool := decide (1 ≤ n ∧ n ≤ 1048576)
def floatOf (n : Int) : Nat := if 1 ≤ n ∧ n ≤ 1048576 then rung n.toNat else 0
theorem floatOf_of {n : Int} (h : 1 ≤ n ∧ n ≤ 1048576) : floatOfInt .f64 n = floatOf n := by
  unfold floatOf
  rw [if_pos h, ← ofInt_rung (by omega) (by omega)]
  congr 1
  omega
theorem float_any (n : Int) (w : World) : Calls Try.prog 15 #[.int .i64 n] w fun e w' => e = .returned (.tuple #[.float .f64 (floatOf n), .bool (fits n)]) ∧ w' = w := by
  by_cases h : 1 ≤ n ∧ n ≤ 1048576
  · rw [← floatOf_of h, show fits n = true from decide_eq_true h]
    obtain ⟨h1, h2⟩ := h
    have h3 : ¬ n < 1 := by omega
    have h4 : ¬ 1048576 < n := by omega
    go_enter Try.func15, Try.ntmps15
    go_wp2_with fail
    go_ret2
    exact ⟨rfl, rfl⟩
  · rw [show fits n = false from decide_eq_false h, show floatOf n = 0 from if_neg h]
    by_cases h3 : n < 1
    · clear h
      go_enter Try.func15, Try.ntmps15
      go_wp2_with fail
      go_ret2
      exact ⟨rfl, rfl⟩
    · have h4 : 1048576 < n := by omega
      clear h
      go_enter Try.func15, Try.ntmps15
      go_wp2_with fail
      go_ret2
      exact ⟨rfl, rfl⟩
theorem reffloat_any (n : Int) (w : World) : Calls Try.prog 16 #[.int .i64 n] w fun e w' => e = .returned (.tuple #[.float .f64 (floatOf n), .bool (fits n)]) ∧ w' = w := by
  by_cases h : 1 ≤ n ∧ n ≤ 1048576
  · rw [← floatOf_of h, show fits n = true from decide_eq_true h]
    obtain ⟨h1, h2⟩ := h
    have h3 : ¬ n < 1 := by omega
    have h4 : ¬ 1048576 < n := by omega
    go_enter Try.func16, Try.ntmps16
    go_wp2_with fail
    go_ret2
    exact ⟨rfl, rfl⟩
  · rw [show fits n = false from decide_eq_false h, show floatOf n = 0 from if_neg h]
    by_cases h3 : n < 1
    · clear h
      go_enter Try.func16, Try.ntmps16
      go_wp2_with fail
      go_ret2
      exact ⟨rfl, rfl⟩
    · have h4 : 1048576 < n := by omega
      clear h
      go_enter Try.func16, Try.ntmps16
      go_wp2_with fail
      go_ret2
      exact ⟨rfl, rfl⟩
end Go.Proofs.Ytdofdchckdchfaa
