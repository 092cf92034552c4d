/- Contracts of Kind, Work, Float on both sides and of awake: a word's kind, its work; no condition but that the words are words. -/
import Derived.Test.YtdofdchckdchfaaWhole
namespace Go.Proofs.Ytdofdchckdchfaa
open Go.RowKit

def kindOf (x : Nat) : Int :=
  if isNan x then 0 else if x % 9223372036854775808 = 9218868437227405312 then 1 else if 9223372036854775808 ≤ x then 2
  else if x = 0 ∨ wholeOf .zero x < x then 3 else if 4697254411347427328 < x then 4 else 5

theorem pos_key {x : Nat} (hx : x ≤ 9218868437227405312) : key x = (x : Int) ∧ ¬isNan x ∧ x < 18446744073709551616 := by
  refine ⟨?_, ?_, by omega⟩
  · unfold key; rw [if_pos (by omega)]
  · unfold isNan; omega
theorem ord_pos {x y : Nat} (hx : x ≤ 9218868437227405312) (hy : y ≤ 9218868437227405312) : FloatKind.f64.format.order x y = some (compare (x : Int) (y : Int)) := by
  obtain ⟨a, b, c⟩ := pos_key hx
  obtain ⟨d, e, f⟩ := pos_key hy
  rw [show FloatKind.f64.format.order x y = _ from ord_key c f b e, a, d]
theorem eq_pos {x y : Nat} (hx : x ≤ 9218868437227405312) (hy : y ≤ 9218868437227405312) : (FloatKind.f64.format.order x y == some Ordering.eq) = decide (x = y) := by
  rw [ord_pos hx hy, cmp_int]
  rcases Nat.lt_trichotomy x y with h | h | h
  · rw [if_pos (by omega), decide_eq_false (by omega)]; rfl
  · rw [if_neg (by omega), if_pos (by omega), decide_eq_true h]; rfl
  · rw [if_neg (by omega), if_neg (by omega), decide_eq_false (by omega)]; rfl
theorem lt_pos {x y : Nat} (hx : x ≤ 9218868437227405312) (hy : y ≤ 9218868437227405312) : (FloatKind.f64.format.order x y == some Ordering.lt) = decide (x < y) := by
  rw [ord_pos hx hy, cmp_int]
  rcases Nat.lt_trichotomy x y with h | h | h
  · rw [if_pos (by omega), decide_eq_true h]; rfl
  · rw [if_neg (by omega), if_pos (by omega), decide_eq_false (by omega)]; rfl
  · rw [if_neg (by omega), if_neg (by omega), decide_eq_false (by omega)]; rfl
theorem gt_pos {x y : Nat} (hx : x ≤ 9218868437227405312) (hy : y ≤ 9218868437227405312) : (FloatKind.f64.format.order x y == some Ordering.gt) = decide (y < x) := by
  rw [ord_pos hx hy, cmp_int]
  rcases Nat.lt_trichotomy x y with h | h | h
  · rw [if_pos (by omega), decide_eq_false (by omega)]; rfl
  · rw [if_neg (by omega), if_pos (by omega), decide_eq_false (by omega)]; rfl
  · rw [if_neg (by omega), if_neg (by omega), decide_eq_true h]; rfl
theorem neq_pos {x y : Nat} (hx : x ≤ 9218868437227405312) (hy : y ≤ 9218868437227405312) : (FloatKind.f64.format.order x y != some Ordering.eq) = !decide (x = y) := by
  rw [← eq_pos hx hy]; rfl

theorem kind_any (x : Nat) (hx : x < 18446744073709551616) (w : World) : Calls Try.prog 17 #[.float .f64 x] w fun e w' => e = .returned (.int .i64 (kindOf x)) ∧ w' = w := by
  unfold kindOf
  have hi := isinf_any x hx
  have hs := signbit_any x hx
  have hn := isnan_any x hx
  by_cases h1 : isNan x
  · rw [if_pos h1]
    rw [decide_eq_true h1] at hn
    clear h1 hi hs
    go_enter Try.func17, Try.ntmps17
    go_wp2_with (first | (go_at_call 29; refine (hn _).mono ?_; rintro e w1 ⟨rfl, rfl⟩) | fail)
    go_ret
    exact ⟨rfl, rfl⟩
  rw [if_neg h1]
  rw [decide_eq_false h1] at hn
  by_cases h2 : x % 9223372036854775808 = 9218868437227405312
  · rw [if_pos h2]
    rw [decide_eq_true h2] at hi
    clear h1 h2 hs
    go_enter Try.func17, Try.ntmps17
    go_wp2_with (first | (go_at_call 29; refine (hn _).mono ?_; rintro e w1 ⟨rfl, rfl⟩) | (go_at_call 31; refine (hi _).mono ?_; rintro e w1 ⟨rfl, rfl⟩) | fail)
    go_ret
    exact ⟨rfl, rfl⟩
  rw [if_neg h2]
  rw [decide_eq_false h2] at hi
  by_cases h3 : 9223372036854775808 ≤ x
  · rw [if_pos h3]
    rw [decide_eq_true h3] at hs
    clear h1 h2 h3
    go_enter Try.func17, Try.ntmps17
    go_wp2_with (first | (go_at_call 29; refine (hn _).mono ?_; rintro e w1 ⟨rfl, rfl⟩) | (go_at_call 31; refine (hi _).mono ?_; rintro e w1 ⟨rfl, rfl⟩) | (go_at_call 30; refine (hs _).mono ?_; rintro e w1 ⟨rfl, rfl⟩) | fail)
    go_ret
    exact ⟨rfl, rfl⟩
  rw [if_neg h3]
  rw [decide_eq_false h3] at hs
  have hf : x < 9218868437227405312 := by unfold isNan at h1; omega
  have ht := trunc_any x h1
  have e0 := eq_pos (x := x) (y := 0) (by omega) (by omega)
  have e1 := lt_pos (x := wholeOf .zero x) (y := x) (by have := (whole_both hf).2; omega) (by omega)
  have e2 := gt_pos (x := x) (y := 4697254411347427328) (by omega) (by omega)
  clear h1 h2 h3
  by_cases h4 : x = 0
  · rw [if_pos (.inl h4)]
    rw [decide_eq_true h4] at e0
    clear h4 e1 e2
    go_enter Try.func17, Try.ntmps17
    go_wp2_with (first | (go_at_call 29; refine (hn _).mono ?_; rintro e w1 ⟨rfl, rfl⟩) | (go_at_call 31; refine (hi _).mono ?_; rintro e w1 ⟨rfl, rfl⟩) | (go_at_call 30; refine (hs _).mono ?_; rintro e w1 ⟨rfl, rfl⟩) | (go_at_call 32; refine (ht _).mono ?_; rintro e w1 ⟨rfl, rfl⟩) | fail)
    go_ret
    exact ⟨rfl, rfl⟩
  rw [decide_eq_false h4] at e0
  by_cases h5 : wholeOf .zero x < x
  · rw [if_pos (.inr h5)]
    rw [decide_eq_true h5] at e1
    clear h4 h5 e2
    go_enter Try.func17, Try.ntmps17
    go_wp2_with (first | (go_at_call 29; refine (hn _).mono ?_; rintro e w1 ⟨rfl, rfl⟩) | (go_at_call 31; refine (hi _).mono ?_; rintro e w1 ⟨rfl, rfl⟩) | (go_at_call 30; refine (hs _).mono ?_; rintro e w1 ⟨rfl, rfl⟩) | (go_at_call 32; refine (ht _).mono ?_; rintro e w1 ⟨rfl, rfl⟩) | fail)
    go_ret
    exact ⟨rfl, rfl⟩
  rw [if_neg (by omega)]
  rw [decide_eq_false h5] at e1
  by_cases h6 : 4697254411347427328 < x
  · rw [if_pos h6]
    rw [decide_eq_true h6] at e2
    clear h4 h5 h6
    go_enter Try.func17, Try.ntmps17
    go_wp2_with (first | (go_at_call 29; refine (hn _).mono ?_; rintro e w1 ⟨rfl, rfl⟩) | (go_at_call 31; refine (hi _).mono ?_; rintro e w1 ⟨rfl, rfl⟩) | (go_at_call 30; refine (hs _).mono ?_; rintro e w1 ⟨rfl, rfl⟩) | (go_at_call 32; refine (ht _).mono ?_; rintro e w1 ⟨rfl, rfl⟩) | fail)
    go_ret
    exact ⟨rfl, rfl⟩
  rw [if_neg h6]
  rw [decide_eq_false h6] at e2
  clear h4 h5 h6
  go_enter Try.func17, Try.ntmps17
  go_wp2_with (first | (go_at_call 29; refine (hn _).mono ?_; rintro e w1 ⟨rfl, rfl⟩) | (go_at_call 31; refine (hi _).mono ?_; rintro e w1 ⟨rfl, rfl⟩) | (go_at_call 30; refine (hs _).mono ?_; rintro e w1 ⟨rfl, rfl⟩) | (go_at_call 32; refine (ht _).mono ?_; rintro e w1 ⟨rfl, rfl⟩) | fail)
  go_ret
  exact ⟨rfl, rfl⟩
end Go.Proofs.Ytdofdchckdchfaa
