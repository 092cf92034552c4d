/- Contracts of same and of Compare on both sides: one order of all words, that of their ranks; no condition but that the words are words. -/
import Derived.Test.YtdofdchckdchfaaBits
namespace Go.Proofs.Ytdofdchckdchfaa
open Go.RowKit

/-- where a word stands in the one order: all NaNs lowest and alike, -0 ahead of 0. -/
def tot (x : Nat) : Int := if isNan x then -36893488147419103232 else 2 * key x + (if x < 9223372036854775808 then 1 else 0)
def sameB (x y : Nat) : Bool := decide (tot x = tot y)
def cmpOf (x y : Nat) : Int := if tot x < tot y then -1 else if tot y < tot x then 1 else 0

theorem key_bound {x : Nat} (hx : x < 18446744073709551616) : -9223372036854775808 < key x ∧ key x < 9223372036854775808 ∧ (x < 9223372036854775808 → 0 ≤ key x) ∧ (9223372036854775808 ≤ x → key x ≤ 0) := by
  rcases key_cases hx with ⟨h1, h2, h3, h4⟩ | ⟨h1, h2, h3, h4⟩ <;> rw [h4] <;> omega
theorem tot_fine {x : Nat} (h : ¬isNan x) : tot x = 2 * key x + (if x < 9223372036854775808 then 1 else 0) := if_neg h
theorem tot_nan {x : Nat} (h : isNan x) : tot x = -36893488147419103232 := if_pos h
theorem tot_word {x y : Nat} (hx : x < 18446744073709551616) (hy : y < 18446744073709551616) (nx : ¬isNan x) (h : tot x = tot y) : x = y := by
  have kx := key_bound hx
  by_cases ny : isNan y
  · rw [tot_fine nx, tot_nan ny] at h
    split at h <;> omega
  · rw [tot_fine nx, tot_fine ny] at h
    rcases key_cases hx with ⟨h1, h2, h3, h4⟩ | ⟨h1, h2, h3, h4⟩ <;> rcases key_cases hy with ⟨g1, g2, g3, g4⟩ | ⟨g1, g2, g3, g4⟩ <;> rw [h4, g4] at h <;> (repeat' split at h) <;> omega

theorem same_any (x y : Nat) (hx : x < 18446744073709551616) (hy : y < 18446744073709551616) (w : World) : Calls Try.prog 11 #[.float .f64 x, .float .f64 y] w fun e w' => e = .returned (.bool (sameB x y)) ∧ w' = w := by
  have sx := signbit_any x hx
  have sy := signbit_any y hy
  have nx := ord_self hx
  have ny := ord_self hy
  have kx := key_bound hx
  have ky := key_bound hy
  unfold sameB
  by_cases h1 : isNan x
  · rw [decide_eq_true h1] at nx
    by_cases h2 : isNan y
    · rw [decide_eq_true h2] at ny
      rw [decide_eq_true (show tot x = tot y by rw [tot_nan h1, tot_nan h2])]
      clear h1 h2 sx sy kx ky
      go_enter Try.func11, Try.ntmps11
      go_wp2_with fail
      go_ret
      exact ⟨rfl, rfl⟩
    · rw [decide_eq_false h2] at ny
      have e : (FloatKind.f64.format.order x y == some Ordering.eq) = false := by rw [show FloatKind.f64.format.order x y = none from ord_nan (.inl h1)]; rfl
      rw [decide_eq_false (show ¬ tot x = tot y by rw [tot_nan h1, tot_fine h2]; split <;> omega)]
      clear h1 h2 sx sy kx ky
      go_enter Try.func11, Try.ntmps11
      go_wp2_with fail
      go_ret
      exact ⟨rfl, rfl⟩
  · rw [decide_eq_false h1] at nx
    by_cases h2 : isNan y
    · rw [decide_eq_true h2] at ny
      have e : (FloatKind.f64.format.order x y == some Ordering.eq) = false := by rw [show FloatKind.f64.format.order x y = none from ord_nan (.inr h2)]; rfl
      rw [decide_eq_false (show ¬ tot x = tot y by rw [tot_nan h2, tot_fine h1]; split <;> omega)]
      clear h1 h2 sx sy kx ky
      go_enter Try.func11, Try.ntmps11
      go_wp2_with fail
      go_ret
      exact ⟨rfl, rfl⟩
    · rw [decide_eq_false h2] at ny
      have eo : FloatKind.f64.format.order x y = _ := ord_key hx hy h1 h2
      rw [cmp_int] at eo
      by_cases h3 : key x = key y
      · have e : (FloatKind.f64.format.order x y == some Ordering.eq) = true := by rw [eo, if_neg (by omega), if_pos h3]; rfl
        clear eo
        by_cases h4 : 9223372036854775808 ≤ x <;> by_cases h5 : 9223372036854775808 ≤ y
        · rw [decide_eq_true h4] at sx
          rw [decide_eq_true h5] at sy
          rw [decide_eq_true (show tot x = tot y by rw [tot_fine h1, tot_fine h2, if_neg (by omega), if_neg (by omega)]; omega)]
          clear h1 h2 h3 h4 h5 kx ky
          go_enter Try.func11, Try.ntmps11
          go_wp2_with (first | (go_at_call 30; with_reducible refine (sx _).mono ?_; rintro e w1 ⟨rfl, rfl⟩) | (go_at_call 30; with_reducible refine (sy _).mono ?_; rintro e w1 ⟨rfl, rfl⟩) | fail)
          go_ret
          exact ⟨rfl, rfl⟩
        · rw [decide_eq_true h4] at sx
          rw [decide_eq_false h5] at sy
          rw [decide_eq_false (show ¬ tot x = tot y by rw [tot_fine h1, tot_fine h2, if_neg (by omega), if_pos (by omega)]; omega)]
          clear h1 h2 h3 h4 h5 kx ky
          go_enter Try.func11, Try.ntmps11
          go_wp2_with (first | (go_at_call 30; with_reducible refine (sx _).mono ?_; rintro e w1 ⟨rfl, rfl⟩) | (go_at_call 30; with_reducible refine (sy _).mono ?_; rintro e w1 ⟨rfl, rfl⟩) | fail)
          go_ret
          exact ⟨rfl, rfl⟩
        · rw [decide_eq_false h4] at sx
          rw [decide_eq_true h5] at sy
          rw [decide_eq_false (show ¬ tot x = tot y by rw [tot_fine h1, tot_fine h2, if_pos (by omega), if_neg (by omega)]; omega)]
          clear h1 h2 h3 h4 h5 kx ky
          go_enter Try.func11, Try.ntmps11
          go_wp2_with (first | (go_at_call 30; with_reducible refine (sx _).mono ?_; rintro e w1 ⟨rfl, rfl⟩) | (go_at_call 30; with_reducible refine (sy _).mono ?_; rintro e w1 ⟨rfl, rfl⟩) | fail)
          go_ret
          exact ⟨rfl, rfl⟩
        · rw [decide_eq_false h4] at sx
          rw [decide_eq_false h5] at sy
          rw [decide_eq_true (show tot x = tot y by rw [tot_fine h1, tot_fine h2, if_pos (by omega), if_pos (by omega)]; omega)]
          clear h1 h2 h3 h4 h5 kx ky
          go_enter Try.func11, Try.ntmps11
          go_wp2_with (first | (go_at_call 30; with_reducible refine (sx _).mono ?_; rintro e w1 ⟨rfl, rfl⟩) | (go_at_call 30; with_reducible refine (sy _).mono ?_; rintro e w1 ⟨rfl, rfl⟩) | fail)
          go_ret
          exact ⟨rfl, rfl⟩
      · have e : (FloatKind.f64.format.order x y == some Ordering.eq) = false := by
          rw [eo]
          by_cases h6 : key x < key y
          · rw [if_pos h6]; rfl
          · rw [if_neg h6, if_neg h3]; rfl
        clear eo
        rw [decide_eq_false (show ¬ tot x = tot y by rw [tot_fine h1, tot_fine h2]; split <;> split <;> omega)]
        clear h1 h2 h3 kx ky sx sy
        go_enter Try.func11, Try.ntmps11
        go_wp2_with fail
        go_ret
        exact ⟨rfl, rfl⟩
end Go.Proofs.Ytdofdchckdchfaa
