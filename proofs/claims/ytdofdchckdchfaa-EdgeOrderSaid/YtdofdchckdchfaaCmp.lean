/- Contracts of Compare on both sides: one order of all words; no condition but that the words are words. -/
import Derived.Test.YtdofdchckdchfaaSame
namespace Go.Proofs.Ytdofdchckdchfaa
open Go.RowKit

theorem tot_low {x : Nat} (h : ¬isNan x) (hx : x < 18446744073709551616) : -36893488147419103232 < tot x := by
  have := key_bound hx
  rw [tot_fine h]
  split <;> omega
theorem rank_any (x : Nat) (hx : x < 18446744073709551616) (w : World) : Calls Try.prog 36 #[.float .f64 x] w fun e w' => e = .returned (.int .i64 (if 9223372036854775808 ≤ x then 0 else 1)) ∧ w' = w := by
  have sx := signbit_any x hx
  by_cases h : 9223372036854775808 ≤ x
  · rw [decide_eq_true h] at sx
    rw [if_pos h]
    clear h
    go_enter Try.func36, Try.ntmps36
    go_wp2_with (first | (go_at_call 30; with_reducible refine (sx _).mono ?_; rintro e w1 ⟨rfl, rfl⟩) | fail)
    go_ret
    exact ⟨rfl, rfl⟩
  · rw [decide_eq_false h] at sx
    rw [if_neg h]
    clear h
    go_enter Try.func36, Try.ntmps36
    go_wp2_with (first | (go_at_call 30; with_reducible refine (sx _).mono ?_; rintro e w1 ⟨rfl, rfl⟩) | fail)
    go_ret
    exact ⟨rfl, rfl⟩
theorem cmp_ints (a b : Int) (w : World) : Calls Try.prog 35 #[.int .i64 a, .int .i64 b] w fun e w' => e = .returned (.int .i64 (if a < b then -1 else if b < a then 1 else 0)) ∧ w' = w := by
  by_cases h : a < b
  · rw [if_pos h]
    go_enter Try.func35, Try.ntmps35
    go_wp2
    go_ret
    exact ⟨rfl, rfl⟩
  · rw [if_neg h]
    by_cases h2 : b < a
    · rw [if_pos h2]
      go_enter Try.func35, Try.ntmps35
      go_wp2
      go_ret
      exact ⟨rfl, rfl⟩
    · rw [if_neg h2]
      go_enter Try.func35, Try.ntmps35
      go_wp2
      go_ret
      exact ⟨rfl, rfl⟩
theorem cmp_any (x y : Nat) (hx : x < 18446744073709551616) (hy : y < 18446744073709551616) (w : World) : Calls Try.prog 24 #[.float .f64 x, .float .f64 y] w fun e w' => e = .returned (.int .i64 (cmpOf x y)) ∧ w' = w := by
  have sx := signbit_any x hx
  have sy := signbit_any y hy
  have rx := rank_any x hx
  have ry := rank_any y hy
  have hnx := isnan_any x hx
  have hny := isnan_any y hy
  have nx := ord_self hx
  have ny := ord_self hy
  have kx := key_bound hx
  have ky := key_bound hy
  unfold cmpOf
  by_cases h1 : isNan x
  · rw [decide_eq_true h1] at nx hnx
    have t1 := tot_nan h1
    by_cases h2 : isNan y
    · rw [decide_eq_true h2] at ny hny
      have t2 := tot_nan h2
      rw [if_neg (by omega), if_neg (by omega)]
      clear h1 h2 kx ky t1 t2
      go_enter Try.func24, Try.ntmps24
      go_wp2_with (first | (go_at_call 29; with_reducible refine (hnx _).mono ?_; rintro e w1 ⟨rfl, rfl⟩) | (go_at_call 29; with_reducible refine (hny _).mono ?_; rintro e w1 ⟨rfl, rfl⟩) | (go_at_call 36; with_reducible refine (rx _).mono ?_; rintro e w1 ⟨rfl, rfl⟩) | (go_at_call 36; with_reducible refine (ry _).mono ?_; rintro e w1 ⟨rfl, rfl⟩) | (go_at_call 35; with_reducible refine (cmp_ints _ _ _).mono ?_; rintro e w1 ⟨rfl, rfl⟩) | (go_at_call 30; with_reducible refine (sx _).mono ?_; rintro e w1 ⟨rfl, rfl⟩) | (go_at_call 30; with_reducible refine (sy _).mono ?_; rintro e w1 ⟨rfl, rfl⟩) | fail)
      go_ret
      exact ⟨rfl, rfl⟩
    · rw [decide_eq_false h2] at ny hny
      have t2 := tot_low h2 hy
      rw [if_pos (by omega)]
      clear h1 h2 kx ky t1 t2
      go_enter Try.func24, Try.ntmps24
      go_wp2_with (first | (go_at_call 29; with_reducible refine (hnx _).mono ?_; rintro e w1 ⟨rfl, rfl⟩) | (go_at_call 29; with_reducible refine (hny _).mono ?_; rintro e w1 ⟨rfl, rfl⟩) | (go_at_call 36; with_reducible refine (rx _).mono ?_; rintro e w1 ⟨rfl, rfl⟩) | (go_at_call 36; with_reducible refine (ry _).mono ?_; rintro e w1 ⟨rfl, rfl⟩) | (go_at_call 35; with_reducible refine (cmp_ints _ _ _).mono ?_; rintro e w1 ⟨rfl, rfl⟩) | (go_at_call 30; with_reducible refine (sx _).mono ?_; rintro e w1 ⟨rfl, rfl⟩) | (go_at_call 30; with_reducible refine (sy _).mono ?_; rintro e w1 ⟨rfl, rfl⟩) | fail)
      go_ret
      exact ⟨rfl, rfl⟩
  · rw [decide_eq_false h1] at nx hnx
    by_cases h2 : isNan y
    · rw [decide_eq_true h2] at ny hny
      have t1 := tot_low h1 hx
      have t2 := tot_nan h2
      rw [if_neg (by omega), if_pos (by omega)]
      clear h1 h2 kx ky t1 t2
      go_enter Try.func24, Try.ntmps24
      go_wp2_with (first | (go_at_call 29; with_reducible refine (hnx _).mono ?_; rintro e w1 ⟨rfl, rfl⟩) | (go_at_call 29; with_reducible refine (hny _).mono ?_; rintro e w1 ⟨rfl, rfl⟩) | (go_at_call 36; with_reducible refine (rx _).mono ?_; rintro e w1 ⟨rfl, rfl⟩) | (go_at_call 36; with_reducible refine (ry _).mono ?_; rintro e w1 ⟨rfl, rfl⟩) | (go_at_call 35; with_reducible refine (cmp_ints _ _ _).mono ?_; rintro e w1 ⟨rfl, rfl⟩) | (go_at_call 30; with_reducible refine (sx _).mono ?_; rintro e w1 ⟨rfl, rfl⟩) | (go_at_call 30; with_reducible refine (sy _).mono ?_; rintro e w1 ⟨rfl, rfl⟩) | fail)
      go_ret
      exact ⟨rfl, rfl⟩
    · rw [decide_eq_false h2] at ny hny
      have t1 := tot_fine h1
      have t2 := tot_fine h2
      have exy : FloatKind.f64.format.order x y = _ := ord_key hx hy h1 h2
      have eyx : FloatKind.f64.format.order y x = _ := ord_key hy hx h2 h1
      rw [cmp_int] at exy eyx
      by_cases h3 : key x < key y
      · rw [if_pos h3] at exy
        rw [if_neg (by omega), if_neg (by omega)] at eyx
        rw [if_pos (by rw [t1, t2]; split <;> split <;> omega)]
        have a1 : (FloatKind.f64.format.order x y == some Ordering.lt) = true := by rw [exy]; rfl
        have a2 : (FloatKind.f64.format.order x y == some Ordering.gt) = false := by rw [exy]; rfl
        have a3 : (FloatKind.f64.format.order y x == some Ordering.lt) = false := by rw [eyx]; rfl
        clear h1 h2 h3 kx ky t1 t2 exy eyx
        go_enter Try.func24, Try.ntmps24
        go_wp2_with (first | (go_at_call 29; with_reducible refine (hnx _).mono ?_; rintro e w1 ⟨rfl, rfl⟩) | (go_at_call 29; with_reducible refine (hny _).mono ?_; rintro e w1 ⟨rfl, rfl⟩) | (go_at_call 36; with_reducible refine (rx _).mono ?_; rintro e w1 ⟨rfl, rfl⟩) | (go_at_call 36; with_reducible refine (ry _).mono ?_; rintro e w1 ⟨rfl, rfl⟩) | (go_at_call 35; with_reducible refine (cmp_ints _ _ _).mono ?_; rintro e w1 ⟨rfl, rfl⟩) | (go_at_call 30; with_reducible refine (sx _).mono ?_; rintro e w1 ⟨rfl, rfl⟩) | (go_at_call 30; with_reducible refine (sy _).mono ?_; rintro e w1 ⟨rfl, rfl⟩) | fail)
        go_ret
        exact ⟨rfl, rfl⟩
      · rw [if_neg h3] at exy
        by_cases h4 : key y < key x
        · rw [if_neg (by omega)] at exy
          rw [if_pos h4] at eyx
          rw [if_neg (by rw [t1, t2]; split <;> split <;> omega), if_pos (by rw [t1, t2]; split <;> split <;> omega)]
          have a1 : (FloatKind.f64.format.order x y == some Ordering.lt) = false := by rw [exy]; rfl
          have a2 : (FloatKind.f64.format.order x y == some Ordering.gt) = true := by rw [exy]; rfl
          have a3 : (FloatKind.f64.format.order y x == some Ordering.lt) = true := by rw [eyx]; rfl
          clear h1 h2 h3 h4 kx ky t1 t2 exy eyx
          go_enter Try.func24, Try.ntmps24
          go_wp2_with (first | (go_at_call 29; with_reducible refine (hnx _).mono ?_; rintro e w1 ⟨rfl, rfl⟩) | (go_at_call 29; with_reducible refine (hny _).mono ?_; rintro e w1 ⟨rfl, rfl⟩) | (go_at_call 36; with_reducible refine (rx _).mono ?_; rintro e w1 ⟨rfl, rfl⟩) | (go_at_call 36; with_reducible refine (ry _).mono ?_; rintro e w1 ⟨rfl, rfl⟩) | (go_at_call 35; with_reducible refine (cmp_ints _ _ _).mono ?_; rintro e w1 ⟨rfl, rfl⟩) | (go_at_call 30; with_reducible refine (sx _).mono ?_; rintro e w1 ⟨rfl, rfl⟩) | (go_at_call 30; with_reducible refine (sy _).mono ?_; rintro e w1 ⟨rfl, rfl⟩) | fail)
          go_ret
          exact ⟨rfl, rfl⟩
        · rw [if_pos (by omega)] at exy
          rw [if_neg h4, if_pos (by omega)] at eyx
          have a1 : (FloatKind.f64.format.order x y == some Ordering.lt) = false := by rw [exy]; rfl
          have a2 : (FloatKind.f64.format.order x y == some Ordering.gt) = false := by rw [exy]; rfl
          have a3 : (FloatKind.f64.format.order y x == some Ordering.lt) = false := by rw [eyx]; rfl
          by_cases h5 : 9223372036854775808 ≤ x <;> by_cases h6 : 9223372036854775808 ≤ y
          · rw [if_neg (by omega)] at t1
            rw [if_neg (by omega)] at t2
            rw [decide_eq_true h5] at sx
            rw [decide_eq_true h6] at sy
            rw [if_pos h5] at rx
            rw [if_pos h6] at ry
            rw [if_neg (by omega), if_neg (by omega)]
            clear h1 h2 h3 h4 h5 h6 kx ky t1 t2 exy eyx
            go_enter Try.func24, Try.ntmps24
            go_wp2_with (first | (go_at_call 29; with_reducible refine (hnx _).mono ?_; rintro e w1 ⟨rfl, rfl⟩) | (go_at_call 29; with_reducible refine (hny _).mono ?_; rintro e w1 ⟨rfl, rfl⟩) | (go_at_call 36; with_reducible refine (rx _).mono ?_; rintro e w1 ⟨rfl, rfl⟩) | (go_at_call 36; with_reducible refine (ry _).mono ?_; rintro e w1 ⟨rfl, rfl⟩) | (go_at_call 35; with_reducible refine (cmp_ints _ _ _).mono ?_; rintro e w1 ⟨rfl, rfl⟩) | (go_at_call 30; with_reducible refine (sx _).mono ?_; rintro e w1 ⟨rfl, rfl⟩) | (go_at_call 30; with_reducible refine (sy _).mono ?_; rintro e w1 ⟨rfl, rfl⟩) | fail)
            go_ret
            exact ⟨rfl, rfl⟩
          · rw [if_neg (by omega)] at t1
            rw [if_pos (by omega)] at t2
            rw [decide_eq_true h5] at sx
            rw [decide_eq_false h6] at sy
            rw [if_pos h5] at rx
            rw [if_neg h6] at ry
            rw [if_pos (by omega)]
            clear h1 h2 h3 h4 h5 h6 kx ky t1 t2 exy eyx
            go_enter Try.func24, Try.ntmps24
            go_wp2_with (first | (go_at_call 29; with_reducible refine (hnx _).mono ?_; rintro e w1 ⟨rfl, rfl⟩) | (go_at_call 29; with_reducible refine (hny _).mono ?_; rintro e w1 ⟨rfl, rfl⟩) | (go_at_call 36; with_reducible refine (rx _).mono ?_; rintro e w1 ⟨rfl, rfl⟩) | (go_at_call 36; with_reducible refine (ry _).mono ?_; rintro e w1 ⟨rfl, rfl⟩) | (go_at_call 35; with_reducible refine (cmp_ints _ _ _).mono ?_; rintro e w1 ⟨rfl, rfl⟩) | (go_at_call 30; with_reducible refine (sx _).mono ?_; rintro e w1 ⟨rfl, rfl⟩) | (go_at_call 30; with_reducible refine (sy _).mono ?_; rintro e w1 ⟨rfl, rfl⟩) | fail)
            go_ret
            exact ⟨rfl, rfl⟩
          · rw [if_pos (by omega)] at t1
            rw [if_neg (by omega)] at t2
            rw [decide_eq_false h5] at sx
            rw [decide_eq_true h6] at sy
            rw [if_neg h5] at rx
            rw [if_pos h6] at ry
            rw [if_neg (by omega), if_pos (by omega)]
            clear h1 h2 h3 h4 h5 h6 kx ky t1 t2 exy eyx
            go_enter Try.func24, Try.ntmps24
            go_wp2_with (first | (go_at_call 29; with_reducible refine (hnx _).mono ?_; rintro e w1 ⟨rfl, rfl⟩) | (go_at_call 29; with_reducible refine (hny _).mono ?_; rintro e w1 ⟨rfl, rfl⟩) | (go_at_call 36; with_reducible refine (rx _).mono ?_; rintro e w1 ⟨rfl, rfl⟩) | (go_at_call 36; with_reducible refine (ry _).mono ?_; rintro e w1 ⟨rfl, rfl⟩) | (go_at_call 35; with_reducible refine (cmp_ints _ _ _).mono ?_; rintro e w1 ⟨rfl, rfl⟩) | (go_at_call 30; with_reducible refine (sx _).mono ?_; rintro e w1 ⟨rfl, rfl⟩) | (go_at_call 30; with_reducible refine (sy _).mono ?_; rintro e w1 ⟨rfl, rfl⟩) | fail)
            go_ret
            exact ⟨rfl, rfl⟩
          · rw [if_pos (by omega)] at t1
            rw [if_pos (by omega)] at t2
            rw [decide_eq_false h5] at sx
            rw [decide_eq_false h6] at sy
            rw [if_neg h5] at rx
            rw [if_neg h6] at ry
            rw [if_neg (by omega), if_neg (by omega)]
            clear h1 h2 h3 h4 h5 h6 kx ky t1 t2 exy eyx
            go_enter Try.func24, Try.ntmps24
            go_wp2_with (first | (go_at_call 29; with_reducible refine (hnx _).mono ?_; rintro e w1 ⟨rfl, rfl⟩) | (go_at_call 29; with_reducible refine (hny _).mono ?_; rintro e w1 ⟨rfl, rfl⟩) | (go_at_call 36; with_reducible refine (rx _).mono ?_; rintro e w1 ⟨rfl, rfl⟩) | (go_at_call 36; with_reducible refine (ry _).mono ?_; rintro e w1 ⟨rfl, rfl⟩) | (go_at_call 35; with_reducible refine (cmp_ints _ _ _).mono ?_; rintro e w1 ⟨rfl, rfl⟩) | (go_at_call 30; with_reducible refine (sx _).mono ?_; rintro e w1 ⟨rfl, rfl⟩) | (go_at_call 30; with_reducible refine (sy _).mono ?_; rintro e w1 ⟨rfl, rfl⟩) | fail)
            go_ret
            exact ⟨rfl, rfl⟩
theorem refcmp_any (x y : Nat) (hx : x < 18446744073709551616) (hy : y < 18446744073709551616) (w : World) : Calls Try.prog 25 #[.float .f64 x, .float .f64 y] w fun e w' => e = .returned (.int .i64 (cmpOf x y)) ∧ w' = w := by
  have sx := signbit_any x hx
  have sy := signbit_any y hy
  have rx := rank_any x hx
  have ry := rank_any y hy
  have hnx := isnan_any x hx
  have hny := isnan_any y hy
  have nx := ord_self hx
  have ny := ord_self hy
  have kx := key_bound hx
  have ky := key_bound hy
  unfold cmpOf
  by_cases h1 : isNan x
  · rw [decide_eq_true h1] at nx hnx
    have t1 := tot_nan h1
    by_cases h2 : isNan y
    · rw [decide_eq_true h2] at ny hny
      have t2 := tot_nan h2
      rw [if_neg (by omega), if_neg (by omega)]
      clear h1 h2 kx ky t1 t2
      go_enter Try.func25, Try.ntmps25
      go_wp2_with (first | (go_at_call 29; with_reducible refine (hnx _).mono ?_; rintro e w1 ⟨rfl, rfl⟩) | (go_at_call 29; with_reducible refine (hny _).mono ?_; rintro e w1 ⟨rfl, rfl⟩) | (go_at_call 36; with_reducible refine (rx _).mono ?_; rintro e w1 ⟨rfl, rfl⟩) | (go_at_call 36; with_reducible refine (ry _).mono ?_; rintro e w1 ⟨rfl, rfl⟩) | (go_at_call 35; with_reducible refine (cmp_ints _ _ _).mono ?_; rintro e w1 ⟨rfl, rfl⟩) | (go_at_call 30; with_reducible refine (sx _).mono ?_; rintro e w1 ⟨rfl, rfl⟩) | (go_at_call 30; with_reducible refine (sy _).mono ?_; rintro e w1 ⟨rfl, rfl⟩) | fail)
      go_ret
      exact ⟨rfl, rfl⟩
    · rw [decide_eq_false h2] at ny hny
      have t2 := tot_low h2 hy
      rw [if_pos (by omega)]
      clear h1 h2 kx ky t1 t2
      go_enter Try.func25, Try.ntmps25
      go_wp2_with (first | (go_at_call 29; with_reducible refine (hnx _).mono ?_; rintro e w1 ⟨rfl, rfl⟩) | (go_at_call 29; with_reducible refine (hny _).mono ?_; rintro e w1 ⟨rfl, rfl⟩) | (go_at_call 36; with_reducible refine (rx _).mono ?_; rintro e w1 ⟨rfl, rfl⟩) | (go_at_call 36; with_reducible refine (ry _).mono ?_; rintro e w1 ⟨rfl, rfl⟩) | (go_at_call 35; with_reducible refine (cmp_ints _ _ _).mono ?_; rintro e w1 ⟨rfl, rfl⟩) | (go_at_call 30; with_reducible refine (sx _).mono ?_; rintro e w1 ⟨rfl, rfl⟩) | (go_at_call 30; with_reducible refine (sy _).mono ?_; rintro e w1 ⟨rfl, rfl⟩) | fail)
      go_ret
      exact ⟨rfl, rfl⟩
  · rw [decide_eq_false h1] at nx hnx
    by_cases h2 : isNan y
    · rw [decide_eq_true h2] at ny hny
      have t1 := tot_low h1 hx
      have t2 := tot_nan h2
      rw [if_neg (by omega), if_pos (by omega)]
      clear h1 h2 kx ky t1 t2
      go_enter Try.func25, Try.ntmps25
      go_wp2_with (first | (go_at_call 29; with_reducible refine (hnx _).mono ?_; rintro e w1 ⟨rfl, rfl⟩) | (go_at_call 29; with_reducible refine (hny _).mono ?_; rintro e w1 ⟨rfl, rfl⟩) | (go_at_call 36; with_reducible refine (rx _).mono ?_; rintro e w1 ⟨rfl, rfl⟩) | (go_at_call 36; with_reducible refine (ry _).mono ?_; rintro e w1 ⟨rfl, rfl⟩) | (go_at_call 35; with_reducible refine (cmp_ints _ _ _).mono ?_; rintro e w1 ⟨rfl, rfl⟩) | (go_at_call 30; with_reducible refine (sx _).mono ?_; rintro e w1 ⟨rfl, rfl⟩) | (go_at_call 30; with_reducible refine (sy _).mono ?_; rintro e w1 ⟨rfl, rfl⟩) | fail)
      go_ret
      exact ⟨rfl, rfl⟩
    · rw [decide_eq_false h2] at ny hny
      have t1 := tot_fine h1
      have t2 := tot_fine h2
      have exy : FloatKind.f64.format.order x y = _ := ord_key hx hy h1 h2
      have eyx : FloatKind.f64.format.order y x = _ := ord_key hy hx h2 h1
      rw [cmp_int] at exy eyx
      by_cases h3 : key x < key y
      · rw [if_pos h3] at exy
        rw [if_neg (by omega), if_neg (by omega)] at eyx
        rw [if_pos (by rw [t1, t2]; split <;> split <;> omega)]
        have a1 : (FloatKind.f64.format.order x y == some Ordering.lt) = true := by rw [exy]; rfl
        have a2 : (FloatKind.f64.format.order x y == some Ordering.gt) = false := by rw [exy]; rfl
        have a3 : (FloatKind.f64.format.order y x == some Ordering.lt) = false := by rw [eyx]; rfl
        clear h1 h2 h3 kx ky t1 t2 exy eyx
        go_enter Try.func25, Try.ntmps25
        go_wp2_with (first | (go_at_call 29; with_reducible refine (hnx _).mono ?_; rintro e w1 ⟨rfl, rfl⟩) | (go_at_call 29; with_reducible refine (hny _).mono ?_; rintro e w1 ⟨rfl, rfl⟩) | (go_at_call 36; with_reducible refine (rx _).mono ?_; rintro e w1 ⟨rfl, rfl⟩) | (go_at_call 36; with_reducible refine (ry _).mono ?_; rintro e w1 ⟨rfl, rfl⟩) | (go_at_call 35; with_reducible refine (cmp_ints _ _ _).mono ?_; rintro e w1 ⟨rfl, rfl⟩) | (go_at_call 30; with_reducible refine (sx _).mono ?_; rintro e w1 ⟨rfl, rfl⟩) | (go_at_call 30; with_reducible refine (sy _).mono ?_; rintro e w1 ⟨rfl, rfl⟩) | fail)
        go_ret
        exact ⟨rfl, rfl⟩
      · rw [if_neg h3] at exy
        by_cases h4 : key y < key x
        · rw [if_neg (by omega)] at exy
          rw [if_pos h4] at eyx
          rw [if_neg (by rw [t1, t2]; split <;> split <;> omega), if_pos (by rw [t1, t2]; split <;> split <;> omega)]
          have a1 : (FloatKind.f64.format.order x y == some Ordering.lt) = false := by rw [exy]; rfl
          have a2 : (FloatKind.f64.format.order x y == some Ordering.gt) = true := by rw [exy]; rfl
          have a3 : (FloatKind.f64.format.order y x == some Ordering.lt) = true := by rw [eyx]; rfl
          clear h1 h2 h3 h4 kx ky t1 t2 exy eyx
          go_enter Try.func25, Try.ntmps25
          go_wp2_with (first | (go_at_call 29; with_reducible refine (hnx _).mono ?_; rintro e w1 ⟨rfl, rfl⟩) | (go_at_call 29; with_reducible refine (hny _).mono ?_; rintro e w1 ⟨rfl, rfl⟩) | (go_at_call 36; with_reducible refine (rx _).mono ?_; rintro e w1 ⟨rfl, rfl⟩) | (go_at_call 36; with_reducible refine (ry _).mono ?_; rintro e w1 ⟨rfl, rfl⟩) | (go_at_call 35; with_reducible refine (cmp_ints _ _ _).mono ?_; rintro e w1 ⟨rfl, rfl⟩) | (go_at_call 30; with_reducible refine (sx _).mono ?_; rintro e w1 ⟨rfl, rfl⟩) | (go_at_call 30; with_reducible refine (sy _).mono ?_; rintro e w1 ⟨rfl, rfl⟩) | fail)
          go_ret
          exact ⟨rfl, rfl⟩
        · rw [if_pos (by omega)] at exy
          rw [if_neg h4, if_pos (by omega)] at eyx
          have a1 : (FloatKind.f64.format.order x y == some Ordering.lt) = false := by rw [exy]; rfl
          have a2 : (FloatKind.f64.format.order x y == some Ordering.gt) = false := by rw [exy]; rfl
          have a3 : (FloatKind.f64.format.order y x == some Ordering.lt) = false := by rw [eyx]; rfl
          by_cases h5 : 9223372036854775808 ≤ x <;> by_cases h6 : 9223372036854775808 ≤ y
          · rw [if_neg (by omega)] at t1
            rw [if_neg (by omega)] at t2
            rw [decide_eq_true h5] at sx
            rw [decide_eq_true h6] at sy
            rw [if_pos h5] at rx
            rw [if_pos h6] at ry
            rw [if_neg (by omega), if_neg (by omega)]
            clear h1 h2 h3 h4 h5 h6 kx ky t1 t2 exy eyx
            go_enter Try.func25, Try.ntmps25
            go_wp2_with (first | (go_at_call 29; with_reducible refine (hnx _).mono ?_; rintro e w1 ⟨rfl, rfl⟩) | (go_at_call 29; with_reducible refine (hny _).mono ?_; rintro e w1 ⟨rfl, rfl⟩) | (go_at_call 36; with_reducible refine (rx _).mono ?_; rintro e w1 ⟨rfl, rfl⟩) | (go_at_call 36; with_reducible refine (ry _).mono ?_; rintro e w1 ⟨rfl, rfl⟩) | (go_at_call 35; with_reducible refine (cmp_ints _ _ _).mono ?_; rintro e w1 ⟨rfl, rfl⟩) | (go_at_call 30; with_reducible refine (sx _).mono ?_; rintro e w1 ⟨rfl, rfl⟩) | (go_at_call 30; with_reducible refine (sy _).mono ?_; rintro e w1 ⟨rfl, rfl⟩) | fail)
            go_ret
            exact ⟨rfl, rfl⟩
          · rw [if_neg (by omega)] at t1
            rw [if_pos (by omega)] at t2
            rw [decide_eq_true h5] at sx
            rw [decide_eq_false h6] at sy
            rw [if_pos h5] at rx
            rw [if_neg h6] at ry
            rw [if_pos (by omega)]
            clear h1 h2 h3 h4 h5 h6 kx ky t1 t2 exy eyx
            go_enter Try.func25, Try.ntmps25
            go_wp2_with (first | (go_at_call 29; with_reducible refine (hnx _).mono ?_; rintro e w1 ⟨rfl, rfl⟩) | (go_at_call 29; with_reducible refine (hny _).mono ?_; rintro e w1 ⟨rfl, rfl⟩) | (go_at_call 36; with_reducible refine (rx _).mono ?_; rintro e w1 ⟨rfl, rfl⟩) | (go_at_call 36; with_reducible refine (ry _).mono ?_; rintro e w1 ⟨rfl, rfl⟩) | (go_at_call 35; with_reducible refine (cmp_ints _ _ _).mono ?_; rintro e w1 ⟨rfl, rfl⟩) | (go_at_call 30; with_reducible refine (sx _).mono ?_; rintro e w1 ⟨rfl, rfl⟩) | (go_at_call 30; with_reducible refine (sy _).mono ?_; rintro e w1 ⟨rfl, rfl⟩) | fail)
            go_ret
            exact ⟨rfl, rfl⟩
          · rw [if_pos (by omega)] at t1
            rw [if_neg (by omega)] at t2
            rw [decide_eq_false h5] at sx
            rw [decide_eq_true h6] at sy
            rw [if_neg h5] at rx
            rw [if_pos h6] at ry
            rw [if_neg (by omega), if_pos (by omega)]
            clear h1 h2 h3 h4 h5 h6 kx ky t1 t2 exy eyx
            go_enter Try.func25, Try.ntmps25
            go_wp2_with (first | (go_at_call 29; with_reducible refine (hnx _).mono ?_; rintro e w1 ⟨rfl, rfl⟩) | (go_at_call 29; with_reducible refine (hny _).mono ?_; rintro e w1 ⟨rfl, rfl⟩) | (go_at_call 36; with_reducible refine (rx _).mono ?_; rintro e w1 ⟨rfl, rfl⟩) | (go_at_call 36; with_reducible refine (ry _).mono ?_; rintro e w1 ⟨rfl, rfl⟩) | (go_at_call 35; with_reducible refine (cmp_ints _ _ _).mono ?_; rintro e w1 ⟨rfl, rfl⟩) | (go_at_call 30; with_reducible refine (sx _).mono ?_; rintro e w1 ⟨rfl, rfl⟩) | (go_at_call 30; with_reducible refine (sy _).mono ?_; rintro e w1 ⟨rfl, rfl⟩) | fail)
            go_ret
            exact ⟨rfl, rfl⟩
          · rw [if_pos (by omega)] at t1
            rw [if_pos (by omega)] at t2
            rw [decide_eq_false h5] at sx
            rw [decide_eq_false h6] at sy
            rw [if_neg h5] at rx
            rw [if_neg h6] at ry
            rw [if_neg (by omega), if_neg (by omega)]
            clear h1 h2 h3 h4 h5 h6 kx ky t1 t2 exy eyx
            go_enter Try.func25, Try.ntmps25
            go_wp2_with (first | (go_at_call 29; with_reducible refine (hnx _).mono ?_; rintro e w1 ⟨rfl, rfl⟩) | (go_at_call 29; with_reducible refine (hny _).mono ?_; rintro e w1 ⟨rfl, rfl⟩) | (go_at_call 36; with_reducible refine (rx _).mono ?_; rintro e w1 ⟨rfl, rfl⟩) | (go_at_call 36; with_reducible refine (ry _).mono ?_; rintro e w1 ⟨rfl, rfl⟩) | (go_at_call 35; with_reducible refine (cmp_ints _ _ _).mono ?_; rintro e w1 ⟨rfl, rfl⟩) | (go_at_call 30; with_reducible refine (sx _).mono ?_; rintro e w1 ⟨rfl, rfl⟩) | (go_at_call 30; with_reducible refine (sy _).mono ?_; rintro e w1 ⟨rfl, rfl⟩) | fail)
            go_ret
            exact ⟨rfl, rfl⟩
end Go.Proofs.Ytdofdchckdchfaa
