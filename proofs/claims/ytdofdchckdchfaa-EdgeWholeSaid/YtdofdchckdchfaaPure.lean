/- Doubles as rungs: how two words stand to each other is how their signed rungs do; no condition but that the words are words and no NaNs. -/
import GoSem.Core.Float
import Derived.Laws.FloatBits
namespace Go.Proofs.Ytdofdchckdchfaa

/-- a rung's number, in units of the least one. -/
def val (r : Nat) : Nat := if r < 4503599627370496 then r else (4503599627370496 + r % 4503599627370496) * 2 ^ (r / 4503599627370496 - 1)

theorem val_step (r : Nat) : val r < val (r + 1) := by
  unfold val
  by_cases h1 : r + 1 < 4503599627370496
  · rw [if_pos (by omega), if_pos h1]; omega
  · by_cases h2 : r < 4503599627370496
    · have : r + 1 = 4503599627370496 := by omega
      rw [if_pos h2, if_neg h1, this]
      simp
      omega
    · rw [if_neg h2, if_neg h1]
      have hp : 0 < 2 ^ (r / 4503599627370496 - 1) := Nat.two_pow_pos _
      by_cases h3 : r % 4503599627370496 = 4503599627370495
      · have e1 : (r + 1) / 4503599627370496 - 1 = (r / 4503599627370496 - 1) + 1 := by omega
        have e2 : (r + 1) % 4503599627370496 = 0 := by omega
        rw [e1, e2, h3, Nat.pow_succ]
        omega
      · have e1 : (r + 1) / 4503599627370496 = r / 4503599627370496 := by omega
        have e2 : (r + 1) % 4503599627370496 = r % 4503599627370496 + 1 := by omega
        rw [e1, e2]
        exact Nat.mul_lt_mul_of_pos_right (by omega) hp

theorem val_lt {a b : Nat} (h : a < b) : val a < val b := by
  induction b with
  | zero => omega
  | succ b ih =>
    rcases Nat.lt_succ_iff_lt_or_eq.1 h with h | h
    · exact Nat.lt_trans (ih h) (val_step b)
    · subst h; exact val_step a
theorem val_le {a b : Nat} (h : a ≤ b) : val a ≤ val b := by
  rcases Nat.lt_or_eq_of_le h with h | h
  · exact Nat.le_of_lt (val_lt h)
  · rw [h]; exact Nat.le_refl _
theorem val_lt_iff {a b : Nat} : val a < val b ↔ a < b :=
  ⟨fun h => Nat.lt_of_not_le fun g => absurd (val_le g) (by omega), val_lt⟩
theorem val_inj {a b : Nat} (h : val a = val b) : a = b := by
  rcases Nat.lt_trichotomy a b with g | g | g
  · have := val_lt g; omega
  · exact g
  · have := val_lt g; omega

def mag (r : Nat) : Nat := if r < 4503599627370496 then r else 4503599627370496 + r % 4503599627370496
/-- how far above the least place the last digit is. -/
def up (r : Nat) : Nat := if r < 4503599627370496 then 0 else r / 4503599627370496 - 1
theorem val_mag (r : Nat) : val r = mag r * 2 ^ up r := by
  unfold val mag up
  split <;> simp_all

theorem read_double (x : Nat) : Ieee.double.read x =
    if x % 9223372036854775808 < 9218868437227405312 then .number (x / 9223372036854775808 % 2 == 1) (mag (x % 9223372036854775808)) (-1074 + (up (x % 9223372036854775808) : Nat))
    else if x % 9223372036854775808 = 9218868437227405312 then .infinity (x / 9223372036854775808 % 2 == 1)
    else .nan (x / 9223372036854775808 % 2 == 1) (x % 9223372036854775808 - 9218868437227405312) := by
  have e1 : Ieee.double.signWeight = 9223372036854775808 := by decide +kernel
  have e2 : Ieee.double.binade = 4503599627370496 := by decide +kernel
  have e3 : Ieee.double.infRung = 9218868437227405312 := by decide +kernel
  have e4 : Ieee.double.leastPlace = -1074 := by decide +kernel
  unfold Ieee.Format.read
  rw [e1, e2, e3, e4]
  dsimp only
  unfold mag up
  generalize x % 9223372036854775808 = r
  by_cases h1 : r < 4503599627370496
  · have h2 : r < 9218868437227405312 := by omega
    simp [h1, h2]
  · simp [h1]

def isNan (x : Nat) : Prop := 9218868437227405312 < x % 9223372036854775808
instance (x : Nat) : Decidable (isNan x) := by unfold isNan; infer_instance

/-- a word's rung with its sign. -/
def key (x : Nat) : Int := if x < 9223372036854775808 then (x : Int) else -((x % 9223372036854775808 : Nat) : Int)

abbrev ord (x y : Nat) : Option Ordering := FloatKind.f64.format.order x y

theorem cmp_int (a b : Int) : compare a b = if a < b then Ordering.lt else if a = b then .eq else .gt := rfl
theorem cmp_nat (a b : Nat) : compare a b = if a < b then Ordering.lt else if a = b then .eq else .gt := rfl
theorem cmp_mul (a b c : Int) (hc : 0 < c) : compare (a * c) (b * c) = compare a b := by
  rw [cmp_int, cmp_int]
  have h1 : a * c < b * c ↔ a < b := ⟨fun h => Int.lt_of_mul_lt_mul_right h (by omega), fun h => Int.mul_lt_mul_of_pos_right h hc⟩
  have h2 : a * c = b * c ↔ a = b := ⟨fun h => Int.eq_of_mul_eq_mul_right (by omega) h, fun h => by rw [h]⟩
  simp only [h1, h2]

theorem signed_up (s : Bool) (m e d : Nat) : Ieee.signed s m e * ((2 ^ d : Nat) : Int) = Ieee.signed s m (e + d) := by
  have h : (((m <<< e : Nat) : Int)) * ((2 ^ d : Nat) : Int) = ((m <<< (e + d) : Nat) : Int) := by
    rw [← Int.natCast_mul, Nat.shiftLeft_eq, Nat.shiftLeft_eq, Nat.pow_add, Nat.mul_assoc]
  unfold Ieee.signed
  split
  · rw [Int.neg_mul, h]
  · exact h

theorem order_num (s t : Bool) (m n a b : Nat) : Ieee.Datum.order (.number s m (-1074 + (a : Nat))) (.number t n (-1074 + (b : Nat))) =
    some (compare (Ieee.signed s m a) (Ieee.signed t n b)) := by
  unfold Ieee.Datum.order
  dsimp only
  have e1 : (-1074 + (a : Int) - min (-1074 + (a : Int)) (-1074 + (b : Int))).toNat + min a b = a := by omega
  have e2 : (-1074 + (b : Int) - min (-1074 + (a : Int)) (-1074 + (b : Int))).toNat + min a b = b := by omega
  have hp : (0 : Int) < ((2 ^ min a b : Nat) : Int) := Int.natCast_pos.2 (Nat.two_pow_pos _)
  rw [← cmp_mul (Ieee.signed s m _) _ _ hp, signed_up, signed_up, e1, e2]

theorem signed_val (s : Bool) (r : Nat) : Ieee.signed s (mag r) (up r) = if s then -(val r : Int) else (val r : Int) := by
  unfold Ieee.signed
  rw [Nat.shiftLeft_eq, ← val_mag]

theorem ord_nan {x y : Nat} (h : isNan x ∨ isNan y) : ord x y = none := by
  show (Ieee.double.read x).order (Ieee.double.read y) = none
  have key : ∀ z, isNan z → Ieee.double.read z = .nan (z / 9223372036854775808 % 2 == 1) (z % 9223372036854775808 - 9218868437227405312) := fun z hz => by
    unfold isNan at hz
    rw [read_double, if_neg (by omega), if_neg (by omega)]
  rcases h with h | h
  · rw [key x h]; rfl
  · rw [key y h]; cases Ieee.double.read x <;> rfl

theorem key_cases {x : Nat} (hx : x < 18446744073709551616) : (x < 9223372036854775808 ∧ x % 9223372036854775808 = x ∧ (x / 9223372036854775808 % 2 == 1) = false ∧ key x = (x : Int)) ∨
    (9223372036854775808 ≤ x ∧ x % 9223372036854775808 = x - 9223372036854775808 ∧ (x / 9223372036854775808 % 2 == 1) = true ∧ key x = -((x - 9223372036854775808 : Nat) : Int)) := by
  unfold key
  by_cases h : x < 9223372036854775808
  · refine .inl ⟨h, by omega, ?_, if_pos h⟩
    have : x / 9223372036854775808 = 0 := by omega
    simp [this]
  · have e : x % 9223372036854775808 = x - 9223372036854775808 := by omega
    refine .inr ⟨by omega, e, ?_, by rw [if_neg h, e]⟩
    have : x / 9223372036854775808 = 1 := by omega
    simp [this]

theorem cmp_vals (s t : Bool) (r q : Nat) : compare (if s then -(val r : Int) else (val r : Int)) (if t then -(val q : Int) else (val q : Int)) =
    compare (if s then -(r : Int) else (r : Int)) (if t then -(q : Int) else (q : Int)) := by
  have h0 : val 0 = 0 := by decide
  have a1 := @val_lt_iff r q
  have a2 := @val_lt_iff q r
  have b1 : val r = val q ↔ r = q := ⟨val_inj, fun h => by rw [h]⟩
  have c1 : val r = 0 ↔ r = 0 := ⟨fun h => val_inj (h.trans h0.symm), fun h => by rw [h, h0]⟩
  have c2 : val q = 0 ↔ q = 0 := ⟨fun h => val_inj (h.trans h0.symm), fun h => by rw [h, h0]⟩
  rw [cmp_int, cmp_int]
  cases s <;> cases t <;> simp only [Bool.false_eq_true, if_false, if_true] <;> (repeat' split) <;> first | rfl | omega

theorem order_ni (s t : Bool) (m : Nat) (i : Int) : Ieee.Datum.order (.number s m i) (.infinity t) = some (if t then .gt else .lt) := rfl
theorem order_in (s t : Bool) (m : Nat) (i : Int) : Ieee.Datum.order (.infinity s) (.number t m i) = some (if s then .lt else .gt) := rfl
theorem order_ii (s t : Bool) : Ieee.Datum.order (.infinity s) (.infinity t) = some (compare t.toNat s.toNat) := rfl

def sgn (s : Bool) (r : Nat) : Int := if s then -(r : Int) else (r : Int)
def rd (s : Bool) (r : Nat) : Ieee.Datum :=
  if r < 9218868437227405312 then .number s (mag r) (-1074 + (up r : Nat)) else if r = 9218868437227405312 then .infinity s else .nan s (r - 9218868437227405312)
theorem read_rd (x : Nat) : Ieee.double.read x = rd (x / 9223372036854775808 % 2 == 1) (x % 9223372036854775808) := read_double x
theorem key_sgn {x : Nat} (hx : x < 18446744073709551616) : key x = sgn (x / 9223372036854775808 % 2 == 1) (x % 9223372036854775808) := by
  rcases key_cases hx with ⟨_, h2, h3, h4⟩ | ⟨_, h2, h3, h4⟩
  · rw [h4, h3, h2]; exact (if_neg (by decide)).symm
  · rw [h4, h3, h2]; exact (if_pos rfl).symm

theorem order_rd (s t : Bool) (r q : Nat) (hr : r ≤ 9218868437227405312) (hq : q ≤ 9218868437227405312) : (rd s r).order (rd t q) = some (compare (sgn s r) (sgn t q)) := by
  unfold rd sgn
  by_cases h1 : r < 9218868437227405312
  · by_cases h2 : q < 9218868437227405312
    · rw [if_pos h1, if_pos h2, order_num, signed_val, signed_val, cmp_vals]
    · have h3 : q = 9218868437227405312 := by omega
      rw [if_pos h1, if_neg h2, if_pos h3, order_ni, cmp_int]
      cases s <;> cases t <;> simp only [Bool.false_eq_true, if_false, if_true] <;> (repeat' split) <;> first | rfl | omega
  · have h4 : r = 9218868437227405312 := by omega
    by_cases h2 : q < 9218868437227405312
    · rw [if_neg h1, if_pos h4, if_pos h2, order_in, cmp_int]
      cases s <;> cases t <;> simp only [Bool.false_eq_true, if_false, if_true] <;> (repeat' split) <;> first | rfl | omega
    · have h3 : q = 9218868437227405312 := by omega
      rw [if_neg h1, if_pos h4, if_neg h2, if_pos h3, order_ii, cmp_int, cmp_nat]
      cases s <;> cases t <;> simp only [Bool.false_eq_true, if_false, if_true, Bool.toNat_true, Bool.toNat_false] <;> (repeat' split) <;> first | rfl | omega

theorem ord_rd (x y : Nat) : ord x y = (Ieee.double.read x).order (Ieee.double.read y) := rfl
theorem ord_key {x y : Nat} (hx : x < 18446744073709551616) (hy : y < 18446744073709551616) (nx : ¬isNan x) (ny : ¬isNan y) : ord x y = some (compare (key x) (key y)) := by
  rw [ord_rd, read_rd, read_rd, key_sgn hx, key_sgn hy]
  exact order_rd _ _ _ _ (Nat.le_of_not_lt nx) (Nat.le_of_not_lt ny)
end Go.Proofs.Ytdofdchckdchfaa
