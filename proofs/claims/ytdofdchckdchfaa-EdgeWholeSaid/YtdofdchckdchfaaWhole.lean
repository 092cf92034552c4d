/- Whole numbers as doubles: which word a number below 2^53 is, what cutting a finite positive double gives, which doubles are the numbers from 1 to 2^20; no condition but those said. -/
import Derived.Laws.FloatArith
import Derived.Test.YtdofdchckdchfaaWord
namespace Go.Proofs.Ytdofdchckdchfaa

def pw (k : Nat) : Nat := 2 ^ k
theorem pw_eq (k : Nat) : pw k = 2 ^ k := rfl
theorem pw_pos (k : Nat) : 0 < pw k := Nat.two_pow_pos k
def U : Nat := pw 1074
theorem U_eq : U = 2 ^ 1074 := pw_eq 1074
theorem U_pos : 0 < U := pw_pos 1074

/-- the word of a number that is not nought and below 2^53. -/
def rung (n : Nat) : Nat := (n.log2 + 1022) * 4503599627370496 + n * 2 ^ (52 - n.log2)

theorem log_parts {n : Nat} (h0 : 0 < n) (h1 : n < 9007199254740992) : n.log2 ≤ 52 ∧ ∃ f, f < 4503599627370496 ∧ n * 2 ^ (52 - n.log2) = 4503599627370496 + f := by
  have a := Nat.log2_self_le (Nat.pos_iff_ne_zero.1 h0)
  have b : n < 2 ^ (n.log2 + 1) := Nat.lt_log2_self
  have hL : n.log2 < 53 := (Nat.log2_lt (Nat.pos_iff_ne_zero.1 h0)).2 (by simpa using h1)
  refine ⟨by omega, ?_⟩
  have hp : 0 < 2 ^ (52 - n.log2) := Nat.two_pow_pos _
  have c1 : 2 ^ n.log2 * 2 ^ (52 - n.log2) = 4503599627370496 := by rw [← Nat.pow_add, show n.log2 + (52 - n.log2) = 52 by omega]
  have c2 : 2 ^ (n.log2 + 1) * 2 ^ (52 - n.log2) = 9007199254740992 := by rw [← Nat.pow_add, show n.log2 + 1 + (52 - n.log2) = 53 by omega]
  have d1 := Nat.mul_le_mul_right (2 ^ (52 - n.log2)) a
  have d2 := Nat.mul_lt_mul_of_pos_right b hp
  rw [c1] at d1
  rw [c2] at d2
  exact ⟨n * 2 ^ (52 - n.log2) - 4503599627370496, by omega, by omega⟩

theorem rung_val {n : Nat} (h0 : 0 < n) (h1 : n < 9007199254740992) : val (rung n) = n * U ∧ rung n < 4859383997932765184 := by
  obtain ⟨hL, f, hf, e⟩ := log_parts h0 h1
  have er : rung n = (n.log2 + 1023) * 4503599627370496 + f := by unfold rung; rw [e]; omega
  have hd : rung n / 4503599627370496 = n.log2 + 1023 := by omega
  have hm : rung n % 4503599627370496 = f := by omega
  refine ⟨?_, by omega⟩
  unfold val
  rw [if_neg (by omega), hd, hm, ← e, Nat.mul_assoc, ← Nat.pow_add]
  rw [show 52 - n.log2 + (n.log2 + 1023 - 1) = 1074 by omega, ← U_eq]

theorem cut_none (w : Ieee.Toward) (n : Nat) : w.cut false n 0 = n := by
  unfold Ieee.Toward.cut
  cases w <;> simp [Nat.mod_one]
theorem cut_all (w : Ieee.Toward) (m d : Nat) : w.cut false (m <<< d) d = m := by
  unfold Ieee.Toward.cut
  by_cases h0 : m = 0
  · subst h0; cases w <;> simp <;> exact fun h => absurd h (by omega)
  · have hle : d ≤ (m <<< d).log2 + 2 := by
      have : d ≤ (m <<< d).log2 := (Nat.le_log2 (by rw [Nat.shiftLeft_eq]; exact Nat.ne_of_gt (Nat.mul_pos (by omega) (Nat.two_pow_pos _)))).2 (by rw [Nat.shiftLeft_eq]; exact Nat.le_mul_of_pos_left _ (by omega))
      omega
    have hp : 0 < 2 ^ d := Nat.two_pow_pos _
    rw [Nat.min_eq_left hle, Nat.shiftLeft_eq, Nat.shiftLeft_eq, Nat.one_mul]
    dsimp only
    rw [Nat.mul_div_cancel _ hp, Nat.mul_mod_left]
    cases w <;> simp
theorem cut_zero (m d : Nat) : Ieee.Toward.zero.cut false m d = m / 2 ^ d := by
  unfold Ieee.Toward.cut
  simp only [Bool.toNat_false, Nat.add_zero]
  rw [Nat.shiftLeft_eq, Nat.one_mul]
  by_cases h : d ≤ m.log2 + 2
  · rw [Nat.min_eq_left h]
  · rw [Nat.min_eq_right (by omega)]
    have b : m < 2 ^ (m.log2 + 1) := Nat.lt_log2_self
    have c1 : 2 ^ (m.log2 + 1) ≤ 2 ^ (m.log2 + 2) := Nat.pow_le_pow_right (by omega) (by omega)
    have c2 : 2 ^ (m.log2 + 1) ≤ 2 ^ d := Nat.pow_le_pow_right (by omega) (by omega)
    rw [Nat.div_eq_of_lt (by omega), Nat.div_eq_of_lt (by omega)]
theorem cut_down (m d : Nat) : Ieee.Toward.down.cut false m d = Ieee.Toward.zero.cut false m d := rfl

theorem nearest_double (m : Nat) (p : Int) (hm : 0 < m) : Ieee.double.nearest false m p =
    min (((max (p + m.log2 - 52) (-1074) - -1074).toNat) * 4503599627370496 + Ieee.Toward.even.cut false (m <<< (p - max (p + m.log2 - 52) (-1074)).toNat) ((max (p + m.log2 - 52) (-1074) - p).toNat)) 9218868437227405312 := by
  have e2 : Ieee.double.binade = 4503599627370496 := by decide +kernel
  have e3 : Ieee.double.infRung = 9218868437227405312 := by decide +kernel
  have e4 : Ieee.double.leastPlace = -1074 := by decide +kernel
  unfold Ieee.Format.nearest
  rw [if_neg (by omega), e2, e3, e4, show Ieee.double.fractionBits = 52 from rfl]
  unfold Ieee.Format.word
  rw [if_neg (by decide)]
  exact rfl

theorem nearest_small {n : Nat} (h0 : 0 < n) (h1 : n < 9007199254740992) : Ieee.double.nearest false n 0 = rung n := by
  obtain ⟨hL, f, hf, e⟩ := log_parts h0 h1
  have hb := (rung_val h0 h1).2
  rw [nearest_double n 0 h0]
  have hl : max ((0 : Int) + (n.log2 : Int) - 52) (-1074) = (n.log2 : Int) - 52 := by omega
  rw [hl, show ((n.log2 : Int) - 52 - -1074).toNat = n.log2 + 1022 by omega, show ((0 : Int) - ((n.log2 : Int) - 52)).toNat = 52 - n.log2 by omega,
    show ((n.log2 : Int) - 52 - 0).toNat = 0 by omega, cut_none, Nat.shiftLeft_eq]
  unfold rung at hb ⊢
  omega

theorem ofInt_rung {n : Nat} (h0 : 0 < n) (h1 : n < 9007199254740992) : floatOfInt .f64 (n : Int) = rung n := by
  rw [← nearest_small h0 h1]
  show Ieee.double.nearest (decide ((n : Int) < 0)) (n : Int).natAbs 0 = _
  rw [decide_eq_false (by omega)]
  rfl

theorem log_shift {m d : Nat} (h0 : 4503599627370496 ≤ m) (h1 : m < 9007199254740992) : (m <<< d).log2 = 52 + d := by
  have hne : m <<< d ≠ 0 := by rw [Nat.shiftLeft_eq]; exact Nat.ne_of_gt (Nat.mul_pos (by omega) (Nat.two_pow_pos _))
  refine (Nat.log2_eq_iff hne).2 ⟨?_, ?_⟩
  · rw [Nat.shiftLeft_eq, Nat.pow_add]; exact Nat.mul_le_mul_right _ (by simpa using h0)
  · rw [Nat.shiftLeft_eq, show 52 + d + 1 = 53 + d by omega, Nat.pow_add]; exact Nat.mul_lt_mul_of_pos_right (by simpa using h1) (Nat.two_pow_pos _)

theorem decode_pos {x : Nat} (hx : x < 9218868437227405312) : FloatKind.f64.decode x = .number false (mag x) (-1074 + (up x : Nat)) := by
  show Ieee.double.read x = _
  have e : x % 9223372036854775808 = x := by omega
  have e2 : (x / 9223372036854775808 % 2 == 1) = false := by
    have : x / 9223372036854775808 = 0 := by omega
    simp [this]
  rw [read_double, e, e2, if_pos hx]

theorem whole_great (way : Ieee.Toward) {x : Nat} (hx : x < 9218868437227405312) (hu : 1074 ≤ up x) : wholeOf way x = x := by
  obtain ⟨d, hd⟩ : ∃ d, up x = 1074 + d := ⟨up x - 1074, by omega⟩
  have hge : 4503599627370496 ≤ x := by unfold up at hu; split at hu <;> omega
  have hm : mag x = 4503599627370496 + x % 4503599627370496 := by unfold mag; rw [if_neg (by omega)]
  have hup : up x = x / 4503599627370496 - 1 := by unfold up; rw [if_neg (by omega)]
  unfold wholeOf
  rw [decode_pos hx, hd]
  show Ieee.double.nearest false (way.cut false (mag x <<< (-1074 + ((1074 + d : Nat) : Int)).toNat) (-(-1074 + ((1074 + d : Nat) : Int))).toNat) 0 = x
  rw [show (-1074 + ((1074 + d : Nat) : Int)).toNat = d by omega, show (-(-1074 + ((1074 + d : Nat) : Int))).toNat = 0 by omega, cut_none]
  have h0 : 4503599627370496 ≤ mag x := by omega
  have h1 : mag x < 9007199254740992 := by omega
  have hpos : 0 < mag x <<< d := by rw [Nat.shiftLeft_eq]; exact Nat.mul_pos (by omega) (Nat.two_pow_pos _)
  rw [nearest_double _ 0 hpos, log_shift h0 h1]
  have hl : max ((0 : Int) + ((52 + d : Nat) : Int) - 52) (-1074) = (d : Int) := by omega
  rw [hl, show ((0 : Int) - (d : Int)).toNat = 0 by omega, show ((d : Int) - 0).toNat = d by omega, show ((d : Int) - -1074).toNat = 1074 + d by omega, Nat.shiftLeft_zero, cut_all]
  omega

theorem whole_less {x : Nat} (hx : x < 9218868437227405312) (hu : up x < 1074) : wholeOf .down x = wholeOf .zero x ∧ val (wholeOf .zero x) = val x / U * U ∧ wholeOf .zero x < 9218868437227405312 ∧
    val x / U < 9007199254740992 ∧ Ieee.Datum.toInt .zero (FloatKind.f64.decode x) = some ((val x / U : Nat) : Int) := by
  obtain ⟨d, hd⟩ : ∃ d, up x + d = 1074 := ⟨1074 - up x, by omega⟩
  have hq : mag x / 2 ^ d = val x / U := by
    rw [val_mag, U_eq, ← hd, Nat.pow_add, Nat.mul_comm (mag x)]
    exact (Nat.mul_div_mul_left _ _ (Nat.two_pow_pos _)).symm
  have hm : mag x < 9007199254740992 := by unfold mag; split <;> omega
  have hqm : mag x / 2 ^ d ≤ mag x := Nat.div_le_self _ _
  have e1 : (-1074 + ((up x : Nat) : Int)).toNat = 0 := by omega
  have e2 : (-(-1074 + ((up x : Nat) : Int))).toNat = d := by omega
  have ez : wholeOf .zero x = Ieee.double.nearest false (mag x / 2 ^ d) 0 := by
    unfold wholeOf
    rw [decode_pos hx]
    show Ieee.double.nearest false (Ieee.Toward.zero.cut false (mag x <<< (-1074 + ((up x : Nat) : Int)).toNat) (-(-1074 + ((up x : Nat) : Int))).toNat) 0 = _
    rw [e1, e2, Nat.shiftLeft_zero, cut_zero]
  have ed : wholeOf .down x = Ieee.double.nearest false (mag x / 2 ^ d) 0 := by
    unfold wholeOf
    rw [decode_pos hx]
    show Ieee.double.nearest false (Ieee.Toward.down.cut false (mag x <<< (-1074 + ((up x : Nat) : Int)).toNat) (-(-1074 + ((up x : Nat) : Int))).toNat) 0 = _
    rw [e1, e2, Nat.shiftLeft_zero, cut_down, cut_zero]
  refine ⟨ed.trans ez.symm, ?_, ?_, by omega, ?_⟩
  · rw [ez, hq]
    rcases Nat.eq_zero_or_pos (val x / U) with h | h
    · rw [h, Nat.zero_mul]; rfl
    · rw [nearest_small h (by omega), (rung_val h (by omega)).1]
  · rw [ez]
    rcases Nat.eq_zero_or_pos (mag x / 2 ^ d) with h | h
    · rw [h]; show (0 : Nat) < _; omega
    · rw [nearest_small h (by omega)]
      have := (rung_val h (by omega)).2
      omega
  · rw [decode_pos hx]
    show some (Ieee.signed false (Ieee.Toward.zero.cut false (mag x <<< (-1074 + ((up x : Nat) : Int)).toNat) (-(-1074 + ((up x : Nat) : Int))).toNat) 0) = _
    rw [e1, e2, Nat.shiftLeft_zero, cut_zero, hq]
    rfl

theorem whole_both {x : Nat} (hx : x < 9218868437227405312) : wholeOf .down x = wholeOf .zero x ∧ wholeOf .zero x ≤ x := by
  by_cases h : up x < 1074
  · obtain ⟨a, b, _⟩ := whole_less hx h
    refine ⟨a, ?_⟩
    rcases Nat.lt_or_ge x (wholeOf .zero x) with g | g
    · have := val_lt g
      have := Nat.div_mul_le_self (val x) (U)
      omega
    · exact g
  · rw [whole_great _ hx (by omega), whole_great _ hx (by omega)]
    exact ⟨rfl, Nat.le_refl _⟩

/-- a double that is its own whole part, is not nought and not above 2^20, is one of the numbers. -/
theorem fine_rung {x : Nat} (h0 : x ≠ 0) (h1 : x ≤ 4697254411347427328) (h2 : wholeOf .zero x = x) : ∃ n, 0 < n ∧ n ≤ 1048576 ∧ x = rung n ∧ val x / U = n := by
  have hu : up x < 1074 := by unfold up; split <;> omega
  obtain ⟨_, b, _, d, _⟩ := whole_less (by omega) hu
  rw [h2] at b
  have hp := U_pos
  have hpos : 0 < val x / U := by
    rcases Nat.eq_zero_or_pos (val x / U) with h | h
    · rw [h, Nat.zero_mul] at b
      exact absurd (val_inj (b.trans (show 0 = val 0 by decide))) h0
    · exact h
  have hx : x = rung (val x / U) := val_inj (by rw [(rung_val hpos d).1]; exact b)
  refine ⟨val x / U, hpos, ?_, hx, rfl⟩
  have hv := val_le h1
  have hr : (4697254411347427328 : Nat) = rung 1048576 := by decide +kernel
  rw [hr, (rung_val (by decide) (by decide)).1, b] at hv
  exact Nat.le_of_mul_le_mul_right hv hp

theorem rung_fine {n : Nat} (h0 : 0 < n) (h1 : n ≤ 1048576) : rung n ≠ 0 ∧ rung n ≤ 4697254411347427328 ∧ wholeOf .zero (rung n) = rung n ∧ val (rung n) / U = n := by
  have hp := U_pos
  obtain ⟨v, l⟩ := rung_val h0 (by omega)
  have hne : rung n ≠ 0 := fun h => by
    rw [h] at v
    have : val 0 = 0 := by decide
    rw [this] at v
    have := Nat.mul_pos h0 hp
    omega
  have hle : rung n ≤ 4697254411347427328 := by
    rcases Nat.lt_or_ge 4697254411347427328 (rung n) with g | g
    · have hr : (4697254411347427328 : Nat) = rung 1048576 := by decide +kernel
      have := val_lt g
      rw [hr, (rung_val (by decide) (by decide)).1, v] at this
      have := Nat.lt_of_mul_lt_mul_right this
      omega
    · exact g
  have hdiv : val (rung n) / U = n := by rw [v]; exact Nat.mul_div_cancel _ hp
  refine ⟨hne, hle, ?_, hdiv⟩
  have hu : up (rung n) < 1074 := by unfold up; split <;> omega
  obtain ⟨_, b, _⟩ := whole_less (by omega) hu
  exact val_inj (by rw [b, hdiv, v])
end Go.Proofs.Ytdofdchckdchfaa
