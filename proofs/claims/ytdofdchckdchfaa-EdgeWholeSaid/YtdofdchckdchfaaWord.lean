/- Contracts of the small float functions that the statements on edge reach: IsNaN, Signbit, Abs, IsInf, Trunc, Floor, Copysign, Inf; no condition but that the words are words. -/
import Derived.Test.YtdofdchckdchfaaRows
import Derived.WalkKit
import Derived.WalkLawsBesides
import Derived.WalkSpells
import Derived.Below
import Derived.Lib.Hide
import Derived.Laws.Externs
import Derived.Laws.Cover2
import Derived.Laws.FloatArith
import Derived.Test.YtdofdchckdchfaaPure
namespace Go.Proofs.Ytdofdchckdchfaa
open Go.RowKit

@[go_sem] theorem frombits_run (n : Int) (w : World) : (callFunc 27 #[.int .u64 n]).run Try.prog w = .ok (.value (.float .f64 n.toNat)) w :=
  run_callFunc_extern Try.func27 (by kernel_rfl) (by kernel_rfl) (by kernel_rfl) (e := Extern.MathFloatBits.float64frombits) (by kernel_rfl) #[.int .u64 n] w
@[go_sem] theorem bits_run (b : Nat) (w : World) : (callFunc 28 #[.float .f64 b]).run Try.prog w = .ok (.value (.int .u64 b)) w :=
  run_callFunc_extern Try.func28 (by kernel_rfl) (by kernel_rfl) (by kernel_rfl) (e := Extern.MathFloatBits.float64bits) (by kernel_rfl) #[.float .f64 b] w

theorem ord_self {x : Nat} (hx : x < 18446744073709551616) : (ord x x != some .eq) = decide (isNan x) := by
  by_cases h : isNan x
  · rw [ord_nan (.inl h)]; simp [h]
  · rw [ord_key hx hx h h, cmp_int]; simp [h]

theorem isnan_any (x : Nat) (hx : x < 18446744073709551616) (w : World) : Calls Try.prog 29 #[.float .f64 x] w fun e w' => e = .returned (.bool (decide (isNan x))) ∧ w' = w := by
  go_enter Try.func29, Try.ntmps29
  go_wp2
  go_ret
  exact ⟨congrArg (fun b => Ending.returned (.bool b)) (ord_self hx), rfl⟩

theorem signbit_any (x : Nat) (hx : x < 18446744073709551616) (w : World) : Calls Try.prog 30 #[.float .f64 x] w fun e w' => e = .returned (.bool (decide (9223372036854775808 ≤ x))) ∧ w' = w := by
  have h : decide (wrap64 (x : Int) < 0) = decide (9223372036854775808 ≤ x) := by
    unfold wrap64
    exact decide_eq_decide.2 (by omega)
  go_enter Try.func30, Try.ntmps30
  go_wp2
  go_ret
  exact ⟨rfl, rfl⟩

theorem low63 (x : Nat) (hx : x < 18446744073709551616) : (bits BinOp.andNot IntKind.u64 (x : Int) 9223372036854775808).toNat = x % 9223372036854775808 := by
  have h := u64_andNot_nat x 9223372036854775808 hx (by decide)
  rw [show (9223372036854775808 : Int) = ((9223372036854775808 : Nat) : Int) from rfl, h, Int.toNat_natCast]
  exact Nat.and_two_pow_sub_one_eq_mod x 63
theorem abs_any (x : Nat) (hx : x < 18446744073709551616) (w : World) : Calls Try.prog 37 #[.float .f64 x] w fun e w' => e = .returned (.float .f64 (x % 9223372036854775808)) ∧ w' = w := by
  go_enter Try.func37, Try.ntmps37
  go_wp2
  go_ret
  exact ⟨congrArg (fun b => Ending.returned (.float .f64 b)) (low63 x hx), rfl⟩
theorem copysign_awake (w : World) : Calls Try.prog 26 #[.float .f64 0, .float .f64 13830554455654793216] w fun e w' => e = .returned (.float .f64 9223372036854775808) ∧ w' = w := by
  have h : (bits BinOp.or IntKind.u64 (bits BinOp.andNot IntKind.u64 ((0 : Nat) : Int) 9223372036854775808) (bits BinOp.and IntKind.u64 ((13830554455654793216 : Nat) : Int) 9223372036854775808)).toNat = 9223372036854775808 := by kernel_rfl
  go_enter Try.func26, Try.ntmps26
  go_wp2
  go_ret
  exact ⟨congrArg (fun b => Ending.returned (.float .f64 b)) h, rfl⟩
theorem inf_one (w : World) : Calls Try.prog 22 #[.int .i64 1] w fun e w' => e = .returned (.float .f64 9218868437227405312) ∧ w' = w := by
  go_enter Try.func22, Try.ntmps22
  go_wp2
  go_ret
  exact ⟨rfl, rfl⟩
theorem isinf_raw (r : Nat) (hr : r < 9223372036854775808) : (FloatKind.f64.format.order r 9218868437227405311 == some Ordering.gt) = decide (r = 9218868437227405312) := by
  have h1 : ¬isNan 9218868437227405311 := by unfold isNan; decide
  have k1 : key 9218868437227405311 = 9218868437227405311 := by unfold key; rw [if_pos (by decide)]; rfl
  have k2 : key r = (r : Int) := by unfold key; rw [if_pos hr]
  by_cases hn : isNan r
  · rw [show FloatKind.f64.format.order r 9218868437227405311 = none from ord_nan (.inl hn)]
    unfold isNan at hn
    have : ¬ r = 9218868437227405312 := by omega
    simp [this]
  · rw [show FloatKind.f64.format.order r 9218868437227405311 = _ from ord_key (by omega) (by decide) hn h1, k1, k2, cmp_int]
    unfold isNan at hn
    by_cases e : r = 9218868437227405312
    · rw [if_neg (by omega), if_neg (by omega)]; simp [e]
    · by_cases e2 : (r : Int) = 9218868437227405311
      · rw [if_neg (by omega), if_pos e2]; simp [e]
      · rw [if_pos (by omega)]; simp [e]
theorem isinf_any (x : Nat) (hx : x < 18446744073709551616) (w : World) : Calls Try.prog 31 #[.float .f64 x, .int .i64 0] w fun e w' => e = .returned (.bool (decide (x % 9223372036854775808 = 9218868437227405312))) ∧ w' = w := by
  go_enter Try.func31, Try.ntmps31
  go_wp2_with fail
  refine (abs_any x hx _).mono ?_
  rintro e w1 ⟨rfl, rfl⟩
  go_wp2
  go_ret
  exact ⟨congrArg (fun b => Ending.returned (.bool b)) (isinf_raw _ (by omega)), rfl⟩

def wholeOf (way : Ieee.Toward) (x : Nat) : Nat := FloatKind.f64.encode ((FloatKind.f64.decode x).integral way)
theorem integral_run (name : String) (way : Ieee.Toward) (x : Nat) (hn : ¬isNan x) (w : World) : (Extern.MathFloor.toIntegral name way #[.float .f64 x]).run Try.prog w = .ok (.float .f64 (wholeOf way x)) w := by
  have h : ∀ s t, FloatKind.f64.decode x ≠ .nan s t := fun s t => by
    show Ieee.double.read x ≠ _
    unfold isNan at hn
    rw [read_double]
    split
    · simp
    · rw [if_pos (by omega)]; simp
  obtain ⟨A, e⟩ : ∃ A : Bool → Nat → Sem Value, Extern.MathFloor.toIntegral name way #[.float .f64 x] = (match FloatKind.f64.decode x with
      | .nan s t => A s t
      | d => pure (.float .f64 (FloatKind.f64.encode (d.integral way)))) := ⟨_, rfl⟩
  rw [e]
  unfold wholeOf
  generalize FloatKind.f64.decode x = d at *
  cases d with
  | nan s t => exact absurd rfl (h s t)
  | number s m i => rfl
  | infinity s => rfl
theorem trunc_run (x : Nat) (hn : ¬isNan x) (w : World) : (callFunc 38 #[.float .f64 x]).run Try.prog w = .ok (.value (.float .f64 (wholeOf .zero x))) w := by
  rw [run_callFunc_extern Try.func38 (by kernel_rfl) (by kernel_rfl) (by kernel_rfl) (e := Extern.MathFloor.toIntegral "math.archTrunc" .zero) (by kernel_rfl) #[.float .f64 x] w, integral_run _ _ _ hn]
  rfl
theorem floor_run (x : Nat) (hn : ¬isNan x) (w : World) : (callFunc 40 #[.float .f64 x]).run Try.prog w = .ok (.value (.float .f64 (wholeOf .down x))) w := by
  rw [run_callFunc_extern Try.func40 (by kernel_rfl) (by kernel_rfl) (by kernel_rfl) (e := Extern.MathFloor.toIntegral "math.archFloor" .down) (by kernel_rfl) #[.float .f64 x] w, integral_run _ _ _ hn]
  rfl
theorem trunc_any (x : Nat) (hn : ¬isNan x) (w : World) : Calls Try.prog 32 #[.float .f64 x] w fun e w' => e = .returned (.float .f64 (wholeOf .zero x)) ∧ w' = w := by
  have h := fun w => trunc_run x hn w
  go_enter Try.func32, Try.ntmps32
  go_wp2
  go_ret
  exact ⟨rfl, rfl⟩
theorem floor_any (x : Nat) (hn : ¬isNan x) (w : World) : Calls Try.prog 33 #[.float .f64 x] w fun e w' => e = .returned (.float .f64 (wholeOf .down x)) ∧ w' = w := by
  have h := fun w => floor_run x hn w
  go_enter Try.func33, Try.ntmps33
  go_wp2
  go_ret
  exact ⟨rfl, rfl⟩
end Go.Proofs.Ytdofdchckdchfaa
