/- MoneyKnown, which takes no argument, returns true; no condition. -/
import Derived.Test.YtjpgginmdnbmdaaRows
import Derived.WalkKit
import Derived.ProofKit
import Derived.OpenShut
import Derived.ShutString
import Derived.Below
import Derived.Test.YtjpgginmdnbmdaaGuard
namespace Go.Proofs.Ytjpgginmdnbmdaa.moneyKnown
open Go.ChangeShapes Go.WideShapes Go.ChangeAt Go.RowKit
open Go.ChangeMaps (open_string shut_string)
set_option linter.unusedVariables false

theorem k1 : addV 1125899906842624 0 = 1125899906842624 ∧ addB 1125899906842624 0 = true := by decide
theorem k2 : subB 1 2 = false := by decide
theorem k3 : sumV [1, 2, 3] = 6 ∧ fine [1, 2, 3] = true := by decide
theorem k4 : sumV [] = 0 ∧ fine [] = true := by decide
theorem k5 : fine [-1] = false := by decide
theorem k6 : fine [5, -1, 1] = false := by decide
theorem k7 : mayB (-1) = false ∧ mayB 1125899906842625 = false ∧ mayB 0 = true := by decide
theorem sum_at (b n cap : Nat) (zs : List Int) (w : World) (hn : zs.length = n) (hbig : n ≤ 9223372036854775807) (hc : ∀ j, j < n → w.cell? ⟨b, j, none⟩ = some (.int .i64 (zs.getD j 0))) :
    Calls Try.prog 21 #[.slice (some ⟨b, 0, none⟩) n cap] w fun e w' => e = .returned (two (sumV zs) (fine zs)) ∧ w = w' := by
  subst hn
  exact sum_any b 0 cap zs w hbig fun j hj => by rw [Nat.zero_add]; exact hc j hj
theorem own : ownKnob Try.prog.godebug = none := by kernel_rfl

theorem walk  (w : World) :
    Calls Try.prog 7 #[] w fun e w' => e = .returned (.bool true) ∧ Below w.heap.size w w' := by
  have e1 := k1.1
  have e2 := k1.2
  have e3 := k2
  have e4 := k3.1
  have e5 := k3.2
  have e6 := k4.1
  have e7 := k4.2
  have e8 := k5
  have e9 := k6
  have e10 := k7.1
  have e11 := k7.2.1
  have e12 := k7.2.2
  have e13 := add_beyond
  go_enter Try.func7, Try.ntmps7
  go_wp2_with fail
  refine (awake_any _).mono ?_
  rintro e w1 ⟨rfl, hb1⟩
  have B1 := Lib.hid hb1
  clear hb1
  go_wp2_with (first | (go_at_call 16; refine (add_any _ _ _).mono ?_; rintro e w' ⟨rfl, rfl⟩) | (go_at_call 17; refine (sub_any _ _ _).mono ?_; rintro e w' ⟨rfl, rfl⟩))
  refine (sum_at _ 3 3 [1, 2, 3] _ rfl (by decide) ?_).mono ?_
  · intro j hj
    obtain rfl | rfl | rfl : j = 0 ∨ j = 1 ∨ j = 2 := by omega
    all_goals (rw [World.cell?_alloc_at _ _ _ _ (by simp)]; rfl)
  rintro e w' ⟨rfl, rfl⟩
  go_wp2_with fail
  refine (sum_empty _ _ _).mono ?_
  rintro e w' ⟨rfl, rfl⟩
  go_wp2_with fail
  refine (sum_at _ 1 1 [-1] _ rfl (by decide) ?_).mono ?_
  · intro j hj
    obtain rfl : j = 0 := by omega
    rw [World.cell?_alloc_at _ _ _ _ (by simp)]; rfl
  rintro e w' ⟨rfl, rfl⟩
  go_wp2_with fail
  refine (sum_at _ 3 3 [5, -1, 1] _ rfl (by decide) ?_).mono ?_
  · intro j hj
    obtain rfl | rfl | rfl : j = 0 ∨ j = 1 ∨ j = 2 := by omega
    all_goals (rw [World.cell?_alloc_at _ _ _ _ (by simp)]; rfl)
  rintro e w' ⟨rfl, rfl⟩
  go_wp2_with (first | (go_at_call 19; refine (may_any _ _).mono ?_; rintro e w' ⟨rfl, rfl⟩))
  go_ret
  have hs := B1.out.size
  exact ⟨rfl, ((B1.out.alloc hs _).alloc (by simp; omega) _).alloc (by simp; omega) _⟩

set_option maxRecDepth 100000 in
theorem lifted (os : Os) (started : os.Started) (H : Type) (enc : TypeId × Value → H) :
    ReturnsInHanded {} Try.checked os 7 .any (Rows.moneyKnownSpec.pre6 enc Try.prog Try.f7 Rows.moneyKnownRow.domain false) (Rows.moneyKnownSpec.post enc Try.prog Try.f7 false true false false) := by
  refine returnsInHanded_of_change (C := Try.checked) own started (by kernel_rfl) Try.func7
    (ChangeSpec.witness6 (enc := enc) (C := Try.checked) false ⟨#[], #[], []⟩ 8 (by kernel_rfl) (by kernel_rfl) (by kernel_rfl) (by kernel_rfl)) ?_
  intro W base args ds gs before hval0 hW hcnd _
  have hval : ∀ (j : Nat) t v, Try.f7.params[j]? = some t → args[j]? = some v → Value.okWide Try.prog W .any base t v := hval0
  have hW' := hW
  obtain ⟨p, q, hA0, hV, rfl, hfz, hnd⟩ := hW
  have hA : DataW.TrodAll enc Try.prog W 0 (fun _ => true) true Try.f7.params.toList args.toList ds p := hA0
  rw [Try.params7] at hA hval
  obtain ⟨rfl, rfl, rfl⟩ := trodAll_none hA
  obtain ⟨rfl, rfl⟩ := trodVars_none hV
  clear hA0 hval0
  refine (walk  W).mono fun e W' ⟨he, hg⟩ => ?_
  subst he
  exact ⟨_, rfl, _, _, _, [], _, [], hW', trodAll_mk1 (shut_bool Try.underlying4 _), trodAll_mk0, rfl, hg.frame _, fun h => by cases h⟩

theorem over : Rows.moneyKnownRow.holds Try.pinned (OpenSpec.ofChange Rows.moneyKnownSpec) :=
  OpenClaim.holds_of_wide 7 Try.f7 rfl rfl rfl rfl rfl rfl rfl ⟨rfl, rfl, rfl, rfl, rfl⟩ rfl rfl rfl rfl rfl (by kernel_rfl) Try.func7 (by kernel_rfl)
    (of_decide_eq_true (by kernel_rfl)) (by unfold Func.isWrapper; first | (rw [if_pos (by decide +kernel)]; kernel_rfl) | (rw [if_neg (by decide +kernel)]; exact ⟨rfl, rfl⟩))
    (fun os started H enc _ => lifted os started H enc)

end Go.Proofs.Ytjpgginmdnbmdaa.moneyKnown
namespace Go.Proofs.Ytjpgginmdnbmdaa
theorem moneyKnown_holds : Rows.MoneyKnownSaid := moneyKnown.over
#print axioms moneyKnown_holds
end Go.Proofs.Ytjpgginmdnbmdaa
