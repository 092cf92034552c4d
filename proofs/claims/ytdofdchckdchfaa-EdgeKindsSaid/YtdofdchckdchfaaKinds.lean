/- For every float and every number EdgeKinds returns true; no condition. -/
import Derived.Test.YtdofdchckdchfaaRows
import Derived.WalkKit
import Derived.ProofKit
import Derived.OpenShut
import Derived.ShutString
import Derived.ChangeOld
import Derived.Below
import Derived.Laws.Cover2
import Derived.Test.YtdofdchckdchfaaWork
namespace Go.Proofs.Ytdofdchckdchfaa.edgeKinds
open Go.ChangeShapes Go.WideShapes Go.ChangeAt Go.RowKit
open Go.ChangeMaps (open_string shut_string)
set_option linter.unusedVariables false

theorem own : ownKnob Try.prog.godebug = none := by kernel_rfl
theorem laidOut : laidOutB Try.prog = true := by kernel_rfl

theorem walk (a0 : Nat) (a1 : Int) (w : World) (w0 : (Lit.float .f64 a0).wf = true) (w1 : (Lit.int .i64 a1).wf = true) :
    Calls Try.prog 4 #[.float .f64 a0, .int .i64 a1] w fun e w' => e = .returned (.bool true) ∧ Below w.heap.size w w' := by
  have hx : a0 < 18446744073709551616 := by simpa [Lit.wf] using w0
  clear w0 w1
  have k1 := kind_any a0 hx
  have k2 := refkind_any a0 hx
  have x1 := work_any a0 hx
  have x2 := refwork_any a0 hx
  have f1 := float_any a1
  have f2 := reffloat_any a1
  by_cases h : 1 ≤ a1 ∧ a1 ≤ 1048576
  · obtain ⟨m, rfl⟩ := Int.eq_ofNat_of_zero_le (show 0 ≤ a1 by omega)
    have e : floatOf (m : Int) = rung m := if_pos h
    have hm : 0 < m ∧ m ≤ 1048576 := by omega
    obtain ⟨hm0, hm1⟩ := hm
    have hr := rung_fine hm0 hm1
    have hk := fine_kind hm0 hm1
    have x3 := work_any (rung m) (by omega)
    rw [show workOf (rung m) = (m : Int) from (if_pos hk).trans (by rw [hr.2.2.2]), decide_eq_true hk] at x3
    rw [e, show fits (m : Int) = true from decide_eq_true h] at f1 f2
    have hs := eq_pos (x := rung m) (y := rung m) (by omega) (by omega)
    rw [decide_eq_true rfl] at hs
    clear h e hr hk hm0 hm1
    generalize rung m = r at *
    generalize kindOf a0 = k at *
    generalize workOf a0 = v at *
    generalize decide (k = 5) = b at *
    go_enter Try.func4, Try.ntmps4
    go_wp2_with (first | (go_at_call 8; refine (awake_any _).mono ?_; rintro e w1 ⟨rfl, rfl⟩) | (go_at_call 13; with_reducible refine (x1 _).mono ?_; rintro e w1 ⟨rfl, rfl⟩) | (go_at_call 13; with_reducible refine (x3 _).mono ?_; rintro e w1 ⟨rfl, rfl⟩) | (go_at_call 14; refine (x2 _).mono ?_; rintro e w1 ⟨rfl, rfl⟩) | (go_at_call 15; refine (f1 _).mono ?_; rintro e w1 ⟨rfl, rfl⟩) | (go_at_call 16; refine (f2 _).mono ?_; rintro e w1 ⟨rfl, rfl⟩) | (go_at_call 17; refine (k1 _).mono ?_; rintro e w1 ⟨rfl, rfl⟩) | (go_at_call 18; refine (k2 _).mono ?_; rintro e w1 ⟨rfl, rfl⟩) | fail)
    go_ret
    exact ⟨rfl, Below.refl _ _⟩
  · have e : floatOf a1 = 0 := if_neg h
    have x3 := work_any 0 (by decide)
    rw [e, show fits a1 = false from decide_eq_false h] at f1 f2
    clear h e
    generalize workOf 0 = v0 at *
    generalize decide (kindOf 0 = 5) = b0 at *
    generalize kindOf a0 = k at *
    generalize workOf a0 = v at *
    generalize decide (k = 5) = b at *
    go_enter Try.func4, Try.ntmps4
    go_wp2_with (first | (go_at_call 8; refine (awake_any _).mono ?_; rintro e w1 ⟨rfl, rfl⟩) | (go_at_call 13; with_reducible refine (x1 _).mono ?_; rintro e w1 ⟨rfl, rfl⟩) | (go_at_call 13; with_reducible refine (x3 _).mono ?_; rintro e w1 ⟨rfl, rfl⟩) | (go_at_call 14; refine (x2 _).mono ?_; rintro e w1 ⟨rfl, rfl⟩) | (go_at_call 15; refine (f1 _).mono ?_; rintro e w1 ⟨rfl, rfl⟩) | (go_at_call 16; refine (f2 _).mono ?_; rintro e w1 ⟨rfl, rfl⟩) | (go_at_call 17; refine (k1 _).mono ?_; rintro e w1 ⟨rfl, rfl⟩) | (go_at_call 18; refine (k2 _).mono ?_; rintro e w1 ⟨rfl, rfl⟩) | fail)
    go_ret
    exact ⟨rfl, Below.refl _ _⟩

set_option maxRecDepth 100000 in
theorem lifted (os : Os) (started : os.Started) (H : Type) (enc : TypeId × Value → H) :
    ReturnsInHanded {} Try.checked os 4 .any (Rows.edgeKindsSpec.pre6 enc Try.prog Try.f4 Rows.edgeKindsRow.domain false) (Rows.edgeKindsSpec.post enc Try.prog Try.f4 false true false false) := by
  refine returnsInHanded_of_change (C := Try.checked) own started (by kernel_rfl) Try.func4
    (ChangeSpec.witness6 (enc := enc) (C := Try.checked) false ⟨#[], #[.float .f64 0, .int .i64 0], []⟩ 8 (by kernel_rfl) (by kernel_rfl) (by kernel_rfl) (by kernel_rfl)) ?_
  intro W base args ds gs before hval0 hW hcnd _
  have hval : ∀ (j : Nat) t v, Try.f4.params[j]? = some t → args[j]? = some v → Value.okWide Try.prog W .any base t v := hval0
  have hW' := hW
  obtain ⟨p, q, hA0, hV, rfl, hfz, hnd⟩ := hW
  have hA : DataW.TrodAll enc Try.prog W 0 (fun _ => true) true Try.f4.params.toList args.toList ds p := hA0
  rw [Try.params4] at hA hval
  obtain ⟨v0, vs0, d0, ds0, p0, q0, hargs, rfl, rfl, h0, r0⟩ := trodAll_cons hA
  obtain ⟨v1, vs1, d1, ds1, p1, q1, rfl, rfl, rfl, h1, r1⟩ := trodAll_cons r0
  obtain ⟨rfl, rfl, rfl⟩ := trodAll_nil r1
  obtain rfl : args = #[v0, v1] := by cases args; simp_all
  obtain ⟨rfl, rfl⟩ := trodVars_none hV
  obtain ⟨a0, rfl, rfl, rfl, w0⟩ := open_float Try.underlying24 (hval 0 24 v0 rfl rfl) h0
  obtain ⟨a1, rfl, rfl, rfl, w1⟩ := open_int Try.underlying3 (hval 1 3 v1 rfl rfl) h1
  clear hA0 hval0
  refine (walk a0 a1 W w0 w1).mono fun e W' ⟨he, bel⟩ => ?_
  subst he
  exact ⟨_, rfl, _, _, _, [], _, [], hW', trodAll_mk1 (shut_bool Try.underlying4 _), (trodAll_cons_mk (shut_float Try.underlying24 w0) (trodAll_cons_mk (shut_int Try.underlying3 w1) trodAll_mk0)), rfl, bel.frame _, fun h => by cases h⟩

theorem over : Rows.edgeKindsRow.holds Try.pinned (OpenSpec.ofChange Rows.edgeKindsSpec) :=
  OpenClaim.holds_of_wide 4 Try.f4 rfl rfl rfl rfl rfl rfl rfl ⟨rfl, rfl, rfl, rfl, rfl⟩ rfl rfl rfl rfl rfl (by kernel_rfl) Try.func4 (by kernel_rfl)
    (of_decide_eq_true (by kernel_rfl)) (by unfold Func.isWrapper; first | (rw [if_pos (by decide +kernel)]; kernel_rfl) | (rw [if_neg (by decide +kernel)]; exact ⟨rfl, rfl⟩))
    (fun os started H enc _ => lifted os started H enc)
end Go.Proofs.Ytdofdchckdchfaa.edgeKinds
namespace Go.Proofs.Ytdofdchckdchfaa
theorem edgeKinds_holds : Rows.EdgeKindsSaid := edgeKinds.over
#print axioms edgeKinds_holds
end Go.Proofs.Ytdofdchckdchfaa
