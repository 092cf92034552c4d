/- Contracts of Must, Guard and the laws' awake: what panics deep within is told where it was begun. -/
import Derived.Test.YtjpgginmdnbmdaaMoney
namespace Go.Proofs.Ytjpgginmdnbmdaa
open Go.RowKit

/-- the call panics with some value of its own; the world is `w`. -/
def Panics (w : World) (e : Ending) (w' : World) : Prop := ∃ u pv, e = .panicked [{ v := .iface u pv, recovered := false }] ∧ w = w'

theorem must_yes (a b : Int) (w : World) (h : addB a b = true) :
    Calls Try.prog 10 #[.int .i64 a, .int .i64 b] w fun e w' => e = .returned (.int .i64 (a + b)) ∧ w = w' := by
  have HV := Lib.hid (add_val h)
  go_enter Try.func10, Try.ntmps10
  go_wp2_with (go_at_call 16; refine (add_any _ _ _).mono ?_; rintro e w' ⟨rfl, rfl⟩)
  go_ret
  exact ⟨by rw [HV.out]; rfl, rfl⟩

theorem must_no (a b : Int) (w : World) (h : addB a b = false) :
    Calls Try.prog 10 #[.int .i64 a, .int .i64 b] w (Panics w) := by
  go_enter Try.func10, Try.ntmps10
  go_wp2_with (go_at_call 16; refine (add_any _ _ _).mono ?_; rintro e w' ⟨rfl, rfl⟩)
  exact ⟨rfl, _, _, rfl, rfl⟩

theorem catch_panicking (p : Addr) (x : Bool) (u : TypeId) (pv : Value) (older : List PanicEntry) (w : World) (hc : w.cell? p = some (.bool x)) (hz : w.frozen? p = false) :
    CallsD Try.prog 24 #[.pointer (some p)] (.panicking ({ v := .iface u pv, recovered := false } :: older)) w fun e u' w' =>
      e = .returned (.tuple #[]) ∧ u' = .panicking ({ v := .iface u pv, recovered := true } :: older) ∧ w' = w.setCell p (.bool false) := by
  refine callsD_of_wpS Try.func24 rfl fun c₀ cs hu => ?_
  apply wpS_seq
  apply wpS_region
  simp [wpOpsS, go_sem, recoverD, hu, Try.ntmps24, Exit.thenS]
  refine wpS_cond (t := true) (by simp [Act.eval, Array.replicate]) ?_
  simp only [if_true]
  apply wpS_region
  simp [wpOpsS, go_sem, hc, hz, bodyPostS, results, Try.results24]

theorem catch_idle (p : Addr) (w : World) :
    CallsD Try.prog 24 #[.pointer (some p)] .returning w fun e u' w' => e = .returned (.tuple #[]) ∧ u' = .returning ∧ w' = w := by
  refine callsD_of_wpS Try.func24 rfl fun c₀ cs hu => ?_
  apply wpS_seq
  apply wpS_region
  simp [wpOpsS, go_sem, recoverD, hu, Try.ntmps24, Exit.thenS]
  refine wpS_cond (t := false) (by simp [Act.eval, Array.replicate]) ?_
  simp only [Bool.false_eq_true, if_false]
  refine wpS_of_wp (wp_skip ?_)
  cases c₀
  simp_all [bodyPostS, results, Try.results24]

theorem eq_nil (w : World) : (binOp .eql 1 .nilFunc .nilFunc).run Try.prog w = .ok (.bool true) w := by kernel_rfl
theorem eq_func (fn : Fn) (first cap : Array Value) (w : World) : (binOp .eql 1 (.func fn first cap) .nilFunc).run Try.prog w = .ok (.bool false) w := by kernel_rfl
theorem makes (fn : Fn) (first cap : Array Value) (w : World) : (Instr.makeFunc fn first cap).run Try.prog w = .ok (.func fn first cap) w := rfl

theorem guard_nil (w : World) :
    Calls Try.prog 11 #[.nilFunc] w fun e w' => e = .returned (.bool true) ∧ w.alloc (.cells #[.bool true] 4) = w' := by
  have h1 := eq_nil
  go_enter_defers Try.func11, Try.ntmps11
  go_wp2
  simp [bodyPostD, Leaves, results, Try.results11, go_sem]

/-- what a function value does that Guard is handed, at the world with Guard's own cell. -/
def Does (g : Nat) (cap : Array Value) (w : World) (S : Ending → World → Prop) : Prop :=
  Calls Try.prog g cap (w.alloc (.cells #[.bool false] 4)) fun e w1 => (w1.cell? ⟨w.heap.size, 0, none⟩ = some (.bool false) ∧ w1.frozen? ⟨w.heap.size, 0, none⟩ = false) ∧ S e w1

theorem guard_ok (g : Nat) (cap : Array Value) (w : World) (S : World → Prop) (hen : ∀ w, (callFunc g cap).run Try.prog w = .ok (.enter g cap) w)
    (hd : Does g cap w fun e w1 => (∃ v, e = .returned v) ∧ S w1) :
    Calls Try.prog 11 #[.func (.func g) #[] cap] w fun e w' => e = .returned (.bool true) ∧ ∃ w1, S w1 ∧ w1.setCell ⟨w.heap.size, 0, none⟩ (.bool true) = w' := by
  have h1 := eq_func
  have hmf := makes
  go_enter_defers Try.func11, Try.ntmps11
  go_wp2_with fail
  clear hen
  unfold Does at hd
  refine hd.mono ?_
  rintro e w1 ⟨⟨hc, hz⟩, ⟨v, rfl⟩, hS⟩
  clear hd
  go_wp2
  refine leaves_cons (f := 24) (args := #[.pointer (some ⟨w.heap.size, 0, none⟩)]) (by simp) (by simp [go_sem]) ?_
  refine (catch_idle ⟨w.heap.size, 0, none⟩ _).mono ?_
  rintro e u' w'' ⟨rfl, rfl, rfl⟩
  have hget := World.cell?_setCell_same w1 ⟨w.heap.size, 0, none⟩ (.bool true) hc
  simp [Leaves, settle, results, Try.results11, go_sem, hget]
  exact ⟨w1, hS, rfl⟩

theorem guard_panic (g : Nat) (cap : Array Value) (w : World) (S : World → Prop) (hen : ∀ w, (callFunc g cap).run Try.prog w = .ok (.enter g cap) w)
    (hd : Does g cap w fun e w1 => (∃ u pv, e = .panicked [{ v := .iface u pv, recovered := false }]) ∧ S w1) :
    Calls Try.prog 11 #[.func (.func g) #[] cap] w fun e w' => e = .returned (.bool false) ∧ ∃ w1, S w1 ∧ w1.setCell ⟨w.heap.size, 0, none⟩ (.bool false) = w' := by
  have h1 := eq_func
  have hmf := makes
  go_enter_defers Try.func11, Try.ntmps11
  go_wp2_with fail
  clear hen
  unfold Does at hd
  refine hd.mono ?_
  rintro e w1 ⟨⟨hc, hz⟩, ⟨u, pv, rfl⟩, hS⟩
  clear hd
  go_wp2
  refine leaves_cons (f := 24) (args := #[.pointer (some ⟨w.heap.size, 0, none⟩)]) (by simp) (by simp [go_sem]) ?_
  refine (catch_panicking ⟨w.heap.size, 0, none⟩ false u pv [] _ hc hz).mono ?_
  rintro e u' w'' ⟨rfl, rfl, rfl⟩
  have hget := World.cell?_setCell_same w1 ⟨w.heap.size, 0, none⟩ (.bool false) hc
  simp [Leaves, settle, results, Try.results11, go_sem, hget]
  exact ⟨w1, hS, rfl⟩

theorem enter22 (w : World) : (callFunc 22 #[]).run Try.prog w = .ok (.enter 22 #[]) w := by kernel_rfl
theorem enter23 (w : World) : (callFunc 23 #[]).run Try.prog w = .ok (.enter 23 #[]) w := by kernel_rfl
theorem add_beyond : addB 1125899906842624 1 = false := by decide
theorem add_fits : addB 1 1 = true := by decide
theorem lit1_any (w : World) : Calls Try.prog 22 #[] w (Panics w) := by
  go_enter Try.func22, Try.ntmps22
  go_wp2_with fail
  refine (must_no _ _ _ add_beyond).mono ?_
  rintro e w' ⟨u, pv, rfl, rfl⟩
  exact ⟨rfl, _, _, rfl, rfl⟩
theorem lit2_any (w : World) : Calls Try.prog 23 #[] w fun e w' => e = .returned (.tuple #[]) ∧ w = w' := by
  go_enter Try.func23, Try.ntmps23
  go_wp2_with fail
  refine (must_yes _ _ _ add_fits).mono ?_
  rintro e w' ⟨rfl, rfl⟩
  go_wp2
  go_end0
  exact ⟨rfl, rfl⟩
theorem guard1_any (w : World) : Calls Try.prog 11 #[.func (.func 22) #[] #[]] w fun e w' => e = .returned (.bool false) ∧ Below w.heap.size w w' := by
  refine (guard_panic 22 #[] w (fun w1 => w.alloc (.cells #[.bool false] 4) = w1) enter22 ?_).mono ?_
  · refine (lit1_any _).mono ?_
    rintro e w1 ⟨u, pv, rfl, rfl⟩
    exact ⟨⟨by simp, by simp⟩, ⟨_, _, rfl⟩, rfl⟩
  · rintro e w' ⟨rfl, w1, rfl, rfl⟩
    exact ⟨rfl, ((Below.refl _ _).alloc (Nat.le_refl _) _).setCell (Nat.le_refl _) _⟩
theorem guard2_any (w : World) : Calls Try.prog 11 #[.func (.func 23) #[] #[]] w fun e w' => e = .returned (.bool true) ∧ Below w.heap.size w w' := by
  refine (guard_ok 23 #[] w (fun w1 => w.alloc (.cells #[.bool false] 4) = w1) enter23 ?_).mono ?_
  · refine (lit2_any _).mono ?_
    rintro e w1 ⟨rfl, rfl⟩
    exact ⟨⟨by simp, by simp⟩, ⟨_, rfl⟩, rfl⟩
  · rintro e w' ⟨rfl, w1, rfl, rfl⟩
    exact ⟨rfl, ((Below.refl _ _).alloc (Nat.le_refl _) _).setCell (Nat.le_refl _) _⟩
theorem add23 : addV 2 3 = 5 ∧ addB 2 3 = true := by decide
theorem awake_any (w : World) : Calls Try.prog 8 #[] w fun e w' => e = .returned (.bool true) ∧ Below w.heap.size w w' := by
  have h1 := add23.1
  have h2 := add23.2
  have h3 := add_beyond
  go_enter Try.func8, Try.ntmps8
  go_wp2_with (first | (go_at_call 16; refine (add_any _ _ _).mono ?_; rintro e w' ⟨rfl, rfl⟩))
  refine (guard1_any _).mono ?_
  rintro e w1 ⟨rfl, hb1⟩
  have B1 := Lib.hid hb1
  clear hb1
  go_wp2_with fail
  refine (guard2_any _).mono ?_
  rintro e w2 ⟨rfl, hb2⟩
  have B2 := Lib.hid hb2
  clear hb2
  go_wp2
  go_ret
  exact ⟨rfl, B1.out.trans (B2.out.mono B1.out.size)⟩

end Go.Proofs.Ytjpgginmdnbmdaa
