/- Of any row of floats, and any turn of it, EdgeSums returns true; no condition. -/
import Derived.Test.YtdofdchckdchfaaRows
import Derived.WalkKit
import Derived.ProofKit
import Derived.OpenShut
import Derived.ShutString
import Derived.ChangeOld
import Derived.Below
import Derived.Laws.Cover2
import Derived.Deep.Slices
import Derived.Test.YtdofdchckdchfaaSum
namespace Go.Proofs.Ytdofdchckdchfaa.edgeSums
open Go.ChangeShapes Go.WideShapes Go.ChangeAt Go.RowKit
open Go.ChangeMaps (open_string shut_string)
set_option linter.unusedVariables false

theorem own : ownKnob Try.prog.godebug = none := by kernel_rfl
theorem laidOut : laidOutB Try.prog = true := by kernel_rfl
theorem trod_float {H : Type} {enc : TypeId × Value → H} {w : World} {base : Nat} {spare : Nat → Bool} {held : Bool} {fuel : Nat} {cs : List Value} {x : DataW H × List MemPlace}
    (h : DataW.trod enc Try.prog w base spare held fuel 24 cs = some x) : ∃ b : Nat, cs = [.float .f64 b] ∧ (Lit.float .f64 b).wf = true := by
  cases fuel with
  | zero => simp [DataW.trod] at h
  | succ n =>
    unfold DataW.trod at h
    rw [Try.underlying24] at h
    split at h <;> simp_all
theorem open_floats {H : Type} {enc : TypeId × Value → H} {w : World} {base : Nat} {spare : Nat → Bool} {held : Bool} {a : Option Addr} {len cap : Nat} {d : DataW H} {ps : List MemPlace}
    (h : DataW.Trod enc Try.prog w base spare held 35 (.slice a len cap) d ps) : ∃ ys : List Nat, Part w.heap.size w a len ys ∧ (∀ x ∈ ys, x < 18446744073709551616) ∧ len ≤ cap ∧ (a = none → cap = 0) := by
  obtain ⟨fuel, hf⟩ := h
  rcases Go.Deep.open_slice1 Try.underlying35 (by kernel_rfl) hf with ⟨hcs, _⟩ | ⟨x, l, c, m, n, V, D, Pl, hcs, _, hl, _, hmm, _, hall⟩
  · simp [Value.cells] at hcs
    obtain ⟨rfl, rfl, rfl⟩ := hcs
    exact ⟨[], ⟨rfl, fun _ => rfl, fun ad ha => (by cases ha), fun ad ha => (by cases ha)⟩, (fun _ hx => (by cases hx)), Nat.le_refl _, fun _ => rfl⟩
  · simp [Value.cells] at hcs
    obtain ⟨rfl, rfl, rfl⟩ := hcs
    have hlm : len ≤ m := by rw [hmm]; split <;> omega
    have each : ∀ i, i < len → ∃ b : Nat, w.cell? (x.add i) = some (.float .f64 b) ∧ b < 18446744073709551616 := fun i hi => by
      obtain ⟨h1, h2⟩ := hall i (by omega)
      obtain ⟨b, hb, hw⟩ := trod_float h2
      injection hb with hb
      exact ⟨b, by rw [h1, hb], by simpa [Lit.wf] using hw⟩
    obtain ⟨f, hfv⟩ := Go.Deep.choose_lt (α := Nat) (p := fun i b => w.cell? (x.add i) = some (.float .f64 b) ∧ b < 18446744073709551616) each
    refine ⟨(List.range len).map f, ⟨by simp, fun ha => (by cases ha), fun ad ha hm0 => ?_, fun ad ha j hj => ?_⟩, ?_, hl, fun ha => (by cases ha)⟩
    · injection ha with ha
      subst ha
      have := (hfv 0 hm0).1
      rw [add_zero'] at this
      exact World.block_lt_of_cell? w x this
    · injection ha with ha
      subst ha
      rw [(hfv j hj).1]
      simp [List.getD, hj]
    · intro b hb
      obtain ⟨i, hi, rfl⟩ := List.mem_map.1 hb
      exact (hfv i (List.mem_range.1 hi)).2

set_option maxRecDepth 100000 in
set_option maxHeartbeats 2000000 in
theorem walk (a0 : Option Addr) (len0 cap0 : Nat) (ys : List Nat) (a1 : Int) (w : World) (hp : Part w.heap.size w a0 len0 ys) (hm : ∀ x ∈ ys, x < 18446744073709551616) (hlc : len0 ≤ cap0) (hac : a0 = none → cap0 = 0) (w1 : (Lit.int .u16 a1).wf = true) :
    Calls Try.prog 5 #[.slice a0 len0 cap0, .int .u16 a1] w fun e w' => e = .returned (.bool true) ∧ Below w.heap.size w w' := by
  have HP := Lib.hid hp
  have HM := Lib.hid hm
  clear hp hm
  have ht : 0 ≤ a1 ∧ a1 ≤ 65535 := by simpa [Lit.wf, IntKind.min, IntKind.max, IntKind.signed, IntKind.bits] using w1
  clear w1
  by_cases hbig : 500 < len0
  · go_enter Try.func5, Try.ntmps5
    go_wp2_with (first | (go_at_call 8; refine (awake_any _).mono ?_; rintro e w1 ⟨rfl, rfl⟩) | fail)
    go_ret
    exact ⟨rfl, Below.refl _ _⟩
  · by_cases hz : 0 < len0
    · have hpos : 0 ≤ a1 % (len0 : Int) := Int.emod_nonneg _ (by omega)
      have hlt : a1 % (len0 : Int) < (len0 : Int) := Int.emod_lt_of_pos _ (by omega)
      obtain ⟨k, hk⟩ := Int.eq_ofNat_of_zero_le hpos
      have hkn : k ≤ len0 := by omega
      have hkl : k < len0 := by omega
      clear hpos hlt
      have HT := Lib.hid (sum_turned ys k)
      obtain ⟨al, cl, hsl, hpl, hnl⟩ := cut_low HP.out hlc hac k hkn
      obtain ⟨ah, ch, hsh, hph, hnh⟩ := cut_high HP.out hlc hac k hkn
      have HPL := Lib.hid hpl
      have HPH := Lib.hid hph
      have HNL := Lib.hid hnl
      have HNH := Lib.hid hnh
      have hmt : ∀ x ∈ ys.drop k ++ ys.take k, x < 18446744073709551616 := fun x hx => HM.out x (by
        rcases List.mem_append.1 hx with h | h
        · exact List.mem_of_mem_drop h
        · exact List.mem_of_mem_take h)
      have HMT := Lib.hid hmt
      clear hpl hph hnl hnh hmt
      go_enter Try.func5, Try.ntmps5
      go_wp2_with (first | (go_at_call 8; refine (awake_any _).mono ?_; rintro e w1 ⟨rfl, rfl⟩) | (go_at_call 19; refine (sum_part cap0 HP.out HM.out).mono ?_; rintro e w1 ⟨rfl, rfl⟩) | (go_at_call 20; refine (refsum_part cap0 HP.out HM.out).mono ?_; rintro e w1 ⟨rfl, rfl⟩) | fail)
      go_region_law (first | (refine step_append_part (B := w1.heap.size) rfl (.tmp 36) (.tmp 39) rfl _ 0 [] rfl ?o1 ah (len0 - k) ch (ys.drop k) rfl ?o2 HNH.out ?o3 ?o4 ?o5; (case o1 => exact (World.ownsRow_made w1 #[] 0 (Nat.le_refl _) (by decide) rfl).drew); (case o2 => exact (HPH.out.below (((Below.refl _ _).alloc (Nat.le_refl _) _).drew))); (case o3 => omega); (case o4 => simp <;> omega); intro v1 W1 hown1 hbel1 hsz1) | (refine step_append_part (B := w1.heap.size) rfl (.tmp 40) (.tmp 43) rfl _ _ _ rfl hown1 al k cl (ys.take k) rfl ?p2 HNL.out ?p3 hsz1 ?p5; (case p2 => exact (HPL.out.below ((((Below.refl _ _).alloc (Nat.le_refl _) _).drew).trans hbel1))); (case p3 => omega); intro v2 W2 hown2 hbel2 hsz2) | (go_simp; go_at_call 19; refine (sum_owns (ys := ys.drop k ++ ys.take k) hown2 HMT.out).mono ?_; rintro e W2 ⟨rfl, rfl⟩))
      have B2 : Hid (Below w1.heap.size w1 W2) := ((((Below.refl _ _).alloc (Nat.le_refl _) _).drew).trans hbel1).trans hbel2
      clear hbel1 hbel2 hown1 hown2 hsz1 hsz2 hsl hsh HPL HPH HP HNL HNH HMT HM
      have ht1 := HT.out.1
      have ht2 := HT.out.2
      clear HT
      cases ho : okS ys
      all_goals rw [ho] at ht1
      · go_wp2
        go_ret
        exact ⟨rfl, B2.out⟩
      · go_wp2
        go_ret
        exact ⟨rfl, B2.out⟩
    · obtain ⟨k, hk0⟩ : ∃ k : Nat, k = 0 := ⟨0, rfl⟩
      have hkn : k ≤ len0 := by omega
      have hk : ((k : Nat) : Int) = 0 := by omega
      have HT := Lib.hid (sum_turned ys k)
      obtain ⟨al, cl, hsl, hpl, hnl⟩ := cut_low HP.out hlc hac k hkn
      obtain ⟨ah, ch, hsh, hph, hnh⟩ := cut_high HP.out hlc hac k hkn
      rw [hk] at hsl hsh
      clear hk hk0
      have HPL := Lib.hid hpl
      have HPH := Lib.hid hph
      have HNL := Lib.hid hnl
      have HNH := Lib.hid hnh
      have hmt : ∀ x ∈ ys.drop k ++ ys.take k, x < 18446744073709551616 := fun x hx => HM.out x (by
        rcases List.mem_append.1 hx with h | h
        · exact List.mem_of_mem_drop h
        · exact List.mem_of_mem_take h)
      have HMT := Lib.hid hmt
      clear hpl hph hnl hnh hmt
      go_enter Try.func5, Try.ntmps5
      go_wp2_with (first | (go_at_call 8; refine (awake_any _).mono ?_; rintro e w1 ⟨rfl, rfl⟩) | (go_at_call 19; refine (sum_part cap0 HP.out HM.out).mono ?_; rintro e w1 ⟨rfl, rfl⟩) | (go_at_call 20; refine (refsum_part cap0 HP.out HM.out).mono ?_; rintro e w1 ⟨rfl, rfl⟩) | fail)
      go_region_law (first | (refine step_append_part (B := w1.heap.size) rfl (.tmp 36) (.tmp 39) rfl _ 0 [] rfl ?oo1 ah (len0 - k) ch (ys.drop k) rfl ?oo2 HNH.out ?oo3 ?oo4 ?oo5; (case oo1 => exact (World.ownsRow_made w1 #[] 0 (Nat.le_refl _) (by decide) rfl).drew); (case oo2 => exact (HPH.out.below (((Below.refl _ _).alloc (Nat.le_refl _) _).drew))); (case oo3 => omega); (case oo4 => simp <;> omega); intro v1 W1 hown1 hbel1 hsz1) | (refine step_append_part (B := w1.heap.size) rfl (.tmp 40) (.tmp 43) rfl _ _ _ rfl hown1 al k cl (ys.take k) rfl ?pp2 HNL.out ?pp3 hsz1 ?pp5; (case pp2 => exact (HPL.out.below ((((Below.refl _ _).alloc (Nat.le_refl _) _).drew).trans hbel1))); (case pp3 => omega); intro v2 W2 hown2 hbel2 hsz2) | (go_simp; go_at_call 19; refine (sum_owns (ys := ys.drop k ++ ys.take k) hown2 HMT.out).mono ?_; rintro e W2 ⟨rfl, rfl⟩))
      have B2 : Hid (Below w1.heap.size w1 W2) := ((((Below.refl _ _).alloc (Nat.le_refl _) _).drew).trans hbel1).trans hbel2
      clear hbel1 hbel2 hown1 hown2 hsz1 hsz2 hsl hsh HPL HPH HP HNL HNH HMT HM
      have ht1 := HT.out.1
      have ht2 := HT.out.2
      clear HT
      cases ho : okS ys
      all_goals rw [ho] at ht1
      · go_wp2
        go_ret
        exact ⟨rfl, B2.out⟩
      · go_wp2
        go_ret
        exact ⟨rfl, B2.out⟩

set_option maxRecDepth 100000 in
theorem lifted (os : Os) (started : os.Started) (H : Type) (enc : TypeId × Value → H) :
    ReturnsInHanded {} Try.checked os 5 .any (Rows.edgeSumsSpec.pre6 enc Try.prog Try.f5 Rows.edgeSumsRow.domain false) (Rows.edgeSumsSpec.post enc Try.prog Try.f5 false true false false) := by
  refine returnsInHanded_of_change (C := Try.checked) own started (by kernel_rfl) Try.func5
    (ChangeSpec.witness6 (enc := enc) (C := Try.checked) false ⟨#[], #[.slice none 0 0, .int .u16 0], []⟩ 8 (by kernel_rfl) (by kernel_rfl) (by kernel_rfl) (by kernel_rfl)) ?_
  intro W base args ds gs before hval0 hW hcnd _
  have hval : ∀ (j : Nat) t v, Try.f5.params[j]? = some t → args[j]? = some v → Value.okWide Try.prog W .any base t v := hval0
  have hW' := hW
  obtain ⟨p, q, hA0, hV, rfl, hfz, hnd⟩ := hW
  have hA : DataW.TrodAll enc Try.prog W 0 (fun _ => true) true Try.f5.params.toList args.toList ds p := hA0
  rw [Try.params5] at hA hval
  obtain ⟨v0, vs0, d0, ds0, p0, q0, hargs, rfl, rfl, h0, r0⟩ := trodAll_cons hA
  obtain ⟨v1, vs1, d1, ds1, p1, q1, rfl, rfl, rfl, h1, r1⟩ := trodAll_cons r0
  obtain ⟨rfl, rfl, rfl⟩ := trodAll_nil r1
  obtain rfl : args = #[v0, v1] := by cases args; simp_all
  obtain ⟨rfl, rfl⟩ := trodVars_none hV
  have k0 := h0
  have lt0 : ∀ x ∈ p0, x.block < W.heap.size := by obtain ⟨m, hm⟩ := k0; exact DataW.trod_lt m _ _ _ hm
  obtain ⟨a0, len0, cap0, rfl⟩ := okWide_slice Try.underlying35 (hval 0 35 v0 rfl rfl)
  obtain ⟨ys, hp, hm, hlc, hac⟩ := open_floats h0
  obtain ⟨a1, rfl, rfl, rfl, w1⟩ := open_int Try.underlying36 (hval 1 36 v1 rfl rfl) h1
  clear hA0 hval0
  refine (walk a0 len0 cap0 ys a1 W hp hm hlc hac w1).mono fun e W' ⟨he, bel⟩ => ?_
  subst he
  exact ⟨_, rfl, _, _, _, [], _, [], hW', trodAll_mk1 (shut_bool Try.underlying4 _), (trodAll_cons_mk (Below.trod laidOut (by kernel_rfl) (of_decide_eq_true (by kernel_rfl)) k0 bel lt0) (trodAll_cons_mk (shut_int Try.underlying36 w1) trodAll_mk0)), rfl, bel.frame _, fun h => by cases h⟩

theorem over : Rows.edgeSumsRow.holds Try.pinned (OpenSpec.ofChange Rows.edgeSumsSpec) :=
  OpenClaim.holds_of_wide 5 Try.f5 rfl rfl rfl rfl rfl rfl rfl ⟨rfl, rfl, rfl, rfl, rfl⟩ rfl rfl rfl rfl rfl (by kernel_rfl) Try.func5 (by kernel_rfl)
    (of_decide_eq_true (by kernel_rfl)) (by unfold Func.isWrapper; first | (rw [if_pos (by decide +kernel)]; kernel_rfl) | (rw [if_neg (by decide +kernel)]; exact ⟨rfl, rfl⟩))
    (fun os started H enc _ => lifted os started H enc)
end Go.Proofs.Ytdofdchckdchfaa.edgeSums
namespace Go.Proofs.Ytdofdchckdchfaa
theorem edgeSums_holds : Rows.EdgeSumsSaid := edgeSums.over
#print axioms edgeSums_holds
end Go.Proofs.Ytdofdchckdchfaa
