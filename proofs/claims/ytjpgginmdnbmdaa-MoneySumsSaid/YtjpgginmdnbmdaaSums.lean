/- For every row of numbers and every cut MoneySums returns true: the sum is the reference's; of a fine row it is the same turned, and in parts; no condition. -/
import Derived.Test.YtjpgginmdnbmdaaRows
import Derived.WalkKit
import Derived.ProofKit
import Derived.OpenShut
import Derived.ShutString
import Derived.ChangeOld
import Derived.Below
import Derived.Test.YtjpgginmdnbmdaaParts
namespace Go.Proofs.Ytjpgginmdnbmdaa.moneySums
open Go.ChangeShapes Go.WideShapes Go.ChangeAt Go.RowKit
open Go.ChangeMaps (open_string shut_string)
set_option linter.unusedVariables false

theorem own : ownKnob Try.prog.godebug = none := by kernel_rfl
theorem laidOut : laidOutB Try.prog = true := by kernel_rfl

/-- WHAT THE WALK IS TOLD OF A SLICE OF INTEGERS THAT CAME IN: it is nil; or it leads to a row of 'cap' cells, the numbers 'zs' (the first 'len' are its elements, the rest its spare room), each fitting its kind. -/
def IsRow (k : IntKind) (w : World) (a : Option Addr) (len cap : Nat) (zs : List Int) : Prop :=
  (a = none ∧ len = 0 ∧ cap = 0 ∧ zs = []) ∨
  ∃ x, a = some x ∧ len ≤ cap ∧ cap ≤ maxLen ∧ zs.length = cap ∧ (∀ i, i < zs.length → w.cell? (x.add i) = some (.int k (zs.getD i 0))) ∧ ∀ n ∈ zs, (Lit.int k n).wf = true

theorem walk (a0 : Option Addr) (len0 cap0 : Nat) (z0 : List Int) (a1 : Int) (w : World) (w0 : IsRow .i64 w a0 len0 cap0 z0) (w1 : (Lit.int .u8 a1).wf = true) :
    Calls Try.prog 6 #[.slice a0 len0 cap0, .int .u8 a1] w fun e w' => e = .returned (.bool true) ∧ Below w.heap.size w w' := by
  obtain ⟨hp, hlc, hac⟩ : Part w.heap.size w a0 len0 (z0.take len0) ∧ len0 ≤ cap0 ∧ (a0 = none → cap0 = 0) := by
    rcases w0 with ⟨rfl, rfl, rfl, rfl⟩ | ⟨x, rfl, hl, hm, hz, hcell, hwz⟩
    · exact ⟨⟨rfl, fun _ => rfl, fun ad ha => (by cases ha), fun ad ha => (by cases ha)⟩, Nat.le_refl _, fun _ => rfl⟩
    · refine ⟨⟨by simp; omega, fun ha => (by cases ha), fun ad ha hm0 => ?_, fun ad ha j hj => ?_⟩, hl, fun ha => (by cases ha)⟩
      · injection ha with ha
        subst ha
        have := hcell 0 (by omega)
        rw [add_zero'] at this
        exact World.block_lt_of_cell? w x this
      · injection ha with ha
        subst ha
        rw [hcell j (by omega)]
        simp [List.getD, hj]
  clear w0
  generalize z0.take len0 = ys at hp
  have hcut : 0 ≤ a1 ∧ a1 ≤ 255 := by simpa [Lit.wf, IntKind.min, IntKind.max, IntKind.signed, IntKind.bits] using w1
  clear w1
  have hl := hp.len
  have HL := Lib.hid hl
  clear hl
  have hpos : 0 ≤ a1 % ((len0 : Int) + 1) := Int.emod_nonneg _ (by omega)
  have hlt : a1 % ((len0 : Int) + 1) < (len0 : Int) + 1 := Int.emod_lt_of_pos _ (by omega)
  obtain ⟨k, hk⟩ := Int.eq_ofNat_of_zero_le hpos
  have hkn : k ≤ len0 := by omega
  clear hpos hlt
  by_cases hbig : 100 < len0
  · clear hk hkn hcut
    go_enter Try.func6, Try.ntmps6
    go_wp2_with fail
    refine (awake_any _).mono ?_
    rintro e w1 ⟨rfl, hb1⟩
    have B1 := Lib.hid hb1
    clear hb1
    go_wp2_with fail
    go_ret
    exact ⟨rfl, B1.out⟩
  · have HP := Lib.hid hp
    clear hp
    go_enter Try.func6, Try.ntmps6
    go_wp2_with fail
    refine (awake_any _).mono ?_
    rintro e w1 ⟨rfl, hb1⟩
    have hp1 := HP.out.below hb1
    obtain ⟨al, cl, hsl, hpl, hnl⟩ := cut_low hp1 hlc hac k hkn
    obtain ⟨ah, ch, hsh, hph, hnh⟩ := cut_high hp1 hlc hac k hkn
    have HP1 := Lib.hid hp1
    have HPL := Lib.hid hpl
    have HPH := Lib.hid hph
    have B1 := Lib.hid hb1
    have HNL := Lib.hid hnl
    have HNH := Lib.hid hnh
    clear hb1 hp1 hpl hph hnl hnh
    go_wp2_with fail
    refine (sum_part cap0 HP1.out (by omega)).mono ?_
    rintro e w' ⟨rfl, rfl⟩
    go_wp2_with fail
    refine (refSum_part cap0 HP1.out (by omega)).mono ?_
    rintro e w' ⟨rfl, rfl⟩
    go_wp2_with fail
    refine (sum_part cl HPL.out (by omega)).mono ?_
    rintro e w' ⟨rfl, rfl⟩
    go_wp2_with fail
    refine (sum_part ch HPH.out (by omega)).mono ?_
    rintro e w' ⟨rfl, rfl⟩
    go_wp2_with fail
    refine (add_any _ _ _).mono ?_
    rintro e w' ⟨rfl, rfl⟩
    go_wp2_with fail
    have hs1 : w.heap.size ≤ w1.heap.size := B1.out.size
    go_region_law (first | (refine step_append_part (B := w.heap.size) rfl (.tmp 68) (.tmp 71) rfl _ 0 [] rfl ?o1 ah (len0 - k) ch (ys.drop k) rfl ?o2 HNH.out ?o3 ?o4 ?o5; (case o1 => exact (World.ownsRow_made w1 #[] 0 hs1 (by decide) rfl).drew); (case o2 => exact (HPH.out.below (((Below.refl _ _).alloc hs1 _).drew))); (case o3 => omega); (case o4 => simp <;> omega); intro v1 W1 hown1 hbel1 hsz1) | (refine step_append_part (B := w.heap.size) rfl (.tmp 72) (.tmp 75) rfl _ _ _ rfl hown1 al k cl (ys.take k) rfl ?p2 HNL.out ?p3 hsz1 ?p5; (case p2 => exact (HPL.out.below ((((Below.refl _ _).alloc hs1 _).drew).trans hbel1))); (case p3 => omega); intro v2 W2 hown2 hbel2 hsz2) | (go_simp; go_at_call 21; refine (sum_owns hown2 (by omega)).mono ?_; rintro e w' ⟨rfl, rfl⟩))
    have HT := Lib.hid (sum_turned ys k)
    have B2 : Hid (Below w.heap.size w W2) := (((B1.out.alloc hs1 _).drew).trans hbel1).trans hbel2
    clear hbel1 hbel2 hown1 hown2 hsz1 hsz2 hs1 hsl hsh HPL HPH HP1 HNL HNH hk
    have ht1 := HT.out.1
    have ht2 := HT.out.2
    cases hf : fine ys
    · go_wp2
      go_ret
      exact ⟨rfl, B2.out⟩
    · obtain ⟨p1, p2, p3, p4⟩ := sum_parts ys k hf
      rw [hf] at ht1
      go_wp2
      go_ret
      exact ⟨rfl, B2.out⟩

set_option maxRecDepth 100000 in
theorem lifted (os : Os) (started : os.Started) (H : Type) (enc : TypeId × Value → H) :
    ReturnsInHanded {} Try.checked os 6 .any (Rows.moneySumsSpec.pre6 enc Try.prog Try.f6 Rows.moneySumsRow.domain false) (Rows.moneySumsSpec.post enc Try.prog Try.f6 false true false false) := by
  refine returnsInHanded_of_change (C := Try.checked) own started (by kernel_rfl) Try.func6
    (ChangeSpec.witness6 (enc := enc) (C := Try.checked) false ⟨#[], #[.slice none 0 0, .int .u8 0], []⟩ 8 (by kernel_rfl) (by kernel_rfl) (by kernel_rfl) (by kernel_rfl)) ?_
  intro W base args ds gs before hval0 hW hcnd _
  have hval : ∀ (j : Nat) t v, Try.f6.params[j]? = some t → args[j]? = some v → Value.okWide Try.prog W .any base t v := hval0
  have hW' := hW
  obtain ⟨p, q, hA0, hV, rfl, hfz, hnd⟩ := hW
  have hA : DataW.TrodAll enc Try.prog W 0 (fun _ => true) true Try.f6.params.toList args.toList ds p := hA0
  rw [Try.params6] at hA hval
  obtain ⟨v0, vs0, d0, ds0, p0, q0, hargs, rfl, rfl, h0, r0⟩ := trodAll_cons hA
  obtain ⟨v1, vs1, d1, ds1, p1, q1, rfl, rfl, rfl, h1, r1⟩ := trodAll_cons r0
  obtain ⟨rfl, rfl, rfl⟩ := trodAll_nil r1
  obtain rfl : args = #[v0, v1] := by cases args; simp_all
  obtain ⟨rfl, rfl⟩ := trodVars_none hV
  obtain ⟨a0, len0, cap0, rfl⟩ := okWide_slice Try.underlying22 (hval 0 22 v0 rfl rfl)
  have k0 := h0
  have lt0 : ∀ x ∈ p0, x.block < W.heap.size := by obtain ⟨m, hm⟩ := k0; exact DataW.trod_lt m _ _ _ hm
  obtain ⟨z0, w0⟩ : ∃ zs, IsRow .i64 W a0 len0 cap0 zs := by
    obtain ⟨fuel, hf⟩ := h0
    rcases open_ints Try.underlying22 Try.underlying3 (by kernel_rfl) hf with ⟨hcs, _⟩ | ⟨x, l, c, zs, hcs, _, hl, hm, hz, _, hcell, hwz⟩
    · simp [Value.cells] at hcs
      obtain ⟨rfl, rfl, rfl⟩ := hcs
      exact ⟨[], .inl ⟨rfl, rfl, rfl, rfl⟩⟩
    · simp [Value.cells] at hcs
      obtain ⟨rfl, rfl, rfl⟩ := hcs
      exact ⟨zs, .inr ⟨_, rfl, hl, hm, by simpa using hz, hcell, hwz⟩⟩
  obtain ⟨a1, rfl, rfl, rfl, w1⟩ := open_int Try.underlying5 (hval 1 5 v1 rfl rfl) h1
  clear hA0 hval0
  refine (walk a0 len0 cap0 z0 a1 W w0 w1).mono fun e W' ⟨he, bel⟩ => ?_
  subst he
  exact ⟨_, rfl, _, _, _, [], _, [], hW', trodAll_mk1 (shut_bool Try.underlying4 _), (trodAll_cons_mk (Below.trod laidOut (by kernel_rfl) (of_decide_eq_true (by kernel_rfl)) k0 bel lt0) (trodAll_cons_mk (shut_int Try.underlying5 w1) trodAll_mk0)), rfl, bel.frame _, fun h => by cases h⟩

theorem over : Rows.moneySumsRow.holds Try.pinned (OpenSpec.ofChange Rows.moneySumsSpec) :=
  OpenClaim.holds_of_wide 6 Try.f6 rfl rfl rfl rfl rfl rfl rfl ⟨rfl, rfl, rfl, rfl, rfl⟩ rfl rfl rfl rfl rfl (by kernel_rfl) Try.func6 (by kernel_rfl)
    (of_decide_eq_true (by kernel_rfl)) (by unfold Func.isWrapper; first | (rw [if_pos (by decide +kernel)]; kernel_rfl) | (rw [if_neg (by decide +kernel)]; exact ⟨rfl, rfl⟩))
    (fun os started H enc _ => lifted os started H enc)

end Go.Proofs.Ytjpgginmdnbmdaa.moneySums
namespace Go.Proofs.Ytjpgginmdnbmdaa
theorem moneySums_holds : Rows.MoneySumsSaid := moneySums.over
#print axioms moneySums_holds
end Go.Proofs.Ytjpgginmdnbmdaa
