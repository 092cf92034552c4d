/- For every row of numbers and every depth MoneyGuards returns true: what goes beyond panics deep within and is recovered where it was begun, what was done ahead stays done; no condition. -/
import Derived.Test.YtjpgginmdnbmdaaRows
import Derived.WalkKit
import Derived.ProofKit
import Derived.OpenShut
import Derived.ShutString
import Derived.ChangeOld
import Derived.Below
import Derived.Test.YtjpgginmdnbmdaaDeep
import Derived.Laws.EntriesVeiled
namespace Go.Proofs.Ytjpgginmdnbmdaa.moneyGuards
open Go.ChangeShapes Go.WideShapes Go.ChangeAt Go.RowKit
open Go.ChangeMaps (open_string shut_string)
set_option linter.unusedVariables false

theorem entry (w w1 : World) (ao : Option Addr) (len cap : Nat) (deep : Int) (hb : Below ((w.alloc (.cells #[.slice ao len cap] 22)).alloc (.cells #[.int .u8 deep] 5)).heap.size ((w.alloc (.cells #[.slice ao len cap] 22)).alloc (.cells #[.int .u8 deep] 5)) w1) :
    w1.cell? ⟨w.heap.size, 0, none⟩ = some (.slice ao len cap) ∧ w1.cell? ⟨w.heap.size + 1, 0, none⟩ = some (.int .u8 deep) ∧ Below w.heap.size w w1 ∧ w.heap.size + 2 ≤ w1.heap.size := by
  have hs : ((w.alloc (.cells #[.slice ao len cap] 22)).alloc (.cells #[.int .u8 deep] 5)).heap.size = w.heap.size + 2 := by simp
  refine ⟨?_, ?_, (((Below.refl _ _).alloc (Nat.le_refl _) _).alloc (by simp) _).trans (hb.mono (by omega)), by have := hb.size; omega⟩
  · rw [hb.cell (by simp only [hs]; omega)]; simp
  · rw [hb.cell (by simp only [hs]; omega)]; simp
theorem part_mono {B B' : Nat} {w : World} {ao : Option Addr} {m : Nat} {ys : List Int} (h : Part B w ao m ys) (hB : B ≤ B') : Part B' w ao m ys :=
  ⟨h.len, h.non, fun ad ha hm => Nat.lt_of_lt_of_le (h.blk ad ha hm) hB, h.cel⟩
def Here (w w1 : World) (ao : Option Addr) (len cap : Nat) (zs : List Int) (g : Nat) (e : Ending) (w' : World) : Prop :=
  e = .returned (.bool (fine zs)) ∧ w'.cell? ⟨w1.heap.size, 0, none⟩ = some (.int .i64 (zs.take g).sum) ∧ w'.cell? ⟨w1.heap.size + 1, 0, none⟩ = some (.int .i64 (g : Int)) ∧
  w'.cell? ⟨w.heap.size, 0, none⟩ = some (.slice ao len cap) ∧ Part w.heap.size w' ao len zs ∧ Below w.heap.size w1 w'
theorem guards_here (w w1 : World) (ao : Option Addr) (len cap : Nat) (deep : Int) (zs : List Int) (g : Nat) (hg : Lead zs g) (hlen : len ≤ 100) (hdeep : 0 ≤ deep ∧ deep ≤ 255)
    (hp : Part w.heap.size w1 ao len zs) (h1 : w1.cell? ⟨w.heap.size, 0, none⟩ = some (.slice ao len cap)) (h2 : w1.cell? ⟨w.heap.size + 1, 0, none⟩ = some (.int .u8 deep)) (hs : w.heap.size + 2 ≤ w1.heap.size) :
    Calls Try.prog 11 #[.func (.func 12) #[] #[.pointer (some ⟨w1.heap.size + 1 + 1, 0, none⟩), .pointer (some ⟨w.heap.size + 1, 0, none⟩)]]
      (((w1.alloc (.cells #[.int .i64 0] 3)).alloc (.cells #[.int .i64 0] 3)).alloc (.cells #[.func (.func 9) #[] #[.pointer (some ⟨w1.heap.size + 1 + 1, 0, none⟩), .pointer (some ⟨w.heap.size, 0, none⟩), .pointer (some ⟨w1.heap.size, 0, none⟩), .pointer (some ⟨w1.heap.size + 1, 0, none⟩)]] 24))
      (Here w w1 ao len cap zs g) := by
  have b2 : Below (w.heap.size + 2) w1 (((w1.alloc (.cells #[.int .i64 0] 3)).alloc (.cells #[.int .i64 0] 3)).alloc (.cells #[.func (.func 9) #[] #[.pointer (some ⟨w1.heap.size + 1 + 1, 0, none⟩), .pointer (some ⟨w.heap.size, 0, none⟩), .pointer (some ⟨w1.heap.size, 0, none⟩), .pointer (some ⟨w1.heap.size + 1, 0, none⟩)]] 24)) :=
    (((Below.refl _ _).alloc hs _).alloc (by simp; omega) _).alloc (by simp; omega) _
  have s1 : (w1.alloc (.cells #[.int .i64 0] 3)).heap.size = w1.heap.size + 1 := by simp
  have s2 : ((w1.alloc (.cells #[.int .i64 0] 3)).alloc (.cells #[.int .i64 0] 3)).heap.size = w1.heap.size + 1 + 1 := by simp
  have p2 := (part_mono hp (Nat.le_add_right _ 2)).below b2
  refine (guards_at (w1.heap.size + 1 + 1) w.heap.size w1.heap.size (w1.heap.size + 1) (w.heap.size + 1) (w.heap.size + 2) zs g hg (by omega) (by omega) (by omega) (by omega) (by omega) (by omega) ao len cap hlen deep hdeep _ ?_ p2 ?_ ?_ ?_ ?_ ?_ ?_ ?_).mono ?_
  · exact Nat.le_trans hs b2.size
  · rw [World.cell?_alloc_at _ _ _ _ s2.symm]; rfl
  · rw [b2.cell (by simp)]; exact h2
  · rw [b2.cell (by simp)]; exact h1
  · rw [World.cell?_alloc_past _ _ _ (by rw [s2]; omega), World.cell?_alloc_past _ _ _ (by rw [s1]; omega), World.cell?_alloc_at _ _ _ _ rfl]; rfl
  · rw [World.cell?_alloc_past _ _ _ (by rw [s2]; omega), World.cell?_alloc_at _ _ _ _ s1.symm]; rfl
  · rw [World.frozen?_alloc_past _ _ _ (by rw [s2]; omega), World.frozen?_alloc_past _ _ _ (by rw [s1]; omega), World.frozen?_alloc_at _ _ _ _ rfl]
  · rw [World.frozen?_alloc_past _ _ _ (by rw [s2]; omega), World.frozen?_alloc_at _ _ _ _ s1.symm]
  · rintro e w' ⟨h1', h2', h3', h4'⟩
    have b3 := b2.trans h4'
    exact ⟨h1', h2', h3', by rw [b3.cell (by simp)]; exact h1, hp.below (b3.mono (Nat.le_add_right _ 2)), b3.mono (Nat.le_add_right _ 2)⟩
/-- what the law reckons beside it: after k rounds. -/
def Beside (zs : List Int) (g k j : Nat) (y : Bool) : Prop := (y = true ∧ j = k ∧ k ≤ g) ∨ (y = false ∧ j = g)
theorem beside_end {zs : List Int} {g k j : Nat} {y : Bool} (hg : Lead zs g) (h : Beside zs g k j y) (hk : y = false ∨ zs.length ≤ k) : j = g := by
  have := hg.1
  rcases h with ⟨h1, h2, h3⟩ | ⟨h1, h2⟩
  · rcases hk with hk | hk
    · rw [h1] at hk; cases hk
    · omega
  · exact h2
theorem beside_step {zs : List Int} {g k j : Nat} (hg : Lead zs g) (h : Beside zs g k j true) (hk : k < zs.length) :
    j = k ∧ ((addB (zs.take j).sum (zs.getD k 0) = true ∧ addV (zs.take j).sum (zs.getD k 0) = (zs.take (j + 1)).sum ∧ Beside zs g (k + 1) (j + 1) true) ∨ (addB (zs.take j).sum (zs.getD k 0) = false ∧ Beside zs g (k + 1) j false)) := by
  rcases h with ⟨_, h2, h3⟩ | ⟨h1, _⟩
  · subst h2
    refine ⟨rfl, ?_⟩
    by_cases hkg : j < g
    · obtain ⟨s1, s2⟩ := lead_step hg hkg
      exact .inl ⟨s1, (add_val s1).trans s2, .inl ⟨rfl, rfl, by omega⟩⟩
    · have e : j = g := by omega
      subst e
      exact .inr ⟨lead_stop hg hk, .inr ⟨rfl, rfl⟩⟩
  · cases h1
theorem own : ownKnob Try.prog.godebug = none := by kernel_rfl
theorem laidOut : laidOutB Try.prog = true := by kernel_rfl

/-- WHAT THE WALK IS TOLD OF A SLICE OF INTEGERS THAT CAME IN: it is nil; or it leads to a row of 'cap' cells, the numbers 'zs' (the first 'len' are its elements, the rest its spare room), each fitting its kind. -/
def IsRow (k : IntKind) (w : World) (a : Option Addr) (len cap : Nat) (zs : List Int) : Prop :=
  (a = none ∧ len = 0 ∧ cap = 0 ∧ zs = []) ∨
  ∃ x, a = some x ∧ len ≤ cap ∧ cap ≤ maxLen ∧ zs.length = cap ∧ (∀ i, i < zs.length → w.cell? (x.add i) = some (.int k (zs.getD i 0))) ∧ ∀ n ∈ zs, (Lit.int k n).wf = true

theorem walk (a0 : Option Addr) (len0 cap0 : Nat) (z0 : List Int) (a1 : Int) (w : World) (w0 : IsRow .i64 w a0 len0 cap0 z0) (w1 : (Lit.int .u8 a1).wf = true) :
    Calls Try.prog 3 #[.slice a0 len0 cap0, .int .u8 a1] w fun e w' => e = .returned (.bool true) ∧ Below w.heap.size w w' := by
  obtain ⟨hp, hlc, hac⟩ : Part w.heap.size w a0 len0 (z0.take len0) ∧ len0 ≤ cap0 ∧ (a0 = none → cap0 = 0) := by
    rcases w0 with ⟨rfl, rfl, rfl, rfl⟩ | ⟨x, rfl, hl, hm, hz, hcell, hwz⟩
    · exact ⟨⟨rfl, fun _ => rfl, fun ad ha => (by cases ha), fun ad ha => (by cases ha)⟩, Nat.le_refl _, fun _ => rfl⟩
    · refine ⟨⟨by simp; omega, fun ha => (by cases ha), fun ad ha hm0 => ?_, fun ad ha j hj => ?_⟩, hl, fun ha => (by cases ha)⟩
      · injection ha with ha
        subst ha
        have := hcell 0 (by omega)
        rw [add_zero'] at this
        exact World.block_lt_of_cell? w x this
      · injection ha with ha
        subst ha
        rw [hcell j (by omega)]
        simp [List.getD, hj]
  clear w0 hlc hac
  generalize z0.take len0 = zs at hp
  have hcut : 0 ≤ a1 ∧ a1 ≤ 255 := by simpa [Lit.wf, IntKind.min, IntKind.max, IntKind.signed, IntKind.bits] using w1
  clear w1
  have HP := Lib.hid hp
  clear hp
  by_cases hbig : 100 < len0
  · go_enter Try.func3, Try.ntmps3
    go_wp2_with fail
    refine (awake_any _).mono ?_
    rintro e w1 ⟨rfl, hb1⟩
    obtain ⟨hlw, _, b1, _⟩ := entry w w1 _ _ _ _ hb1
    have B1 := Lib.hid b1
    clear hb1 b1
    go_wp2_with fail
    go_ret
    exact ⟨rfl, B1.out⟩
  · have hle : len0 ≤ 100 := by omega
    clear hbig
    obtain ⟨g, hg⟩ := lead_exists zs
    have HG := Lib.hid hg
    clear hg
    go_enter Try.func3, Try.ntmps3
    go_wp2_with fail
    refine (awake_any _).mono ?_
    rintro e w1 ⟨rfl, hb1⟩
    obtain ⟨hlw, hkw, b1, hs1⟩ := entry w w1 _ _ _ _ hb1
    have HK := Lib.hid hkw
    have B1 := Lib.hid b1
    clear hb1 b1 hkw
    have hmf := makes
    go_wp2_with fail
    refine (guards_here w w1 _ _ _ _ zs g HG.out hle hcut (HP.out.below B1.out) hlw HK.out hs1).mono ?_
    rintro e w3 ⟨rfl, c1, c2, c3, p3, b3⟩
    have C1 := Lib.hid c1
    have C2 := Lib.hid c2
    have P3 := Lib.hid p3
    have B3 := Lib.hid (B1.out.trans b3)
    clear c1 c2 p3 b3 hlw hs1 HK HP hcut B1 hmf
    go_wp2_with fail
    refine (refSum_part cap0 P3.out (by omega)).mono ?_
    rintro e w' ⟨rfl, rfl⟩
    go_wp2_with fail
    go_loop [11, 12, 13, 14] (fun q s o i => ∃ (k j : Nat) (y : Bool), k ≤ len0 ∧ q = .int .i64 j ∧ s = .int .i64 (zs.take j).sum ∧ o = .bool y ∧ i = .int .i64 k ∧ j ≤ 100 ∧ Hid (Beside zs g k j y)) (fun _ _ _ i => len0 - (intOf i).toNat)
    case atStart => exact ⟨0, 0, true, Nat.zero_le _, rfl, by simp, rfl, rfl, by omega, .inl ⟨rfl, rfl, Nat.zero_le _⟩⟩
    case round =>
      obtain ⟨k, j, y, hk, rfl, rfl, rfl, rfl, hj, HBs⟩ := hrel
      have hzl : zs.length = len0 := P3.out.len
      have HZ := Lib.hid hzl
      clear hzl
      cases y
      · obtain rfl := beside_end HG.out HBs.out (.inl rfl)
        rcases Nat.lt_or_ge k len0 with hkl | hkl
        · have HV : Hid (fine zs = true → sumV zs = (zs.take j).sum) := by
            intro hf
            have h1 := lead_fine HG.out
            rw [hf] at h1
            have h2 : j = zs.length := of_decide_eq_true h1.symm
            rw [sumV_yes hf, h2, List.take_length]
          have c1 := C1.out
          have c2 := C2.out
          have HV' := HV.out
          generalize (zs.take j).sum = S at c1 HV' ⊢
          clear HV
          cases hf : fine zs
          · clear HV'
            go_wp2_with fail
            refine (guard_nil _).mono ?_
            rintro e w4 ⟨rfl, hb4⟩
            have B4 : Hid (Below w3.heap.size w3 w4) := by rw [← hb4]; exact (Below.refl _ _).alloc (Nat.le_refl _) _
            clear hb4
            go_wp2_with fail
            refine (guard3_any _).mono ?_
            rintro e w5 ⟨rfl, hb5⟩
            have B5 := Lib.hid hb5
            clear hb5
            go_wp2
            go_ret
            exact ⟨rfl, B3.out.trans (((B4.out).mono B3.out.size).trans ((B5.out).mono (Nat.le_trans B3.out.size B4.out.size)))⟩
          · have hv := HV' hf
            clear HV'
            go_wp2_with fail
            refine (guard_nil _).mono ?_
            rintro e w4 ⟨rfl, hb4⟩
            have B4 : Hid (Below w3.heap.size w3 w4) := by rw [← hb4]; exact (Below.refl _ _).alloc (Nat.le_refl _) _
            clear hb4
            go_wp2_with fail
            refine (guard3_any _).mono ?_
            rintro e w5 ⟨rfl, hb5⟩
            have B5 := Lib.hid hb5
            clear hb5
            go_wp2
            go_ret
            exact ⟨rfl, B3.out.trans (((B4.out).mono B3.out.size).trans ((B5.out).mono (Nat.le_trans B3.out.size B4.out.size)))⟩
        · have HV : Hid (fine zs = true → sumV zs = (zs.take j).sum) := by
            intro hf
            have h1 := lead_fine HG.out
            rw [hf] at h1
            have h2 : j = zs.length := of_decide_eq_true h1.symm
            rw [sumV_yes hf, h2, List.take_length]
          have c1 := C1.out
          have c2 := C2.out
          have HV' := HV.out
          generalize (zs.take j).sum = S at c1 HV' ⊢
          clear HV
          cases hf : fine zs
          · clear HV'
            go_wp2_with fail
            refine (guard_nil _).mono ?_
            rintro e w4 ⟨rfl, hb4⟩
            have B4 : Hid (Below w3.heap.size w3 w4) := by rw [← hb4]; exact (Below.refl _ _).alloc (Nat.le_refl _) _
            clear hb4
            go_wp2_with fail
            refine (guard3_any _).mono ?_
            rintro e w5 ⟨rfl, hb5⟩
            have B5 := Lib.hid hb5
            clear hb5
            go_wp2
            go_ret
            exact ⟨rfl, B3.out.trans (((B4.out).mono B3.out.size).trans ((B5.out).mono (Nat.le_trans B3.out.size B4.out.size)))⟩
          · have hv := HV' hf
            clear HV'
            go_wp2_with fail
            refine (guard_nil _).mono ?_
            rintro e w4 ⟨rfl, hb4⟩
            have B4 : Hid (Below w3.heap.size w3 w4) := by rw [← hb4]; exact (Below.refl _ _).alloc (Nat.le_refl _) _
            clear hb4
            go_wp2_with fail
            refine (guard3_any _).mono ?_
            rintro e w5 ⟨rfl, hb5⟩
            have B5 := Lib.hid hb5
            clear hb5
            go_wp2
            go_ret
            exact ⟨rfl, B3.out.trans (((B4.out).mono B3.out.size).trans ((B5.out).mono (Nat.le_trans B3.out.size B4.out.size)))⟩
      · by_cases hlt : k < len0
        · have hp := P3.out
          cases a0 with
          | none => exact absurd (hp.non rfl) (by omega)
          | some ad =>
            have hc0 := hp.cel ad rfl 0 (by omega)
            have hc := hp.cel ad rfl k hlt
            obtain ⟨b, off, spot⟩ := ad
            have hspot : spot = none := by simpa [Addr.add] using World.cell?_spot hc0
            subst hspot
            have e : (⟨b, off, none⟩ : Addr).add k = ⟨b, off + k, none⟩ := by unfold Addr.add; split <;> simp_all
            rw [e] at hc
            clear hc0 e hp
            obtain ⟨hjk, hst⟩ := beside_step HG.out HBs.out (by have := HZ.out; omega)
            have HJ := Lib.hid hjk
            have hkk : k < 100 := by omega
            clear hjk
            generalize zs.getD k 0 = x at hst hc
            rcases hst with ⟨st1, st2, st3⟩ | ⟨st1, st3⟩
            · have ST2 := Lib.hid st2
              have ST3 := Lib.hid st3
              clear st2 st3
              generalize hS : (zs.take j).sum = S at st1 ST2 ⊢
              clear hS
              go_wp2_with (go_at_call 14; refine (refAdd_any _ _ _).mono ?_; rintro e w' ⟨rfl, rfl⟩)
              go_round
              case rel => exact ⟨k + 1, j + 1, true, by omega, by go_num, by rw [ST2.out], rfl, by go_num, by have := HJ.out; omega, ST3.out⟩
              case measure => simp [intOf]; omega
            · have ST3 := Lib.hid st3
              clear st3
              generalize hS : (zs.take j).sum = S at st1 ⊢
              have HS := Lib.hid hS
              clear hS
              go_wp2_with (go_at_call 14; refine (refAdd_any _ _ _).mono ?_; rintro e w' ⟨rfl, rfl⟩)
              go_round
              case rel => exact ⟨k + 1, j, false, by omega, rfl, by rw [HS.out], rfl, by go_num, hj, ST3.out⟩
              case measure => simp [intOf]; omega
        · obtain rfl := beside_end HG.out HBs.out (.inr (by have := HZ.out; omega))
          have hge : len0 ≤ k := by omega
          clear hlt
          have HV : Hid (fine zs = true → sumV zs = (zs.take j).sum) := by
            intro hf
            have h1 := lead_fine HG.out
            rw [hf] at h1
            have h2 : j = zs.length := of_decide_eq_true h1.symm
            rw [sumV_yes hf, h2, List.take_length]
          have c1 := C1.out
          have c2 := C2.out
          have HV' := HV.out
          generalize (zs.take j).sum = S at c1 HV' ⊢
          clear HV
          cases hf : fine zs
          · clear HV'
            go_wp2_with fail
            refine (guard_nil _).mono ?_
            rintro e w4 ⟨rfl, hb4⟩
            have B4 : Hid (Below w3.heap.size w3 w4) := by rw [← hb4]; exact (Below.refl _ _).alloc (Nat.le_refl _) _
            clear hb4
            go_wp2_with fail
            refine (guard3_any _).mono ?_
            rintro e w5 ⟨rfl, hb5⟩
            have B5 := Lib.hid hb5
            clear hb5
            go_wp2
            go_ret
            exact ⟨rfl, B3.out.trans (((B4.out).mono B3.out.size).trans ((B5.out).mono (Nat.le_trans B3.out.size B4.out.size)))⟩
          · have hv := HV' hf
            clear HV'
            go_wp2_with fail
            refine (guard_nil _).mono ?_
            rintro e w4 ⟨rfl, hb4⟩
            have B4 : Hid (Below w3.heap.size w3 w4) := by rw [← hb4]; exact (Below.refl _ _).alloc (Nat.le_refl _) _
            clear hb4
            go_wp2_with fail
            refine (guard3_any _).mono ?_
            rintro e w5 ⟨rfl, hb5⟩
            have B5 := Lib.hid hb5
            clear hb5
            go_wp2
            go_ret
            exact ⟨rfl, B3.out.trans (((B4.out).mono B3.out.size).trans ((B5.out).mono (Nat.le_trans B3.out.size B4.out.size)))⟩

set_option maxRecDepth 100000 in
theorem lifted (os : Os) (started : os.Started) (H : Type) (enc : TypeId × Value → H) :
    ReturnsInHanded {} Try.checked os 3 .any (Rows.moneyGuardsSpec.pre6 enc Try.prog Try.f3 Rows.moneyGuardsRow.domain false) (Rows.moneyGuardsSpec.post enc Try.prog Try.f3 false true false false) := by
  refine returnsInHanded_of_change (C := Try.checked) own started (by kernel_rfl) Try.func3
    (ChangeSpec.witness6 (enc := enc) (C := Try.checked) false ⟨#[], #[.slice none 0 0, .int .u8 0], []⟩ 8 (by kernel_rfl) (by kernel_rfl) (by kernel_rfl) (by kernel_rfl)) ?_
  intro W base args ds gs before hval0 hW hcnd _
  have hval : ∀ (j : Nat) t v, Try.f3.params[j]? = some t → args[j]? = some v → Value.okWide Try.prog W .any base t v := hval0
  have hW' := hW
  obtain ⟨p, q, hA0, hV, rfl, hfz, hnd⟩ := hW
  have hA : DataW.TrodAll enc Try.prog W 0 (fun _ => true) true Try.f3.params.toList args.toList ds p := hA0
  rw [Try.params3] at hA hval
  obtain ⟨v0, vs0, d0, ds0, p0, q0, hargs, rfl, rfl, h0, r0⟩ := trodAll_cons hA
  obtain ⟨v1, vs1, d1, ds1, p1, q1, rfl, rfl, rfl, h1, r1⟩ := trodAll_cons r0
  obtain ⟨rfl, rfl, rfl⟩ := trodAll_nil r1
  obtain rfl : args = #[v0, v1] := by cases args; simp_all
  obtain ⟨rfl, rfl⟩ := trodVars_none hV
  obtain ⟨a0, len0, cap0, rfl⟩ := okWide_slice Try.underlying22 (hval 0 22 v0 rfl rfl)
  have k0 := h0
  have lt0 : ∀ x ∈ p0, x.block < W.heap.size := by obtain ⟨m, hm⟩ := k0; exact DataW.trod_lt m _ _ _ hm
  obtain ⟨z0, w0⟩ : ∃ zs, IsRow .i64 W a0 len0 cap0 zs := by
    obtain ⟨fuel, hf⟩ := h0
    rcases open_ints Try.underlying22 Try.underlying3 (by kernel_rfl) hf with ⟨hcs, _⟩ | ⟨x, l, c, zs, hcs, _, hl, hm, hz, _, hcell, hwz⟩
    · simp [Value.cells] at hcs
      obtain ⟨rfl, rfl, rfl⟩ := hcs
      exact ⟨[], .inl ⟨rfl, rfl, rfl, rfl⟩⟩
    · simp [Value.cells] at hcs
      obtain ⟨rfl, rfl, rfl⟩ := hcs
      exact ⟨zs, .inr ⟨_, rfl, hl, hm, by simpa using hz, hcell, hwz⟩⟩
  obtain ⟨a1, rfl, rfl, rfl, w1⟩ := open_int Try.underlying5 (hval 1 5 v1 rfl rfl) h1
  clear hA0 hval0
  refine (walk a0 len0 cap0 z0 a1 W w0 w1).mono fun e W' ⟨he, bel⟩ => ?_
  subst he
  exact ⟨_, rfl, _, _, _, [], _, [], hW', trodAll_mk1 (shut_bool Try.underlying4 _), (trodAll_cons_mk (Below.trod laidOut (by kernel_rfl) (of_decide_eq_true (by kernel_rfl)) k0 bel lt0) (trodAll_cons_mk (shut_int Try.underlying5 w1) trodAll_mk0)), rfl, bel.frame _, fun h => by cases h⟩

theorem over : Rows.moneyGuardsRow.holds Try.pinned (OpenSpec.ofChange Rows.moneyGuardsSpec) :=
  OpenClaim.holds_of_wide 3 Try.f3 rfl rfl rfl rfl rfl rfl rfl ⟨rfl, rfl, rfl, rfl, rfl⟩ rfl rfl rfl rfl rfl (by kernel_rfl) Try.func3 (by kernel_rfl)
    (of_decide_eq_true (by kernel_rfl)) (by unfold Func.isWrapper; first | (rw [if_pos (by decide +kernel)]; kernel_rfl) | (rw [if_neg (by decide +kernel)]; exact ⟨rfl, rfl⟩))
    (fun os started H enc _ => lifted os started H enc)

end Go.Proofs.Ytjpgginmdnbmdaa.moneyGuards
namespace Go.Proofs.Ytjpgginmdnbmdaa
theorem moneyGuards_holds : Rows.MoneyGuardsSaid := moneyGuards.over
#print axioms moneyGuards_holds
end Go.Proofs.Ytjpgginmdnbmdaa
