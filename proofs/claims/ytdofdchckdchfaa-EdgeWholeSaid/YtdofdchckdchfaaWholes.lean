/- Of any number and any row of numbers EdgeWhole returns true; no condition. -/
import Derived.Test.YtdofdchckdchfaaRows
import Derived.WalkKit
import Derived.ProofKit
import Derived.OpenShut
import Derived.ShutString
import Derived.ChangeOld
import Derived.Below
import Derived.Laws.Cover2
import Derived.Deep.Slices
import Derived.Test.YtdofdchckdchfaaSum
import Derived.Test.YtdofdchckdchfaaNext
namespace Go.Proofs.Ytdofdchckdchfaa.edgeWhole
open Go.ChangeShapes Go.WideShapes Go.ChangeAt Go.RowKit
open Go.ChangeMaps (open_string shut_string)
set_option linter.unusedVariables false

theorem own : ownKnob Try.prog.godebug = none := by kernel_rfl
theorem laidOut : laidOutB Try.prog = true := by kernel_rfl
/-- a slice value's memory: it leads to the numbers `zs`, each of two bytes. -/
def U16s (w : World) (b : Option Addr) (len : Nat) (zs : List Int) : Prop :=
  zs.length = len ∧ (∀ z ∈ zs, 0 ≤ z ∧ z ≤ 65535) ∧ (len = 0 ∨ ∃ k off, b = some ⟨k, off, none⟩ ∧ k < w.heap.size ∧ ∀ j z, zs[j]? = some z → w.cell? ⟨k, off + j, none⟩ = some (.int .u16 z))
theorem open_u16s {H : Type} {enc : TypeId × Value → H} {w : World} {base : Nat} {spare : Nat → Bool} {held : Bool} {a : Option Addr} {len cap : Nat} {d : DataW H} {ps : List MemPlace}
    (h : DataW.Trod enc Try.prog w base spare held 40 (.slice a len cap) d ps) : ∃ zs, U16s w a len zs := by
  obtain ⟨fuel, hf⟩ := h
  rcases open_ints Try.underlying40 Try.underlying36 (by kernel_rfl) hf with ⟨hcs, _⟩ | ⟨x, l, c, zs, hcs, _, hl, hm, hz, _, hcell, hwz⟩
  · simp [Value.cells] at hcs
    obtain ⟨rfl, rfl, rfl⟩ := hcs
    exact ⟨[], rfl, fun _ h => (by cases h), .inl rfl⟩
  · simp [Value.cells] at hcs
    obtain ⟨rfl, rfl, rfl⟩ := hcs
    have hlz : len ≤ zs.length := by rw [hz]; split <;> omega
    refine ⟨zs.take len, by simp; omega, fun z h => ?_, ?_⟩
    · have := hwz z (List.mem_of_mem_take h)
      simpa [Lit.wf, IntKind.min, IntKind.max, IntKind.signed, IntKind.bits] using this
    · by_cases h0 : len = 0
      · exact .inl h0
      · refine .inr ?_
        have h1 := hcell 0 (by omega)
        obtain ⟨k, off, spot⟩ := x
        have hspot : spot = none := by simpa [Addr.add] using World.cell?_spot h1
        subst hspot
        refine ⟨k, off, rfl, ?_, fun j z hj => ?_⟩
        · rw [add_zero'] at h1
          exact World.block_lt_of_cell? w _ h1
        · have hj2 : j < len := by
            have := (List.getElem?_eq_some_iff.1 hj).1
            simp at this
            omega
          have h2 := hcell j (by omega)
          have e : (⟨k, off, none⟩ : Addr).add j = ⟨k, off + j, none⟩ := by unfold Addr.add; split <;> simp_all
          rw [e] at h2
          rw [h2]
          rw [List.getElem?_take_of_lt hj2] at hj
          simp [List.getD, hj]
/-- what the numbers add up to, each with one more; and their floats. -/
def upTo (l : List Int) : Int := (l.map (1 + ·)).sum
def asF (l : List Int) : List Nat := l.map fun z => rung (1 + z).toNat
theorem upTo_next {l : List Int} {k : Nat} {z : Int} (h : l[k]? = some z) : upTo (l.take (k + 1)) = upTo (l.take k) + 1 + z := by
  rw [take_next l k z h]; simp [upTo]; omega
theorem asF_next {l : List Int} {k : Nat} {z : Int} (h : l[k]? = some z) : asF (l.take (k + 1)) = asF (l.take k) ++ [rung (1 + z).toNat] := by
  rw [take_next l k z h]; simp [asF]
theorem upTo_bound (l : List Int) (h : ∀ z ∈ l, 0 ≤ z ∧ z ≤ 65535) : 0 ≤ upTo l ∧ upTo l ≤ (l.length : Int) * 65536 := by
  unfold upTo
  induction l with
  | nil => simp
  | cons x l ih =>
    have := h x (by simp)
    have := ih fun z hz => h z (by simp [hz])
    simp only [List.map_cons, List.sum_cons, List.length_cons]
    omega
theorem work_rung {n : Nat} (h0 : 0 < n) (h1 : n ≤ 1048576) : workOf (rung n) = (n : Int) := by
  have hk := fine_kind h0 h1
  obtain ⟨_, _, _, hv⟩ := rung_fine h0 h1
  unfold workOf
  rw [if_pos hk, hv]
theorem asF_one (x : Int) (h : 0 ≤ x ∧ x ≤ 65535) : decide (kindOf (rung (1 + x).toNat) = 5) = true ∧ workOf (rung (1 + x).toNat) = 1 + x ∧ rung (1 + x).toNat < 18446744073709551616 := by
  obtain ⟨n, hn⟩ : ∃ n, n = (1 + x).toNat := ⟨_, rfl⟩
  have h0 : 0 < n := by omega
  have h1 : n ≤ 1048576 := by omega
  have e : (n : Int) = 1 + x := by omega
  rw [← hn, ← e]
  obtain ⟨_, q, _, _⟩ := rung_fine h0 h1
  exact ⟨decide_eq_true (fine_kind h0 h1), work_rung h0 h1, Nat.lt_of_le_of_lt q (by decide)⟩
theorem asF_all (l : List Int) (h : ∀ z ∈ l, 0 ≤ z ∧ z ≤ 65535) : allF (asF l) = true ∧ addF (asF l) = upTo l ∧ ∀ x ∈ asF l, x < 18446744073709551616 := by
  induction l with
  | nil => exact ⟨by simp [allF, asF], by simp [addF, asF, upTo], fun _ h => (by cases h)⟩
  | cons x l ih =>
    obtain ⟨d1, d2, d3⟩ := asF_one x (h x (by simp))
    obtain ⟨a, b, c⟩ := ih fun z hz => h z (by simp [hz])
    unfold asF at *
    refine ⟨?_, ?_, ?_⟩
    · unfold allF at *
      rw [List.map_cons, List.all_cons, a, d1]
      rfl
    · unfold addF upTo at *
      rw [List.map_cons, List.map_cons, List.sum_cons, b, d2, List.map_cons, List.sum_cons]
    · intro y hy
      rw [List.map_cons] at hy
      rcases List.mem_cons.1 hy with rfl | hy
      · exact d3
      · exact c y hy
theorem asF_sum (l : List Int) (hl : l.length ≤ 400) (h : ∀ z ∈ l, 0 ≤ z ∧ z ≤ 65535) : okS (asF l) = true ∧ sumS (asF l) = upTo l := by
  obtain ⟨a, b, _⟩ := asF_all l h
  have : okS (asF l) = true := by unfold okS; rw [a, decide_eq_true (by simp [asF]; exact hl)]; rfl
  exact ⟨this, by unfold sumS; rw [this, b]; rfl⟩

set_option maxRecDepth 1000000 in
set_option maxHeartbeats 8000000 in
theorem walk (a0 : Int) (b1 : Option Addr) (len1 cap1 : Nat) (zs : List Int) (w : World) (w0 : (Lit.int .u32 a0).wf = true) (hp : U16s w b1 len1 zs) :
    Calls Try.prog 6 #[.int .u32 a0, .slice b1 len1 cap1] w fun e w' => e = .returned (.bool true) ∧ Below w.heap.size w w' := by
  obtain ⟨hlen, hzb, hcase⟩ := hp
  have hn : 0 ≤ a0 ∧ a0 ≤ 4294967295 := by simpa [Lit.wf, IntKind.min, IntKind.max, IntKind.signed, IntKind.bits] using w0
  clear w0
  by_cases hbig : 400 < len1
  · clear hcase
    go_enter Try.func6, Try.ntmps6
    go_wp2_with (first | (go_at_call 8; refine (awake_any _).mono ?_; rintro e w1 ⟨rfl, rfl⟩) | fail)
    go_ret
    exact ⟨rfl, Below.refl _ _⟩
  · obtain ⟨h1, h2⟩ := asF_sum zs (by omega) hzb
    have HOK := Lib.hid h1
    have HSM := Lib.hid h2
    have HX := Lib.hid (asF_all zs hzb).2.2
    have HZ := Lib.hid hzb
    have HLEN := Lib.hid hlen
    clear h1 h2 hzb hlen
    obtain ⟨K, hK⟩ : ∃ K : Nat, (K : Int) = 1 + a0 % 1048576 := ⟨(1 + a0 % 1048576).toNat, by omega⟩
    obtain ⟨X, Y, q1, q2, q3, q4, q5, q6, q7, q8⟩ := near K (by omega) (by omega)
    have hK' : (1 : Int) + a0 % 1048576 = K := hK.symm
    clear hK
    obtain ⟨i0, hi, hz0, hz1, hz2⟩ := info_parts info24
    obtain ⟨q, off, hcc⟩ : ∃ q off, (0 < len1 → b1 = some ⟨q, off, none⟩) ∧ (0 < len1 → q < w.heap.size) ∧ ∀ j z, zs[j]? = some z → w.cell? ⟨q, off + j, none⟩ = some (.int .u16 z) := by
      rcases hcase with h0 | ⟨q, off, h1, h2, h3⟩
      · refine ⟨0, 0, fun h => (by omega), fun h => (by omega), fun j z h => ?_⟩
        have := (List.getElem?_eq_some_iff.1 h).1
        have := HLEN.out
        omega
      · exact ⟨q, off, fun _ => h1, fun _ => h2, h3⟩
    have HB1 := Lib.hid hcc.1
    obtain ⟨B, hB⟩ : ∃ B, B = w.heap.size := ⟨_, rfl⟩
    have HQ : Hid (0 < len1 → q < B) := by rw [hB]; exact hcc.2.1
    have HC := Lib.hid hcc.2.2
    clear hcc hcase
    have H0 : Hid (w.ownsRow B 24 1 (.slice none 0 0) 0 ((asF (zs.take 0)).map (Value.float .f64)) ∧ Below B w w ∧ B ≤ w.heap.size) := ⟨World.ownsRow_nil _ _ _ _, Below.refl _ _, by omega⟩
    have H1 : Hid (upTo (zs.take 0) = 0) := rfl
    have HBB := Lib.hid hB
    clear hB
    go_enter Try.func6, Try.ntmps6
    go_wp2_with (first | (go_at_call 8; refine (awake_any _).mono ?_; rintro e w1 ⟨rfl, rfl⟩) | (go_at_call 15; with_reducible refine (q1 _).mono ?_; rintro e w1 ⟨rfl, rfl⟩) | (go_at_call 13; with_reducible refine (q2 _).mono ?_; rintro e w1 ⟨rfl, rfl⟩) | (go_at_call 22; with_reducible refine (inf_one _).mono ?_; rintro e w1 ⟨rfl, rfl⟩) | (go_at_call 21; with_reducible refine (q3 _).mono ?_; rintro e w1 ⟨rfl, rfl⟩) | (go_at_call 13; with_reducible refine (q4 _).mono ?_; rintro e w1 ⟨rfl, rfl⟩) | (go_at_call 21; with_reducible refine (q5 _).mono ?_; rintro e w1 ⟨rfl, rfl⟩) | (go_at_call 13; with_reducible refine (q6 _).mono ?_; rintro e w1 ⟨rfl, rfl⟩) | (go_at_call 13; with_reducible refine (q8 _).mono ?_; rintro e w1 ⟨rfl, rfl⟩) | fail)
    go_loopw [16, 17, 18] (fun s v i wr => ∃ k : Nat, k ≤ len1 ∧ i = .int .i64 k ∧ s = .int .i64 (upTo (zs.take k)) ∧ Hid (wr.ownsRow B 24 1 v k ((asF (zs.take k)).map (Value.float .f64)) ∧ Below B w1 wr ∧ B ≤ wr.heap.size)) (fun _ _ i _ => len1 - (intOf i).toNat)
    case atStart => exact ⟨0, Nat.zero_le _, rfl, by rw [H1.out], H0⟩
    case round =>
      clear H0 H1 q1 q2 q3 q4 q5 q6 q7 q8
      obtain ⟨k, hk, rfl, rfl, HR⟩ := hrel
      by_cases hlt : k < len1
      · obtain ⟨z, hz⟩ : ∃ z, zs[k]? = some z := ⟨_, List.getElem?_eq_getElem (by have := HLEN.out; omega)⟩
        have hcell : wr.cell? ⟨q, off + k, none⟩ = some (.int .u16 z) := (HR.out.2.1.cell (HQ.out (by omega))).trans (HC.out k z hz)
        obtain rfl := HB1.out (by omega)
        have hzb := HZ.out z (List.mem_of_getElem? hz)
        have HU := Lib.hid (upTo_next hz)
        have HA := Lib.hid (asF_next hz)
        have hb := upTo_bound (zs.take k) (fun z h => HZ.out z (List.mem_of_mem_take h))
        have hlk : (zs.take k).length = k := by rw [List.length_take]; have := HLEN.out; omega
        rw [hlk] at hb
        have hfl : floatOfInt .f64 (1 + z) = rung (1 + z).toNat := by rw [floatOf_of (by omega)]; exact if_pos (by omega)
        have hown := HR.out.1
        have hsz := HR.out.2.2
        clear hlk hz
        generalize upTo (zs.take k) = s at *
        generalize rung (1 + z).toNat = y at *
        go_wp2_with (first
          | (at_builtin; refine wpList_append_own _ rfl _ _ 35 rfl B 24 i0 (.float .f64 0) 1 8 Try.underlying35 hi hz0 hz1 hz2 rfl (by decide) _ _ _ rfl (hown.alloc _) ⟨wr.heap.size, 0, none⟩ 1 1 [.float .f64 y] rfl rfl ?c1 ?c2 ?c3 ?c4 ?c5 ?_)
          | fail)
        case c2 => rfl
        case c3 => unfold maxLen; omega
        case c4 => omega
        case c5 => first | omega | (simp; omega)
        · intro v' w2 hown' hgrow _
          have HR' : Hid (w2.ownsRow B 24 1 v' (k + 1) ((asF (zs.take (k + 1))).map (Value.float .f64)) ∧ Below B w1 w2 ∧ B ≤ w2.heap.size) := by
            refine ⟨?_, ?_, ?_⟩
            · rw [HA.out, List.map_append]; exact hown'
            · exact (HR.out.2.1.alloc HR.out.2.2 _).grown hgrow (by simp; omega) fun b hb => (hown.lt b hb).1
            · exact Nat.le_trans (by simp; omega) hgrow.size
          clear hown' hgrow hown hcell HR HA
          go_wp2_with fail
          go_roundw
          case rel => exact ⟨k + 1, by omega, by go_num, by rw [HU.out], HR'⟩
          case measure => simp [intOf]; omega
      · have ek : k = zs.length := by have := HLEN.out; omega
        have HT : zs.take k = zs := by rw [ek, List.take_length]
        have hge : len1 ≤ k := by omega
        rw [HT] at HR ⊢
        clear ek HT
        have hsm := sum_owns HR.out.1 HX.out
        rw [HOK.out, HSM.out] at hsm
        go_wp2_with (first | (go_at_call 19; with_reducible refine hsm.mono ?_; rintro e w1 ⟨rfl, rfl⟩) | fail)
        go_ret
        exact ⟨rfl, HBB.out ▸ HR.out.2.1⟩

set_option maxRecDepth 100000 in
theorem lifted (os : Os) (started : os.Started) (H : Type) (enc : TypeId × Value → H) :
    ReturnsInHanded {} Try.checked os 6 .any (Rows.edgeWholeSpec.pre6 enc Try.prog Try.f6 Rows.edgeWholeRow.domain false) (Rows.edgeWholeSpec.post enc Try.prog Try.f6 false true false false) := by
  refine returnsInHanded_of_change (C := Try.checked) own started (by kernel_rfl) Try.func6
    (ChangeSpec.witness6 (enc := enc) (C := Try.checked) false ⟨#[], #[.int .u32 0, .slice none 0 0], []⟩ 8 (by kernel_rfl) (by kernel_rfl) (by kernel_rfl) (by kernel_rfl)) ?_
  intro W base args ds gs before hval0 hW hcnd _
  have hval : ∀ (j : Nat) t v, Try.f6.params[j]? = some t → args[j]? = some v → Value.okWide Try.prog W .any base t v := hval0
  have hW' := hW
  obtain ⟨p, q, hA0, hV, rfl, hfz, hnd⟩ := hW
  have hA : DataW.TrodAll enc Try.prog W 0 (fun _ => true) true Try.f6.params.toList args.toList ds p := hA0
  rw [Try.params6] at hA hval
  obtain ⟨v0, vs0, d0, ds0, p0, q0, hargs, rfl, rfl, h0, r0⟩ := trodAll_cons hA
  obtain ⟨v1, vs1, d1, ds1, p1, q1, rfl, rfl, rfl, h1, r1⟩ := trodAll_cons r0
  obtain ⟨rfl, rfl, rfl⟩ := trodAll_nil r1
  obtain rfl : args = #[v0, v1] := by cases args; simp_all
  obtain ⟨rfl, rfl⟩ := trodVars_none hV
  obtain ⟨a0, rfl, rfl, rfl, w0⟩ := open_int Try.underlying39 (hval 0 39 v0 rfl rfl) h0
  have k1 := h1
  have lt1 : ∀ x ∈ p1, x.block < W.heap.size := by obtain ⟨m, hm⟩ := k1; exact DataW.trod_lt m _ _ _ hm
  obtain ⟨b1, len1, cap1, rfl⟩ := okWide_slice Try.underlying40 (hval 1 40 v1 rfl rfl)
  obtain ⟨zs, hp⟩ := open_u16s h1
  clear hA0 hval0
  refine (walk a0 b1 len1 cap1 zs W w0 hp).mono fun e W' ⟨he, bel⟩ => ?_
  subst he
  exact ⟨_, rfl, _, _, _, [], _, [], hW', trodAll_mk1 (shut_bool Try.underlying4 _), (trodAll_cons_mk (shut_int Try.underlying39 w0) (trodAll_cons_mk (Below.trod laidOut (by kernel_rfl) (of_decide_eq_true (by kernel_rfl)) k1 bel lt1) trodAll_mk0)), rfl, bel.frame _, fun h => by cases h⟩

theorem over : Rows.edgeWholeRow.holds Try.pinned (OpenSpec.ofChange Rows.edgeWholeSpec) :=
  OpenClaim.holds_of_wide 6 Try.f6 rfl rfl rfl rfl rfl rfl rfl ⟨rfl, rfl, rfl, rfl, rfl⟩ rfl rfl rfl rfl rfl (by kernel_rfl) Try.func6 (by kernel_rfl)
    (of_decide_eq_true (by kernel_rfl)) (by unfold Func.isWrapper; first | (rw [if_pos (by decide +kernel)]; kernel_rfl) | (rw [if_neg (by decide +kernel)]; exact ⟨rfl, rfl⟩))
    (fun os started H enc _ => lifted os started H enc)
end Go.Proofs.Ytdofdchckdchfaa.edgeWhole
namespace Go.Proofs.Ytdofdchckdchfaa
theorem edgeWhole_holds : Rows.EdgeWholeSaid := edgeWhole.over
#print axioms edgeWhole_holds
end Go.Proofs.Ytdofdchckdchfaa
