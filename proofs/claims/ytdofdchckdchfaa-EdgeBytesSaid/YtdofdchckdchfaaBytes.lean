/- For any eight bytes EdgeBytes returns true; no condition. -/
import Derived.Test.YtdofdchckdchfaaRows
import Derived.WalkKit
import Derived.ProofKit
import Derived.OpenShut
import Derived.ShutString
import Derived.ChangeOld
import Derived.Below
import Derived.Laws.Cover2
import Derived.Test.YtdofdchckdchfaaSame
namespace Go.Proofs.Ytdofdchckdchfaa.edgeBytes
open Go.ChangeShapes Go.WideShapes Go.ChangeAt Go.RowKit
open Go.ChangeMaps (open_string shut_string)
set_option linter.unusedVariables false

theorem own : ownKnob Try.prog.godebug = none := by kernel_rfl
theorem laidOut : laidOutB Try.prog = true := by kernel_rfl
theorem list8 {α : Type} (l : List α) (h : l.length = 8) : ∃ a b c d e f g i, l = [a, b, c, d, e, f, g, i] := by
  match l, h with
  | [a, b, c, d, e, f, g, i], _ => exact ⟨a, b, c, d, e, f, g, i, rfl⟩
theorem u8_of {a : Int} (h : (Lit.int .u8 a).wf = true) : ∃ k : UInt8, a = (k.toNat : Int) := by
  have hx : 0 ≤ a ∧ a ≤ 255 := by simpa [Lit.wf, IntKind.min, IntKind.max, IntKind.signed, IntKind.bits] using h
  refine ⟨UInt8.ofNat a.toNat, ?_⟩
  rw [UInt8.toNat_ofNat']
  omega
theorem bytes_of (l : List Value) (h : ∀ i, i < l.length → ∃ b : UInt8, l[i]? = some (.int .u8 (b.toNat : Int))) : ∃ bs : List UInt8, l = bs.map fun b => .int .u8 (b.toNat : Int) := by
  induction l with
  | nil => exact ⟨[], rfl⟩
  | cons x l ih =>
    obtain ⟨b, hb⟩ := h 0 (by simp)
    obtain ⟨bs, hbs⟩ := ih fun i hi => by
      obtain ⟨c, hc⟩ := h (i + 1) (by simpa using hi)
      exact ⟨c, by simpa using hc⟩
    refine ⟨b :: bs, ?_⟩
    simp at hb
    rw [hbs, hb]
    rfl
theorem open_arr8 {H : Type} {enc : TypeId × Value → H} {w : World} {base : Nat} {spare : Nat → Bool} {held : Bool} {cs : Array Value} {d : DataW H} {ps : List MemPlace} (hsz : cs.size = Try.prog.cellsOf 22)
    (h : DataW.Trod enc Try.prog w base spare held 22 (.agg cs) d ps) : ∃ x0 x1 x2 x3 x4 x5 x6 x7 : UInt8, Value.agg cs = agg8 x0 x1 x2 x3 x4 x5 x6 x7 := by
  have c22 : Try.prog.cellsOf 22 = 8 := by kernel_rfl
  have c5 : Try.prog.cellsOf 5 = 1 := by kernel_rfl
  obtain ⟨fuel, hf⟩ := h
  obtain ⟨xs, m, _, _, hl, hx, hall⟩ := DataW.trod_array Try.underlying22 hf
  rw [c22] at hsz
  obtain ⟨l⟩ := cs
  have hlen : l.length = 8 := by simpa using hsz
  have hbs := bytes_of l fun i hi => by
    have hi8 : i < 8 := by omega
    have h1 := hall i hi8
    rw [List.getElem?_eq_getElem (by omega), c5] at h1
    obtain ⟨n, hn, _, hw⟩ := DataW.trod_int Try.underlying5 h1
    obtain ⟨b, rfl⟩ := u8_of hw
    refine ⟨b, ?_⟩
    have h2 : ((l.drop (i * 1)).take 1)[0]? = some (Value.int .u8 (b.toNat : Int)) := by
      have h3 : (List.take 1 (List.drop (i * 1) l)) = [Value.int .u8 (b.toNat : Int)] := hn
      rw [h3]
      rfl
    simpa using h2
  obtain ⟨bs, rfl⟩ := hbs
  obtain ⟨a, b, c, d, e, f, g, i, rfl⟩ := list8 bs (by simpa using hlen)
  exact ⟨a, b, c, d, e, f, g, i, rfl⟩

theorem refl22 (a b c d e f g h : Int) (w : World) : (Op.equalIn 10000 22 (.agg #[.int .u8 a, .int .u8 b, .int .u8 c, .int .u8 d, .int .u8 e, .int .u8 f, .int .u8 g, .int .u8 h]) (.agg #[.int .u8 a, .int .u8 b, .int .u8 c, .int .u8 d, .int .u8 e, .int .u8 f, .int .u8 g, .int .u8 h])).run Try.prog w = .ok true w := by
  have u3 := Try.underlying5
  have a3 := Try.isAgg5
  have z3 := Try.sizeOf5
  rw [show (10000 : Nat) = 9999 + 1 from rfl, Op.equalIn]
  simp only [Sem.run_bind, run_underlying Try.underlying22, Result.andThen_ok]
  simp only [Std.Legacy.Range.forIn_eq_forIn_range', Std.Legacy.Range.size, Nat.sub_zero, Nat.add_sub_cancel, Nat.div_one, List.range'_succ, List.range'_zero, List.forIn_cons, List.forIn_nil]
  go_simp

theorem walk (x0 x1 x2 x3 x4 x5 x6 x7 : UInt8) (w : World)  :
    Calls Try.prog 3 #[agg8 x0 x1 x2 x3 x4 x5 x6 x7] w fun e w' => e = .returned (.bool true) ∧ Below w.heap.size w w' := by
  have hl : num [x0, x1, x2, x3, x4, x5, x6, x7] < 18446744073709551616 := Nat.lt_of_lt_of_le (num_lt _) (by simp)
  have hs := ord_self hl
  have hb := bits_any _ hl
  have hsame := same_any _ _ hl hl
  rw [show sameB (num [x0, x1, x2, x3, x4, x5, x6, x7]) (num [x0, x1, x2, x3, x4, x5, x6, x7]) = true from decide_eq_true rfl] at hsame
  have hbl : ∀ w : World, (Instr.build 22 #[(0, .int .u8 1), (1, .int .u8 0), (2, .int .u8 0), (3, .int .u8 0), (4, .int .u8 0), (5, .int .u8 0), (6, .int .u8 248), (7, .int .u8 127)]).run Try.prog w = .ok (.agg #[.int .u8 1, .int .u8 0, .int .u8 0, .int .u8 0, .int .u8 0, .int .u8 0, .int .u8 248, .int .u8 127]) w := fun _ => by kernel_rfl
  by_cases hn : isNan (num [x0, x1, x2, x3, x4, x5, x6, x7])
  · rw [decide_eq_true hn] at hs
    unfold canon at hb
    rw [if_pos hn, ← agg_nan] at hb
    have heq := refl22 1 0 0 0 0 0 248 127
    clear hn hl hsame
    have hof := of_any x0 x1 x2 x3 x4 x5 x6 x7
    generalize num [x0, x1, x2, x3, x4, x5, x6, x7] = x at *
    go_enter Try.func3, Try.ntmps3
    go_wp2_with (first | (go_at_call 8; refine (awake_any _).mono ?_; rintro e w1 ⟨rfl, rfl⟩) | (go_at_call 9; refine (hof _).mono ?_; rintro e w2 ⟨rfl, b2⟩) | fail)
    refine (hb _).mono ?_
    rintro e w3 ⟨rfl, b3⟩
    have B3 := Lib.hid (((Below.refl w.heap.size w).alloc (Nat.le_refl _) _).trans ((b2.mono (by simp)).trans (b3.mono (Nat.le_trans (by simp) b2.size))))
    clear b2 b3
    go_wp2
    go_ret
    exact ⟨rfl, B3.out.alloc B3.out.size _⟩
  · rw [decide_eq_false hn] at hs
    unfold canon at hb
    rw [if_neg hn, bytes_num] at hb
    have heq := refl22 x0.toNat x1.toNat x2.toNat x3.toNat x4.toNat x5.toNat x6.toNat x7.toNat
    have hof := of_any x0 x1 x2 x3 x4 x5 x6 x7
    have hrof := refof_any x0 x1 x2 x3 x4 x5 x6 x7
    clear hn hl
    generalize num [x0, x1, x2, x3, x4, x5, x6, x7] = x at *
    go_enter Try.func3, Try.ntmps3
    go_wp2_with (first | (go_at_call 8; refine (awake_any _).mono ?_; rintro e w1 ⟨rfl, rfl⟩) | (go_at_call 9; refine (hof _).mono ?_; rintro e w2 ⟨rfl, b2⟩) | fail)
    refine (hb _).mono ?_
    rintro e w3 ⟨rfl, b3⟩
    have h2 := b2.block w.heap.size (by simp)
    have h3 := (b3.block w.heap.size (Nat.lt_of_lt_of_le (by simp) b2.size)).trans (h2.trans (heap_alloc_new _ _))
    have B3 := Lib.hid (((Below.refl w.heap.size w).alloc (Nat.le_refl _) _).trans ((b2.mono (by simp)).trans (b3.mono (Nat.le_trans (by simp) b2.size))))
    have l3 : w.heap.size < w3.heap.size := by have := b2.size; have := b3.size; simp at *; omega
    have c0 := cell_of_row w3 w.heap.size 0 _ _ _ h3
    have c1 := cell_of_row w3 w.heap.size 1 _ _ _ h3
    have c2 := cell_of_row w3 w.heap.size 2 _ _ _ h3
    have c3 := cell_of_row w3 w.heap.size 3 _ _ _ h3
    have c4 := cell_of_row w3 w.heap.size 4 _ _ _ h3
    have c5 := cell_of_row w3 w.heap.size 5 _ _ _ h3
    have c6 := cell_of_row w3 w.heap.size 6 _ _ _ h3
    have c7 := cell_of_row w3 w.heap.size 7 _ _ _ h3
    simp only [List.getElem?_toArray, List.getElem?_cons_zero, List.getElem?_cons_succ] at c0 c1 c2 c3 c4 c5 c6 c7
    clear b2 b3 h2 h3
    go_wp2_with (first | (go_at_call 12; refine (hrof _).mono ?_; rintro e w4 ⟨rfl, b4⟩) | (go_at_call 11; refine (hsame _).mono ?_; rintro e w5 ⟨rfl, rfl⟩) | fail)
    go_ret
    exact ⟨rfl, (B3.out.alloc B3.out.size _).trans (b4.mono (by have := B3.out.size; simp; omega))⟩

set_option maxRecDepth 100000 in
theorem lifted (os : Os) (started : os.Started) (H : Type) (enc : TypeId × Value → H) :
    ReturnsInHanded {} Try.checked os 3 .any (Rows.edgeBytesSpec.pre6 enc Try.prog Try.f3 Rows.edgeBytesRow.domain false) (Rows.edgeBytesSpec.post enc Try.prog Try.f3 false true false false) := by
  refine returnsInHanded_of_change (C := Try.checked) own started (by kernel_rfl) Try.func3
    (ChangeSpec.witness6 (enc := enc) (C := Try.checked) false ⟨#[], #[.agg #[.int .u8 0, .int .u8 0, .int .u8 0, .int .u8 0, .int .u8 0, .int .u8 0, .int .u8 0, .int .u8 0]], []⟩ 8 (by kernel_rfl) (by kernel_rfl) (by kernel_rfl) (by kernel_rfl)) ?_
  intro W base args ds gs before hval0 hW hcnd _
  have hval : ∀ (j : Nat) t v, Try.f3.params[j]? = some t → args[j]? = some v → Value.okWide Try.prog W .any base t v := hval0
  have hW' := hW
  obtain ⟨p, q, hA0, hV, rfl, hfz, hnd⟩ := hW
  have hA : DataW.TrodAll enc Try.prog W 0 (fun _ => true) true Try.f3.params.toList args.toList ds p := hA0
  rw [Try.params3] at hA hval
  obtain ⟨v0, vs0, d0, ds0, p0, q0, hargs, rfl, rfl, h0, r0⟩ := trodAll_cons hA
  obtain ⟨rfl, rfl, rfl⟩ := trodAll_nil r0
  obtain rfl : args = #[v0] := by cases args; simp_all
  obtain ⟨rfl, rfl⟩ := trodVars_none hV
  have k0 := h0
  have lt0 : ∀ x ∈ p0, x.block < W.heap.size := by obtain ⟨m, hm⟩ := k0; exact DataW.trod_lt m _ _ _ hm
  obtain ⟨cs, rfl, hsz, _⟩ : ∃ cs, v0 = .agg cs ∧ cs.size = Try.prog.cellsOf 22 ∧ Row.okWide Try.prog W .any base 22 cs := by
    have := hval 0 22 v0 rfl rfl
    simpa [Value.okWide, Try.underlying22] using this
  obtain ⟨x0, x1, x2, x3, x4, x5, x6, x7, hcs⟩ := open_arr8 hsz h0
  obtain rfl : cs = #[.int .u8 (x0.toNat : Int), .int .u8 (x1.toNat : Int), .int .u8 (x2.toNat : Int), .int .u8 (x3.toNat : Int), .int .u8 (x4.toNat : Int), .int .u8 (x5.toNat : Int), .int .u8 (x6.toNat : Int), .int .u8 (x7.toNat : Int)] := Value.agg.inj hcs
  clear hA0 hval0
  refine (walk x0 x1 x2 x3 x4 x5 x6 x7 W ).mono fun e W' ⟨he, bel⟩ => ?_
  subst he
  exact ⟨_, rfl, _, _, _, [], _, [], hW', trodAll_mk1 (shut_bool Try.underlying4 _), (trodAll_cons_mk (Below.trod laidOut (by kernel_rfl) (of_decide_eq_true (by kernel_rfl)) k0 bel lt0) trodAll_mk0), rfl, bel.frame _, fun h => by cases h⟩

theorem over : Rows.edgeBytesRow.holds Try.pinned (OpenSpec.ofChange Rows.edgeBytesSpec) :=
  OpenClaim.holds_of_wide 3 Try.f3 rfl rfl rfl rfl rfl rfl rfl ⟨rfl, rfl, rfl, rfl, rfl⟩ rfl rfl rfl rfl rfl (by kernel_rfl) Try.func3 (by kernel_rfl)
    (of_decide_eq_true (by kernel_rfl)) (by unfold Func.isWrapper; first | (rw [if_pos (by decide +kernel)]; kernel_rfl) | (rw [if_neg (by decide +kernel)]; exact ⟨rfl, rfl⟩))
    (fun os started H enc _ => lifted os started H enc)
end Go.Proofs.Ytdofdchckdchfaa.edgeBytes
namespace Go.Proofs.Ytdofdchckdchfaa
theorem edgeBytes_holds : Rows.EdgeBytesSaid := edgeBytes.over
#print axioms edgeBytes_holds
end Go.Proofs.Ytdofdchckdchfaa
