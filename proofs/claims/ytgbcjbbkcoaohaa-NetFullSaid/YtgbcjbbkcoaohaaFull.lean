/- NetFull, which takes no argument, returns true: as many messages as may wait, and no more; what is too long, of no kind, is told; no condition. -/
import Derived.Test.YtgbcjbbkcoaohaaRows
import Derived.WalkKit
import Derived.ProofKit
import Derived.OpenShut
import Derived.ShutString
import Derived.Test.YtgbcjbbkcoaohaaApi
import Derived.Laws.MakeOwn
namespace Go.Proofs.Ytgbcjbbkcoaohaa.netFull
open Go.ChangeShapes Go.WideShapes Go.ChangeAt Go.RowKit
open Go.ChangeMaps (open_string shut_string)
set_option linter.unusedVariables false

theorem bytes_at {B : Nat} {w : World} {ao : Option Addr} {m : Nat} {bs : List UInt8} (h : Sl B w 1 ao m (encs bs)) (hm : 0 < m) :
    ∃ b o, ao = some ⟨b, o, none⟩ ∧ ∀ n, n < m → w.cell? ⟨b, o + n, none⟩ = some (.int .u8 ((bs.getD n 0).toNat : Int)) := by
  have hl : bs.length = m := by have := h.len; simpa [encs] using this
  cases ao with
  | none => exact absurd (h.non rfl) (by omega)
  | some ad =>
    have hc : ∀ n, n < m → w.cell? (ad.add n) = some (.int .u8 ((bs.getD n 0).toNat : Int)) := by
      intro n hn
      have hn' : n < bs.length := by omega
      refine h.cel ad rfl n _ ?_
      simp [encs, encB, hn', List.getD]
    obtain ⟨b, o, spot⟩ := ad
    have h0 := hc 0 hm
    have hspot : spot = none := by simpa [Addr.add] using World.cell?_spot h0
    subst hspot
    refine ⟨b, o, rfl, fun n hn => ?_⟩
    have h1 := hc n hn
    have e : (⟨b, o, none⟩ : Addr).add n = ⟨b, o + n, none⟩ := by unfold Addr.add; split <;> simp_all
    rw [e] at h1
    exact h1
theorem send_three (q : Nat) (w : World) : Calls Try.prog 9 #[.pointer (some ⟨q, 0, none⟩), .int .i64 3, .slice none 0 0] w fun e w' => e = .returned (.int .i64 1) ∧ w = w' := by
  go_enter Try.func9, Try.ntmps9
  go_wp2
  go_ret
  exact ⟨rfl, rfl⟩
theorem send_big (q : Nat) (a : Option Addr) (w : World) : Calls Try.prog 9 #[.pointer (some ⟨q, 0, none⟩), .int .i64 2, .slice a 131073 131073] w fun e w' => e = .returned (.int .i64 3) ∧ w = w' := by
  go_enter Try.func9, Try.ntmps9
  go_wp2
  go_ret
  exact ⟨rfl, rfl⟩
theorem make_big : ∃ cs : Array Value, ∀ W, (Instr.makeSlice 23 (.int .i64 131073) (.int .i64 131073)).run Try.prog W = .ok (.slice (some ⟨W.heap.size, 0, none⟩) 131073 131073) (W.alloc (.cells cs 5)) := by
  obtain ⟨i0, hi, hz0, hz1, hz2⟩ := info_parts info5
  exact ⟨_, fun W => run_make W 23 5 i0 (.int .u8 0) Try.underlying23 hi hz0 .i64 .i64 131073 131073 (by omega) (by omega) (by rw [hz2]; omega) (by omega)⟩
theorem copy_full_api {B : Nat} {w : World} {q : Nat} {v : Value} {L : List Msg} (hq : Que B w q v L) (z : Int) (i : Nat) (hz : z = (i : Int)) (hi : i < L.length) (hf : 32 ≤ L.length) :
    Calls Try.prog 12 #[.pointer (some ⟨q, 0, none⟩), .int .i64 z] w fun e w' => e = .returned (.int .i64 18) ∧ Below w.heap.size w w' := by
  subst hz
  exact copy_full hq i hi hf
theorem drop_api {B : Nat} {w : World} {q : Nat} {v : Value} {L : List Msg} (hq : Que B w q v L) (z : Int) (i : Nat) (hz : z = (i : Int)) (hi : i < L.length) :
    Calls Try.prog 13 #[.pointer (some ⟨q, 0, none⟩), .int .i64 z] w fun e w' => e = .returned (.bool true) ∧ ∃ v', Que B w' q v' (L.eraseIdx i) ∧ Kept (q :: blks v L) w w' := by
  subst hz
  refine (drop_yes hq i hi).mono ?_
  rintro e w' ⟨h0, v', h1, h2, _⟩
  exact ⟨h0, v', h1, h2⟩
def Filled (B : Nat) (w wr : World) (q : Nat) (v : Value) (L : List Msg) (n : Nat) : Prop :=
  Que B wr q v L ∧ L.length = n ∧ (∀ m, m < n → ∃ y, L[m]? = some ⟨1, [UInt8.ofNat m], y⟩) ∧ Below B w wr
theorem byte_lit (n : Nat) (h : n < 256) : [Value.int .u8 (n : Int)] = encs [UInt8.ofNat n] := by
  simp [encs, encB]
  omega
theorem filled_step {B : Nat} {w wr w' : World} {q : Nat} {v v' y : Value} {L : List Msg} {n : Nat} (h : Filled B w wr q v L n) (o : Obj) (hq : Que B w' q v' (L ++ [⟨1, [UInt8.ofNat n], y⟩])) (hk : Kept (q :: blks v L) (wr.alloc o) w') (hB : B ≤ wr.heap.size) :
    Filled B w w' q v' (L ++ [⟨1, [UInt8.ofNat n], y⟩]) (n + 1) := by
  obtain ⟨h1, h2, h3, h4⟩ := h
  refine ⟨hq, by simp [h2], fun m hm => ?_, (h4.alloc hB o).trans ((h1.new o).to hk)⟩
  by_cases hmn : m < n
  · obtain ⟨y', hy⟩ := h3 m hmn
    exact ⟨y', by rw [List.getElem?_append_left (by omega)]; exact hy⟩
  · have : m = n := by omega
    subst this
    exact ⟨y, by rw [List.getElem?_append_right (by omega), h2]; simp⟩
theorem own : ownKnob Try.prog.godebug = none := by kernel_rfl

set_option maxRecDepth 100000 in
set_option maxHeartbeats 1600000 in
theorem walk  (w : World) :
    Calls Try.prog 4 #[] w fun e w' => e = .returned (.bool true) ∧ Below w.heap.size w w' := by
  obtain ⟨big, hmk⟩ := make_big
  have HM := Lib.hid hmk
  clear hmk
  go_enter Try.func4, Try.ntmps4
  go_wp2_with fail
  refine (awake_any w).mono ?_
  rintro e w1 ⟨rfl, hb1⟩
  have B1 := Lib.hid hb1
  clear hb1
  go_wp2_with fail
  refine (new_any w1 w.heap.size B1.out.size).mono ?_
  rintro e w2 ⟨rfl, hq2, hb2⟩
  have F2 : Hid (Filled w.heap.size w w2 w1.heap.size (.slice none 0 0) [] 0) := ⟨hq2, rfl, (fun m hm => by omega), B1.out.trans (hb2.mono B1.out.size)⟩
  clear hq2 hb2
  generalize w1.heap.size = q at F2 ⊢
  go_wp2_with fail
  go_loopw [2] (fun i wr => ∃ (n : Nat) (v : Value) (L : List Msg), n ≤ 32 ∧ i = .int .i64 n ∧ Hid (Filled w.heap.size w wr q v L n)) (fun i _ => 32 - (intOf i).toNat)
  case atStart => exact ⟨0, _, _, by omega, rfl, F2.out⟩
  case round =>
    obtain ⟨n, v, L, hn, rfl, HF⟩ := hrel
    by_cases hlt : n < 32
    · go_wp2_with fail
      refine (send_ok (HF.out.1.new _) 1 _ 1 1 [UInt8.ofNat n] (.inl rfl) (sl_lit wr 5 [.int .u8 (n : Int)] [UInt8.ofNat n] (byte_lit n (by omega)) 1 rfl) some_none (by simp) (by omega) (by rw [HF.out.2.1]; exact hlt)).mono ?_
      rintro e w3 ⟨rfl, v3, y3, hq3, hk3, hs3⟩
      have F3 := Lib.hid (filled_step HF.out _ hq3 hk3 HF.out.2.2.2.size)
      clear hq3 hk3 hs3
      go_wp2_with fail
      go_roundw
      case rel => exact ⟨n + 1, _, _, by omega, by go_num, F3.out⟩
      case measure => simp [intOf]; omega
    · have hge : 32 ≤ n := by omega
      have HL : Hid (L.length = 32) := by show L.length = 32; have := HF.out.2.1; omega
      have HAt : Hid (∃ y, L[1]? = some ⟨1, [1], y⟩) := HF.out.2.2.1 1 (by omega)
      have Q3 := Lib.hid HF.out.1
      have B3 := Lib.hid HF.out.2.2.2
      clear HF hlt
      go_wp2_with fail
      refine (send_full Q3.out 1 none 0 0 (.inl rfl) (by omega) (by rw [HL.out]; omega)).mono ?_
      rintro e w' ⟨rfl, rfl⟩
      go_wp2_with fail
      refine (copy_full_api Q3.out 3 3 rfl (by rw [HL.out]; omega) (by rw [HL.out]; omega)).mono ?_
      rintro e w4 ⟨rfl, hb4⟩
      have Q4 := Lib.hid (Q3.out.below hb4)
      have B4 := Lib.hid (B3.out.trans (hb4.mono B3.out.size))
      clear hb4
      go_wp2_with fail
      refine (drop_api Q4.out 0 0 rfl (by rw [HL.out]; omega)).mono ?_
      rintro e w5 ⟨rfl, v5, hq5, hk5⟩
      have Q5 := Lib.hid hq5
      have B5 := Lib.hid (B4.out.trans (Q4.out.to hk5))
      have HL5 : Hid ((L.eraseIdx 0).length = 31) := by show (L.eraseIdx 0).length = 31; rw [List.length_eraseIdx, HL.out]; rfl
      have HAt5 : Hid (∃ y, (L.eraseIdx 0)[0]? = some ⟨1, [1], y⟩) := by
        obtain ⟨y, hy⟩ := HAt.out
        exact ⟨y, by rw [List.getElem?_eraseIdx]; simpa using hy⟩
      clear hq5 hk5
      generalize L.eraseIdx 0 = M at Q5 HL5 HAt5
      go_wp2_with fail
      obtain ⟨y5, hy5⟩ := HAt5.out
      refine (copy_api Q5.out 0 0 rfl 1 [1] y5 hy5 (by rw [HL5.out]; omega)).mono ?_
      rintro e w6 ⟨rfl, v6, y6, hq6, hk6, hs6⟩
      have Q6 := Lib.hid hq6
      have B6 := Lib.hid (B5.out.trans (Q5.out.to hk6))
      have HAt6 : Hid ((M ++ [⟨1, [1], y6⟩])[31]? = some ⟨1, [1], y6⟩) := by
        show (M ++ [⟨1, [1], y6⟩])[31]? = some ⟨1, [1], y6⟩
        rw [List.getElem?_append_right (by rw [HL5.out]; omega), HL5.out]; rfl
      clear hq6 hk6 hs6 hy5 HAt5
      generalize M ++ [⟨1, [1], y6⟩] = N at Q6 HAt6
      have hmk := HM.out
      go_wp2_with fail
      go_region_law (first
        | (go_simp; go_at_call 9; (with_reducible refine (send_three q _).mono ?_); rintro e w' ⟨rfl, rfl⟩)
        | (go_simp; go_at_call 9; (with_reducible refine (send_big q _ _).mono ?_); rintro e w' ⟨rfl, rfl⟩)
        | fail)
      all_goals
        clear hmk
        generalize hw7 : (w6.alloc _).drew = w7
        have Q7 : Hid (Que w.heap.size w7 q v6 N) := by rw [← hw7]; exact (Q6.out.new _).below ((Below.refl _ _).drew)
        have B7 : Hid (Below w.heap.size w w7) := by rw [← hw7]; exact (B6.out.alloc B6.out.size _).drew
        clear hw7
        go_wp2_with fail
        refine (take_api Q7.out 31 31 rfl 1 [1] y6 HAt6.out).mono ?_
        rintro e w8 ⟨rfl, v8, hq8, hk8, hs8, hy8, hf8⟩
        obtain ⟨a8, c8, rfl, hsl8, _, _⟩ := sl_of_owns hy8
        obtain ⟨b8, o8, rfl, hc8⟩ := bytes_at hsl8 (by decide)
        have hc : w8.cell? ⟨b8, o8, none⟩ = some (.int .u8 1) := hc8 0 (by decide)
        have B8 := Lib.hid (B7.out.trans (Q7.out.to hk8))
        clear hq8 hk8 hs8 hy8 hf8 hsl8 hc8
        go_wp2
        go_ret
        exact ⟨rfl, B8.out⟩

set_option maxRecDepth 100000 in
theorem lifted (os : Os) (started : os.Started) (H : Type) (enc : TypeId × Value → H) :
    ReturnsInHanded {} Try.checked os 4 .any (Rows.netFullSpec.pre6 enc Try.prog Try.f4 Rows.netFullRow.domain false) (Rows.netFullSpec.post enc Try.prog Try.f4 false true false false) := by
  refine returnsInHanded_of_change (C := Try.checked) own started (by kernel_rfl) Try.func4
    (ChangeSpec.witness6 (enc := enc) (C := Try.checked) false ⟨#[], #[], []⟩ 8 (by kernel_rfl) (by kernel_rfl) (by kernel_rfl) (by kernel_rfl)) ?_
  intro W base args ds gs before hval0 hW hcnd _
  have hval : ∀ (j : Nat) t v, Try.f4.params[j]? = some t → args[j]? = some v → Value.okWide Try.prog W .any base t v := hval0
  have hW' := hW
  obtain ⟨p, q, hA0, hV, rfl, hfz, hnd⟩ := hW
  have hA : DataW.TrodAll enc Try.prog W 0 (fun _ => true) true Try.f4.params.toList args.toList ds p := hA0
  rw [Try.params4] at hA hval
  obtain ⟨rfl, rfl, rfl⟩ := trodAll_none hA
  obtain ⟨rfl, rfl⟩ := trodVars_none hV
  clear hA0 hval0
  refine (walk  W).mono fun e W' ⟨he, hg⟩ => ?_
  subst he
  exact ⟨_, rfl, _, _, _, [], _, [], hW', trodAll_mk1 (shut_bool Try.underlying4 _), trodAll_mk0, rfl, hg.frame _, fun h => by cases h⟩

theorem over : Rows.netFullRow.holds Try.pinned (OpenSpec.ofChange Rows.netFullSpec) :=
  OpenClaim.holds_of_wide 4 Try.f4 rfl rfl rfl rfl rfl rfl rfl ⟨rfl, rfl, rfl, rfl, rfl⟩ rfl rfl rfl rfl rfl (by kernel_rfl) Try.func4 (by kernel_rfl)
    (of_decide_eq_true (by kernel_rfl)) (by unfold Func.isWrapper; first | (rw [if_pos (by decide +kernel)]; kernel_rfl) | (rw [if_neg (by decide +kernel)]; exact ⟨rfl, rfl⟩))
    (fun os started H enc _ => lifted os started H enc)

end Go.Proofs.Ytgbcjbbkcoaohaa.netFull
namespace Go.Proofs.Ytgbcjbbkcoaohaa
theorem netFull_holds : Rows.NetFullSaid := netFull.over
#print axioms netFull_holds
end Go.Proofs.Ytgbcjbbkcoaohaa
