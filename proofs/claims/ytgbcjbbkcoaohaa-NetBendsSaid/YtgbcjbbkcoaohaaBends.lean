/- For every message, place and mask NetBends returns true: bent twice the same way a message is as it was, a copy is a message of its own; no condition. -/
import Derived.Test.YtgbcjbbkcoaohaaRows
import Derived.WalkKit
import Derived.ProofKit
import Derived.OpenShut
import Derived.ShutString
import Derived.ChangeOld
import Derived.Below
import Derived.Test.YtgbcjbbkcoaohaaApi
namespace Go.Proofs.Ytgbcjbbkcoaohaa.netBends
open Go.ChangeShapes Go.WideShapes Go.ChangeAt Go.RowKit
open Go.ChangeMaps (open_string shut_string)
set_option linter.unusedVariables false

theorem u8_of {a : Int} (h : (Lit.int .u8 a).wf = true) : ∃ k : UInt8, a = (k.toNat : Int) := by
  have hx : 0 ≤ a ∧ a ≤ 255 := by simpa [Lit.wf, IntKind.min, IntKind.max, IntKind.signed, IntKind.bits] using h
  refine ⟨UInt8.ofNat a.toNat, ?_⟩
  rw [UInt8.toNat_ofNat']
  omega
theorem row_bytes {w : World} {a : Option Addr} {len cap : Nat} {zs : List Int} (h : (a = none ∧ len = 0 ∧ cap = 0 ∧ zs = []) ∨
    ∃ x, a = some x ∧ len ≤ cap ∧ cap ≤ maxLen ∧ zs.length = cap ∧ (∀ i, i < zs.length → w.cell? (x.add i) = some (.int .u8 (zs.getD i 0))) ∧ ∀ n ∈ zs, (Lit.int .u8 n).wf = true) :
    ∃ bs : List UInt8, bs.length = len ∧ Sl w.heap.size w 1 a len (encs bs) ∧ (a = none → cap = 0) := by
  rcases h with ⟨rfl, rfl, rfl, rfl⟩ | ⟨x, rfl, hl, hm, hz, hcell, hwz⟩
  · exact ⟨[], rfl, ⟨rfl, fun _ => rfl, fun ad ha => (by cases ha), fun ad ha => (by cases ha)⟩, fun _ => rfl⟩
  · have hg : ∀ i, i < len → w.cell? (x.add i) = some (encB (UInt8.ofNat (zs.getD i 0).toNat)) := by
      intro i hi
      rw [hcell i (by omega)]
      have hmem : zs.getD i 0 ∈ zs := by
        have hi' : i < zs.length := by omega
        simp [List.getD, hi']
      obtain ⟨k, hk⟩ := u8_of (hwz _ hmem)
      rw [hk]
      simp [encB]
    have he : ∀ j u, (encs ((zs.take len).map fun n => UInt8.ofNat n.toNat))[j]? = some u → w.cell? (x.add j) = some u := by
      intro j u hu
      unfold encs at hu
      rw [List.getElem?_map, List.getElem?_map, Option.map_eq_some_iff] at hu
      obtain ⟨b, hb, rfl⟩ := hu
      rw [Option.map_eq_some_iff] at hb
      obtain ⟨n, hn, rfl⟩ := hb
      have hj : j < len := by
        have := (List.getElem?_eq_some_iff.1 hn).1
        simp at this; omega
      rw [hg j hj]
      rw [List.getElem?_take, if_pos hj] at hn
      simp [List.getD, hn]
    refine ⟨(zs.take len).map fun n => UInt8.ofNat n.toNat, by simp; omega, ⟨by simp [encs]; omega, fun ha => (by cases ha), fun ad ha hu => ?_, fun ad ha j u hu => ?_⟩, fun ha => (by cases ha)⟩
    · injection ha with ha
      subst ha
      have h0 : 0 < len := by simp [encs] at hu; omega
      have := hg 0 h0
      rw [add_zero'] at this
      exact World.block_lt_of_cell? w x this
    · injection ha with ha
      subst ha
      exact he j u hu
theorem twice (bs : List UInt8) (j : Nat) (k : UInt8) (h : j < bs.length) : (bs.set j (bs.getD j 0 ^^^ k)).set j ((bs.set j (bs.getD j 0 ^^^ k)).getD j 0 ^^^ k) = bs := by
  rw [List.set_set]
  have e : (bs.set j (bs.getD j 0 ^^^ k)).getD j 0 = bs.getD j 0 ^^^ k := by simp [List.getD, h]
  rw [e, UInt8.xor_assoc, UInt8.xor_self, UInt8.xor_zero]
  simp [List.getD, h]
theorem bytes_at {B : Nat} {w : World} {ao : Option Addr} {m : Nat} {bs : List UInt8} (h : Sl B w 1 ao m (encs bs)) (hm : 0 < m) :
    ∃ b o, ao = some ⟨b, o, none⟩ ∧ ∀ n, n < m → w.cell? ⟨b, o + n, none⟩ = some (.int .u8 ((bs.getD n 0).toNat : Int)) := by
  have hl : bs.length = m := by have := h.len; simpa [encs] using this
  cases ao with
  | none => exact absurd (h.non rfl) (by omega)
  | some ad =>
    have hc : ∀ n, n < m → w.cell? (ad.add n) = some (.int .u8 ((bs.getD n 0).toNat : Int)) := by
      intro n hn
      have hn' : n < bs.length := by omega
      refine h.cel ad rfl n _ ?_
      simp [encs, encB, hn', List.getD]
    obtain ⟨b, o, spot⟩ := ad
    have h0 := hc 0 hm
    have hspot : spot = none := by simpa [Addr.add] using World.cell?_spot h0
    subst hspot
    refine ⟨b, o, rfl, fun n hn => ?_⟩
    have h1 := hc n hn
    have e : (⟨b, o, none⟩ : Addr).add n = ⟨b, o + n, none⟩ := by unfold Addr.add; split <;> simp_all
    rw [e] at h1
    exact h1
theorem drewN_add (w : World) (a b : Nat) : (w.drewN a).drewN b = w.drewN (a + b) := by simp [World.drewN, Nat.add_assoc]
theorem below_drewN {B : Nat} {w w' : World} (h : Below B w w') (n : Nat) : Below B w (w'.drewN n) := ⟨h.os, h.tape, h.output, h.size, h.block⟩
theorem own : ownKnob Try.prog.godebug = none := by kernel_rfl
theorem laidOut : laidOutB Try.prog = true := by kernel_rfl

/-- WHAT THE WALK IS TOLD OF A SLICE OF INTEGERS THAT CAME IN: it is nil; or it leads to a row of 'cap' cells, the numbers 'zs' (the first 'len' are its elements, the rest its spare room), each fitting its kind. -/
def IsRow (k : IntKind) (w : World) (a : Option Addr) (len cap : Nat) (zs : List Int) : Prop :=
  (a = none ∧ len = 0 ∧ cap = 0 ∧ zs = []) ∨
  ∃ x, a = some x ∧ len ≤ cap ∧ cap ≤ maxLen ∧ zs.length = cap ∧ (∀ i, i < zs.length → w.cell? (x.add i) = some (.int k (zs.getD i 0))) ∧ ∀ n ∈ zs, (Lit.int k n).wf = true

set_option maxRecDepth 100000 in
set_option maxHeartbeats 1600000 in
theorem walk (a0 : Option Addr) (len0 cap0 : Nat) (z0 : List Int) (a1 : Int) (a2 : Int) (w : World) (w0 : IsRow .u8 w a0 len0 cap0 z0) (w1 : (Lit.int .u8 a1).wf = true) (w2 : (Lit.int .u8 a2).wf = true) :
    Calls Try.prog 6 #[.slice a0 len0 cap0, .int .u8 a1, .int .u8 a2] w fun e w' => e = .returned (.bool true) ∧ Below w.heap.size w w' := by
  obtain ⟨bs, hbl, hsl, hc0⟩ := row_bytes w0
  obtain ⟨t, rfl⟩ := u8_of w1
  obtain ⟨k, rfl⟩ := u8_of w2
  clear w0 w1 w2
  subst hbl
  have HS := Lib.hid hsl
  have HC := Lib.hid hc0
  clear hsl hc0
  have ht2 : (t.toNat : Int) ≤ 255 := by have := t.toNat_lt; omega
  have hk2 : (k.toNat : Int) ≤ 255 := by have := k.toNat_lt; omega
  by_cases h0 : bs.length = 0
  · have hz : bs.length = 0 := h0
    have he0 : ((bs.length : Int) == 0) = true := by simp [hz]
    clear hz h0
    go_enter Try.func6, Try.ntmps6
    go_wp2_with fail
    refine (awake_any w).mono ?_
    rintro e w1 ⟨rfl, hb1⟩
    have B1 := Lib.hid hb1
    clear hb1
    go_wp2_with fail
    refine (new_any w1 w.heap.size B1.out.size).mono ?_
    rintro e w2 ⟨rfl, hq2, hb2⟩
    have B2 := Lib.hid (B1.out.trans (hb2.mono B1.out.size))
    clear hq2 hb2
    go_wp2
    go_ret
    exact ⟨rfl, B2.out⟩
  · have hne : ((bs.length : Int) == 0) = false := by rw [beq_eq_false_iff_ne]; omega
    by_cases hbig : 1000 < bs.length
    · go_enter Try.func6, Try.ntmps6
      go_wp2_with fail
      refine (awake_any w).mono ?_
      rintro e w1 ⟨rfl, hb1⟩
      have B1 := Lib.hid hb1
      clear hb1
      go_wp2_with fail
      refine (new_any w1 w.heap.size B1.out.size).mono ?_
      rintro e w2 ⟨rfl, hq2, hb2⟩
      have B2 := Lib.hid (B1.out.trans (hb2.mono B1.out.size))
      clear hq2 hb2
      go_wp2
      go_ret
      exact ⟨rfl, B2.out⟩
    · have hle : bs.length ≤ 1000 := by omega
      have hlp : 0 < bs.length := by omega
      clear hbig h0
      have hpos : 0 ≤ (t.toNat : Int) % (bs.length : Int) := Int.emod_nonneg _ (by omega)
      have hlt : (t.toNat : Int) % (bs.length : Int) < (bs.length : Int) := Int.emod_lt_of_pos _ (by omega)
      obtain ⟨j, hj⟩ := Int.eq_ofNat_of_zero_le hpos
      have hjl : j < bs.length := by omega
      clear hpos hlt
      go_enter Try.func6, Try.ntmps6
      go_wp2_with fail
      refine (awake_any w).mono ?_
      rintro e w1 ⟨rfl, hb1⟩
      have B1 := Lib.hid hb1
      clear hb1
      go_wp2_with fail
      refine (new_any w1 w.heap.size B1.out.size).mono ?_
      rintro e w2 ⟨rfl, hq2, hb2⟩
      have B2 := Lib.hid (B1.out.trans (hb2.mono B1.out.size))
      have Q2 := Lib.hid hq2
      clear hq2 hb2
      generalize w1.heap.size = q at Q2 ⊢
      go_wp2_with fail
      refine (send_ok Q2.out 2 a0 bs.length cap0 bs (.inr ⟨rfl, rfl⟩) (HS.out.below B2.out) HC.out B2.out.size (by omega) (by simp)).mono ?_
      rintro e w3 ⟨rfl, v3, y1, hq3, hk3, hs3⟩
      have Q3 : Hid (Que w.heap.size w3 q v3 [⟨2, bs, y1⟩]) := hq3
      have B3 := Lib.hid (B2.out.trans (Q2.out.to hk3))
      clear hq3 hk3 hs3
      go_wp2_with fail
      refine (copy_api Q3.out 0 0 rfl 2 bs y1 rfl (by simp)).mono ?_
      rintro e w4 ⟨rfl, v4, y2, hq4, hk4, hs4⟩
      have Q4 : Hid (Que w.heap.size w4 q v4 [⟨2, bs, y1⟩, ⟨2, bs, y2⟩]) := hq4
      have B4 := Lib.hid (B3.out.trans (Q3.out.to hk4))
      clear hq4 hk4 hs4
      go_wp2_with fail
      refine (bend_api Q4.out 0 0 rfl _ j rfl _ k rfl ⟨2, bs, y1⟩ rfl hjl).mono ?_
      rintro e w5 ⟨rfl, hq5, hk5⟩
      have Q5 : Hid (Que w.heap.size w5 q v4 [⟨2, bs.set j (bs.getD j 0 ^^^ k), y1⟩, ⟨2, bs, y2⟩]) := hq5
      have B5 := Lib.hid (B4.out.trans (Q4.out.to hk5))
      clear hq5 hk5
      go_wp2_with fail
      refine (bend_api Q5.out 1 1 rfl _ j rfl _ k rfl ⟨2, bs, y2⟩ rfl hjl).mono ?_
      rintro e w6 ⟨rfl, hq6, hk6⟩
      have Q6 : Hid (Que w.heap.size w6 q v4 [⟨2, bs.set j (bs.getD j 0 ^^^ k), y1⟩, ⟨2, bs.set j (bs.getD j 0 ^^^ k), y2⟩]) := hq6
      have B6 := Lib.hid (B5.out.trans (Q5.out.to hk6))
      clear hq6 hk6
      go_wp2_with fail
      refine (bend_api Q6.out 1 1 rfl _ j rfl _ k rfl ⟨2, bs.set j (bs.getD j 0 ^^^ k), y2⟩ rfl (by rw [List.length_set]; exact hjl)).mono ?_
      rintro e w7 ⟨rfl, hq7, hk7⟩
      have Q7 : Hid (Que w.heap.size w7 q v4 [⟨2, bs.set j (bs.getD j 0 ^^^ k), y1⟩, ⟨2, bs, y2⟩]) := by
        have e7 : (bs.set j (bs.getD j 0 ^^^ k)).set j ((bs.set j (bs.getD j 0 ^^^ k)).getD j 0 ^^^ k) = bs := twice bs j k hjl
        have h7 : Que w.heap.size w7 q v4 [⟨2, bs.set j (bs.getD j 0 ^^^ k), y1⟩, ⟨2, (bs.set j (bs.getD j 0 ^^^ k)).set j ((bs.set j (bs.getD j 0 ^^^ k)).getD j 0 ^^^ k), y2⟩] := hq7
        rw [e7] at h7
        exact h7
      have B7 := Lib.hid (B6.out.trans (Q6.out.to hk7))
      clear hq7 hk7
      go_wp2_with fail
      refine (take_api Q7.out 0 0 rfl 2 (bs.set j (bs.getD j 0 ^^^ k)) y1 rfl).mono ?_
      rintro e w8 ⟨rfl, v8, hq8, hk8, hs8, hy8, hf8⟩
      obtain ⟨ap, cp, rfl, hslp, _, _⟩ := sl_of_owns hy8
      have Q8 : Hid (Que w.heap.size w8 q v8 [⟨2, bs, y2⟩]) := hq8
      have B8 := Lib.hid (B7.out.trans (Q7.out.to hk8))
      have HY8 := Lib.hid hy8
      have HF8 : Hid (∀ g, (Value.slice ap (bs.set j (bs.getD j 0 ^^^ k)).length cp).ownBlock = some g → g ∉ q :: blks v8 [⟨2, bs, y2⟩]) := hf8
      clear hq8 hk8 hs8 hy8 hf8 hslp
      go_wp2_with fail
      refine (take_api Q8.out 0 0 rfl 2 bs y2 rfl).mono ?_
      rintro e w9 ⟨rfl, v9, hq9, hk9, hs9, hy9, hf9⟩
      obtain ⟨a9, c9, rfl, hsl9, _, _⟩ := sl_of_owns hy9
      have Q9 : Hid (Que w.heap.size w9 q v9 []) := hq9
      have B9 := Lib.hid (B8.out.trans (Q8.out.to hk9))
      have hyp : w9.ownsRow w.heap.size 5 1 (.slice ap (bs.set j (bs.getD j 0 ^^^ k)).length cp) (bs.set j (bs.getD j 0 ^^^ k)).length (encs (bs.set j (bs.getD j 0 ^^^ k))) :=
        owns_kept HY8.out fun g e => hk9.block g (HY8.out.lt g e).2 (HF8.out g e)
      obtain ⟨ap', cp', ep, hslp, _, _⟩ := sl_of_owns hyp
      injection ep with ep1 ep2 ep3
      subst ep1 ep3
      rw [List.length_set] at hslp
      have hcq := conv_sl hsl9 c9
      have hcb := conv_sl (HS.out.below B9.out) cap0
      have HPL := Lib.hid hslp
      clear hq9 hk9 hs9 hy9 hf9 hsl9 hyp ep2 hslp HY8 HF8
      obtain ⟨bp, op, rfl, hpc⟩ := bytes_at HPL.out hlp
      obtain ⟨bb, ob, rfl, hbc⟩ := bytes_at (HS.out.below B9.out) hlp
      have HPC := Lib.hid hpc
      have HBC := Lib.hid hbc
      clear hpc hbc
      go_wp2
      go_loopw [20] (fun i wr => ∃ n : Nat, n ≤ bs.length ∧ i = .int .i64 n ∧ Hid (∃ nq, wr = w9.drewN nq)) (fun i _ => bs.length - (intOf i).toNat)
      case atStart => exact ⟨0, Nat.zero_le _, rfl, ⟨0, rfl⟩⟩
      case round =>
        obtain ⟨n, hn, rfl, HW⟩ := hrel
        by_cases hlt : n < bs.length
        · have hpc : wr.cell? ⟨bp, op + n, none⟩ = some (.int .u8 (((bs.set j (bs.getD j 0 ^^^ k)).getD n 0).toNat : Int)) := by
            obtain ⟨nq, e⟩ := HW.out
            rw [e]
            exact HPC.out n hlt
          have hbc : wr.cell? ⟨bb, ob + n, none⟩ = some (.int .u8 ((bs.getD n 0).toNat : Int)) := by
            obtain ⟨nq, e⟩ := HW.out
            rw [e]
            exact HBC.out n hlt
          by_cases hnj : n = j
          · have e1 : ((n : Int) == (j : Int)) = true := by rw [hnj]; simp
            have e2 : ((n : Int) != (j : Int)) = false := by rw [hnj]; simp
            have ep : Value.int .u8 (((bs.set j (bs.getD j 0 ^^^ k)).getD n 0).toNat : Int) = .int .u8 (bits .xor .u8 ((bs.getD n 0).toNat : Int) (k.toNat : Int)) := by
              rw [xor_byte, hnj]
              unfold encB
              simp [List.getD, hjl]
            rw [ep] at hpc
            clear ep hnj
            generalize bs.getD n 0 = x at hpc hbc
            have hx2 : (x.toNat : Int) ≤ 255 := by have := x.toNat_lt; omega
            go_wp2
            go_quiet (fail)
            go_wp2
            go_roundw
            case rel => exact ⟨n + 1, by omega, by go_num, by obtain ⟨nr, e⟩ := HW.out; exact ⟨nr + nq, by rw [e]; exact drewN_add _ _ _⟩⟩
            case measure => simp [intOf]; omega
          · have e1 : ((n : Int) == (j : Int)) = false := by rw [beq_eq_false_iff_ne]; omega
            have e2 : ((n : Int) != (j : Int)) = true := by rw [bne_iff_ne]; omega
            have ep : (bs.set j (bs.getD j 0 ^^^ k)).getD n 0 = bs.getD n 0 := by
              have hjn : ¬ j = n := fun h => hnj h.symm
              simp [List.getD, hjn]
            rw [ep] at hpc
            clear ep hnj
            generalize bs.getD n 0 = x at hpc hbc
            have hx2 : (x.toNat : Int) ≤ 255 := by have := x.toNat_lt; omega
            go_wp2
            go_quiet (fail)
            go_wp2
            go_roundw
            case rel => exact ⟨n + 1, by omega, by go_num, by obtain ⟨nr, e⟩ := HW.out; exact ⟨nr + nq, by rw [e]; exact drewN_add _ _ _⟩⟩
            case measure => simp [intOf]; omega
        · have hge : bs.length ≤ n := by omega
          have QW : Hid (Que w.heap.size wr q v9 []) := by obtain ⟨nq, e⟩ := HW.out; rw [e]; exact Q9.out.drewN nq
          have BW : Hid (Below w.heap.size w wr) := by obtain ⟨nq, e⟩ := HW.out; rw [e]; exact below_drewN B9.out nq
          go_wp2_with fail
          refine (bend_no QW.out 0 0 1 rfl).mono ?_
          rintro e w' ⟨rfl, rfl⟩
          go_wp2
          go_ret
          exact ⟨rfl, BW.out⟩

set_option maxRecDepth 100000 in
theorem lifted (os : Os) (started : os.Started) (H : Type) (enc : TypeId × Value → H) :
    ReturnsInHanded {} Try.checked os 6 .any (Rows.netBendsSpec.pre6 enc Try.prog Try.f6 Rows.netBendsRow.domain false) (Rows.netBendsSpec.post enc Try.prog Try.f6 false true false false) := by
  refine returnsInHanded_of_change (C := Try.checked) own started (by kernel_rfl) Try.func6
    (ChangeSpec.witness6 (enc := enc) (C := Try.checked) false ⟨#[], #[.slice none 0 0, .int .u8 0, .int .u8 0], []⟩ 8 (by kernel_rfl) (by kernel_rfl) (by kernel_rfl) (by kernel_rfl)) ?_
  intro W base args ds gs before hval0 hW hcnd _
  have hval : ∀ (j : Nat) t v, Try.f6.params[j]? = some t → args[j]? = some v → Value.okWide Try.prog W .any base t v := hval0
  have hW' := hW
  obtain ⟨p, q, hA0, hV, rfl, hfz, hnd⟩ := hW
  have hA : DataW.TrodAll enc Try.prog W 0 (fun _ => true) true Try.f6.params.toList args.toList ds p := hA0
  rw [Try.params6] at hA hval
  obtain ⟨v0, vs0, d0, ds0, p0, q0, hargs, rfl, rfl, h0, r0⟩ := trodAll_cons hA
  obtain ⟨v1, vs1, d1, ds1, p1, q1, rfl, rfl, rfl, h1, r1⟩ := trodAll_cons r0
  obtain ⟨v2, vs2, d2, ds2, p2, q2, rfl, rfl, rfl, h2, r2⟩ := trodAll_cons r1
  obtain ⟨rfl, rfl, rfl⟩ := trodAll_nil r2
  obtain rfl : args = #[v0, v1, v2] := by cases args; simp_all
  obtain ⟨rfl, rfl⟩ := trodVars_none hV
  obtain ⟨a0, len0, cap0, rfl⟩ := okWide_slice Try.underlying23 (hval 0 23 v0 rfl rfl)
  have k0 := h0
  have lt0 : ∀ x ∈ p0, x.block < W.heap.size := by obtain ⟨m, hm⟩ := k0; exact DataW.trod_lt m _ _ _ hm
  obtain ⟨z0, w0⟩ : ∃ zs, IsRow .u8 W a0 len0 cap0 zs := by
    obtain ⟨fuel, hf⟩ := h0
    rcases open_ints Try.underlying23 Try.underlying5 (by kernel_rfl) hf with ⟨hcs, _⟩ | ⟨x, l, c, zs, hcs, _, hl, hm, hz, _, hcell, hwz⟩
    · simp [Value.cells] at hcs
      obtain ⟨rfl, rfl, rfl⟩ := hcs
      exact ⟨[], .inl ⟨rfl, rfl, rfl, rfl⟩⟩
    · simp [Value.cells] at hcs
      obtain ⟨rfl, rfl, rfl⟩ := hcs
      exact ⟨zs, .inr ⟨_, rfl, hl, hm, by simpa using hz, hcell, hwz⟩⟩
  obtain ⟨a1, rfl, rfl, rfl, w1⟩ := open_int Try.underlying5 (hval 1 5 v1 rfl rfl) h1
  obtain ⟨a2, rfl, rfl, rfl, w2⟩ := open_int Try.underlying5 (hval 2 5 v2 rfl rfl) h2
  clear hA0 hval0
  refine (walk a0 len0 cap0 z0 a1 a2 W w0 w1 w2).mono fun e W' ⟨he, bel⟩ => ?_
  subst he
  exact ⟨_, rfl, _, _, _, [], _, [], hW', trodAll_mk1 (shut_bool Try.underlying4 _), (trodAll_cons_mk (Below.trod laidOut (by kernel_rfl) (of_decide_eq_true (by kernel_rfl)) k0 bel lt0) (trodAll_cons_mk (shut_int Try.underlying5 w1) (trodAll_cons_mk (shut_int Try.underlying5 w2) trodAll_mk0))), rfl, bel.frame _, fun h => by cases h⟩

theorem over : Rows.netBendsRow.holds Try.pinned (OpenSpec.ofChange Rows.netBendsSpec) :=
  OpenClaim.holds_of_wide 6 Try.f6 rfl rfl rfl rfl rfl rfl rfl ⟨rfl, rfl, rfl, rfl, rfl⟩ rfl rfl rfl rfl rfl (by kernel_rfl) Try.func6 (by kernel_rfl)
    (of_decide_eq_true (by kernel_rfl)) (by unfold Func.isWrapper; first | (rw [if_pos (by decide +kernel)]; kernel_rfl) | (rw [if_neg (by decide +kernel)]; exact ⟨rfl, rfl⟩))
    (fun os started H enc _ => lifted os started H enc)

end Go.Proofs.Ytgbcjbbkcoaohaa.netBends
namespace Go.Proofs.Ytgbcjbbkcoaohaa
theorem netBends_holds : Rows.NetBendsSaid := netBends.over
#print axioms netBends_holds
end Go.Proofs.Ytgbcjbbkcoaohaa
