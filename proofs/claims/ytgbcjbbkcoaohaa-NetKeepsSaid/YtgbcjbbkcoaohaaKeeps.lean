/- For every row of messages and every order of taking NetKeeps returns true: what is taken is what was sent, though sender and taker change their own bytes; no condition. -/
import Derived.Test.YtgbcjbbkcoaohaaRows
import Derived.WalkKit
import Derived.ProofKit
import Derived.OpenShut
import Derived.ShutString
import Derived.ChangeOld
import Derived.Below
import Derived.Deep.Matrix
import Derived.Test.YtgbcjbbkcoaohaaKeep
namespace Go.Proofs.Ytgbcjbbkcoaohaa.netKeeps
open Go.ChangeShapes Go.WideShapes Go.ChangeAt Go.RowKit
open Go.ChangeMaps (open_string shut_string)
set_option linter.unusedVariables false

def IsRows (w : World) (a : Option Addr) (len cap : Nat) : Prop :=
  (a = none ∧ len = 0 ∧ cap = 0) ∨
  ∃ (x : Addr) (A : Nat → Option Addr) (L C : Nat → Nat) (Z : Nat → List Int), a = some x ∧ len ≤ cap ∧ cap ≤ maxLen ∧ ∀ r, r < cap → w.cell? (x.add r) = some (.slice (A r) (L r) (C r)) ∧ L r ≤ C r ∧ C r ≤ maxLen ∧ (Z r).length = C r ∧
    (∀ n ∈ Z r, (Lit.int .u8 n).wf = true) ∧ (A r = none → C r = 0) ∧ ∀ a', A r = some a' → ∀ c, c < C r → w.cell? (a'.add c) = some (.int .u8 ((Z r).getD c 0))
theorem rows_at {w : World} {a : Option Addr} {len cap : Nat} (h : IsRows w a len cap) (r : Nat) (hr : r < len) :
    ∃ b o am ml mc bs, a = some ⟨b, o, none⟩ ∧ b < w.heap.size ∧ w.cell? ⟨b, o + r, none⟩ = some (.slice am ml mc) ∧ ml ≤ maxLen ∧ bs.length = ml ∧ Sl w.heap.size w 1 am ml (encs bs) ∧ (am = none → mc = 0) := by
  rcases h with ⟨rfl, rfl, rfl⟩ | ⟨x, A, L, C, Z, rfl, hl, hm, hx⟩
  · omega
  · obtain ⟨h1, h2, h3, h4, h5, h6, h7⟩ := hx r (by omega)
    obtain ⟨bs, hb, hsl, hc⟩ := row_bytes (w := w) (a := A r) (len := L r) (cap := C r) (zs := Z r) (by
      cases e : A r with
      | none =>
        have hC := h6 e
        exact .inl ⟨rfl, by omega, hC, List.length_eq_zero_iff.1 (by omega)⟩
      | some a' => exact .inr ⟨a', rfl, h2, h3, h4, fun i hi => h7 a' e i (by omega), h5⟩)
    obtain ⟨b, o, spot⟩ := x
    have hspot : spot = none := by
      have h0 := (hx 0 (by omega)).1
      rw [add_zero'] at h0
      exact World.cell?_spot h0
    subst hspot
    have e : (⟨b, o, none⟩ : Addr).add r = ⟨b, o + r, none⟩ := by unfold Addr.add; split <;> simp_all
    rw [e] at h1
    exact ⟨b, o, A r, L r, C r, bs, rfl, World.block_lt_of_cell? w _ h1, h1, by omega, hb, hsl, hc⟩
theorem u8_next (x : UInt8) : ∃ y : UInt8, Value.int .u8 (((x.toNat : Int) + 1) % 256) = encB y := by
  refine ⟨x + 1, ?_⟩
  unfold encB
  rw [UInt8.toNat_add]
  simp
theorem own : ownKnob Try.prog.godebug = none := by kernel_rfl
theorem laidOut : laidOutB Try.prog = true := by kernel_rfl
def IsRow (k : IntKind) (w : World) (a : Option Addr) (len cap : Nat) (zs : List Int) : Prop :=
  (a = none ∧ len = 0 ∧ cap = 0 ∧ zs = []) ∨
  ∃ x, a = some x ∧ len ≤ cap ∧ cap ≤ maxLen ∧ zs.length = cap ∧ (∀ i, i < zs.length → w.cell? (x.add i) = some (.int k (zs.getD i 0))) ∧ ∀ n ∈ zs, (Lit.int k n).wf = true

set_option maxRecDepth 100000 in
set_option maxHeartbeats 3200000 in
theorem walk (a0 : Option Addr) (len0 cap0 : Nat) (a1 : Option Addr) (len1 cap1 : Nat) (z1 : List Int) (w : World) (w0 : IsRows w a0 len0 cap0) (w1 : IsRow .u8 w a1 len1 cap1 z1) :
    Calls Try.prog 3 #[.slice a0 len0 cap0, .slice a1 len1 cap1] w fun e w' => e = .returned (.bool true) ∧ Below w.heap.size w w' := by
  obtain ⟨os, hol, hosl, hoc⟩ := row_bytes w1
  clear w1
  have hm0 : len0 ≤ 9223372036854775807 := by
    rcases w0 with ⟨_, rfl, _⟩ | ⟨_, _, _, _, _, _, hl, hm, _⟩
    · omega
    · unfold maxLen at hm; omega
  have HR := Lib.hid w0
  have HO := Lib.hid hosl
  clear w0 hosl hoc
  subst hol
  by_cases hb0 : 32 < len0
  · go_enter Try.func3, Try.ntmps3
    go_wp2_with fail
    refine (awake_any w).mono ?_
    rintro e w1 ⟨rfl, hb1⟩
    have B1 := Lib.hid hb1
    clear hb1
    go_wp2
    go_ret
    exact ⟨rfl, B1.out⟩
  · by_cases hb1 : 100 < os.length
    · go_enter Try.func3, Try.ntmps3
      go_wp2_with fail
      refine (awake_any w).mono ?_
      rintro e w1 ⟨rfl, hb1⟩
      have B1 := Lib.hid hb1
      clear hb1
      go_wp2
      go_ret
      exact ⟨rfl, B1.out⟩
    · have hl0 : len0 ≤ 32 := by omega
      have hl1 : os.length ≤ 100 := by omega
      clear hb0 hb1 hm0
      go_enter Try.func3, Try.ntmps3
      go_wp2_with fail
      refine (awake_any w).mono ?_
      rintro e w1 ⟨rfl, hb1⟩
      have B1 := Lib.hid hb1
      clear hb1
      go_wp2_with fail
      refine (new_any w1 w.heap.size B1.out.size).mono ?_
      rintro e w2 ⟨rfl, hq2, hb2⟩
      have F2 : Hid (Beside w.heap.size w w2 w1.heap.size (.slice none 0 0) [] (.slice none 0 0) []) := ⟨hq2, World.ownsRow_nil _ _ _ _, (fun g e => by cases e), B1.out.trans (hb2.mono B1.out.size), Nat.le_trans B1.out.size hb2.size⟩
      clear hq2 hb2
      generalize w1.heap.size = q at F2 ⊢
      go_wp2_with fail
      go_loopw [6, 7] (fun l i wr => ∃ (n : Nat) (v : Value) (L : List Msg) (la : Option Addr) (lc : Nat), n ≤ len0 ∧ i = .int .i64 n ∧ l = .slice la n lc ∧ Hid (L.length = n ∧ Beside w.heap.size w wr q v L (.slice la n lc) (L.map text))) (fun _ i _ => len0 - (intOf i).toNat)
      case atStart => exact ⟨0, _, [], none, 0, Nat.zero_le _, rfl, rfl, rfl, F2.out⟩
      case round =>
        obtain ⟨n, v, L, la, lc, hn, rfl, rfl, HF⟩ := hrel
        by_cases hlt : n < len0
        · obtain ⟨b, o, am, ml, mc, bs, hab, hbw, hcell, hml, hbl, hsl, hc0⟩ := rows_at HR.out n hlt
          subst hab hbl
          unfold maxLen at hml
          have hcr : wr.cell? ⟨b, o + n, none⟩ = some (.slice am bs.length mc) := (HF.out.2.bel.cell (p := ⟨b, o + n, none⟩) hbw).trans hcell
          have HS := Lib.hid hsl
          have HC := Lib.hid hc0
          have HCELL := Lib.hid hcell
          clear hsl hc0 hcell
          by_cases hbig : 1000 < bs.length
          · go_wp2
            go_ret
            exact ⟨rfl, HF.out.2.bel⟩
          · have hsm : bs.length ≤ 1000 := by omega
            clear hbig
            obtain ⟨ac, cc, w4, hrun, hown, hb4⟩ := copied wr am bs.length mc bs (HS.out.below HF.out.2.bel) HC.out (by omega) HF.out.2.lo
            have HRUN := Lib.hid hrun
            have HOWN := Lib.hid hown
            have HB4 := Lib.hid hb4
            have hbr : b < wr.heap.size := Nat.lt_of_lt_of_le hbw HF.out.2.bel.size
            clear hrun hown hb4 hml
            go_wp2_with (first | (at_builtin; refine wpList_append_run rfl _ _ 23 rfl (.slice (some ⟨wr.heap.size, 0, none⟩) 0 0) (.slice am bs.length mc) (.slice ac bs.length cc) w4 rfl rfl HRUN.out ?_) | fail)
            obtain ⟨_, _, heq, hslc, hcc, _⟩ := sl_of_owns HOWN.out
            injection heq with he1 he2 he3
            subst he1 he3
            refine (send_ok (HF.out.2.que.below HB4.out) 1 ac bs.length cc bs (.inl rfl) hslc hcc (Nat.le_refl _) (by omega) (by rw [HF.out.1]; omega)).mono ?_
            clear he2 hslc hcc
            rintro e w5 ⟨rfl, v5, y5, hq5, hk5, hs5⟩
            have H5 := Lib.hid (beside_sent HF.out.2 HB4.out HOWN.out hq5 hk5 hs5)
            have HN : Hid (L.length = n) := HF.out.1
            clear hq5 hk5 hs5 HOWN HB4 HRUN hcr HF
            go_wp2_with fail
            go_loopw [9] (fun k wi => ∃ (j : Nat) (cs : List UInt8), j ≤ bs.length ∧ k = .int .i64 j ∧ Hid (Beside w.heap.size w wi q v5 (L ++ [⟨1, bs, y5⟩]) (.slice la n lc) (L.map text) ∧ Apart w.heap.size wi q v5 (L ++ [⟨1, bs, y5⟩]) (.slice la n lc) ac bs.length cc cs)) (fun k _ => bs.length - (intOf k).toNat)
            case atStart => exact ⟨0, bs, Nat.zero_le _, rfl, H5.out⟩
            case round =>
              obtain ⟨j, cs, hj, rfl, HA⟩ := hrel
              by_cases hjl : j < bs.length
              · obtain ⟨gc, rfl, hca, hfa⟩ := apart_form HA.out.2 (by omega)
                have hcj := hca j hjl
                have hfj := hfa j
                generalize cs.getD j 0 = x at hcj
                have hx2 : (x.toNat : Int) ≤ 255 := by have := x.toNat_lt; omega
                obtain ⟨x', hx'⟩ := u8_next x
                have HX := Lib.hid hx'
                clear hx' hca hfa
                go_wp2
                go_roundw
                case rel => exact ⟨j + 1, cs.set j x', by omega, by go_num, by rw [HX.out]; exact apart_set HA.out.1 HA.out.2 j x'⟩
                case measure => simp [intOf]; omega
              · have hge : bs.length ≤ j := by omega
                have hcr : wr.cell? ⟨b, o + n, none⟩ = some (.slice am bs.length mc) := (HA.out.1.bel.cell (p := ⟨b, o + n, none⟩) hbw).trans HCELL.out
                have hcv := conv_sl (HS.out.below HA.out.1.bel) mc
                have hp := text_put HA.out.1 ⟨bs.toArray⟩ (by rw [List.length_map, HN.out]; omega)
                rw [List.length_map, HN.out] at hp
                obtain ⟨a6, c6, w6, hrun6, hb6⟩ := hp
                have HRUN6 := Lib.hid hrun6
                have HB6 : Hid ((L ++ [(⟨1, bs, y5⟩ : Msg)]).length = n + 1 ∧ Beside w.heap.size w w6 q v5 (L ++ [(⟨1, bs, y5⟩ : Msg)]) (.slice a6 (n + 1) c6) ((L ++ [(⟨1, bs, y5⟩ : Msg)]).map text)) := by
                  refine ⟨by rw [List.length_append, HN.out]; rfl, ?_⟩
                  rw [List.map_append]
                  exact hb6
                clear hrun6 hb6 HA H5
                go_wp2_with (first | (at_builtin; refine wpList_append_run rfl _ _ 27 rfl (.slice la n lc) (.slice (some ⟨wr.heap.size, 0, none⟩) 1 1) (.slice a6 (n + 1) c6) w6 rfl rfl HRUN6.out ?_) | fail)
                go_roundw
                case rel => exact ⟨n + 1, _, _, _, _, by omega, by go_num, rfl, HB6.out⟩
                case measure => simp [intOf]; omega
        · have hge : len0 ≤ n := by omega
          have HB := Lib.hid HF.out
          clear HF
          go_wp2_with fail
          go_loopw [6, 10] (fun l i wi => ∃ (k N : Nat) (v : Value) (L : List Msg) (la : Option Addr) (lc : Nat), k ≤ os.length ∧ i = .int .i64 k ∧ N ≤ 32 ∧ l = .slice la N lc ∧ Hid (L.length = N ∧ Beside w.heap.size w wi q v L (.slice la N lc) (L.map text))) (fun _ i _ => os.length - (intOf i).toNat)
          case atStart => exact ⟨0, n, _, _, _, _, Nat.zero_le _, rfl, by omega, rfl, HB.out⟩
          case round =>
            clear HB
            obtain ⟨k, N, v3, L3, l3, c3, hk, rfl, hN, rfl, H3⟩ := hrel
            by_cases hko : k < os.length
            · by_cases hN0 : 0 < N
              · obtain ⟨bo, oo, rfl, hoc⟩ := bytes_at (HO.out.below H3.out.2.bel) (by omega)
                have hoc1 := hoc k hko
                clear hoc
                generalize os.getD k 0 = x at hoc1
                have hx2 : (x.toNat : Int) ≤ 255 := by have := x.toNat_lt; omega
                have hpos : 0 ≤ (x.toNat : Int) % (N : Int) := Int.emod_nonneg _ (by omega)
                have hlt : (x.toNat : Int) % (N : Int) < (N : Int) := Int.emod_lt_of_pos _ (by omega)
                obtain ⟨t, ht⟩ := Int.eq_ofNat_of_zero_le hpos
                have htN : t < N := by omega
                clear hpos hlt
                obtain ⟨m, hm⟩ : ∃ m, L3[t]? = some m := ⟨L3[t]'(by rw [H3.out.1]; exact htN), by rw [List.getElem?_eq_getElem]⟩
                obtain ⟨kd, bs, y⟩ := m
                have HMsg := Lib.hid hm
                clear hm
                go_wp2_with fail
                with_reducible refine (take_api H3.out.2.que _ t rfl kd bs y HMsg.out).mono ?_
                rintro e w4 ⟨rfl, v4, hq4, hk4, hs4, hy4, hf4⟩
                obtain ⟨ay, cy, rfl, hsl4, _, _⟩ := sl_of_owns hy4
                obtain ⟨hb4, ha4⟩ := beside_took H3.out.2 HMsg.out hq4 hk4 hs4 hy4 hf4
                have H4 := Lib.hid (And.intro hb4 (ha4 ay cy rfl))
                have hcv : ∀ nq, (convert 23 9 (.slice ay bs.length cy)).run Try.prog (w4.drewN nq) = .ok (.string ⟨bs.toArray⟩) (w4.drewN nq) := fun nq => conv_sl (hsl4.same (w' := w4.drewN nq) fun _ _ => rfl) cy
                obtain ⟨gl, rfl, hlc⟩ : ∃ gl, l3 = some ⟨gl, 0, none⟩ ∧ w4.cell? ⟨gl, t, none⟩ = some (.string ⟨bs.toArray⟩) := by
                  have hr := hb4.row
                  rw [List.length_map, H3.out.1] at hr
                  rcases hr.2 with ⟨h1, h2⟩ | ⟨g', cap, cur, h1, _⟩
                  · omega
                  · have : l3 = some ⟨g', 0, none⟩ := by injection h1
                    subst this
                    refine ⟨g', rfl, ?_⟩
                    rw [hr.cellAt t (by omega), List.getElem?_map, HMsg.out]
                    rfl
                have HN3 : Hid (L3.length = N) := H3.out.1
                have hbs : bs.length ≤ 131072 := H3.out.2.que.short _ (List.mem_of_getElem? HMsg.out)
                clear hq4 hk4 hs4 hy4 hf4 hsl4 hb4 ha4 H3
                go_wp2_with fail
                go_quiet (fail)
                clear hcv hlc hoc1
                go_wp2_with fail
                have H5 : Hid (Beside w.heap.size w (w4.drewN nq) q v4 (L3.eraseIdx t) (.slice (some ⟨gl, 0, none⟩) N c3) (L3.map text) ∧ Apart w.heap.size (w4.drewN nq) q v4 (L3.eraseIdx t) (.slice (some ⟨gl, 0, none⟩) N c3) ay bs.length cy bs) :=
                  ⟨H4.out.1.new (below_drewN (Below.refl _ _) nq), H4.out.2.new (below_drewN (Below.refl _ _) nq)⟩
                clear H4
                go_loopw [15] (fun kk wi => ∃ (j : Nat) (cs : List UInt8), j ≤ bs.length ∧ kk = .int .i64 j ∧ Hid (Beside w.heap.size w wi q v4 (L3.eraseIdx t) (.slice (some ⟨gl, 0, none⟩) N c3) (L3.map text) ∧ Apart w.heap.size wi q v4 (L3.eraseIdx t) (.slice (some ⟨gl, 0, none⟩) N c3) ay bs.length cy cs)) (fun kk _ => bs.length - (intOf kk).toNat)
                case atStart => exact ⟨0, bs, Nat.zero_le _, rfl, H5.out⟩
                case round =>
                  clear H5
                  obtain ⟨j, cs, hj, rfl, HA⟩ := hrel
                  by_cases hjl : j < bs.length
                  · obtain ⟨gc, rfl, hca, hfa⟩ := apart_form HA.out.2 (by omega)
                    have hcj := hca j hjl
                    have hfj := hfa j
                    generalize cs.getD j 0 = x' at hcj
                    have hx3 : (x'.toNat : Int) ≤ 255 := by have := x'.toNat_lt; omega
                    obtain ⟨x2, hx'⟩ := u8_next x'
                    have HX := Lib.hid hx'
                    clear hx' hca hfa
                    go_wp2
                    go_roundw
                    case rel => exact ⟨j + 1, cs.set j x2, by omega, by go_num, by rw [HX.out]; exact apart_set HA.out.1 HA.out.2 j x2⟩
                    case measure => simp [intOf]; omega
                  · have hge3 : bs.length ≤ j := by omega
                    obtain ⟨m, hm⟩ : ∃ m, t + 1 + m = N := ⟨N - (t + 1), by omega⟩
                    have hrow := HA.out.1.row
                    rw [List.length_map, HN3.out] at hrow
                    obtain ⟨_, _, heq, hsr, hcr, hNc⟩ := sl_of_owns hrow
                    injection heq with he1 he2 he3
                    subst he1 he3
                    obtain ⟨al, cl, hs1, hp1, hc1⟩ := cut_low elem27 size27 hsr hNc hcr (t : Int) t rfl (by omega)
                    obtain ⟨ah, ch, hs2, hp2, hc2⟩ := cut_high elem27 size27 hsr hNc hcr ((t : Int) + 1) (t + 1) m (by omega) hm
                    have hwt : IntKind.i64.wrap ((t : Int) + 1) = (t : Int) + 1 := by simp [IntKind.wrap, IntKind.bits, IntKind.signed]; omega
                    have hs3 := hs2
                    rw [← hwt] at hs3
                    obtain ⟨i9, hi9, hz9, hz91, hz92⟩ := info_parts info9
                    obtain ⟨a1', c1', W1, a2, c2, W2, r1, r2, o2, b2⟩ := joined (t := 27) Try.underlying27 hi9 hz9 hz91 hz92 rfl (by decide) ((wr.alloc (.cells #[] 9)).drew) (((Below.refl _ _).alloc (Nat.le_refl _) _).drew) (.slice (some ⟨wr.heap.size, 0, none⟩) 0 0)
                      ((World.ownsRow_made wr #[] 0 (Nat.le_refl _) (by decide) rfl).drew) al ah t m cl ch _ _ hp1 hp2 hc1 hc2 (fun u hu => text_one L3 u (List.mem_of_mem_take hu)) (fun u hu => text_one L3 u (List.mem_of_mem_drop hu)) (by omega) (Nat.le_refl _)
                    rw [text_erase] at o2
                    have HEL : Hid ((L3.eraseIdx t).length = t + m) := by
                      show (L3.eraseIdx t).length = t + m
                      rw [List.length_eraseIdx, HN3.out, if_pos htN]
                      omega
                    have R1 := Lib.hid r1
                    have R2 := Lib.hid r2
                    have HNEW : Hid (Beside w.heap.size w W2 q v4 (L3.eraseIdx t) (.slice a2 (t + m) c2) ((L3.eraseIdx t).map text)) := beside_anew HA.out.1 b2 o2 (by rw [List.length_map]; exact HEL.out)
                    have htm : t + m ≤ 32 := by omega
                    clear hrow he2 hsr hcr hp1 hp2 hc1 hc2 r1 r2 o2 b2 hm HA hi9 hz9 hz91 hz92
                    go_wp2_with fail
                    go_region_law (first
                      | (refine step_append_run rfl (.tmp 120) (.tmp 123) 27 rfl (.slice (some ⟨wr.heap.size, 0, none⟩) 0 0) (.slice al t cl) (.slice a1' t c1') W1 (by simp [Act.eval]) (by simp [Act.eval]) R1.out ?_)
                      | (refine step_append_run rfl (.tmp 124) (.tmp 128) 27 rfl (.slice a1' t c1') (.slice ah m ch) (.slice a2 (t + m) c2) W2 (by simp [Act.eval]) (by simp [Act.eval]) R2.out ?_)
                      | fail)
                    go_wp2
                    go_roundw
                    case rel => exact ⟨k + 1, t + m, v4, L3.eraseIdx t, a2, c2, by omega, by go_num, htm, rfl, HEL.out, HNEW.out⟩
                    case measure => simp [intOf]; omega
              · have hN1 : N ≤ 0 := by omega
                clear hN0
                have Q3 := Lib.hid H3.out.2.que
                have B3 := Lib.hid H3.out.2.bel
                have HL3 : Hid ((L3.length : Int) = (N : Int)) := by show (L3.length : Int) = (N : Int); rw [H3.out.1]
                clear H3
                go_wp2_with fail
                with_reducible refine (len_api Q3.out (N : Int) HL3.out).mono ?_
                rintro e w5 ⟨rfl, rfl⟩
                go_wp2
                go_ret
                exact ⟨rfl, B3.out⟩
            · have hge2 : os.length ≤ k := by omega
              clear hko
              rcases Nat.eq_zero_or_pos N with hN0 | hN0
              · have hN1 : N ≤ 0 := by omega
                clear hN0
                have Q3 := Lib.hid H3.out.2.que
                have B3 := Lib.hid H3.out.2.bel
                have HL3 : Hid ((L3.length : Int) = (N : Int)) := by show (L3.length : Int) = (N : Int); rw [H3.out.1]
                clear H3
                go_wp2_with fail
                with_reducible refine (len_api Q3.out (N : Int) HL3.out).mono ?_
                rintro e w5 ⟨rfl, rfl⟩
                go_wp2
                go_ret
                exact ⟨rfl, B3.out⟩
              · skip
                have Q3 := Lib.hid H3.out.2.que
                have B3 := Lib.hid H3.out.2.bel
                have HL3 : Hid ((L3.length : Int) = (N : Int)) := by show (L3.length : Int) = (N : Int); rw [H3.out.1]
                clear H3
                go_wp2_with fail
                with_reducible refine (len_api Q3.out (N : Int) HL3.out).mono ?_
                rintro e w5 ⟨rfl, rfl⟩
                go_wp2
                go_ret
                exact ⟨rfl, B3.out⟩

set_option maxRecDepth 100000 in
theorem lifted (os : Os) (started : os.Started) (H : Type) (enc : TypeId × Value → H) :
    ReturnsInHanded {} Try.checked os 3 .any (Rows.netKeepsSpec.pre6 enc Try.prog Try.f3 Rows.netKeepsRow.domain false) (Rows.netKeepsSpec.post enc Try.prog Try.f3 false true false false) := by
  refine returnsInHanded_of_change (C := Try.checked) own started (by kernel_rfl) Try.func3
    (ChangeSpec.witness6 (enc := enc) (C := Try.checked) false ⟨#[], #[.slice none 0 0, .slice none 0 0], []⟩ 8 (by kernel_rfl) (by kernel_rfl) (by kernel_rfl) (by kernel_rfl)) ?_
  intro W base args ds gs before hval0 hW hcnd _
  have hval : ∀ (j : Nat) t v, Try.f3.params[j]? = some t → args[j]? = some v → Value.okWide Try.prog W .any base t v := hval0
  have hW' := hW
  obtain ⟨p, q, hA0, hV, rfl, hfz, hnd⟩ := hW
  have hA : DataW.TrodAll enc Try.prog W 0 (fun _ => true) true Try.f3.params.toList args.toList ds p := hA0
  rw [Try.params3] at hA hval
  obtain ⟨v0, vs0, d0, ds0, p0, q0, hargs, rfl, rfl, h0, r0⟩ := trodAll_cons hA
  obtain ⟨v1, vs1, d1, ds1, p1, q1, rfl, rfl, rfl, h1, r1⟩ := trodAll_cons r0
  obtain ⟨rfl, rfl, rfl⟩ := trodAll_nil r1
  obtain rfl : args = #[v0, v1] := by cases args; simp_all
  obtain ⟨rfl, rfl⟩ := trodVars_none hV
  obtain ⟨a0, len0, cap0, rfl⟩ := okWide_slice Try.underlying22 (hval 0 22 v0 rfl rfl)
  have k0 := h0
  have lt0 : ∀ x ∈ p0, x.block < W.heap.size := by obtain ⟨m, hm⟩ := k0; exact DataW.trod_lt m _ _ _ hm
  have w0 : IsRows W a0 len0 cap0 := by
    obtain ⟨fuel, hf⟩ := h0
    rcases Deep.open_int_rows Try.underlying22 Try.underlying23 Try.underlying5 (by kernel_rfl) (by kernel_rfl) hf with ⟨hcs, _⟩ | ⟨x, l, c, A, L, C, Z, hcs, _, hl, hm, _, hr⟩
    · simp [Value.cells] at hcs
      obtain ⟨rfl, rfl, rfl⟩ := hcs
      exact .inl ⟨rfl, rfl, rfl⟩
    · simp [Value.cells] at hcs
      obtain ⟨rfl, rfl, rfl⟩ := hcs
      exact .inr ⟨x, A, L, C, Z, rfl, hl, hm, fun r hrc => by
        obtain ⟨h1, h2, h3, h4, h5, h6, h7⟩ := hr r hrc
        exact ⟨h1, h2, h3, h4, h5, h6, fun a' ha => (h7 a' ha).2⟩⟩
  obtain ⟨a1, len1, cap1, rfl⟩ := okWide_slice Try.underlying23 (hval 1 23 v1 rfl rfl)
  have k1 := h1
  have lt1 : ∀ x ∈ p1, x.block < W.heap.size := by obtain ⟨m, hm⟩ := k1; exact DataW.trod_lt m _ _ _ hm
  obtain ⟨z1, w1⟩ : ∃ zs, IsRow .u8 W a1 len1 cap1 zs := by
    obtain ⟨fuel, hf⟩ := h1
    rcases open_ints Try.underlying23 Try.underlying5 (by kernel_rfl) hf with ⟨hcs, _⟩ | ⟨x, l, c, zs, hcs, _, hl, hm, hz, _, hcell, hwz⟩
    · simp [Value.cells] at hcs
      obtain ⟨rfl, rfl, rfl⟩ := hcs
      exact ⟨[], .inl ⟨rfl, rfl, rfl, rfl⟩⟩
    · simp [Value.cells] at hcs
      obtain ⟨rfl, rfl, rfl⟩ := hcs
      exact ⟨zs, .inr ⟨_, rfl, hl, hm, by simpa using hz, hcell, hwz⟩⟩
  clear hA0 hval0
  refine (walk a0 len0 cap0 a1 len1 cap1 z1 W w0 w1).mono fun e W' ⟨he, bel⟩ => ?_
  subst he
  exact ⟨_, rfl, _, _, _, [], _, [], hW', trodAll_mk1 (shut_bool Try.underlying4 _), (trodAll_cons_mk (Below.trod laidOut (by kernel_rfl) (of_decide_eq_true (by kernel_rfl)) k0 bel lt0) (trodAll_cons_mk (Below.trod laidOut (by kernel_rfl) (of_decide_eq_true (by kernel_rfl)) k1 bel lt1) trodAll_mk0)), rfl, bel.frame _, fun h => by cases h⟩

theorem over : Rows.netKeepsRow.holds Try.pinned (OpenSpec.ofChange Rows.netKeepsSpec) :=
  OpenClaim.holds_of_wide 3 Try.f3 rfl rfl rfl rfl rfl rfl rfl ⟨rfl, rfl, rfl, rfl, rfl⟩ rfl rfl rfl rfl rfl (by kernel_rfl) Try.func3 (by kernel_rfl)
    (of_decide_eq_true (by kernel_rfl)) (by unfold Func.isWrapper; first | (rw [if_pos (by decide +kernel)]; kernel_rfl) | (rw [if_neg (by decide +kernel)]; exact ⟨rfl, rfl⟩))
    (fun os started H enc _ => lifted os started H enc)

end Go.Proofs.Ytgbcjbbkcoaohaa.netKeeps

namespace Go.Proofs.Ytgbcjbbkcoaohaa
theorem netKeeps_holds : Rows.NetKeepsSaid := netKeeps.over
#print axioms netKeeps_holds
end Go.Proofs.Ytgbcjbbkcoaohaa
