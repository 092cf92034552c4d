/- The reference's Take: what it answers and what it leaves. -/
import Derived.Test.YtgbcjbbkcoaohaaRBase
namespace Go.Proofs.Ytgbcjbbkcoaohaa
open Go.RowKit
set_option linter.unusedVariables false

theorem size39 (w : World) : (sizeOf (Try.prog.elem 39)).run Try.prog w = .ok 1 w := by kernel_rfl
theorem elem39 : Try.prog.underlying 39 = some (.slice (Try.prog.elem 39)) := by kernel_rfl
theorem size22 (w : World) : (sizeOf (Try.prog.elem 22)).run Try.prog w = .ok 1 w := by kernel_rfl
theorem elem22 : Try.prog.underlying 22 = some (.slice (Try.prog.elem 22)) := by kernel_rfl

theorem take_sub {α : Type} {l : List α} {k : Nat} {P : α → Prop} (h : ∀ x ∈ l, P x) : (∀ x ∈ l.take k, P x) ∧ ∀ x ∈ l.drop k, P x :=
  ⟨fun x hx => h x (List.mem_of_mem_take hx), fun x hx => h x (List.mem_of_mem_drop hx)⟩
theorem kinds_erase (M : List Msg) (i : Nat) : (kindsV M).take i ++ (kindsV M).drop (i + 1) = kindsV (M.eraseIdx i) := by
  rw [← List.map_take, ← List.map_drop, ← List.map_append, ← List.eraseIdx_eq_take_drop_succ]
theorem vals_erase (M : List Msg) (i : Nat) : (valsV M).take i ++ (valsV M).drop (i + 1) = valsV (M.eraseIdx i) := by
  rw [← List.map_take, ← List.map_drop, ← List.map_append, ← List.eraseIdx_eq_take_drop_succ]

/-- the world behind the two stores. -/
theorem ref_took {B : Nat} {w W V : World} {r : Nat} {kv bv v2 v4 : Value} {M : List Msg} (h : Ref B w r kv bv M) (i : Nat) (hi : i < M.length) (n : Nat) (hn : n = (M.eraseIdx i).length)
    (k2 : Below w.heap.size w W) (o2 : W.ownsRow w.heap.size 3 1 v2 n (kindsV (M.eraseIdx i)))
    (k4 : Below (W.setCell ⟨r, 0, none⟩ v2).heap.size (W.setCell ⟨r, 0, none⟩ v2) V) (o4 : V.ownsRow w.heap.size 23 1 v4 n (valsV (M.eraseIdx i))) :
    RefTo B w (V.setCell ⟨r, 1, none⟩ v4) r (rblks kv bv M) ((M.map plain).eraseIdx i) ∧ (V.setCell ⟨r, 1, none⟩ v4).ownsRow B 5 1 M[i].val M[i].bytes.length (encs M[i].bytes) := by
  subst hn
  have hr := (h.lt r (by simp)).2
  have hBw : B ≤ w.heap.size := by have := (h.lt r (by simp)).1; omega
  have hs : (W.setCell ⟨r, 0, none⟩ v2).heap.size = W.heap.size := by simp
  have hrW : r < W.heap.size := Nat.lt_of_lt_of_le hr k2.size
  have c0 : W.cell? ⟨r, 0, none⟩ = some kv := (k2.cell (p := ⟨r, 0, none⟩) hr).trans h.celk
  have c1 : W.cell? ⟨r, 1, none⟩ = some bv := (k2.cell (p := ⟨r, 1, none⟩) hr).trans h.celb
  have f0 : W.frozen? ⟨r, 0, none⟩ = false := (k2.frozen (p := ⟨r, 0, none⟩) hr).trans h.frok
  have f1 : W.frozen? ⟨r, 1, none⟩ = false := (k2.frozen (p := ⟨r, 1, none⟩) hr).trans h.frob
  have d0 : V.cell? ⟨r, 0, none⟩ = some v2 := (k4.cell (p := ⟨r, 0, none⟩) (by rw [hs]; exact hrW)).trans (World.cell?_setCell_same _ _ _ c0)
  have d1 : V.cell? ⟨r, 1, none⟩ = some bv := (k4.cell (p := ⟨r, 1, none⟩) (by rw [hs]; exact hrW)).trans ((World.cell?_setCell_other _ _ _ _ (by simp)).trans c1)
  have g0 : V.frozen? ⟨r, 0, none⟩ = false := (k4.frozen (p := ⟨r, 0, none⟩) (by rw [hs]; exact hrW)).trans (by simpa using f0)
  have g1 : V.frozen? ⟨r, 1, none⟩ = false := (k4.frozen (p := ⟨r, 1, none⟩) (by rw [hs]; exact hrW)).trans (by simpa using f1)
  have hne : ∀ k, k ≠ r → k < W.heap.size → (V.setCell ⟨r, 1, none⟩ v4).heap[k]? = W.heap[k]? := fun k hk hkw =>
    (Below.heap_setCell V ⟨r, 1, none⟩ v4 k hk).trans ((k4.block k (by rw [hs]; exact hkw)).trans (Below.heap_setCell W ⟨r, 0, none⟩ v2 k hk))
  have hkept : Kept [r] w (V.setCell ⟨r, 1, none⟩ v4) := by
    refine Kept.set ?_ _ (.inl (by simp)) _
    refine Kept.trans (w' := W.setCell ⟨r, 0, none⟩ v2) (Kept.set (Kept.of_below k2) _ (.inl (by simp)) _) (Kept.of_below (bs := [r]) k4) fun x hx => .inl hx
  have hin : ∀ m ∈ M, ∀ g, m.val.ownBlock = some g → g ≠ r ∧ g < W.heap.size := fun m hm g e =>
    ⟨fun e2 => h.off (by rw [← e2]; exact List.mem_append_right _ (List.mem_append_right _ (List.mem_filterMap.2 ⟨m, hm, e⟩))), Nat.lt_of_lt_of_le ((h.msg m hm).lt g e).2 k2.size⟩
  have hW : ∀ m ∈ M, (V.setCell ⟨r, 1, none⟩ v4).ownsRow B 5 1 m.val m.bytes.length (encs m.bytes) := fun m hm =>
    owns_kept (h.msg m hm) fun k e => (hne k (hin m hm k e).1 (hin m hm k e).2).trans (k2.block k ((h.msg m hm).lt k e).2)
  refine ⟨?_, hW _ (List.getElem_mem hi)⟩
  have hle : (M.eraseIdx i).length ≤ 32 := by
    have := h.few
    rw [List.length_eraseIdx]
    split <;> omega
  rw [map_erase]
  refine ref_of h hkept v2 v4 (M.eraseIdx i) ?_ (World.cell?_setCell_same _ _ _ d1) (by simpa using g0) (by simpa using g1) ?_ (fun g e => .inr (o2.lt g e).1) ?_ (fun m hm => .inl (List.mem_of_mem_eraseIdx hm)) hle
  · rw [World.cell?_setCell_other _ _ _ _ (by simp)]
    exact d0
  · exact owns_mono (owns_kept o2 fun k e => hne k (by have := (o2.lt k e).1; omega) (o2.lt k e).2) hBw
  · exact owns_kept o4 fun k e => Below.heap_setCell V ⟨r, 1, none⟩ v4 k (show k ≠ r by have := (o4.lt k e).1; omega)

theorem reftake_no {B : Nat} {w : World} {r : Nat} {kv bv : Value} {M : List Msg} (h : Ref B w r kv bv M) (i : Int) (hi : inB i M.length = false) :
    Calls Try.prog 16 #[.pointer (some ⟨r, 0, none⟩), .int .i64 i] w fun e w' => e = .returned (.tuple #[.int .i64 0, .slice none 0 0, .bool false]) ∧ w' = w := by
  obtain ⟨ab, cb, rfl, _⟩ := sl_of_owns h.rowb
  have c1 := h.celb
  have hf := h.few
  clear h
  by_cases h0 : i < 0
  · clear hi
    go_enter Try.func16, Try.ntmps16
    go_wp2_with fail
    go_ret3
    exact ⟨rfl, rfl⟩
  · have h1 : (M.length : Int) ≤ i := by rcases in_no hi with h | h <;> omega
    clear hi
    go_enter Try.func16, Try.ntmps16
    go_wp2_with fail
    go_ret3
    exact ⟨rfl, rfl⟩
theorem sl_row {base : Nat} {w : World} {e : TypeId} {ao : Option Addr} {n c : Nat} {us : List Value} (h : w.ownsRow base e 1 (.slice ao n c) n us) : Sl w.heap.size w 1 ao n us ∧ (ao = none → c = 0) ∧ n ≤ c := by
  obtain ⟨a', c', e', h1, h2, h3⟩ := sl_of_owns h
  injection e' with e1 _ e2
  subst e1 e2
  exact ⟨h1, h2, h3⟩
theorem row_some {base : Nat} {w : World} {e : TypeId} {v : Value} {n : Nat} {us : List Value} (h : w.ownsRow base e 1 v n us) (hn : 0 < n) : ∃ g c, v = .slice (some ⟨g, 0, none⟩) n c := by
  rcases h.2 with ⟨_, h0⟩ | ⟨g, cap, cur, rfl, _⟩
  · omega
  · exact ⟨g, cap, rfl⟩
theorem Ref.form {B : Nat} {w : World} {r : Nat} {kv bv : Value} {M : List Msg} (h : Ref B w r kv bv M) (i : Nat) (hi : i < M.length) : ∃ gk ck gb cb am cm, kv = .slice (some ⟨gk, 0, none⟩) M.length ck ∧ bv = .slice (some ⟨gb, 0, none⟩) M.length cb ∧ M[i].val = .slice am M[i].bytes.length cm ∧
    w.cell? ⟨gk, i, none⟩ = some (.int .i64 M[i].kind) ∧ w.cell? ⟨gb, i, none⟩ = some (.slice am M[i].bytes.length cm) := by
  obtain ⟨gk, ck, rfl⟩ := row_some h.rowk (by omega)
  obtain ⟨gb, cb, rfl⟩ := row_some h.rowb (by omega)
  obtain ⟨am, cm, e, _⟩ := sl_of_owns (h.msg M[i] (List.getElem_mem hi))
  refine ⟨gk, ck, gb, cb, am, cm, rfl, rfl, e, ?_, ?_⟩
  · rw [h.rowk.cellAt i (by omega)]; simp [hi]
  · rw [h.rowb.cellAt i (by omega)]; simp [hi, e]
/-- the row of texts, behind the first store. -/
theorem Ref.mid {B : Nat} {w W : World} {r : Nat} {kv bv : Value} {M : List Msg} (h : Ref B w r kv bv M) (k2 : Below w.heap.size w W) (v2 : Value) : (W.setCell ⟨r, 0, none⟩ v2).ownsRow B 23 1 bv M.length (valsV M) :=
  owns_kept h.rowb fun k e => (Below.heap_setCell W ⟨r, 0, none⟩ v2 k (show k ≠ r from fun e2 => h.off (by rw [← e2]; simp [rblks, e]))).trans (k2.block k (h.rowb.lt k e).2)

set_option maxRecDepth 100000 in
set_option maxHeartbeats 4000000 in
theorem reftake_yes {B : Nat} {w : World} {r : Nat} {kv bv : Value} {M : List Msg} (h : Ref B w r kv bv M) (i : Nat) (hi : i < M.length) :
    Calls Try.prog 16 #[.pointer (some ⟨r, 0, none⟩), .int .i64 (i : Int)] w fun e w' => e = .returned (.tuple #[.int .i64 M[i].kind, M[i].val, .bool true]) ∧ RefTo B w w' r (rblks kv bv M) ((M.map plain).eraseIdx i) ∧ w'.ownsRow B 5 1 M[i].val M[i].bytes.length (encs M[i].bytes) := by
  obtain ⟨i3, hi3, hz3, hs3, hb3⟩ := info_parts info3
  obtain ⟨i23, hi23, hz23, hs23, hb23⟩ := info_parts info23
  have HVO := Lib.hid h.valsV_one
  obtain ⟨gk, ck, gb, cb, am, cm, rfl, rfl, hval, x0, x1⟩ := h.form i hi
  obtain ⟨sk, nk, lk⟩ := sl_row h.rowk
  obtain ⟨sb, nb, lb⟩ := sl_row h.rowb
  obtain ⟨j, hj⟩ : ∃ j, (i + 1) + j = M.length := ⟨M.length - (i + 1), by omega⟩
  obtain ⟨al, cl, hsl, hpl, hnl⟩ := cut_low elem39 size39 sk lk nk (i : Int) i rfl (by omega)
  obtain ⟨ah, ch, hsh, hph, hnh⟩ := cut_high elem39 size39 sk lk nk ((i : Int) + 1) (i + 1) j (by omega) hj
  have HSL := Lib.hid hpl
  have HSH := Lib.hid hph
  have HCL := Lib.hid hnl
  have HCH := Lib.hid hnh
  have HO1 := Lib.hid (take_sub (k := i) (kindsV_one M)).1
  have HO2 := Lib.hid (take_sub (k := i + 1) (kindsV_one M)).2
  have HO3 := Lib.hid (take_sub (k := i) HVO.out).1
  have HO4 := Lib.hid (take_sub (k := i + 1) HVO.out).2
  have hr := (h.lt r (by simp)).2
  have c0 := h.celk
  have c1 := h.celb
  have f0 := h.frok
  have f1 := h.frob
  have hf := h.few
  have hwr : IntKind.i64.wrap ((i : Int) + 1) = (i : Int) + 1 := by simp [IntKind.wrap, IntKind.bits, IntKind.signed]; omega
  have HR := Lib.hid h
  have LB := Lib.hid lb
  have HL : Hid (i + j = (M.eraseIdx i).length) := by show _ = _; rw [List.length_eraseIdx, if_pos hi]; omega
  have HB1 : Hid (0 + i ≤ maxLen) := by show _ ≤ _; unfold maxLen; omega
  have HB2 : Hid ((0 + i) * 8 ≤ 140737488355328) := by show _ ≤ _; omega
  have HB3 : Hid (i + j ≤ maxLen) := by show _ ≤ _; unfold maxLen; omega
  have HB4 : Hid ((i + j) * 8 ≤ 140737488355328) := by show _ ≤ _; omega
  have HB5 : Hid ((0 + i) * 24 ≤ 140737488355328) := by show _ ≤ _; omega
  have HB6 : Hid ((i + j) * 24 ≤ 140737488355328) := by show _ ≤ _; omega
  have HV := Lib.hid hval
  generalize hk : M[i].kind = kk at x0
  have HK := Lib.hid hk
  have hbl : M[i].bytes.length ≤ 131072 := h.short _ (List.getElem_mem hi)
  generalize hbn : M[i].bytes.length = bn at x1 hbl
  have HBN := Lib.hid hbn
  clear sk sb nk nb hpl hph hnl hnh h lk lb hval hk hbn
  go_enter Try.func16, Try.ntmps16
  go_wp2_with fail
  go_region
  go_wp2_with fail
  go_region_law (first | (refine step_append_sl (by rfl) (.const (.slice none 0 0)) (.tmp 40) 39 (by rfl) _ Try.underlying39 hi3 hz3 hs3 hb3 rfl (by decide) _ 0 [] (by rfl) (World.ownsRow_nil _ _ _ _) w.heap.size al i cl ((kindsV M).take i) (by rfl) (HSL.out.below ((Below.refl _ _).drew.drew)) HCL.out HO1.out HB1.out HB2.out (Nat.le_refl _) ?_; intro v1 W1 own1 g1 _; rw [Nat.zero_add, List.nil_append] at own1; obtain ⟨a1, e1, rfl, _⟩ := sl_of_owns own1; replace g1 := grown_nil g1; have k1 : Below w.heap.size w W1 := ((Below.refl _ _).drew.drew).trans (g1.mono (Nat.le_refl _)); replace own1 := owns_mono (base' := w.heap.size) own1 (Nat.le_refl _); have r1 : r < W1.heap.size := Nat.lt_of_lt_of_le hr k1.size; have p10 := (k1.cell (p := ⟨r, 0, none⟩) hr).trans c0; have p11 := (k1.cell (p := ⟨r, 1, none⟩) hr).trans c1; have f10 := (k1.frozen (p := ⟨r, 0, none⟩) hr).trans f0; have f11 := (k1.frozen (p := ⟨r, 1, none⟩) hr).trans f1; have O1 := Lib.hid own1; have K1 := Lib.hid k1; clear g1 own1 k1) | (refine step_append_sl (by rfl) (.tmp 41) (.tmp 48) 39 (by rfl) w.heap.size Try.underlying39 hi3 hz3 hs3 hb3 rfl (by decide) (.slice a1 i e1) i ((kindsV M).take i) (by rfl) O1.out w.heap.size ah j ch ((kindsV M).drop (i + 1)) (by rfl) (HSH.out.below K1.out) HCH.out HO2.out HB3.out HB4.out K1.out.size ?_; intro v2 W2 own2 g2 _; obtain ⟨a2, e2, rfl, _⟩ := sl_of_owns own2; have k2 : Below w.heap.size w W2 := K1.out.grown g2 K1.out.size (fun x hx => (O1.out.lt x hx).1); have r2 : r < W2.heap.size := Nat.lt_of_lt_of_le hr k2.size; have p20 := (k2.cell (p := ⟨r, 0, none⟩) hr).trans c0; have p21 := (k2.cell (p := ⟨r, 1, none⟩) hr).trans c1; have f20 := (k2.frozen (p := ⟨r, 0, none⟩) hr).trans f0; have f21 := (k2.frozen (p := ⟨r, 1, none⟩) hr).trans f1; have O2 := Lib.hid own2; have K2 := Lib.hid k2; clear g2 own2 k2) | fail)
  all_goals
    go_wp2_with fail
    have hown := HR.out.mid K2.out (.slice a2 (i + j) e2)
    have hrx : r < (W2.setCell ⟨r, 0, none⟩ (.slice a2 (i + j) e2)).heap.size := by simpa using r2
    have px1 : (W2.setCell ⟨r, 0, none⟩ (.slice a2 (i + j) e2)).cell? ⟨r, 1, none⟩ = _ := (World.cell?_setCell_other _ _ _ _ (by simp)).trans p21
    have fx1 : (W2.setCell ⟨r, 0, none⟩ (.slice a2 (i + j) e2)).frozen? ⟨r, 1, none⟩ = false := by simpa using f21
    have HEND := fun V v4 => Lib.hid (ref_took (V := V) (v4 := v4) HR.out i hi (i + j) HL.out K2.out (by rw [← kinds_erase]; exact O2.out))
    have hwx : Hid (w.heap.size ≤ (W2.setCell ⟨r, 0, none⟩ (.slice a2 (i + j) e2)).heap.size) := by show _ ≤ _; simpa using K2.out.size
    generalize W2.setCell ⟨r, 0, none⟩ (.slice a2 (i + j) e2) = Wx at *
    obtain ⟨sb, nb, lb⟩ := sl_row hown
    obtain ⟨bl, dl, hsl2, hpl, hnl⟩ := cut_low elem22 size22 sb lb nb (i : Int) i rfl (by omega)
    obtain ⟨bh, dh, hsh2, hph, hnh⟩ := cut_high elem22 size22 sb lb nb ((i : Int) + 1) (i + 1) j (by omega) hj
    have HTL := Lib.hid hpl
    have HTH := Lib.hid hph
    have HDL := Lib.hid hnl
    have HDH := Lib.hid hnh
    clear hpl hph hnl hnh hown sb nb lb hsl hsh
    clear p20 p21 f20 f21 r2 O1 K1 O2 K2 p10 p11 f10 f11 r1 x0 x1 c0 c1 f0 f1 hr
    go_region_law (first | (refine step_append_sl (by rfl) (.const (.slice none 0 0)) (.tmp 58) 22 (by rfl) _ Try.underlying22 hi23 hz23 hs23 hb23 rfl (by decide) _ 0 [] (by rfl) (World.ownsRow_nil _ _ _ _) _ bl i dl ((valsV M).take i) (by rfl) (HTL.out.below ((Below.refl _ _).drew)) HDL.out HO3.out HB1.out HB5.out (Nat.le_refl _) ?_; intro v3 W3 own3 g3 _; rw [Nat.zero_add, List.nil_append] at own3; obtain ⟨a3, e3, rfl, _⟩ := sl_of_owns own3; replace g3 := grown_nil g3; have k3 : Below Wx.heap.size Wx W3 := ((Below.refl _ _).drew).trans (g3.mono (Nat.le_refl _)); replace own3 := owns_mono (base' := Wx.heap.size) own3 (Nat.le_refl _); have r3 : r < W3.heap.size := Nat.lt_of_lt_of_le hrx k3.size; have p31 := (k3.cell (p := ⟨r, 1, none⟩) hrx).trans px1; have f31 := (k3.frozen (p := ⟨r, 1, none⟩) hrx).trans fx1; have O3 := Lib.hid own3; have K3 := Lib.hid k3; clear g3 own3 k3) | (refine step_append_sl (by rfl) (.tmp 59) (.tmp 66) 22 (by rfl) Wx.heap.size Try.underlying22 hi23 hz23 hs23 hb23 rfl (by decide) (.slice a3 i e3) i ((valsV M).take i) (by rfl) O3.out Wx.heap.size bh j dh ((valsV M).drop (i + 1)) (by rfl) (HTH.out.below K3.out) HDH.out HO4.out HB3.out HB6.out K3.out.size ?_; intro v4 W4 own4 g4 _; obtain ⟨a4, e4, rfl, _⟩ := sl_of_owns own4; have k4 : Below Wx.heap.size Wx W4 := K3.out.grown g4 K3.out.size (fun x hx => (O3.out.lt x hx).1); have r4 : r < W4.heap.size := Nat.lt_of_lt_of_le hrx k4.size; have p41 := (k4.cell (p := ⟨r, 1, none⟩) hrx).trans px1; have f41 := (k4.frozen (p := ⟨r, 1, none⟩) hrx).trans fx1; have O4 := Lib.hid own4; have K4 := Lib.hid k4; clear g4 own4 k4) | fail)
    all_goals
      go_wp2_with fail
      go_ret3
      have HE := (HEND W4 (.slice a4 (i + j) e4)).out K4.out (by rw [← vals_erase]; exact owns_mono O4.out hwx.out)
      have e1 := HK.out
      have e2 := HBN.out
      have e3 := HV.out
      refine ⟨?_, by first | exact HE | (rw [e2] at HE; exact HE) | (rw [← e2]; exact HE)⟩
      first | rfl | (rw [e3]; rfl) | (rw [e3, e1, e2]; rfl) | (rw [e3, e2]; rfl) | (rw [← e2, ← e1, ← e3])
end Go.Proofs.Ytgbcjbbkcoaohaa
