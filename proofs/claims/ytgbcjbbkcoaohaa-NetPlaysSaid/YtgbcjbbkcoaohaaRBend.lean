/- The reference's Bend: what it answers and what it leaves. -/
import Derived.Test.YtgbcjbbkcoaohaaRTake
namespace Go.Proofs.Ytgbcjbbkcoaohaa
open Go.RowKit
set_option linter.unusedVariables false

theorem refbend_no {B : Nat} {w : World} {r : Nat} {kv bv : Value} {M : List Msg} (h : Ref B w r kv bv M) (i a : Int) (k : UInt8) (hi : inB i M.length = false) :
    Calls Try.prog 19 #[.pointer (some ⟨r, 0, none⟩), .int .i64 i, .int .i64 a, .int .u8 (k.toNat : Int)] w fun e w' => e = .returned (.bool false) ∧ w' = w := by
  obtain ⟨ab, cb, rfl, _⟩ := sl_of_owns h.rowb
  have c1 := h.celb
  have hf := h.few
  clear h
  generalize (k.toNat : Int) = kk
  by_cases h0 : i < 0
  · clear hi
    go_enter Try.func19, Try.ntmps19
    go_wp2_with fail
    go_ret
    exact ⟨rfl, rfl⟩
  · have h1 : (M.length : Int) ≤ i := by rcases in_no hi with h | h <;> omega
    clear hi
    go_enter Try.func19, Try.ntmps19
    go_wp2_with fail
    go_ret
    exact ⟨rfl, rfl⟩
theorem refbend_out {B : Nat} {w : World} {r : Nat} {kv bv : Value} {M : List Msg} (h : Ref B w r kv bv M) (i : Nat) (a : Int) (k : UInt8) (hi : i < M.length) (ha : inB a M[i].bytes.length = false) :
    Calls Try.prog 19 #[.pointer (some ⟨r, 0, none⟩), .int .i64 (i : Int), .int .i64 a, .int .u8 (k.toNat : Int)] w fun e w' => e = .returned (.bool false) ∧ w' = w := by
  obtain ⟨gk, ck, gb, cb, am, cm, rfl, rfl, hval, x0, x1⟩ := h.form i hi
  have c1 := h.celb
  have hf := h.few
  have hs := h.short M[i] (List.getElem_mem hi)
  clear h x0 hval
  generalize (k.toNat : Int) = kk
  generalize M[i].bytes.length = bn at *
  by_cases h0 : a < 0
  · clear ha
    go_enter Try.func19, Try.ntmps19
    go_wp2_with fail
    go_ret
    exact ⟨rfl, rfl⟩
  · have h1 : (bn : Int) ≤ a := by rcases in_no ha with h | h <;> omega
    clear ha
    go_enter Try.func19, Try.ntmps19
    go_wp2_with fail
    go_ret
    exact ⟨rfl, rfl⟩

/-- an append of a slice to nil: a row of its own. -/
theorem app_nil {t e : TypeId} {i : TypeInfo} {z : Value} {bytes : Nat} (ht : Try.prog.underlying t = some (.slice e)) (hi : Try.prog.info? e = some i) (hz : i.zero = some z) (hsize : i.size = 1) (hby : i.bytes = bytes) (hzs : z.cells.size = 1) (hbb : bytes ≤ 100)
    {B : Nat} (W : World) (ao : Option Addr) (m c : Nat) (us : List Value) (hp : Sl B W 1 ao m us) (hc : ao = none → c = 0) (h1 : ∀ u ∈ us, u.oneCell' = true) (hm : m ≤ 1000000) :
    ∃ a1 c1 W1, (Builtin.append_ #[t, t] t #[.slice none 0 0, .slice ao m c]).run Try.prog W = .ok (.slice a1 m c1) W1 ∧ W1.ownsRow W.heap.size e 1 (.slice a1 m c1) m us ∧ Below W.heap.size W W1 := by
  obtain ⟨v1, W1, r1, o1, g1, _⟩ := run_append_sl (ty := t) ht hi hz hsize hby hzs (by decide) (.slice none 0 0) 0 [] (World.ownsRow_nil W W.heap.size _ _) ao m c us hp hc h1 (by unfold maxLen; omega) (Nat.le_trans (Nat.mul_le_mul (show 0 + m ≤ 1000000 by omega) hbb) (by decide)) (Nat.le_refl _)
  rw [Nat.zero_add, List.nil_append] at o1
  obtain ⟨a1, c1, rfl, _⟩ := sl_of_owns o1
  exact ⟨a1, c1, W1, r1, o1, grown_nil g1⟩

theorem mem_modify {α : Type} {l : List α} {i : Nat} {f : α → α} {x : α} (hi : i < l.length) (h : x ∈ l.modify i f) : x ∈ l ∨ x = f l[i] := by
  obtain ⟨j, hj⟩ := List.getElem?_of_mem h
  rw [List.getElem?_modify] at hj
  by_cases e : i = j
  · subst e
    right
    rw [List.getElem?_eq_getElem hi] at hj
    simpa using hj.symm
  · left
    have hj2 : l[j]? = some x := by simpa [e] using hj
    exact List.mem_of_getElem? hj2
theorem map_modify_same {α β : Type} (g : α → β) (f : α → α) (h : ∀ x, g (f x) = g x) : ∀ (l : List α) (i : Nat), (l.modify i f).map g = l.map g
  | [], _ => by simp
  | x :: l, 0 => by simp [h]
  | x :: l, i + 1 => congrArg (g x :: ·) (map_modify_same g f h l i)
theorem map_modify_set {α β : Type} (g : α → β) (f : α → α) (y : β) (h : ∀ x, g (f x) = y) : ∀ (l : List α) (i : Nat), (l.modify i f).map g = (l.map g).set i y
  | [], _ => by simp
  | x :: l, 0 => by simp [h]
  | x :: l, i + 1 => congrArg (g x :: ·) (map_modify_set g f y h l i)

def turnB (bs : List UInt8) (a : Nat) (k : UInt8) : List UInt8 := bs.set a (bs.getD a 0 ^^^ k)
def turnM (a : Nat) (k : UInt8) (y : Value) (m : Msg) : Msg := ⟨m.kind, turnB m.bytes a k, y⟩
theorem plain_turn (a : Nat) (k : UInt8) (y : Value) : ∀ (M : List Msg) (i : Nat), (M.modify i (turnM a k y)).map plain = (M.map plain).modify i (fun p => (p.1, p.2.set a (p.2.getD a 0 ^^^ k)))
  | [], _ => by simp
  | m :: M, 0 => rfl
  | m :: M, i + 1 => congrArg (plain m :: ·) (plain_turn a k y M i)

theorem kindsV_turn (M : List Msg) (i a : Nat) (k : UInt8) (y : Value) : kindsV (M.modify i (turnM a k y)) = kindsV M := map_modify_same (fun m : Msg => Value.int .i64 m.kind) (turnM a k y) (fun _ => rfl) M i
theorem valsV_turn (M : List Msg) (i a : Nat) (k : UInt8) (y : Value) : valsV (M.modify i (turnM a k y)) = (valsV M).set i y := map_modify_set (fun m : Msg => m.val) (turnM a k y) y (fun _ => rfl) M i
/-- the world behind the stores. -/
theorem ref_bent {B : Nat} {w W V : World} {r : Nat} {kv bv : Value} {M : List Msg} (h : Ref B w r kv bv M) (i a : Nat) (k : UInt8) (hi : i < M.length) (ha : a < M[i].bytes.length) (g1 c1 g2 c2 : Nat)
    (b1 : Below w.heap.size w W) (o1 : W.ownsRow w.heap.size 5 1 (.slice (some ⟨g1, 0, none⟩) M[i].bytes.length c1) M[i].bytes.length (encs M[i].bytes))
    (b2 : Below (W.setCell ⟨g1, a, none⟩ (encB (M[i].bytes.getD a 0 ^^^ k))).heap.size (W.setCell ⟨g1, a, none⟩ (encB (M[i].bytes.getD a 0 ^^^ k))) V)
    (o2 : V.ownsRow (W.setCell ⟨g1, a, none⟩ (encB (M[i].bytes.getD a 0 ^^^ k))).heap.size 23 1 (.slice (some ⟨g2, 0, none⟩) M.length c2) M.length (valsV M)) :
    RefTo B w ((V.setCell ⟨r, 1, none⟩ (.slice (some ⟨g2, 0, none⟩) M.length c2)).setCell ⟨g2, i, none⟩ (.slice (some ⟨g1, 0, none⟩) M[i].bytes.length c1)) r (rblks kv bv M) ((M.map plain).modify i (fun p => (p.1, p.2.set a (p.2.getD a 0 ^^^ k)))) := by
  have hr := (h.lt r (by simp)).2
  have hBw : B ≤ w.heap.size := by have := (h.lt r (by simp)).1; omega
  obtain ⟨l1, u1⟩ := o1.lt g1 rfl
  obtain ⟨l2, u2⟩ := o2.lt g2 rfl
  have o1' := (o1.stored a (encB (M[i].bytes.getD a 0 ^^^ k))).1
  generalize hWx : W.setCell ⟨g1, a, none⟩ (encB (M[i].bytes.getD a 0 ^^^ k)) = Wx at *
  have hs : Wx.heap.size = W.heap.size := by rw [← hWx]; simp
  have bx : Below w.heap.size w Wx := by rw [← hWx]; exact b1.setCell l1 _
  have bv' : Below w.heap.size w V := bx.trans (b2.mono bx.size)
  have hsz := bx.size
  have d0 : V.cell? ⟨r, 0, none⟩ = some kv := (bv'.cell (p := ⟨r, 0, none⟩) hr).trans h.celk
  have d1 : V.cell? ⟨r, 1, none⟩ = some bv := (bv'.cell (p := ⟨r, 1, none⟩) hr).trans h.celb
  have f0 : V.frozen? ⟨r, 0, none⟩ = false := (bv'.frozen (p := ⟨r, 0, none⟩) hr).trans h.frok
  have f1 : V.frozen? ⟨r, 1, none⟩ = false := (bv'.frozen (p := ⟨r, 1, none⟩) hr).trans h.frob
  have hgr : g2 ≠ r := by omega
  have hgg : g2 ≠ g1 := by omega
  have o2r : (V.setCell ⟨r, 1, none⟩ (.slice (some ⟨g2, 0, none⟩) M.length c2)).ownsRow Wx.heap.size 23 1 (.slice (some ⟨g2, 0, none⟩) M.length c2) M.length (valsV M) :=
    owns_kept o2 fun k e => Below.heap_setCell V ⟨r, 1, none⟩ _ k (show k ≠ r by have := (o2.lt k e).1; omega)
  have o2s := (o2r.stored i (.slice (some ⟨g1, 0, none⟩) M[i].bytes.length c1)).1
  have hne : ∀ x, x ≠ r → x ≠ g2 → ((V.setCell ⟨r, 1, none⟩ (.slice (some ⟨g2, 0, none⟩) M.length c2)).setCell ⟨g2, i, none⟩ (.slice (some ⟨g1, 0, none⟩) M[i].bytes.length c1)).heap[x]? = V.heap[x]? := fun x h1 h2 =>
    (Below.heap_setCell _ ⟨g2, i, none⟩ _ x h2).trans (Below.heap_setCell V ⟨r, 1, none⟩ _ x h1)
  rw [← plain_turn a k (.slice (some ⟨g1, 0, none⟩) M[i].bytes.length c1)]
  have hlen : (M.modify i (turnM a k (.slice (some ⟨g1, 0, none⟩) M[i].bytes.length c1))).length = M.length := by simp
  refine ref_of h (Kept.set (Kept.set (Kept.of_below bv') _ (.inl (by simp)) _) _ (.inr (by show w.heap.size ≤ g2; omega)) _) kv (.slice (some ⟨g2, 0, none⟩) M.length c2) _ ?_ ?_ ?_ ?_ ?_ (fun g e => .inl (by simp [rblks, e])) ?_ (fun m hm => ?_) (by rw [hlen]; exact h.few)
  · rw [World.cell?_setCell_far _ _ _ _ (show g2 ≠ r from hgr), World.cell?_setCell_other _ _ _ _ (by simp)]
    exact d0
  · rw [World.cell?_setCell_far _ _ _ _ (show g2 ≠ r from hgr)]
    exact World.cell?_setCell_same _ _ _ d1
  · simpa using f0
  · simpa using f1
  · rw [hlen, kindsV_turn]
    refine owns_kept h.rowk fun x e => (hne x (fun e2 => h.off (by rw [← e2]; simp [rblks, e])) ?_).trans (bv'.block x (h.rowk.lt x e).2)
    have := (h.rowk.lt x e).2
    omega
  · rw [hlen, valsV_turn]
    exact owns_mono o2s hsz
  · rcases mem_modify hi hm with g | g
    · exact .inl g
    · refine .inr ?_
      rw [g]
      refine ⟨?_, ?_, h.kin M[i] (List.getElem_mem hi)⟩
      · have e : (turnB M[i].bytes a k).length = M[i].bytes.length := by simp [turnB]
        show World.ownsRow _ w.heap.size 5 1 (.slice (some ⟨g1, 0, none⟩) M[i].bytes.length c1) (turnB M[i].bytes a k).length (encs (turnB M[i].bytes a k))
        rw [e]
        have e2 : encs (turnB M[i].bytes a k) = (encs M[i].bytes).set a (encB (M[i].bytes.getD a 0 ^^^ k)) := by unfold encs turnB; rw [List.map_set]
        rw [e2]
        refine owns_kept o1' fun x hx => ?_
        have hx1 : x = g1 := by injection hx with hx; exact hx.symm
        subst hx1
        rw [hne x (by omega) (by omega)]
        exact b2.block x (by omega)
      · show (turnB M[i].bytes a k).length ≤ 131072
        have := h.short M[i] (List.getElem_mem hi)
        simp [turnB]
        omega

set_option maxRecDepth 100000 in
set_option maxHeartbeats 2000000 in
theorem refbend_yes {B : Nat} {w : World} {r : Nat} {kv bv : Value} {M : List Msg} (h : Ref B w r kv bv M) (i a : Nat) (k : UInt8) (hi : i < M.length) (ha : a < M[i].bytes.length) :
    Calls Try.prog 19 #[.pointer (some ⟨r, 0, none⟩), .int .i64 (i : Int), .int .i64 (a : Int), .int .u8 (k.toNat : Int)] w fun e w' => e = .returned (.bool true) ∧ RefTo B w w' r (rblks kv bv M) ((M.map plain).modify i (fun p => (p.1, p.2.set a (p.2.getD a 0 ^^^ k)))) := by
  obtain ⟨i23, hi23, hz23, hs23, hb23⟩ := info_parts info23
  obtain ⟨i5, hi5, hz5, hs5, hb5⟩ := info_parts info5
  obtain ⟨gk, ck, gb, cb, am, cm, rfl, rfl, hval, x0, x1⟩ := h.form i hi
  have hs := h.short M[i] (List.getElem_mem hi)
  have hf := h.few
  have hr := (h.lt r (by simp)).2
  have hm := h.msg M[i] (List.getElem_mem hi)
  rw [hval] at hm
  obtain ⟨sm, nm, _⟩ := sl_row hm
  obtain ⟨a1, c1, W1, run1, own1, b1⟩ := app_nil (t := 23) Try.underlying23 hi5 hz5 hs5 hb5 rfl (by decide) w am M[i].bytes.length cm _ sm nm (encs_one _) (by omega)
  obtain ⟨g1, d1, e1⟩ := row_some own1 (by omega)
  injection e1 with e1 _ e2
  subst e1 e2
  obtain ⟨l1, u1⟩ := own1.lt g1 rfl
  have y1 : W1.cell? ⟨g1, a, none⟩ = some (encB (M[i].bytes.getD a 0)) := by
    rw [own1.cellAt a (by omega)]
    unfold encs
    rw [List.getElem?_map, List.getElem?_eq_getElem ha]
    simp [List.getD, List.getElem?_eq_getElem ha]
  have y2 : W1.frozen? ⟨g1, a, none⟩ = false := own1.frozenAt a
  have hall := fun V g2 c2 => ref_bent (V := V) h i a k hi ha g1 c1 g2 c2 b1 own1
  rw [← xor_byte] at hall
  unfold encB at y1
  generalize hx : M[i].bytes.getD a 0 = x at *
  have hx2 : (x.toNat : Int) ≤ 255 := by have := x.toNat_lt; omega
  have hk2 : (k.toNat : Int) ≤ 255 := by have := k.toNat_lt; omega
  have p11 : W1.cell? ⟨r, 1, none⟩ = _ := (b1.cell (p := ⟨r, 1, none⟩) hr).trans h.celb
  have f11 : W1.frozen? ⟨r, 1, none⟩ = false := (b1.frozen (p := ⟨r, 1, none⟩) hr).trans h.frob
  have hgr1 : g1 ≠ r := by omega
  have hWx : ∀ u, Below w.heap.size w (W1.setCell ⟨g1, a, none⟩ u) := fun u => b1.setCell l1 u
  have q11 := fun u => (World.cell?_setCell_far W1 ⟨g1, a, none⟩ ⟨r, 1, none⟩ u (show g1 ≠ r from hgr1)).trans p11
  have q12 := fun u => ((hWx u).frozen (p := ⟨r, 1, none⟩) hr).trans h.frob
  have hob := fun u => owns_below h.rowb (hWx u)
  have HWX : Hid (Value.int .u8 (bits .xor .u8 (x.toNat : Int) (k.toNat : Int)) = .int .u8 (bits .xor .u8 (x.toNat : Int) (k.toNat : Int))) := rfl
  generalize hU : Value.int .u8 (bits .xor .u8 (x.toNat : Int) (k.toNat : Int)) = U at hall
  obtain ⟨sb, nb, _⟩ := sl_row (hob U)
  obtain ⟨a2, c2, V, run2, own2, b2⟩ := app_nil (t := 22) Try.underlying22 hi23 hz23 hs23 hb23 rfl (by decide) (W1.setCell ⟨g1, a, none⟩ U) (some ⟨gb, 0, none⟩) M.length cb _ sb nb h.valsV_one (by omega)
  obtain ⟨g2, d2, e1⟩ := row_some own2 (by omega)
  injection e1 with e1 _ e2
  subst e1 e2
  obtain ⟨l2, u2⟩ := own2.lt g2 rfl
  have hsx : (W1.setCell ⟨g1, a, none⟩ U).heap.size = W1.heap.size := by simp
  have hend := hall V g2 c2 b2 own2
  have z1 : V.cell? ⟨g2, i, none⟩ = some M[i].val := by
    rw [own2.cellAt i (by omega)]
    simp [hi]
  have z2 : V.frozen? ⟨g2, i, none⟩ = false := own2.frozenAt i
  have hgr2 : g2 ≠ r := by have := b1.size; omega
  have hrx : r < (W1.setCell ⟨g1, a, none⟩ U).heap.size := by rw [hsx]; have := b1.size; omega
  have p21 : V.cell? ⟨r, 1, none⟩ = _ := (b2.cell (p := ⟨r, 1, none⟩) hrx).trans (q11 U)
  have p22 : V.frozen? ⟨r, 1, none⟩ = false := (b2.frozen (p := ⟨r, 1, none⟩) hrx).trans (q12 U)
  have qq1 := q11 U
  have c1' := h.celb
  have HEND := Lib.hid hend
  have hgr3 : r ≠ g2 := Ne.symm hgr2
  have R1 := Lib.hid run1
  have R2 := Lib.hid run2
  have hil : (i : Int) < (M.length : Int) := by omega
  have hal : (a : Int) < (M[i].bytes.length : Int) := by omega
  clear hall hend own1 own2 b1 b2 hob q11 q12 hWx sm nm sb nb hm x0 hsx hrx HWX l1 u1 l2 u2 hi23 hz23 hs23 hb23 hi5 hz5 hs5 hb5 h run1 run2
  generalize hbn : M[i].bytes.length = bn at *
  clear hbn
  subst hU
  go_enter Try.func19, Try.ntmps19
  go_wp2_with (first
    | (at_builtin; refine wpList_append_run (by rfl) (.const (.slice none 0 0)) (.tmp 43) 23 (by rfl) _ _ _ _ (by rfl) (by rfl) R1.out ?_)
    | (at_builtin; refine wpList_append_run (by rfl) (.const (.slice none 0 0)) (.tmp 58) 22 (by rfl) _ _ _ _ (by rfl) (by rfl) R2.out ?_)
    | fail)
  go_ret
  exact ⟨rfl, HEND.out⟩
theorem bend_ref {B : Nat} {w : World} {r : Nat} {cs : List Nat} {T : Words} (h : RefAt B w r cs T) (i a : Int) (k : UInt8) :
    Calls Try.prog 19 #[.pointer (some ⟨r, 0, none⟩), .int .i64 i, .int .i64 a, .int .u8 (k.toNat : Int)] w fun e w' => e = .returned (.bool (bendB T i a)) ∧ RefTo B w w' r cs (bendS T i a k) := by
  have hs := h
  obtain ⟨kv, bv, M, hq, rfl, rfl⟩ := h
  unfold bendS bendB
  cases hi : inB i (M.map plain).length
  · rw [atS_no hi]
    rw [List.length_map] at hi
    exact (refbend_no hq i a k hi).mono fun e w' ⟨h1, h2⟩ => ⟨h1, hs.stay h2⟩
  · obtain ⟨j, hj, rfl, e⟩ := atS_yes hi
    obtain ⟨hj', ep⟩ := plain_at hj
    rw [e, ep]
    simp only [plain]
    by_cases ha : inB a M[j].bytes.length = true
    rotate_left
    · replace ha : inB a M[j].bytes.length = false := by simpa using ha
      simp only [ha, Bool.false_eq_true, if_false]
      exact (refbend_out hq j a k hj' ha).mono fun e w' ⟨h1, h2⟩ => ⟨h1, hs.stay h2⟩
    · obtain ⟨a0, a1⟩ := in_yes ha
      simp only [ha, if_true]
      obtain ⟨x, rfl⟩ := Int.eq_ofNat_of_zero_le a0
      rw [Int.toNat_natCast, Int.toNat_natCast]
      exact refbend_yes hq j x k hj' (by omega)
end Go.Proofs.Ytgbcjbbkcoaohaa
