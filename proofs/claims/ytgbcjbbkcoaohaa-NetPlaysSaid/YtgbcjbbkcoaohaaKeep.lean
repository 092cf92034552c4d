/- The rows of texts that are kept beside the queue; a byte that is turned in memory of the call's own; cuts of rows. -/
import Derived.Test.YtgbcjbbkcoaohaaApi
namespace Go.Proofs.Ytgbcjbbkcoaohaa
open Go.RowKit
set_option linter.unusedVariables false

theorem u8_of {a : Int} (h : (Lit.int .u8 a).wf = true) : ∃ k : UInt8, a = (k.toNat : Int) := by
  have hx : 0 ≤ a ∧ a ≤ 255 := by simpa [Lit.wf, IntKind.min, IntKind.max, IntKind.signed, IntKind.bits] using h
  refine ⟨UInt8.ofNat a.toNat, ?_⟩
  rw [UInt8.toNat_ofNat']
  omega
theorem row_bytes {w : World} {a : Option Addr} {len cap : Nat} {zs : List Int} (h : (a = none ∧ len = 0 ∧ cap = 0 ∧ zs = []) ∨
    ∃ x, a = some x ∧ len ≤ cap ∧ cap ≤ maxLen ∧ zs.length = cap ∧ (∀ i, i < zs.length → w.cell? (x.add i) = some (.int .u8 (zs.getD i 0))) ∧ ∀ n ∈ zs, (Lit.int .u8 n).wf = true) :
    ∃ bs : List UInt8, bs.length = len ∧ Sl w.heap.size w 1 a len (encs bs) ∧ (a = none → cap = 0) := by
  rcases h with ⟨rfl, rfl, rfl, rfl⟩ | ⟨x, rfl, hl, hm, hz, hcell, hwz⟩
  · exact ⟨[], rfl, ⟨rfl, fun _ => rfl, fun ad ha => (by cases ha), fun ad ha => (by cases ha)⟩, fun _ => rfl⟩
  · have hg : ∀ i, i < len → w.cell? (x.add i) = some (encB (UInt8.ofNat (zs.getD i 0).toNat)) := by
      intro i hi
      rw [hcell i (by omega)]
      have hmem : zs.getD i 0 ∈ zs := by
        have hi' : i < zs.length := by omega
        simp [List.getD, hi']
      obtain ⟨k, hk⟩ := u8_of (hwz _ hmem)
      rw [hk]
      simp [encB]
    have he : ∀ j u, (encs ((zs.take len).map fun n => UInt8.ofNat n.toNat))[j]? = some u → w.cell? (x.add j) = some u := by
      intro j u hu
      unfold encs at hu
      rw [List.getElem?_map, List.getElem?_map, Option.map_eq_some_iff] at hu
      obtain ⟨b, hb, rfl⟩ := hu
      rw [Option.map_eq_some_iff] at hb
      obtain ⟨n, hn, rfl⟩ := hb
      have hj : j < len := by
        have := (List.getElem?_eq_some_iff.1 hn).1
        simp at this; omega
      rw [hg j hj]
      rw [List.getElem?_take, if_pos hj] at hn
      simp [List.getD, hn]
    refine ⟨(zs.take len).map fun n => UInt8.ofNat n.toNat, by simp; omega, ⟨by simp [encs]; omega, fun ha => (by cases ha), fun ad ha hu => ?_, fun ad ha j u hu => ?_⟩, fun ha => (by cases ha)⟩
    · injection ha with ha
      subst ha
      have h0 : 0 < len := by simp [encs] at hu; omega
      have := hg 0 h0
      rw [add_zero'] at this
      exact World.block_lt_of_cell? w x this
    · injection ha with ha
      subst ha
      exact he j u hu
theorem bytes_at {B : Nat} {w : World} {ao : Option Addr} {m : Nat} {bs : List UInt8} (h : Sl B w 1 ao m (encs bs)) (hm : 0 < m) :
    ∃ b o, ao = some ⟨b, o, none⟩ ∧ ∀ n, n < m → w.cell? ⟨b, o + n, none⟩ = some (.int .u8 ((bs.getD n 0).toNat : Int)) := by
  have hl : bs.length = m := by have := h.len; simpa [encs] using this
  cases ao with
  | none => exact absurd (h.non rfl) (by omega)
  | some ad =>
    have hc : ∀ n, n < m → w.cell? (ad.add n) = some (.int .u8 ((bs.getD n 0).toNat : Int)) := by
      intro n hn
      have hn' : n < bs.length := by omega
      refine h.cel ad rfl n _ ?_
      simp [encs, encB, hn', List.getD]
    obtain ⟨b, o, spot⟩ := ad
    have h0 := hc 0 hm
    have hspot : spot = none := by simpa [Addr.add] using World.cell?_spot h0
    subst hspot
    refine ⟨b, o, rfl, fun n hn => ?_⟩
    have h1 := hc n hn
    have e : (⟨b, o, none⟩ : Addr).add n = ⟨b, o + n, none⟩ := by unfold Addr.add; split <;> simp_all
    rw [e] at h1
    exact h1

theorem drewN_add (w : World) (a b : Nat) : (w.drewN a).drewN b = w.drewN (a + b) := by simp [World.drewN, Nat.add_assoc]
theorem below_drewN {B : Nat} {w w' : World} (h : Below B w w') (n : Nat) : Below B w (w'.drewN n) := ⟨h.os, h.tape, h.output, h.size, h.block⟩
def text (m : Msg) : Value := .string ⟨m.bytes.toArray⟩
/-- the queue, and beside it a row of its messages' texts. -/
structure Beside (B : Nat) (w wr : World) (q : Nat) (v : Value) (L : List Msg) (lv : Value) (ts : List Value) : Prop where
  que : Que B wr q v L
  row : wr.ownsRow B 9 1 lv ts.length ts
  off : ∀ g, lv.ownBlock = some g → g ∉ q :: blks v L
  bel : Below B w wr
  lo : B ≤ wr.heap.size

/-- a row of bytes of the call's own, apart from both. -/
structure Apart (B : Nat) (wr : World) (q : Nat) (v : Value) (L : List Msg) (lv : Value) (ao : Option Addr) (m c : Nat) (cs : List UInt8) : Prop where
  own : wr.ownsRow B 5 1 (.slice ao m c) m (encs cs)
  off : ∀ g, (Value.slice ao m c).ownBlock = some g → g ∉ q :: blks v L ∧ lv.ownBlock ≠ some g

theorem Beside.keep {B : Nat} {w wr wr' : World} {q : Nat} {v lv : Value} {L : List Msg} {ts : List Value} (h : Beside B w wr q v L lv ts) (hk : ∀ k ∈ q :: blks v L, wr'.heap[k]? = wr.heap[k]?) (hl : ∀ k, lv.ownBlock = some k → wr'.heap[k]? = wr.heap[k]?)
    (hb : Below B wr wr') : Beside B w wr' q v L lv ts :=
  ⟨h.que.keep hk, owns_kept h.row hl, h.off, h.bel.trans hb, Nat.le_trans h.lo hb.size⟩
theorem Beside.new {B : Nat} {w wr wr' : World} {q : Nat} {v lv : Value} {L : List Msg} {ts : List Value} (h : Beside B w wr q v L lv ts) (hb : Below wr.heap.size wr wr') : Beside B w wr' q v L lv ts :=
  h.keep (fun k hk => hb.block k (h.que.lt k hk).2) (fun k e => hb.block k (h.row.lt k e).2) (hb.mono h.lo)
theorem Apart.new {B : Nat} {wr wr' : World} {q : Nat} {v lv : Value} {L : List Msg} {ao : Option Addr} {m c : Nat} {cs : List UInt8} (h : Apart B wr q v L lv ao m c cs) (hb : Below wr.heap.size wr wr') : Apart B wr' q v L lv ao m c cs :=
  ⟨owns_kept h.own fun k e => hb.block k (h.own.lt k e).2, h.off⟩

/-- one byte of it is written. -/
theorem apart_set {B : Nat} {w wr : World} {q : Nat} {v lv : Value} {L : List Msg} {ts : List Value} {g m c : Nat} {cs : List UInt8} (h : Beside B w wr q v L lv ts) (ha : Apart B wr q v L lv (some ⟨g, 0, none⟩) m c cs) (j : Nat) (x : UInt8) :
    Beside B w (wr.setCell ⟨g, j, none⟩ (encB x)) q v L lv ts ∧ Apart B (wr.setCell ⟨g, j, none⟩ (encB x)) q v L lv (some ⟨g, 0, none⟩) m c (cs.set j x) := by
  obtain ⟨o1, o2⟩ := ha.off g rfl
  have hlt := ha.own.lt g rfl
  have hne : ∀ k, k ≠ g → (wr.setCell ⟨g, j, none⟩ (encB x)).heap[k]? = wr.heap[k]? := fun k hk => Below.heap_setCell wr ⟨g, j, none⟩ _ k hk
  refine ⟨h.keep (fun k hk => hne k fun e => o1 (by rw [← e]; exact hk)) (fun k e => hne k fun e2 => o2 (by rw [e, e2])) ((Below.refl _ _).setCell hlt.1 _), ?_, ha.off⟩
  have hs := (ha.own.stored j (encB x)).1
  unfold encs at hs ⊢
  rw [List.map_set]
  exact hs
theorem apart_form {B : Nat} {wr : World} {q : Nat} {v lv : Value} {L : List Msg} {ao : Option Addr} {m c : Nat} {cs : List UInt8} (h : Apart B wr q v L lv ao m c cs) (hm : 0 < m) :
    ∃ g, ao = some ⟨g, 0, none⟩ ∧ (∀ j, j < m → wr.cell? ⟨g, j, none⟩ = some (.int .u8 ((cs.getD j 0).toNat : Int))) ∧ ∀ j, wr.frozen? ⟨g, j, none⟩ = false := by
  have hl : cs.length = m := by have := h.own.1; simpa [encs] using this
  rcases h.own.2 with ⟨h1, h2⟩ | ⟨g, cap, cur, h1, _⟩
  · omega
  · have : ao = some ⟨g, 0, none⟩ := by injection h1
    subst this
    refine ⟨g, rfl, fun j hj => ?_, fun j => h.own.frozenAt j⟩
    rw [h.own.cellAt j (by omega)]
    have hj' : j < cs.length := by omega
    simp [encs, encB, hj', List.getD]

theorem info9 : (Try.prog.info? 9).map (fun i => (i.zero, i.size, i.bytes)) = some (some (.string ⟨#[]⟩), 1, 16) := by kernel_rfl

/-- a copy of a slice of bytes: a row of its own. -/
theorem copied {B : Nat} (w : World) (ao : Option Addr) (m c : Nat) (bs : List UInt8) (hp : Sl B w 1 ao m (encs bs)) (hc0 : ao = none → c = 0) (hm : m ≤ 1000000) (hB : B ≤ w.heap.size) :
    ∃ a' c' w', (Builtin.append_ #[23, 23] 23 #[.slice (some ⟨w.heap.size, 0, none⟩) 0 0, .slice ao m c]).run Try.prog (w.alloc (.cells #[] 5)) = .ok (.slice a' m c') w' ∧ w'.ownsRow w.heap.size 5 1 (.slice a' m c') m (encs bs) ∧ Below w.heap.size w w' := by
  obtain ⟨i0, hi, hz0, hz1, hz2⟩ := info_parts info5
  have hp2 : Sl B (w.alloc (.cells #[] 5)) 1 ao m (encs bs) := hp.same fun a ha => World.cell?_alloc_lt w _ a (Nat.lt_of_lt_of_le ha hB)
  obtain ⟨v', w', hr, h2, h3, _⟩ := run_append_sl (w := w.alloc (.cells #[] 5)) (base := w.heap.size) (t := 23) (ty := 23) Try.underlying23 hi hz0 hz1 hz2 rfl (by decide)
    (.slice (some ⟨w.heap.size, 0, none⟩) 0 0) 0 [] (World.ownsRow_made w #[] 0 (Nat.le_refl _) (by decide) rfl) ao m c (encs bs) hp2 hc0 (encs_one bs) (by unfold maxLen; omega) (by omega) (by simp)
  rw [Nat.zero_add, List.nil_append] at h2
  obtain ⟨a', c', rfl, _⟩ := sl_of_owns h2
  exact ⟨a', c', w', hr, h2, ((Below.refl _ w).alloc (Nat.le_refl _) _).grown h3 (by simp) (by intro k hk; simp [Value.ownBlock] at hk; omega)⟩

/-- the queue has got a message; its bytes' row stays apart. -/
theorem beside_sent {B : Nat} {w wr w4 w5 : World} {q : Nat} {v lv v5 y : Value} {L : List Msg} {ts : List Value} {kind : Int} {bs : List UInt8} {ao : Option Addr} {m c : Nat} (h : Beside B w wr q v L lv ts) (hb : Below wr.heap.size wr w4)
    (hown : w4.ownsRow wr.heap.size 5 1 (.slice ao m c) m (encs bs)) (hq : Que B w5 q v5 (L ++ [⟨kind, bs, y⟩])) (hk : Kept (q :: blks v L) w4 w5) (hn : ∀ k ∈ blks v5 (L ++ [⟨kind, bs, y⟩]), k ∈ blks v L ∨ w4.heap.size ≤ k) :
    Beside B w w5 q v5 (L ++ [⟨kind, bs, y⟩]) lv ts ∧ Apart B w5 q v5 (L ++ [⟨kind, bs, y⟩]) lv ao m c bs := by
  have h4 := h.new hb
  have hlow : ∀ k ∈ q :: blks v L, B ≤ k ∧ k < wr.heap.size := h.que.lt
  have b5 : Below B w4 w5 := h4.que.to hk
  refine ⟨⟨hq, owns_kept h4.row fun k e => hk.block k (h4.row.lt k e).2 (h.off k e), fun g e hm => ?_, h4.bel.trans b5, Nat.le_trans h4.lo b5.size⟩, ⟨?_, fun g e => ⟨fun hm => ?_, fun e2 => ?_⟩⟩⟩
  · have := (h4.row.lt g e).2
    rcases List.mem_cons.1 hm with h1 | h1
    · exact h.off g e (by rw [h1]; simp)
    · rcases hn g h1 with h2 | h2
      · exact h.off g e (List.mem_cons_of_mem _ h2)
      · omega
  · refine owns_kept (owns_mono hown h.lo) fun k e => hk.block k (hown.lt k e).2 fun hm => ?_
    have := (hown.lt k e).1
    have := (hlow k hm).2
    omega
  · have h1 := hown.lt g e
    rcases List.mem_cons.1 hm with h2 | h2
    · have := (hlow q (by simp)).2
      omega
    · rcases hn g h2 with h3 | h3
      · have := (hlow g (List.mem_cons_of_mem _ h3)).2
        omega
      · omega
  · have h1 := hown.lt g e
    have := (h.row.lt g e2).2
    omega

/-- a text is put behind the others. -/
theorem text_put {B : Nat} {w wr : World} {q : Nat} {v lv : Value} {L : List Msg} {ts : List Value} (h : Beside B w wr q v L lv ts) (s : ByteArray) (hn : ts.length ≤ 1000) :
    ∃ a' c' w', (Builtin.append_ #[27, 27] 27 #[lv, .slice (some ⟨wr.heap.size, 0, none⟩) 1 1]).run Try.prog (wr.alloc (.cells #[.string s] 9)) = .ok (.slice a' (ts.length + 1) c') w' ∧ Beside B w w' q v L (.slice a' (ts.length + 1) c') (ts ++ [.string s]) := by
  obtain ⟨i0, hi, hz0, hz1, hz2⟩ := info_parts info9
  have h1 := h.new (wr' := wr.alloc (.cells #[.string s] 9)) ((Below.refl _ _).alloc (Nat.le_refl _) _)
  have hp : Sl (wr.heap.size + 1) (wr.alloc (.cells #[.string s] 9)) 1 (some ⟨wr.heap.size, 0, none⟩) 1 [.string s] :=
    ⟨rfl, (fun ha => by cases ha), (fun ad ha _ => by injection ha with ha; subst ha; exact Nat.lt_succ_self _), (fun ad ha => by injection ha with ha; subst ha; exact World.news_of_block (cs := #[.string s]) (t := 9) (fr := (0, 0)) (heap_alloc_new wr _))⟩
  obtain ⟨v', w', hr, h2, h3, h4⟩ := run_append_sl (t := 27) (ty := 27) Try.underlying27 hi hz0 hz1 hz2 rfl (by decide) lv ts.length ts h1.row (some ⟨wr.heap.size, 0, none⟩) 1 1 [.string s] hp (fun ha => by cases ha)
    (by intro u hu; simp at hu; subst hu; rfl) (by unfold maxLen; omega) (by omega) h1.lo
  obtain ⟨a', c', rfl, _⟩ := sl_of_owns h2
  refine ⟨a', c', w', hr, ?_⟩
  have hlt := h1.que.lt
  refine ⟨h1.que.keep fun k hk => h3.block k (hlt k hk).2 fun e => h1.off k e.symm hk, ?_, fun g e hm => ?_, h1.bel.trans ((Below.refl _ _).grown h3 h1.lo fun k e => (h1.row.lt k e).1), Nat.le_trans h1.lo h3.size⟩
  · simpa using h2
  · rcases h4 with e2 | e2
    · exact h1.off g (by rw [← e2]; exact e) hm
    · rw [e2] at e
      injection e with e
      have := (hlt g hm).2
      omega

theorem cut_low {t : TypeId} (hel : Try.prog.underlying t = some (.slice (Try.prog.elem t))) (hsz : ∀ W, (sizeOf (Try.prog.elem t)).run Try.prog W = .ok 1 W)
    {B : Nat} {w : World} {a : Option Addr} {n cap : Nat} {us : List Value} (h : Sl B w 1 a n us) (hcap : n ≤ cap) (hc0 : a = none → cap = 0) (z : Int) (k : Nat) (hz : z = (k : Int)) (hk : k ≤ n) :
    ∃ ao c, (∀ W, (Instr.slice t (.slice a n cap) none (some (.int .i64 z)) none).run Try.prog W = .ok (.slice ao k c) W) ∧ Sl B w 1 ao k (us.take k) ∧ (ao = none → c = 0) := by
  subst hz
  have hl := h.len
  refine ⟨if cap = 0 then a else a.map (·.add (0 * 1)), cap, fun W => ?_, ?_, ?_⟩
  · rw [run_slice_h W t a n cap hel .i64 (k : Int) (by omega) (by omega), hsz]
    simp [Result.andThen, sliced]
  · have e : (if cap = 0 then a else a.map (·.add (0 * 1))) = a := by
      split
      · rfl
      · cases a <;> simp [add_zero']
    rw [e]
    refine ⟨by simp; omega, fun ha => by have := h.non ha; omega, fun ad ha hu => h.blk ad ha (by simp at hu; omega), fun ad ha j u hu => ?_⟩
    have hj : j < k := by
      have := (List.getElem?_eq_some_iff.1 hu).1
      simp at this; omega
    rw [List.getElem?_take, if_pos hj] at hu
    exact h.cel ad ha j u hu
  · intro ha
    split at ha
    · assumption
    · cases a with
      | none => exact hc0 rfl
      | some x => simp at ha

theorem cut_high {t : TypeId} (hel : Try.prog.underlying t = some (.slice (Try.prog.elem t))) (hsz : ∀ W, (sizeOf (Try.prog.elem t)).run Try.prog W = .ok 1 W)
    {B : Nat} {w : World} {a : Option Addr} {n cap : Nat} {us : List Value} (h : Sl B w 1 a n us) (hcap : n ≤ cap) (hc0 : a = none → cap = 0) (z : Int) (k m : Nat) (hz : z = (k : Int)) (hk : k + m = n) :
    ∃ ao c, (∀ W, (Instr.slice t (.slice a n cap) (some (.int .i64 z)) none none).run Try.prog W = .ok (.slice ao m c) W) ∧ Sl B w 1 ao m (us.drop k) ∧ (ao = none → c = 0) := by
  subst hz
  have hl := h.len
  have hm : n - k = m := by omega
  refine ⟨if cap = k then a else a.map (·.add (k * 1)), cap - k, fun W => ?_, ?_, ?_⟩
  · rw [run_slice_l W t a n cap hel .i64 (k : Int) (by omega) (by omega), hsz]
    simp [Result.andThen, sliced, hm]
  · by_cases hm0 : m = 0
    · subst hm0
      have e : us.drop k = [] := List.drop_of_length_le (by omega)
      rw [e]
      exact ⟨rfl, fun _ => rfl, fun ad ha hu => by simp at hu, fun ad ha j u hu => by simp at hu⟩
    · have hck : ¬ cap = k := by omega
      rw [if_neg hck]
      cases a with
      | none => have := h.non rfl; omega
      | some x =>
        have hsp : x.spot = none := by
          have h0 : 0 < us.length := by omega
          have := h.cel x rfl 0 us[0] (by simp [h0])
          rw [add_zero'] at this
          exact World.cell?_spot this
        refine ⟨by simp; omega, fun ha => by simp at ha, fun ad ha hu => ?_, fun ad ha j u hu => ?_⟩
        · have hx := h.blk x rfl (by simp at hu; omega)
          simp at ha
          subst ha
          rw [addr_block]
          exact hx
        · simp at ha
          subst ha
          rw [add_add x k j hsp]
          rw [List.getElem?_drop] at hu
          exact h.cel x rfl (k + j) u hu
  · intro ha
    split at ha
    · omega
    · cases a with
      | none => have := hc0 rfl; omega
      | some x => simp at ha

theorem size27 (w : World) : (sizeOf (Try.prog.elem 27)).run Try.prog w = .ok 1 w := by kernel_rfl
theorem elem27 : Try.prog.underlying 27 = some (.slice (Try.prog.elem 27)) := by kernel_rfl

/-- two appends behind one another onto an empty row of its own: a new row of both. -/
theorem joined {t e : TypeId} {i : TypeInfo} {z : Value} {bytes : Nat} (ht : Try.prog.underlying t = some (.slice e)) (hi : Try.prog.info? e = some i) (hz : i.zero = some z) (hsize : i.size = 1) (hby : i.bytes = bytes) (hzs : z.cells.size = 1) (hbb : bytes ≤ 100000)
    {B : Nat} {w : World} (W0 : World) (hW : Below w.heap.size w W0) (v0 : Value) (hv0 : W0.ownsRow w.heap.size e 1 v0 0 [])
    (al ah : Option Addr) (k m cl ch : Nat) (us vs : List Value) (hp : Sl B w 1 al k us) (hq : Sl B w 1 ah m vs) (hcl : al = none → cl = 0) (hch : ah = none → ch = 0) (h1 : ∀ u ∈ us, u.oneCell' = true) (h2 : ∀ u ∈ vs, u.oneCell' = true) (hkm : k + m ≤ 1000) (hB : B ≤ w.heap.size) :
    ∃ a1 c1 W1 a2 c2 W2, (Builtin.append_ #[t, t] t #[v0, .slice al k cl]).run Try.prog W0 = .ok (.slice a1 k c1) W1 ∧ (Builtin.append_ #[t, t] t #[.slice a1 k c1, .slice ah m ch]).run Try.prog W1 = .ok (.slice a2 (k + m) c2) W2 ∧
      W2.ownsRow w.heap.size e 1 (.slice a2 (k + m) c2) (k + m) (us ++ vs) ∧ Below w.heap.size w W2 := by
  obtain ⟨v1, W1, r1, o1, g1, _⟩ := run_append_sl (ty := t) ht hi hz hsize hby hzs (by decide) v0 0 [] hv0 al k cl us (hp.below (hW.mono hB)) hcl h1 (by unfold maxLen; omega) (Nat.le_trans (Nat.mul_le_mul (show 0 + k ≤ 1000 by omega) hbb) (by decide)) hW.size
  rw [Nat.zero_add, List.nil_append] at o1
  obtain ⟨a1, c1, rfl, _⟩ := sl_of_owns o1
  have b1 : Below w.heap.size w W1 := hW.grown g1 hW.size fun x hx => (hv0.lt x hx).1
  obtain ⟨v2, W2, r2, o2, g2, _⟩ := run_append_sl (ty := t) ht hi hz hsize hby hzs (by decide) _ k us o1 ah m ch vs (hq.below (b1.mono hB)) hch h2 (by unfold maxLen; omega) (Nat.le_trans (Nat.mul_le_mul hkm hbb) (by decide)) b1.size
  obtain ⟨a2, c2, rfl, _⟩ := sl_of_owns o2
  exact ⟨a1, c1, W1, a2, c2, W2, r1, r2, o2, b1.grown g2 b1.size fun x hx => (o1.lt x hx).1⟩

/-- a message was taken: the texts stay; its bytes are apart. -/
theorem beside_took {B : Nat} {w wr w4 : World} {q : Nat} {v lv v4 y : Value} {L : List Msg} {ts : List Value} {kind : Int} {bs : List UInt8} {i : Nat} (h : Beside B w wr q v L lv ts) (hm : L[i]? = some ⟨kind, bs, y⟩)
    (hq : Que B w4 q v4 (L.eraseIdx i)) (hk : Kept (q :: blks v L) wr w4) (hn : ∀ k ∈ blks v4 (L.eraseIdx i), k ∈ blks v L) (hy : w4.ownsRow B 5 1 y bs.length (encs bs)) (hf : ∀ g, y.ownBlock = some g → g ∉ q :: blks v4 (L.eraseIdx i)) :
    Beside B w w4 q v4 (L.eraseIdx i) lv ts ∧ ∀ ay cy, y = .slice ay bs.length cy → Apart B w4 q v4 (L.eraseIdx i) lv ay bs.length cy bs := by
  have b4 : Below B wr w4 := h.que.to hk
  refine ⟨⟨hq, owns_kept h.row fun k e => hk.block k (h.row.lt k e).2 (h.off k e), fun g e hg => ?_, h.bel.trans b4, Nat.le_trans h.lo b4.size⟩, fun ay cy ey => ?_⟩
  · rcases List.mem_cons.1 hg with h1 | h1
    · exact h.off g e (by rw [h1]; simp)
    · exact h.off g e (List.mem_cons_of_mem _ (hn g h1))
  · subst ey
    refine ⟨hy, fun g e => ⟨hf g e, fun e2 => ?_⟩⟩
    have hmem : (⟨kind, bs, .slice ay bs.length cy⟩ : Msg) ∈ L := List.mem_of_getElem? hm
    exact h.off g e2 (List.mem_cons_of_mem _ (List.mem_append_right _ (List.mem_filterMap.2 ⟨_, hmem, e⟩)))

theorem text_one (L : List Msg) : ∀ u ∈ L.map text, u.oneCell' = true := by
  intro u hu
  obtain ⟨m, _, rfl⟩ := List.mem_map.1 hu
  rfl
theorem text_erase (L : List Msg) (i : Nat) : (L.map text).take i ++ (L.map text).drop (i + 1) = (L.eraseIdx i).map text := by
  rw [← List.map_take, ← List.map_drop, ← List.map_append, ← List.eraseIdx_eq_take_drop_succ]

/-- the texts are laid anew without one. -/
theorem beside_anew {B : Nat} {w wr w2 : World} {q : Nat} {v lv : Value} {L : List Msg} {ts us : List Value} {v2 : Value} {n : Nat} (h : Beside B w wr q v L lv ts) (hb : Below wr.heap.size wr w2) (ho : w2.ownsRow wr.heap.size 9 1 v2 n us) (hn : us.length = n) : Beside B w w2 q v L v2 us := by
  have h2 := h.new hb
  refine ⟨h2.que, by rw [hn]; exact owns_mono ho h.lo, fun g e hg => ?_, h2.bel, h2.lo⟩
  have := (ho.lt g e).1
  have := (h.que.lt g hg).2
  omega
end Go.Proofs.Ytgbcjbbkcoaohaa
