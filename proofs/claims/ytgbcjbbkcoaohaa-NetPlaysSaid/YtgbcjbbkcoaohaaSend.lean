/- What Send does to the queue in memory. -/
import Derived.Test.YtgbcjbbkcoaohaaQueue
namespace Go.Proofs.Ytgbcjbbkcoaohaa
open Go.RowKit
set_option linter.unusedVariables false

/-- an append of any slice to a row of the call's own, at a step of a region that draws. -/
theorem step_append_sl {w : World} {ops : Array Oper} {o : Oper} {a : Act} {K : Act → World → Prop} {Q : Exit → Act → World → Prop} {E : Prop} (hgd : o.guard = none) (s x : Operand) (t : TypeId)
    (ho : o.op = .call { callee := .builtin .append, args := #[s, x], argTypes := #[t, t] })
    (base : Nat) {e : TypeId} {i : TypeInfo} {z : Value} {size bytes : Nat} (ht : Try.prog.underlying t = some (.slice e)) (hi : Try.prog.info? e = some i) (hz : i.zero = some z)
    (hsize : i.size = size) (hby : i.bytes = bytes) (hzs : z.cells.size = size) (hsz : 0 < size)
    (v : Value) (n : Nat) (xs : List Value) (hs : a.eval s = v) (hown : w.ownsRow base e size v n xs)
    (B : Nat) (ao : Option Addr) (m c : Nat) (us : List Value) (hx : a.eval x = .slice ao m c) (hp : Sl B w size ao m us) (hc0 : ao = none → c = 0) (h1 : ∀ u ∈ us, u.oneCell' = true)
    (h63 : n + m ≤ maxLen) (hbytes : (n + m) * bytes ≤ 140737488355328) (hbase : base ≤ w.heap.size)
    (h : ∀ v' w', w'.ownsRow base e size v' (n + m) (xs ++ us) → w.grownBy w' v.ownBlock → (v'.ownBlock = v.ownBlock ∨ v'.ownBlock = some w.heap.size) → K (a.put o.dst v') w') :
    if Region.wanted o (yielded ops a.tmps) = true then Oper.wp Try.prog o a w K Q else E := by
  obtain ⟨v', w', hr, h2, h3, h5⟩ := run_append_sl (ty := o.type) ht hi hz hsize hby hzs hsz v n xs hown ao m c us hp hc0 h1 h63 hbytes hbase
  exact step_append_run hgd s x t ho _ _ v' w' hs hx hr (h v' w' h2 h3 h5)

/-- the queue behind a message that was sent. -/
def Sent (B : Nat) (w : World) (q : Nat) (v : Value) (L : List Msg) (kind : Int) (bs : List UInt8) (e : Ending) (w' : World) : Prop :=
  e = .returned (.int .i64 0) ∧ ∃ v' y, Que B w' q v' (L ++ [⟨kind, bs, y⟩]) ∧ Kept (q :: blks v L) w w' ∧ ∀ k ∈ blks v' (L ++ [⟨kind, bs, y⟩]), k ∈ blks v L ∨ w.heap.size ≤ k

theorem que_sent {B : Nat} {w w' : World} {q : Nat} {v v' y : Value} {L : List Msg} {kind : Int} {bs : List UInt8} (hq : Que B w q v L)
    (hmsg : ∀ k ∈ L.filterMap (fun m => m.val.ownBlock), w'.heap[k]? = w.heap[k]?) (hcel : w'.cell? ⟨q, 0, none⟩ = some v') (hfro : w'.frozen? ⟨q, 0, none⟩ = false)
    (hrow : w'.ownsRow B 53 2 v' (L.length + 1) (cellsOf L ++ [.int .i64 kind, y])) (hy : w'.ownsRow w.heap.size 5 1 y bs.length (encs bs))
    (hv : v'.ownBlock = v.ownBlock ∨ ∃ k, v'.ownBlock = some k ∧ w.heap.size ≤ k ∧ y.ownBlock ≠ some k) (hfew : L.length < 32) (hshort : bs.length ≤ 131072) (hkin : kind = 1 ∨ kind = 2) :
    Que B w' q v' (L ++ [⟨kind, bs, y⟩]) ∧ ∀ k ∈ blks v' (L ++ [⟨kind, bs, y⟩]), k ∈ blks v L ∨ w.heap.size ≤ k := by
  have hlt := hq.lt
  have hB : B ≤ w.heap.size := by have := hlt q (by simp); omega
  have hyb : ∀ k, y.ownBlock = some k → w.heap.size ≤ k := fun k e => (hy.lt k e).1
  have hnew : ∀ k ∈ blks v' (L ++ [⟨kind, bs, y⟩]), k ∈ blks v L ∨ w.heap.size ≤ k := by
    intro k hk
    simp only [blks, List.filterMap_append, List.mem_append, List.filterMap_cons, List.filterMap_nil] at hk
    rcases hk with hk | hk | hk
    · rcases hv with e | ⟨k', e, hk', _⟩
      · rw [e] at hk
        exact .inl (List.mem_append_left _ hk)
      · rw [e] at hk
        simp at hk
        exact .inr (by omega)
    · exact .inl (List.mem_append_right _ hk)
    · right
      cases e : y.ownBlock with
      | none => rw [e] at hk; simp at hk
      | some k' =>
        rw [e] at hk
        simp at hk
        have := hyb k' e
        omega
  refine ⟨⟨hq.lo, hcel, hfro, ?_, ?_, ?_, by simp; omega, ?_, ?_⟩, hnew⟩
  · rw [cellsOf_append]
    simpa [cellsOf] using hrow
  · intro m hm
    rcases List.mem_append.1 hm with hm | hm
    · exact owns_kept (hq.msg m hm) fun k e => hmsg k (List.mem_filterMap.2 ⟨m, hm, e⟩)
    · simp at hm
      subst hm
      exact owns_mono hy hB
  · have hnod := hq.nod
    have hltv : ∀ k ∈ blks v L, k < w.heap.size := fun k hk => (hlt k (List.mem_cons_of_mem _ hk)).2
    have hqlt := (hlt q (by simp)).2
    rw [List.nodup_cons] at hnod ⊢
    refine ⟨fun hm => ?_, ?_⟩
    · rcases hnew q hm with h1 | h1
      · exact hnod.1 h1
      · omega
    · have h2 := hnod.2
      unfold blks at h2 ⊢
      rw [List.filterMap_append]
      have hyl : (List.filterMap (fun m : Msg => m.val.ownBlock) [⟨kind, bs, y⟩]) = y.ownBlock.toList := by
        cases e : y.ownBlock <;> simp [e]
      rw [hyl]
      rw [List.nodup_append] at h2
      obtain ⟨n1, n2, n3⟩ := h2
      have hLlt : ∀ k ∈ List.filterMap (fun m : Msg => m.val.ownBlock) L, k < w.heap.size := fun k hk => hltv k (List.mem_append_right _ hk)
      have nodopt : ∀ o : Option Nat, o.toList.Nodup := by intro o; cases o <;> simp
      rw [List.nodup_append]
      refine ⟨nodopt _, ?_, ?_⟩
      · rw [List.nodup_append]
        refine ⟨n2, nodopt _, fun a ha b hb => ?_⟩
        have := hLlt a ha
        have := hyb b (by simpa using hb)
        omega
      · intro a ha b hb
        have ha' : v'.ownBlock = some a := by simpa using ha
        rcases List.mem_append.1 hb with hb | hb
        · rcases hv with e | ⟨k', e, hk', _⟩
          · exact n3 a (by rw [← e]; exact ha) b hb
          · rw [e] at ha'
            injection ha' with ha'
            have := hLlt b hb
            omega
        · have hb' : y.ownBlock = some b := by simpa using hb
          rcases hv with e | ⟨k', e, hk', hne⟩
          · have h1 := hltv a (List.mem_append_left _ (by rw [← e]; exact ha))
            have := hyb b hb'
            omega
          · rw [e] at ha'
            injection ha' with ha'
            intro hab
            exact hne (by rw [hb', ← hab, ha'])
  · intro m hm
    rcases List.mem_append.1 hm with hm | hm
    · exact hq.short m hm
    · simp at hm
      subst hm
      exact hshort
  · intro m hm
    rcases List.mem_append.1 hm with hm | hm
    · exact hq.kin m hm
    · simp at hm
      subst hm
      exact hkin

theorem send_kind {B : Nat} {w : World} {q : Nat} {v : Value} {L : List Msg} (_hq : Que B w q v L) (kind : Int) (ao : Option Addr) (m c : Nat) (h1 : (kind != 1) = true) (h2 : (kind != 2) = true) :
    Calls Try.prog 9 #[.pointer (some ⟨q, 0, none⟩), .int .i64 kind, .slice ao m c] w fun e w' => e = .returned (.int .i64 1) ∧ w = w' := by
  go_enter Try.func9, Try.ntmps9
  go_wp2
  go_ret
  exact ⟨rfl, rfl⟩

theorem kinds (kind : Int) : ((kind != 1) = true ∧ (kind != 2) = true) ∨ ((kind != 1) = false) ∨ ((kind != 1) = true ∧ (kind != 2) = false) := by
  by_cases h1 : kind = 1
  · right; left; simp [h1]
  · by_cases h2 : kind = 2
    · right; right; simp [h2]
    · left; simp [h1, h2]

theorem send_long {B : Nat} {w : World} {q : Nat} {v : Value} {L : List Msg} (hq : Que B w q v L) (kind : Int) (ao : Option Addr) (m c : Nat) (hk : ((kind != 1) = false) ∨ ((kind != 1) = true ∧ (kind != 2) = false)) (hm : 131072 < m) (hm2 : m ≤ 9223372036854775807) :
    Calls Try.prog 9 #[.pointer (some ⟨q, 0, none⟩), .int .i64 kind, .slice ao m c] w fun e w' => e = .returned (.int .i64 3) ∧ w = w' := by
  rcases hk with h1 | ⟨h1, h2⟩
  · go_enter Try.func9, Try.ntmps9
    go_wp2
    go_ret
    exact ⟨rfl, rfl⟩
  · go_enter Try.func9, Try.ntmps9
    go_wp2
    go_ret
    exact ⟨rfl, rfl⟩

theorem send_full {B : Nat} {w : World} {q : Nat} {v : Value} {L : List Msg} (hq : Que B w q v L) (kind : Int) (ao : Option Addr) (m c : Nat) (hk : ((kind != 1) = false) ∨ ((kind != 1) = true ∧ (kind != 2) = false)) (hm : m ≤ 131072) (hf : 32 ≤ L.length) :
    Calls Try.prog 9 #[.pointer (some ⟨q, 0, none⟩), .int .i64 kind, .slice ao m c] w fun e w' => e = .returned (.int .i64 18) ∧ w = w' := by
  obtain ⟨av, cv, rfl⟩ := hq.form
  have hc := hq.cel
  have hl := hq.few
  clear hq
  rcases hk with h1 | ⟨h1, h2⟩
  · go_enter Try.func9, Try.ntmps9
    go_wp2
    go_ret
    exact ⟨rfl, rfl⟩
  · go_enter Try.func9, Try.ntmps9
    go_wp2
    go_ret
    exact ⟨rfl, rfl⟩

theorem one_pair {w : World} {base : Nat} {kind : Int} {y : Value} {bs : List UInt8} (hy : w.ownsRow base 5 1 y bs.length (encs bs)) : ∀ u ∈ [.int .i64 kind, y], u.oneCell' = true := by
  intro u hu
  obtain ⟨ao, c, rfl, _⟩ := sl_of_owns hy
  simp at hu
  rcases hu with rfl | rfl <;> rfl

theorem sl_new (w : World) (a b : Value) (t : TypeId) : Sl (w.heap.size + 1) (w.alloc (.cells #[a, b] t)) 2 (some ⟨w.heap.size, 0, none⟩) 1 [a, b] :=
  ⟨rfl, (fun ha => by cases ha), (fun ad ha _ => by injection ha with ha; subst ha; exact Nat.lt_succ_self _), (fun ad ha => by injection ha with ha; subst ha; exact World.news_of_block (cs := #[a, b]) (t := t) (fr := (0, 0)) (heap_alloc_new w _))⟩
theorem some_none {α : Type} {a : α} {c : Nat} : (some a = none) → c = 0 := fun h => by cases h
theorem pos2 : 0 < 2 := by decide
theorem agg_size : (Value.agg #[.int .i64 0, .slice none 0 0]).cells.size = 2 := rfl
/-- the world behind the store. -/
theorem sent_end {B : Nat} {w w1 w2 : World} {q : Nat} {v y v2 : Value} {L : List Msg} {kind : Int} {bs : List UInt8} (hq : Que B w q v L) (hy : w1.ownsRow w.heap.size 5 1 y bs.length (encs bs))
    (hb : Below w.heap.size w (w1.alloc (.cells #[.int .i64 kind, y] 53))) (hav : v.ownBlock ≠ some q) (hrow : w2.ownsRow B 53 2 v2 (L.length + 1) (cellsOf L ++ [.int .i64 kind, y]))
    (hg : (w1.alloc (.cells #[.int .i64 kind, y] 53)).grownBy w2 v.ownBlock) (hb2 : v2.ownBlock = v.ownBlock ∨ v2.ownBlock = some (w1.alloc (.cells #[.int .i64 kind, y] 53)).heap.size) (hf : L.length < 32) (hs : bs.length ≤ 131072) (hkin : kind = 1 ∨ kind = 2) :
    ∃ v' y, Que B (w2.setCell ⟨q, 0, none⟩ v2) q v' (L ++ [⟨kind, bs, y⟩]) ∧ Kept (q :: blks v L) w (w2.setCell ⟨q, 0, none⟩ v2) ∧ ∀ k ∈ blks v' (L ++ [⟨kind, bs, y⟩]), k ∈ blks v L ∨ w.heap.size ≤ k := by
  have hlt := hq.lt
  have hqlt := (hlt q (by simp)).2
  have hsz : (w1.alloc (.cells #[.int .i64 kind, y] 53)).heap.size = w1.heap.size + 1 := by simp
  have hw1 : w.heap.size ≤ w1.heap.size + 1 := by have := hb.size; omega
  have hvlt : ∀ k, v.ownBlock = some k → k < w.heap.size := fun k e => (hlt k (by simp [blks, e])).2
  have hc2 : w2.cell? ⟨q, 0, none⟩ = some v := by
    rw [hg.cell_far ⟨q, 0, none⟩ (Nat.lt_of_lt_of_le hqlt hb.size) (Ne.symm hav), hb.cell (p := ⟨q, 0, none⟩) hqlt]
    exact hq.cel
  have hf2 : w2.frozen? ⟨q, 0, none⟩ = false := by
    rw [hg.frozen_far ⟨q, 0, none⟩ (Nat.lt_of_lt_of_le hqlt hb.size) (Ne.symm hav), hb.frozen (p := ⟨q, 0, none⟩) hqlt]
    exact hq.fro
  have hkept : Kept (q :: blks v L) w (w2.setCell ⟨q, 0, none⟩ v2) := by
    refine Kept.set ?_ _ (.inl (by simp)) _
    exact (Kept.of_below hb).grown hg fun k e => .inl (by simp [blks, e])
  have hne : ∀ k, k ≠ q → (w2.setCell ⟨q, 0, none⟩ v2).heap[k]? = w2.heap[k]? := fun k hk => Below.heap_setCell w2 ⟨q, 0, none⟩ v2 k hk
  have hnod := hq.nod
  rw [List.nodup_cons] at hnod
  have hyk : ∀ k, y.ownBlock = some k → w.heap.size ≤ k ∧ k < w1.heap.size := fun k e => hy.lt k e
  have hv2q : ∀ k, v2.ownBlock = some k → k ≠ q := by
    intro k e hk
    subst hk
    rcases hb2 with h | h
    · rw [h] at e; exact hav e
    · rw [h, hsz] at e; injection e with e; omega
  have hmsg : ∀ k ∈ L.filterMap (fun m => m.val.ownBlock), (w2.setCell ⟨q, 0, none⟩ v2).heap[k]? = w.heap[k]? := by
    intro k hk
    have hkb : k ∈ blks v L := List.mem_append_right _ hk
    have hkq : k ≠ q := by intro e; subst e; exact hnod.1 hkb
    have hklt := (hlt k (List.mem_cons_of_mem _ hkb)).2
    have hkv : some k ≠ v.ownBlock := by
      intro e
      have h2 := hnod.2
      unfold blks at h2
      rw [List.nodup_append] at h2
      exact h2.2.2 k (by rw [← e]; simp) k hk rfl
    rw [hne k hkq, hg.block k (Nat.lt_of_lt_of_le hklt hb.size) hkv, hb.block k hklt]
  have hy2 : (w2.setCell ⟨q, 0, none⟩ v2).ownsRow w.heap.size 5 1 y bs.length (encs bs) := by
    refine owns_kept hy fun k e => ?_
    obtain ⟨k1, k2⟩ := hyk k e
    rw [hne k (by omega), hg.block k (by rw [hsz]; omega) (by intro e2; have := hvlt k e2.symm; omega)]
    exact Below.heap_alloc w1 _ k k2
  have hrow2 : (w2.setCell ⟨q, 0, none⟩ v2).ownsRow B 53 2 v2 (L.length + 1) (cellsOf L ++ [.int .i64 kind, y]) := owns_kept hrow fun k e => hne k (hv2q k e)
  have hcq : (w2.setCell ⟨q, 0, none⟩ v2).cell? ⟨q, 0, none⟩ = some v2 := World.cell?_setCell_same _ _ _ hc2
  have h := que_sent hq hmsg hcq (by simpa using hf2) hrow2 hy2 (by
    rcases hb2 with h | h
    · exact .inl h
    · exact .inr ⟨_, h, by rw [hsz]; omega, fun e => by have := hyk _ e; rw [hsz] at this; omega⟩) hf hs hkin
  exact ⟨v2, y, h.1, hkept, h.2⟩

set_option maxHeartbeats 1600000 in
theorem send_ok {B : Nat} {w : World} {q : Nat} {v : Value} {L : List Msg} (hq : Que B w q v L) (kind : Int) {B' : Nat} (ao : Option Addr) (m c : Nat) (bs : List UInt8) (hk : ((kind != 1) = false) ∨ ((kind != 1) = true ∧ (kind != 2) = false))
    (hp : Sl B' w 1 ao m (encs bs)) (hc0 : ao = none → c = 0) (hB' : B' ≤ w.heap.size) (hm : m ≤ 131072) (hf : L.length < 32) :
    Calls Try.prog 9 #[.pointer (some ⟨q, 0, none⟩), .int .i64 kind, .slice ao m c] w (Sent B w q v L kind bs) := by
  obtain ⟨i0, hi, hz0, hz1, hz2⟩ := info_parts info53
  obtain ⟨av, cv, rfl⟩ := hq.form
  have hcel := hq.cel
  have hfro := hq.fro
  have hlt := hq.lt q (by simp)
  have hqlt : q < w.heap.size := hlt.2
  have hBw : B ≤ w.heap.size := by omega
  have HQ := Lib.hid hq
  have HP := Lib.hid hp
  have HC0 := Lib.hid hc0
  have hav : (Value.slice av L.length cv).ownBlock ≠ some q := by
    intro e
    have := hq.nod
    rw [List.nodup_cons] at this
    exact this.1 (List.mem_append_left _ (by rw [e]; simp))
  have HAV := Lib.hid hav
  have HM : Hid (m ≤ 1000000) := by show m ≤ 1000000; omega
  have H63 : Hid (L.length + 1 ≤ maxLen) := by show L.length + 1 ≤ maxLen; unfold maxLen; omega
  have HBy : Hid ((L.length + 1) * 32 ≤ 140737488355328) := by show (L.length + 1) * 32 ≤ 140737488355328; omega
  clear hq hp hc0 hlt hav
  have hk' : kind = 1 ∨ kind = 2 := by rcases hk with h1 | ⟨h1, h2⟩ <;> simp at * <;> omega
  clear hk
  rcases hk' with rfl | rfl
  · go_enter Try.func9, Try.ntmps9
    go_wp2
    go_region_law (first
        | (go_simp; go_at_call 20; refine (clone_any ao m c bs _ (HP.out.below ((Below.refl _ _).drew)) HC0.out HM.out hB').mono ?_; rintro e w1 ⟨y, rfl, hy, hb1⟩; obtain ⟨ay, cy, rfl, _, _, _⟩ := sl_of_owns hy; have HB1 := Lib.hid ((((Below.refl w.heap.size w).drew).trans hb1).alloc hb1.size (.cells #[.int .i64 1, .slice ay bs.length cy] 53)); have hc1 : w1.cell? ⟨q, 0, none⟩ = some (.slice av L.length cv) := (hb1.cell (p := ⟨q, 0, none⟩) hqlt).trans hcel; have hf1 : w1.frozen? ⟨q, 0, none⟩ = false := (hb1.frozen (p := ⟨q, 0, none⟩) hqlt).trans hfro; have hq1 : q < w1.heap.size := Nat.lt_of_lt_of_le hqlt hb1.size; have HY := Lib.hid hy; clear hy hb1)
        | (refine step_append_sl rfl (.tmp 33) (.tmp 38) 48 rfl B Try.underlying48 hi hz0 hz1 hz2 agg_size pos2 (.slice av L.length cv) L.length (cellsOf L) rfl (owns_kept HQ.out.row fun k e => HB1.out.block k (HQ.out.row.lt k e).2) (w1.heap.size + 1) (some ⟨w1.heap.size, 0, none⟩) 1 1 [.int .i64 1, .slice ay bs.length cy] rfl (sl_new w1 _ _ _) some_none (one_pair HY.out) H63.out HBy.out (Nat.le_trans hBw HB1.out.size) ?_
           intro v2 w2 hrow2 hg2 hb2
           obtain ⟨a2, c2, rfl, _, _, _⟩ := sl_of_owns hrow2
           have hc2 : w2.cell? ⟨q, 0, none⟩ = some (.slice av L.length cv) := (hg2.cell_far ⟨q, 0, none⟩ (Nat.lt_of_lt_of_le hqlt HB1.out.size) (Ne.symm HAV.out)).trans ((HB1.out.cell (p := ⟨q, 0, none⟩) hqlt).trans hcel)
           have hf2 : w2.frozen? ⟨q, 0, none⟩ = false := (hg2.frozen_far ⟨q, 0, none⟩ (Nat.lt_of_lt_of_le hqlt HB1.out.size) (Ne.symm HAV.out)).trans ((HB1.out.frozen (p := ⟨q, 0, none⟩) hqlt).trans hfro)
           have HR2 := Lib.hid hrow2
           have HG2 := Lib.hid hg2
           have HB2 := Lib.hid hb2
           clear hrow2 hg2 hb2)
        | fail)
    all_goals
      have hfin := Lib.hid (sent_end HQ.out HY.out HB1.out HAV.out HR2.out HG2.out HB2.out hf (by have := HP.out.len; simp [encs] at this; omega) (.inl rfl))
      clear HR2 HG2 HB2
      go_wp2
      go_ret
      exact ⟨rfl, hfin.out⟩
  · go_enter Try.func9, Try.ntmps9
    go_wp2
    go_region_law (first
        | (go_simp; go_at_call 20; refine (clone_any ao m c bs _ (HP.out.below ((Below.refl _ _).drew)) HC0.out HM.out hB').mono ?_; rintro e w1 ⟨y, rfl, hy, hb1⟩; obtain ⟨ay, cy, rfl, _, _, _⟩ := sl_of_owns hy; have HB1 := Lib.hid ((((Below.refl w.heap.size w).drew).trans hb1).alloc hb1.size (.cells #[.int .i64 2, .slice ay bs.length cy] 53)); have hc1 : w1.cell? ⟨q, 0, none⟩ = some (.slice av L.length cv) := (hb1.cell (p := ⟨q, 0, none⟩) hqlt).trans hcel; have hf1 : w1.frozen? ⟨q, 0, none⟩ = false := (hb1.frozen (p := ⟨q, 0, none⟩) hqlt).trans hfro; have hq1 : q < w1.heap.size := Nat.lt_of_lt_of_le hqlt hb1.size; have HY := Lib.hid hy; clear hy hb1)
        | (refine step_append_sl rfl (.tmp 33) (.tmp 38) 48 rfl B Try.underlying48 hi hz0 hz1 hz2 agg_size pos2 (.slice av L.length cv) L.length (cellsOf L) rfl (owns_kept HQ.out.row fun k e => HB1.out.block k (HQ.out.row.lt k e).2) (w1.heap.size + 1) (some ⟨w1.heap.size, 0, none⟩) 1 1 [.int .i64 2, .slice ay bs.length cy] rfl (sl_new w1 _ _ _) some_none (one_pair HY.out) H63.out HBy.out (Nat.le_trans hBw HB1.out.size) ?_
           intro v2 w2 hrow2 hg2 hb2
           obtain ⟨a2, c2, rfl, _, _, _⟩ := sl_of_owns hrow2
           have hc2 : w2.cell? ⟨q, 0, none⟩ = some (.slice av L.length cv) := (hg2.cell_far ⟨q, 0, none⟩ (Nat.lt_of_lt_of_le hqlt HB1.out.size) (Ne.symm HAV.out)).trans ((HB1.out.cell (p := ⟨q, 0, none⟩) hqlt).trans hcel)
           have hf2 : w2.frozen? ⟨q, 0, none⟩ = false := (hg2.frozen_far ⟨q, 0, none⟩ (Nat.lt_of_lt_of_le hqlt HB1.out.size) (Ne.symm HAV.out)).trans ((HB1.out.frozen (p := ⟨q, 0, none⟩) hqlt).trans hfro)
           have HR2 := Lib.hid hrow2
           have HG2 := Lib.hid hg2
           have HB2 := Lib.hid hb2
           clear hrow2 hg2 hb2)
        | fail)
    all_goals
      have hfin := Lib.hid (sent_end HQ.out HY.out HB1.out HAV.out HR2.out HG2.out HB2.out hf (by have := HP.out.len; simp [encs] at this; omega) (.inr rfl))
      clear HR2 HG2 HB2
      go_wp2
      go_ret
      exact ⟨rfl, hfin.out⟩
end Go.Proofs.Ytgbcjbbkcoaohaa
