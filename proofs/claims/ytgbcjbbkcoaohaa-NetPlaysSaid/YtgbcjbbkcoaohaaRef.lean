/- The reference's queue in memory (two rows, of kindsV and of texts), in plain words; and it beside net's. -/
import Derived.Test.YtgbcjbbkcoaohaaPlain
namespace Go.Proofs.Ytgbcjbbkcoaohaa
open Go.RowKit
set_option linter.unusedVariables false

def rblks (kv bv : Value) (M : List Msg) : List Nat := kv.ownBlock.toList ++ (bv.ownBlock.toList ++ M.filterMap (fun m => m.val.ownBlock))
abbrev kindsV (M : List Msg) : List Value := M.map fun m => Value.int .i64 m.kind
abbrev valsV (M : List Msg) : List Value := M.map fun m => m.val

structure Ref (B : Nat) (w : World) (r : Nat) (kv bv : Value) (M : List Msg) : Prop where
  lo : B ≤ r
  celk : w.cell? ⟨r, 0, none⟩ = some kv
  celb : w.cell? ⟨r, 1, none⟩ = some bv
  frok : w.frozen? ⟨r, 0, none⟩ = false
  frob : w.frozen? ⟨r, 1, none⟩ = false
  rowk : w.ownsRow B 3 1 kv M.length (kindsV M)
  rowb : w.ownsRow B 23 1 bv M.length (valsV M)
  msg : ∀ m ∈ M, w.ownsRow B 5 1 m.val m.bytes.length (encs m.bytes)
  off : r ∉ rblks kv bv M
  few : M.length ≤ 32
  short : ∀ m ∈ M, m.bytes.length ≤ 131072
  kin : ∀ m ∈ M, m.kind = 1 ∨ m.kind = 2

theorem Ref.lt {B : Nat} {w : World} {r : Nat} {kv bv : Value} {M : List Msg} (h : Ref B w r kv bv M) : ∀ k ∈ r :: rblks kv bv M, B ≤ k ∧ k < w.heap.size := by
  intro k hk
  rcases List.mem_cons.1 hk with rfl | hk
  · exact ⟨h.lo, World.block_lt_of_cell? w _ h.celk⟩
  · rcases List.mem_append.1 hk with hk | hk
    · exact h.rowk.lt k (by simpa using hk)
    · rcases List.mem_append.1 hk with hk | hk
      · exact h.rowb.lt k (by simpa using hk)
      · obtain ⟨m, hm, hb⟩ := List.mem_filterMap.1 hk
        exact (h.msg m hm).lt k hb
theorem Ref.keep {B : Nat} {w w' : World} {r : Nat} {kv bv : Value} {M : List Msg} (h : Ref B w r kv bv M) (hk : ∀ k ∈ r :: rblks kv bv M, w'.heap[k]? = w.heap[k]?) : Ref B w' r kv bv M := by
  have hr := hk r (by simp)
  refine ⟨h.lo, ?_, ?_, ?_, ?_, owns_kept h.rowk fun k e => hk k (by simp [rblks, e]), owns_kept h.rowb fun k e => hk k (by simp [rblks, e]), fun m hm => owns_kept (h.msg m hm) fun k e => hk k ?_, h.off, h.few, h.short, h.kin⟩
  · rw [World.cell?_of_block (a := ⟨r, 0, none⟩) hr]; exact h.celk
  · rw [World.cell?_of_block (a := ⟨r, 1, none⟩) hr]; exact h.celb
  · rw [World.frozen?_of_block (a := ⟨r, 0, none⟩) hr]; exact h.frok
  · rw [World.frozen?_of_block (a := ⟨r, 1, none⟩) hr]; exact h.frob
  · exact List.mem_cons_of_mem _ (List.mem_append_right _ (List.mem_append_right _ (List.mem_filterMap.2 ⟨m, hm, e⟩)))

def RefAt (B : Nat) (w : World) (r : Nat) (cs : List Nat) (T : Words) : Prop := ∃ kv bv M, Ref B w r kv bv M ∧ cs = rblks kv bv M ∧ T = M.map plain
/-- what a call of the reference leaves. -/
def RefTo (B : Nat) (w w' : World) (r : Nat) (cs : List Nat) (T : Words) : Prop := ∃ cs', RefAt B w' r cs' T ∧ Kept [r] w w' ∧ ∀ k ∈ cs', k ∈ cs ∨ w.heap.size ≤ k
theorem RefAt.stay {B : Nat} {w w' : World} {r : Nat} {cs : List Nat} {T : Words} (h : RefAt B w r cs T) (e : w' = w) : RefTo B w w' r cs T := by
  subst e
  exact ⟨cs, h, Kept.refl _ _, fun k hk => .inl hk⟩
theorem Ref.at {B : Nat} {w : World} {r : Nat} {kv bv : Value} {M : List Msg} (h : Ref B w r kv bv M) : RefAt B w r (rblks kv bv M) (M.map plain) := ⟨kv, bv, M, h, rfl, rfl⟩

/-- the rows are laid anew. -/
theorem ref_of {B : Nat} {w X : World} {r : Nat} {kv bv : Value} {M : List Msg} (h : Ref B w r kv bv M) (hk : Kept [r] w X) (kv' bv' : Value) (M' : List Msg)
    (c0 : X.cell? ⟨r, 0, none⟩ = some kv') (c1 : X.cell? ⟨r, 1, none⟩ = some bv') (f0 : X.frozen? ⟨r, 0, none⟩ = false) (f1 : X.frozen? ⟨r, 1, none⟩ = false)
    (hkv : X.ownsRow B 3 1 kv' M'.length (kindsV M')) (hkn : ∀ g, kv'.ownBlock = some g → g ∈ rblks kv bv M ∨ w.heap.size ≤ g)
    (hbv : X.ownsRow w.heap.size 23 1 bv' M'.length (valsV M'))
    (hm : ∀ m ∈ M', m ∈ M ∨ (X.ownsRow w.heap.size 5 1 m.val m.bytes.length (encs m.bytes) ∧ m.bytes.length ≤ 131072 ∧ (m.kind = 1 ∨ m.kind = 2))) (hf : M'.length ≤ 32) :
    RefTo B w X r (rblks kv bv M) (M'.map plain) := by
  have hlt := h.lt
  have hr := hlt r (by simp)
  have hBw : B ≤ w.heap.size := by omega
  have hin : ∀ m ∈ M, ∀ g, m.val.ownBlock = some g → g ∈ rblks kv bv M := fun m hm g e => List.mem_append_right _ (List.mem_append_right _ (List.mem_filterMap.2 ⟨m, hm, e⟩))
  have hnew : ∀ k ∈ rblks kv' bv' M', k ∈ rblks kv bv M ∨ w.heap.size ≤ k := by
    intro k hk'
    rcases List.mem_append.1 hk' with g | g
    · exact hkn k (by simpa using g)
    · rcases List.mem_append.1 g with g | g
      · exact .inr (hbv.lt k (by simpa using g)).1
      · obtain ⟨m, hm', e⟩ := List.mem_filterMap.1 g
        rcases hm m hm' with g1 | g1
        · exact .inl (hin m g1 k e)
        · exact .inr (g1.1.lt k e).1
  refine ⟨rblks kv' bv' M', Ref.at ⟨h.lo, c0, c1, f0, f1, hkv, owns_mono hbv hBw, fun m hm' => ?_, fun hm' => ?_, hf, fun m hm' => ?_, fun m hm' => ?_⟩, hk, hnew⟩
  · rcases hm m hm' with g | g
    · refine owns_kept (h.msg m g) fun k e => hk.block k ((h.msg m g).lt k e).2 fun e2 => h.off ?_
      rw [List.mem_singleton.1 e2] at e
      exact hin m g r e
    · exact owns_mono g.1 hBw
  · rcases hnew r hm' with g | g
    · exact h.off g
    · omega
  · rcases hm m hm' with g | g
    · exact h.short m g
    · exact g.2.1
  · rcases hm m hm' with g | g
    · exact h.kin m g
    · exact g.2.2

/-- the two queues beside one another. -/
def Both (B : Nat) (w0 w : World) (q r : Nat) (S T : Words) : Prop := ∃ bs cs, NetAt B w q bs S ∧ RefAt B w r cs T ∧ (∀ k ∈ r :: cs, k ∉ q :: bs) ∧ Below B w0 w ∧ B ≤ w.heap.size
theorem NetAt.lt {B : Nat} {w : World} {q : Nat} {bs : List Nat} {S : Words} (h : NetAt B w q bs S) : ∀ k ∈ q :: bs, B ≤ k ∧ k < w.heap.size := by
  obtain ⟨v, L, hq, rfl, rfl⟩ := h
  exact hq.lt
theorem RefAt.lt {B : Nat} {w : World} {r : Nat} {cs : List Nat} {T : Words} (h : RefAt B w r cs T) : ∀ k ∈ r :: cs, B ≤ k ∧ k < w.heap.size := by
  obtain ⟨kv, bv, M, hr, rfl, rfl⟩ := h
  exact hr.lt
theorem NetAt.keep {B : Nat} {w w' : World} {q : Nat} {bs : List Nat} {S : Words} (h : NetAt B w q bs S) (hk : ∀ k ∈ q :: bs, w'.heap[k]? = w.heap[k]?) : NetAt B w' q bs S := by
  obtain ⟨v, L, hq, rfl, rfl⟩ := h
  exact ⟨v, L, hq.keep hk, rfl, rfl⟩
theorem RefAt.keep {B : Nat} {w w' : World} {r : Nat} {cs : List Nat} {T : Words} (h : RefAt B w r cs T) (hk : ∀ k ∈ r :: cs, w'.heap[k]? = w.heap[k]?) : RefAt B w' r cs T := by
  obtain ⟨kv, bv, M, hr, rfl, rfl⟩ := h
  exact ⟨kv, bv, M, hr.keep hk, rfl, rfl⟩
theorem both_net {B : Nat} {w0 w w' : World} {q r : Nat} {S S' T : Words} {bs cs : List Nat} (hn : NetAt B w q bs S) (hr : RefAt B w r cs T) (hd : ∀ k ∈ r :: cs, k ∉ q :: bs) (hb : Below B w0 w) (hB : B ≤ w.heap.size) (h : NetTo B w w' q bs S') : Both B w0 w' q r S' T := by
  obtain ⟨bs', h1, h2, h3⟩ := h
  have hl := hr.lt
  have hb2 : Below B w w' := h2.below (fun k hk => (hn.lt k hk).1) hB
  refine ⟨bs', cs, h1, hr.keep fun k hk => h2.block k (hl k hk).2 (hd k hk), fun k hk hm => ?_, hb.trans hb2, Nat.le_trans hB hb2.size⟩
  rcases List.mem_cons.1 hm with e | e
  · exact hd k hk (by rw [e]; simp)
  · rcases h3 k e with g | g
    · exact hd k hk (List.mem_cons_of_mem _ g)
    · have := (hl k hk).2; omega
theorem both_ref {B : Nat} {w0 w w' : World} {q r : Nat} {S T T' : Words} {bs cs : List Nat} (hn : NetAt B w q bs S) (hr : RefAt B w r cs T) (hd : ∀ k ∈ r :: cs, k ∉ q :: bs) (hb : Below B w0 w) (hB : B ≤ w.heap.size) (h : RefTo B w w' r cs T') : Both B w0 w' q r S T' := by
  obtain ⟨cs', h1, h2, h3⟩ := h
  have hl := hn.lt
  have hb2 : Below B w w' := h2.below (fun k hk => (hr.lt k (by rw [List.mem_singleton.1 hk]; simp)).1) hB
  refine ⟨bs, cs', hn.keep fun k hk => h2.block k (hl k hk).2 fun e => hd r (by simp) (by rw [← List.mem_singleton.1 e]; exact hk), h1, fun k hk hm => ?_, hb.trans hb2, Nat.le_trans hB hb2.size⟩
  rcases List.mem_cons.1 hk with e | e
  · exact hd r (by simp) (by rw [← e]; exact hm)
  · rcases h3 k e with g | g
    · exact hd k (List.mem_cons_of_mem _ g) hm
    · have := (hl k hm).2; omega
end Go.Proofs.Ytgbcjbbkcoaohaa
