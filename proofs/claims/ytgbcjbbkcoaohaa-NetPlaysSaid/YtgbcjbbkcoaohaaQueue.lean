/- The queue of net in memory, and what New, Len, in and Send do to it. -/
import Derived.Test.YtgbcjbbkcoaohaaBase
namespace Go.Proofs.Ytgbcjbbkcoaohaa
open Go.RowKit

structure Msg where
  kind : Int
  bytes : List UInt8
  val : Value
def cellsOf : List Msg → List Value
  | [] => []
  | m :: L => .int .i64 m.kind :: m.val :: cellsOf L
def blks (v : Value) (L : List Msg) : List Nat := v.ownBlock.toList ++ L.filterMap (fun m => m.val.ownBlock)

theorem cellsOf_append (L M : List Msg) : cellsOf (L ++ M) = cellsOf L ++ cellsOf M := by
  induction L with
  | nil => rfl
  | cons m L ih => simp [cellsOf, ih]
theorem cellsOf_length (L : List Msg) : (cellsOf L).length = L.length * 2 := by
  induction L with
  | nil => rfl
  | cons m L ih => simp [cellsOf, ih]; omega

structure Que (B : Nat) (w : World) (q : Nat) (v : Value) (L : List Msg) : Prop where
  lo : B ≤ q
  cel : w.cell? ⟨q, 0, none⟩ = some v
  fro : w.frozen? ⟨q, 0, none⟩ = false
  row : w.ownsRow B 53 2 v L.length (cellsOf L)
  msg : ∀ m ∈ L, w.ownsRow B 5 1 m.val m.bytes.length (encs m.bytes)
  nod : (q :: blks v L).Nodup
  few : L.length ≤ 32
  short : ∀ m ∈ L, m.bytes.length ≤ 131072
  kin : ∀ m ∈ L, m.kind = 1 ∨ m.kind = 2

/-- outside the queue's blocks all is as it was. -/
structure Kept (bs : List Nat) (w w' : World) : Prop where
  os : w'.os = w.os
  tape : w'.tape = w.tape
  output : w'.output = w.output
  size : w.heap.size ≤ w'.heap.size
  block : ∀ k, k < w.heap.size → k ∉ bs → w'.heap[k]? = w.heap[k]?
theorem Kept.refl (bs : List Nat) (w : World) : Kept bs w w := ⟨rfl, rfl, rfl, Nat.le_refl _, fun _ _ _ => rfl⟩
theorem Kept.below {bs : List Nat} {w w' : World} {B : Nat} (h : Kept bs w w') (hB : ∀ k ∈ bs, B ≤ k) (hw : B ≤ w.heap.size) : Below B w w' :=
  ⟨h.os, h.tape, h.output, h.size, fun k hk => h.block k (by omega) (fun hm => by have := hB k hm; omega)⟩
theorem Kept.of_below {bs : List Nat} {w w' : World} (h : Below w.heap.size w w') : Kept bs w w' := ⟨h.os, h.tape, h.output, h.size, fun k hk _ => h.block k hk⟩
theorem Kept.drew {bs : List Nat} {w w' : World} (h : Kept bs w w') : Kept bs w w'.drew := ⟨h.os, h.tape, h.output, h.size, h.block⟩
theorem Kept.mono {bs cs : List Nat} {w w' : World} (h : Kept bs w w') (hs : ∀ k ∈ bs, k ∈ cs) : Kept cs w w' := ⟨h.os, h.tape, h.output, h.size, fun k hk hm => h.block k hk fun hb => hm (hs k hb)⟩
theorem Kept.trans {bs cs : List Nat} {w w' w'' : World} (h : Kept bs w w') (k : Kept cs w' w'') (hs : ∀ x ∈ cs, x ∈ bs ∨ w.heap.size ≤ x) : Kept bs w w'' :=
  ⟨k.os.trans h.os, k.tape.trans h.tape, k.output.trans h.output, Nat.le_trans h.size k.size, fun x hx hm =>
    (k.block x (Nat.lt_of_lt_of_le hx h.size) (fun hc => by rcases hs x hc with h1 | h1; exact hm h1; omega)).trans (h.block x hx hm)⟩
theorem Kept.set {bs : List Nat} {w w' : World} (h : Kept bs w w') (p : Addr) (hp : p.block ∈ bs ∨ w.heap.size ≤ p.block) (u : Value) : Kept bs w (w'.setCell p u) :=
  ⟨h.os, h.tape, h.output, by have := h.size; simpa using this, fun k hk hm => (Below.heap_setCell w' p u k (by intro e; rcases hp with h1 | h1; rw [← e] at h1; exact hm h1; omega)).trans (h.block k hk hm)⟩
theorem Kept.grown {bs : List Nat} {w w' w'' : World} {row : Option Nat} (h : Kept bs w w') (hg : w'.grownBy w'' row) (hr : ∀ k, row = some k → k ∈ bs ∨ w.heap.size ≤ k) : Kept bs w w'' :=
  ⟨hg.os.trans h.os, hg.tape.trans h.tape, hg.output.trans h.output, Nat.le_trans h.size hg.size, fun k hk hm =>
    (hg.block k (Nat.lt_of_lt_of_le hk h.size) (fun e => by rcases hr k e.symm with h1 | h1; exact hm h1; omega)).trans (h.block k hk hm)⟩
theorem Kept.alloc {bs : List Nat} {w w' : World} (h : Kept bs w w') (o : Obj) : Kept bs w (w'.alloc o) :=
  ⟨h.os, h.tape, h.output, by have := h.size; simp; omega, fun k hk hm => (Below.heap_alloc w' o k (by have := h.size; omega)).trans (h.block k hk hm)⟩

theorem owns_kept {w w' : World} {base : Nat} {e : TypeId} {size : Nat} {v : Value} {n : Nat} {xs : List Value} (h : w.ownsRow base e size v n xs) (hk : ∀ k, v.ownBlock = some k → w'.heap[k]? = w.heap[k]?) : w'.ownsRow base e size v n xs := by
  refine ⟨h.1, ?_⟩
  rcases h.2 with h2 | ⟨g, cap, cur, rfl, hb, hg, hr⟩
  · exact .inl h2
  · exact .inr ⟨g, cap, cur, rfl, hb, by rw [hk g rfl]; exact hg, hr⟩
theorem owns_mono {w : World} {base base' : Nat} {e : TypeId} {size : Nat} {v : Value} {n : Nat} {xs : List Value} (h : w.ownsRow base e size v n xs) (hb : base' ≤ base) : w.ownsRow base' e size v n xs := by
  refine ⟨h.1, ?_⟩
  rcases h.2 with h2 | ⟨g, cap, cur, rfl, hb', hr⟩
  · exact .inl h2
  · exact .inr ⟨g, cap, cur, rfl, by omega, hr⟩
theorem heap_of_cell {w w' : World} {k : Nat} (h : w'.heap[k]? = w.heap[k]?) : w'.cell? ⟨k, 0, none⟩ = w.cell? ⟨k, 0, none⟩ := World.cell?_of_block (a := ⟨k, 0, none⟩) h

theorem Que.lt {B : Nat} {w : World} {q : Nat} {v : Value} {L : List Msg} (h : Que B w q v L) : ∀ k ∈ q :: blks v L, B ≤ k ∧ k < w.heap.size := by
  intro k hk
  rcases List.mem_cons.1 hk with rfl | hk
  · exact ⟨h.lo, World.block_lt_of_cell? w _ h.cel⟩
  · rcases List.mem_append.1 hk with hk | hk
    · exact h.row.lt k (by simpa using hk)
    · obtain ⟨m, hm, hb⟩ := List.mem_filterMap.1 hk
      exact (h.msg m hm).lt k hb
/-- what leaves the queue's blocks alone leaves the queue. -/
theorem Que.keep {B : Nat} {w w' : World} {q : Nat} {v : Value} {L : List Msg} (h : Que B w q v L) (hk : ∀ k ∈ q :: blks v L, w'.heap[k]? = w.heap[k]?) : Que B w' q v L := by
  have hq := hk q (by simp)
  refine ⟨h.lo, ?_, ?_, owns_kept h.row fun k e => hk k (by simp [blks, e]), fun m hm => owns_kept (h.msg m hm) fun k e => hk k ?_, h.nod, h.few, h.short, h.kin⟩
  · rw [World.cell?_of_block (a := ⟨q, 0, none⟩) hq]; exact h.cel
  · rw [World.frozen?_of_block (a := ⟨q, 0, none⟩) hq]; exact h.fro
  · exact List.mem_cons_of_mem _ (List.mem_append_right _ (List.mem_filterMap.2 ⟨m, hm, e⟩))
theorem Que.below {B : Nat} {w w' : World} {q : Nat} {v : Value} {L : List Msg} (h : Que B w q v L) (hb : Below w.heap.size w w') : Que B w' q v L :=
  h.keep fun k hk => hb.block k (h.lt k hk).2
theorem Que.form {B : Nat} {w : World} {q : Nat} {v : Value} {L : List Msg} (h : Que B w q v L) : ∃ ao c, v = .slice ao L.length c := by
  obtain ⟨ao, c, e, _⟩ := sl_of_owns h.row
  exact ⟨ao, c, e⟩

theorem new_any (w : World) (B : Nat) (hB : B ≤ w.heap.size) :
    Calls Try.prog 8 #[] w fun e w' => (e = .returned (.pointer (some ⟨w.heap.size, 0, none⟩))) ∧ Que B w' w.heap.size (.slice none 0 0) [] ∧ Below w.heap.size w w' := by
  go_enter Try.func8, Try.ntmps8
  go_wp2
  go_ret
  exact ⟨rfl, ⟨hB, by simp, by simp, World.ownsRow_nil _ _ _ _, (by intro m hm; cases hm), by simp [blks, Value.ownBlock], by simp, (by intro m hm; cases hm), (by intro m hm; cases hm)⟩, (Below.refl _ _).alloc (Nat.le_refl _) _⟩

theorem len_any {B : Nat} {w : World} {q : Nat} {v : Value} {L : List Msg} (hq : Que B w q v L) :
    Calls Try.prog 11 #[.pointer (some ⟨q, 0, none⟩)] w fun e w' => e = .returned (.int .i64 (L.length : Int)) ∧ w = w' := by
  obtain ⟨ao, c, rfl⟩ := hq.form
  have hc := hq.cel
  have hl := hq.few
  clear hq
  go_enter Try.func11, Try.ntmps11
  go_wp2
  go_ret
  exact ⟨rfl, rfl⟩

def inB (i : Int) (n : Nat) : Bool := decide (0 ≤ i ∧ i < (n : Int))
theorem in_yes {i : Int} {n : Nat} (h : inB i n = true) : 0 ≤ i ∧ i < (n : Int) := of_decide_eq_true h
theorem in_no {i : Int} {n : Nat} (h : inB i n = false) : i < 0 ∨ (n : Int) ≤ i := by
  have := of_decide_eq_false h
  omega
theorem in_any {B : Nat} {w : World} {q : Nat} {v : Value} {L : List Msg} (hq : Que B w q v L) (i : Int) :
    Calls Try.prog 21 #[.pointer (some ⟨q, 0, none⟩), .int .i64 i] w fun e w' => e = .returned (.bool (inB i L.length)) ∧ w = w' := by
  obtain ⟨ao, c, rfl⟩ := hq.form
  have hc := hq.cel
  have hl := hq.few
  clear hq
  by_cases h0 : 0 ≤ i
  · by_cases h1 : i < (L.length : Int)
    · have H : Hid (inB i L.length = true) := decide_eq_true ⟨h0, h1⟩
      go_enter Try.func21, Try.ntmps21
      go_wp2
      go_ret
      exact ⟨by rw [H.out]; rfl, rfl⟩
    · have H : Hid (inB i L.length = false) := decide_eq_false (by omega)
      go_enter Try.func21, Try.ntmps21
      go_wp2
      go_ret
      exact ⟨by rw [H.out]; rfl, rfl⟩
  · have H : Hid (inB i L.length = false) := decide_eq_false (by omega)
    go_enter Try.func21, Try.ntmps21
    go_wp2
    go_ret
    exact ⟨by rw [H.out]; rfl, rfl⟩
end Go.Proofs.Ytgbcjbbkcoaohaa
