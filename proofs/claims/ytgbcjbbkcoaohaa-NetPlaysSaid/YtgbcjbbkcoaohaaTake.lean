/- What Take does to the queue in memory, and what it hands back. -/
import Derived.Test.YtgbcjbbkcoaohaaDrop
namespace Go.Proofs.Ytgbcjbbkcoaohaa
open Go.RowKit
set_option linter.unusedVariables false

theorem take_no {B : Nat} {w : World} {q : Nat} {v : Value} {L : List Msg} (hq : Que B w q v L) (i : Int) (hi : inB i L.length = false) :
    Calls Try.prog 10 #[.pointer (some ⟨q, 0, none⟩), .int .i64 i] w fun e w' => e = .returned (.tuple #[.int .i64 0, .slice none 0 0, .bool false]) ∧ w = w' := by
  have HQ := Lib.hid hq
  clear hq
  go_enter Try.func10, Try.ntmps10
  go_wp2_with (go_at_call 21; refine (in_any HQ.out i).mono ?_; rintro e w' ⟨rfl, rfl⟩)
  go_ret3
  exact ⟨rfl, rfl⟩

theorem Que.at {B : Nat} {w : World} {q : Nat} {v : Value} {L : List Msg} (hq : Que B w q v L) (i : Nat) (hi : i < L.length) :
    ∃ g cv am mc, v = .slice (some ⟨g, 0, none⟩) L.length cv ∧ L[i].val = .slice am L[i].bytes.length mc ∧ g < w.heap.size ∧ g ≠ q ∧
      w.cell? ⟨g, i * 2, none⟩ = some (.int .i64 L[i].kind) ∧ w.cell? ⟨g, i * 2 + 1, none⟩ = some (.slice am L[i].bytes.length mc) := by
  obtain ⟨am, mc, hm, _⟩ := sl_of_owns (hq.msg L[i] (List.getElem_mem hi))
  obtain ⟨c1, c2⟩ := cells_at L i hi
  rw [hm] at c2
  rcases hq.row.2 with ⟨h, h0⟩ | ⟨g, cap, cur, rfl, _⟩
  · omega
  · have hl := hq.row.1
    refine ⟨g, cap, am, mc, rfl, hm, (hq.lt g (by simp [blks, Value.ownBlock])).2, ?_, ?_, ?_⟩
    · intro e
      have := hq.nod
      rw [List.nodup_cons] at this
      exact this.1 (by rw [← e]; simp [blks, Value.ownBlock])
    · rw [hq.row.cellAt (i * 2) (by omega)]; exact c1
    · rw [hq.row.cellAt (i * 2 + 1) (by omega)]; exact c2

theorem Kept.drewN {bs : List Nat} {w w' : World} (h : Kept bs w w') (n : Nat) : Kept bs w (w'.drewN n) := ⟨h.os, h.tape, h.output, h.size, h.block⟩
theorem Que.drewN {B : Nat} {w : World} {q : Nat} {v : Value} {L : List Msg} (h : Que B w q v L) (n : Nat) : Que B (w.drewN n) q v L := h.keep fun _ _ => rfl
theorem Lost.drewN {B : Nat} {w w' : World} {q : Nat} {v : Value} {L : List Msg} {i : Nat} {hi : i < L.length} (h : Lost B w q v L i hi w') (n : Nat) : Lost B w q v L i hi (w'.drewN n) := by
  obtain ⟨v', h1, h2, h3, h4, h5⟩ := h
  exact ⟨v', h1.drewN n, h2.drewN n, h3, h4, h5⟩
theorem Lost.from {B : Nat} {w wa w' : World} {q : Nat} {v : Value} {L : List Msg} {i : Nat} {hi : i < L.length} (h : Lost B wa q v L i hi w') (hb : Below w.heap.size w wa) : Lost B w q v L i hi w' := by
  obtain ⟨v', h1, h2, h3, h4, h5⟩ := h
  exact ⟨v', h1, (Kept.of_below hb).trans h2 fun x hx => .inl hx, h3, h4, h5⟩

theorem took_eq {a b : Int} {x y : Value} (h1 : a = b) (h2 : x = y) : Ending.returned (.tuple #[.int .i64 a, x, .bool true]) = .returned (.tuple #[.int .i64 b, y, .bool true]) := by rw [h1, h2]
def Took (B : Nat) (w : World) (q : Nat) (v : Value) (L : List Msg) (i : Nat) (hi : i < L.length) (e : Ending) (w' : World) : Prop :=
  e = .returned (.tuple #[.int .i64 L[i].kind, L[i].val, .bool true]) ∧ Lost B w q v L i hi w'

theorem take_yes {B : Nat} {w : World} {q : Nat} {v : Value} {L : List Msg} (hq : Que B w q v L) (i : Nat) (hi : i < L.length) :
    Calls Try.prog 10 #[.pointer (some ⟨q, 0, none⟩), .int .i64 (i : Int)] w (Took B w q v L i hi) := by
  have hin : inB (i : Int) L.length = true := decide_eq_true (by omega)
  obtain ⟨g, cv, am, mc, rfl, hval, hglt, hgq, hck, hcv⟩ := hq.at i hi
  have hfew := hq.few
  have hcel := hq.cel
  have hil : (i : Int) < (L.length : Int) := by omega
  have HQ := Lib.hid hq
  have HI := Lib.hid hi
  have HV := Lib.hid hval
  have HB : Hid (q < w.heap.size ∧ ∀ k ∈ q :: blks (.slice (some ⟨g, 0, none⟩) L.length cv) L, k < w.heap.size) := ⟨(hq.lt q (by simp)).2, fun k hk => (hq.lt k hk).2⟩
  clear hq hval
  generalize hK : L[i].kind = K at hck ⊢
  generalize hN : L[i].bytes.length = N at hcv HV
  have HK := Lib.hid hK
  have HN := Lib.hid hN
  clear hK hN
  go_enter Try.func10, Try.ntmps10
  go_wp2_with (go_at_call 21; refine (in_any HQ.out (i : Int)).mono ?_; rintro e w' ⟨rfl, rfl⟩)
  have hbw : Below w.heap.size w (w.alloc (.cells #[.int .i64 K, .slice am N mc] 53)) := (Below.refl _ _).alloc (Nat.le_refl _) _
  have HBW := Lib.hid hbw
  refine (drop_yes (HQ.out.below hbw) i HI.out).mono ?_
  rintro e w1 ⟨rfl, hl⟩
  have HL := Lib.hid hl
  obtain ⟨_, _, hk, _⟩ := hl
  have hblk : w1.heap[w.heap.size]? = (w.alloc (.cells #[.int .i64 K, .slice am N mc] 53)).heap[w.heap.size]? := hk.block w.heap.size (by simp) (fun hm => by have := HB.out.2 _ hm; omega)
  have c1 : w1.cell? ⟨w.heap.size, 0, none⟩ = some (.int .i64 K) := by rw [World.cell?_of_block (a := ⟨w.heap.size, 0, none⟩) hblk]; simp
  have c2 : w1.cell? ⟨w.heap.size, 1, none⟩ = some (.slice am N mc) := by rw [World.cell?_of_block (a := ⟨w.heap.size, 1, none⟩) hblk]; simp
  clear hbw hk hblk hck hcv hcel hil hin hgq hglt hfew
  go_wp2
  go_quiet (fail)
  go_wp2
  go_ret3
  refine ⟨?_, (HL.out.drewN nq).from HBW.out⟩
  exact took_eq HK.out.symm HV.out.symm
end Go.Proofs.Ytgbcjbbkcoaohaa
