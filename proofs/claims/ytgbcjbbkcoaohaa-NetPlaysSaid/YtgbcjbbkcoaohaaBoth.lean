/- The two queues beside one another, with cells that neither of them holds: each call of either. -/
import Derived.Test.YtgbcjbbkcoaohaaRMore
import Derived.Test.YtgbcjbbkcoaohaaRBend
namespace Go.Proofs.Ytgbcjbbkcoaohaa
open Go.RowKit
set_option linter.unusedVariables false

def BothG (B : Nat) (w0 w : World) (q r : Nat) (S T : Words) (G : List (Nat × List Value)) : Prop := ∃ bs cs, NetAt B w q bs S ∧ RefAt B w r cs T ∧ (∀ k ∈ r :: cs, k ∉ q :: bs) ∧ Below B w0 w ∧ B ≤ w.heap.size ∧
  ∀ p ∈ G, p.1 ∉ q :: bs ∧ p.1 ∉ r :: cs ∧ p.1 < w.heap.size ∧ ∀ (j : Nat) (v : Value), p.2[j]? = some v → w.cell? ⟨p.1, j, none⟩ = some v
theorem bg_net {B : Nat} {w0 w w' : World} {q r : Nat} {S S' T : Words} {G : List (Nat × List Value)} {bs cs : List Nat} (hn : NetAt B w q bs S) (hr : RefAt B w r cs T) (hd : ∀ k ∈ r :: cs, k ∉ q :: bs) (hb : Below B w0 w) (hB : B ≤ w.heap.size)
    (hG : ∀ p ∈ G, p.1 ∉ q :: bs ∧ p.1 ∉ r :: cs ∧ p.1 < w.heap.size ∧ ∀ (j : Nat) (v : Value), p.2[j]? = some v → w.cell? ⟨p.1, j, none⟩ = some v) (h : NetTo B w w' q bs S') : BothG B w0 w' q r S' T G := by
  obtain ⟨bs', h1, h2, h3⟩ := h
  have hl := hr.lt
  have hb2 : Below B w w' := h2.below (fun k hk => (hn.lt k hk).1) hB
  have hnew : ∀ k, k < w.heap.size → k ∉ q :: bs → k ∉ q :: bs' := fun k hk hk2 hm => by
    rcases List.mem_cons.1 hm with e | e
    · exact hk2 (by rw [e]; simp)
    · rcases h3 k e with g | g
      · exact hk2 (List.mem_cons_of_mem _ g)
      · omega
  refine ⟨bs', cs, h1, hr.keep fun k hk => h2.block k (hl k hk).2 (hd k hk), fun k hk => hnew k (hl k hk).2 (hd k hk), hb.trans hb2, Nat.le_trans hB hb2.size, fun p hp => ?_⟩
  obtain ⟨a, b, c, d⟩ := hG p hp
  refine ⟨hnew _ c a, b, Nat.lt_of_lt_of_le c h2.size, fun j v hv => ?_⟩
  rw [World.cell?_of_block (a := ⟨p.1, j, none⟩) (h2.block p.1 c a)]
  exact d j v hv
theorem bg_ref {B : Nat} {w0 w w' : World} {q r : Nat} {S T T' : Words} {G : List (Nat × List Value)} {bs cs : List Nat} (hn : NetAt B w q bs S) (hr : RefAt B w r cs T) (hd : ∀ k ∈ r :: cs, k ∉ q :: bs) (hb : Below B w0 w) (hB : B ≤ w.heap.size)
    (hG : ∀ p ∈ G, p.1 ∉ q :: bs ∧ p.1 ∉ r :: cs ∧ p.1 < w.heap.size ∧ ∀ (j : Nat) (v : Value), p.2[j]? = some v → w.cell? ⟨p.1, j, none⟩ = some v) (h : RefTo B w w' r cs T') : BothG B w0 w' q r S T' G := by
  obtain ⟨cs', h1, h2, h3⟩ := h
  have hl := hn.lt
  have hb2 : Below B w w' := h2.below (fun k hk => (hr.lt k (by rw [List.mem_singleton.1 hk]; simp)).1) hB
  refine ⟨bs, cs', hn.keep fun k hk => h2.block k (hl k hk).2 fun e => hd r (by simp) (by rw [← List.mem_singleton.1 e]; exact hk), h1, fun k hk hm => ?_, hb.trans hb2, Nat.le_trans hB hb2.size, fun p hp => ?_⟩
  · rcases List.mem_cons.1 hk with e | e
    · exact hd r (by simp) (by rw [← e]; exact hm)
    · rcases h3 k e with g | g
      · exact hd k (List.mem_cons_of_mem _ g) hm
      · have := (hl k hm).2; omega
  · obtain ⟨a, b, c, d⟩ := hG p hp
    refine ⟨a, fun hm => ?_, Nat.lt_of_lt_of_le c h2.size, fun j v hv => ?_⟩
    · rcases List.mem_cons.1 hm with e | e
      · exact b (by rw [e]; simp)
      · rcases h3 _ e with g | g
        · exact b (List.mem_cons_of_mem _ g)
        · omega
    · rw [World.cell?_of_block (a := ⟨p.1, j, none⟩) (h2.block p.1 c fun e => b (by rw [List.mem_singleton.1 e]; simp))]
      exact d j v hv

theorem BothG.drewN {B : Nat} {w0 w : World} {q r : Nat} {S T : Words} {G : List (Nat × List Value)} (h : BothG B w0 w q r S T G) (n : Nat) : BothG B w0 (w.drewN n) q r S T G := by
  obtain ⟨bs, cs, hn, hr, hd, hb, hB, hG⟩ := h
  exact ⟨bs, cs, hn.keep fun _ _ => rfl, hr.keep fun _ _ => rfl, hd, ⟨hb.os, hb.tape, hb.output, hb.size, hb.block⟩, hB, hG⟩
theorem BothG.drew {B : Nat} {w0 w : World} {q r : Nat} {S T : Words} {G : List (Nat × List Value)} (h : BothG B w0 w q r S T G) : BothG B w0 w.drew q r S T G := h.drewN 1
theorem BothG.cell {B : Nat} {w0 w : World} {q r D : Nat} {S T : Words} {vs : List Value} {G : List (Nat × List Value)} (h : BothG B w0 w q r S T ((D, vs) :: G)) {j : Nat} {v : Value} (hv : vs[j]? = some v) : w.cell? ⟨D, j, none⟩ = some v := by
  obtain ⟨bs, cs, hn, hr, hd, hb, hB, hG⟩ := h
  exact (hG (D, vs) (by simp)).2.2.2 j v hv
theorem BothG.rest {B : Nat} {w0 w : World} {q r : Nat} {S T : Words} {G : List (Nat × List Value)} (h : BothG B w0 w q r S T G) : BothG B w0 w q r S T [] := by
  obtain ⟨bs, cs, hn, hr, hd, hb, hB, hG⟩ := h
  exact ⟨bs, cs, hn, hr, hd, hb, hB, fun p hp => by cases hp⟩
theorem BothG.row {B : Nat} {w0 w : World} {q r : Nat} {S T : Words} {G : List (Nat × List Value)} (h : BothG B w0 w q r S T G) : ∃ ab cb, w.cell? ⟨r, 1, none⟩ = some (.slice ab T.length cb) := by
  obtain ⟨bs, cs, hn, ⟨kv, bv, M, hr, rfl, rfl⟩, hd, hb, hB, hG⟩ := h
  obtain ⟨ab, cb, rfl, _⟩ := sl_of_owns hr.rowb
  exact ⟨ab, cb, by rw [List.length_map]; exact hr.celb⟩
/-- a block of its own beside them. -/
theorem BothG.put {B : Nat} {w0 w w' : World} {q r : Nat} {S T : Words} (h : BothG B w0 w q r S T []) (hb : Below w.heap.size w w') (D : Nat) (hD : w.heap.size ≤ D) (hD2 : D < w'.heap.size) (vs : List Value) (hv : ∀ (j : Nat) (v : Value), vs[j]? = some v → w'.cell? ⟨D, j, none⟩ = some v) : BothG B w0 w' q r S T [(D, vs)] := by
  obtain ⟨bs, cs, hn, hr, hd, hbb, hB, hG⟩ := h
  refine ⟨bs, cs, hn.keep fun k hk => hb.block k (hn.lt k hk).2, hr.keep fun k hk => hb.block k (hr.lt k hk).2, hd, hbb.trans (hb.mono hB), Nat.le_trans hB hb.size, fun p hp => ?_⟩
  rw [List.mem_singleton.1 hp]
  exact ⟨fun hm => by have := (hn.lt D hm).2; omega, fun hm => by have := (hr.lt D hm).2; omega, hD2, hv⟩
theorem BothG.below {B : Nat} {w0 w : World} {q r : Nat} {S T : Words} {G : List (Nat × List Value)} (h : BothG B w0 w q r S T G) : Below B w0 w := h.choose_spec.choose_spec.2.2.2.1

theorem send_bN {B : Nat} {w0 w : World} {q r : Nat} {S T : Words} {G : List (Nat × List Value)} (h : BothG B w0 w q r S T G) (kind : Int) (ao : Option Addr) (m c : Nat) (ys : List UInt8) (hp : Sl B w0 1 ao m (encs ys)) (hc0 : ao = none → c = 0) (hm : m ≤ 9223372036854775807) :
    Calls Try.prog 9 #[.pointer (some ⟨q, 0, none⟩), .int .i64 kind, .slice ao m c] w fun e w' => e = .returned (.int .i64 (sendC S.length kind ys.length)) ∧ BothG B w0 w' q r (sendS S kind ys) T G := by
  obtain ⟨bs, cs, hn, hr, hd, hb, hB, hG⟩ := h
  exact (send_net hn kind ao m c ys (hp.below hb) hc0 hB hm).mono fun e w' ⟨h1, h2⟩ => ⟨h1, bg_net hn hr hd hb hB hG h2⟩
theorem send_bR {B : Nat} {w0 w : World} {q r : Nat} {S T : Words} {G : List (Nat × List Value)} (h : BothG B w0 w q r S T G) (kind : Int) (ao : Option Addr) (m c : Nat) (ys : List UInt8) (hp : Sl B w0 1 ao m (encs ys)) (hc0 : ao = none → c = 0) (hm : m ≤ 9223372036854775807) :
    Calls Try.prog 15 #[.pointer (some ⟨r, 0, none⟩), .int .i64 kind, .slice ao m c] w fun e w' => e = .returned (.int .i64 (sendC T.length kind ys.length)) ∧ BothG B w0 w' q r S (sendS T kind ys) G := by
  obtain ⟨bs, cs, hn, hr, hd, hb, hB, hG⟩ := h
  exact (send_ref hr kind ao m c ys (hp.below hb) hc0 hB hm).mono fun e w' ⟨h1, h2⟩ => ⟨h1, bg_ref hn hr hd hb hB hG h2⟩
/-- bytes that were taken out of net's queue. -/
def Own (B : Nat) (w : World) (r : Nat) (bs : List UInt8) (ay : Option Addr) (cy : Nat) : Prop := w.ownsRow B 5 1 (.slice ay bs.length cy) bs.length (encs bs) ∧ ∀ g, (Value.slice ay bs.length cy).ownBlock = some g → g ≠ r
theorem take_bN {B : Nat} {w0 w : World} {q r : Nat} {S T : Words} {G : List (Nat × List Value)} (h : BothG B w0 w q r S T G) (i : Int) :
    Calls Try.prog 10 #[.pointer (some ⟨q, 0, none⟩), .int .i64 i] w fun e w' => ∃ ay cy, e = .returned (.tuple #[.int .i64 (takeK S i), .slice ay (takeB S i).length cy, .bool (inB i S.length)]) ∧ BothG B w0 w' q r (takeS S i) T G ∧ Own B w' r (takeB S i) ay cy := by
  obtain ⟨bs, cs, hn, hr, hd, hb, hB, hG⟩ := h
  refine (take_net hn i).mono ?_
  rintro e w' ⟨ay, cy, h1, h2, h3, h4⟩
  exact ⟨ay, cy, h1, bg_net hn hr hd hb hB hG h2, h3, fun g hg e2 => hd r (by simp) (List.mem_cons_of_mem _ (by rw [← e2]; exact h4 g hg))⟩
theorem take_bR {B : Nat} {w0 w : World} {q r : Nat} {S T : Words} {G : List (Nat × List Value)} (h : BothG B w0 w q r S T G) (i : Int) (bz : List UInt8) (ay : Option Addr) (cy : Nat) (ho : Own B w r bz ay cy) :
    Calls Try.prog 16 #[.pointer (some ⟨r, 0, none⟩), .int .i64 i] w fun e w' => ∃ az cz, e = .returned (.tuple #[.int .i64 (takeK T i), .slice az (takeB T i).length cz, .bool (inB i T.length)]) ∧ BothG B w0 w' q r S (takeS T i) G ∧
      Sl w'.heap.size w' 1 ay bz.length (encs bz) ∧ Sl w'.heap.size w' 1 az (takeB T i).length (encs (takeB T i)) := by
  obtain ⟨bs, cs, hn, hr, hd, hb, hB, hG⟩ := h
  refine (take_ref hr i).mono ?_
  rintro e w' ⟨az, cz, h1, h2, h3⟩
  have hk := h2.choose_spec.2.1
  have ho2 := owns_kept ho.1 fun k hk' => hk.block k (ho.1.lt k hk').2 fun e2 => ho.2 k hk' (List.mem_singleton.1 e2)
  exact ⟨az, cz, h1, bg_ref hn hr hd hb hB hG h2, (sl_row ho2).1, (sl_row h3).1⟩
theorem take_bR0 {B : Nat} {w0 w : World} {q r : Nat} {S T : Words} {G : List (Nat × List Value)} (h : BothG B w0 w q r S T G) (i : Int) :
    Calls Try.prog 16 #[.pointer (some ⟨r, 0, none⟩), .int .i64 i] w fun e w' => ∃ az cz, e = .returned (.tuple #[.int .i64 (takeK T i), .slice az (takeB T i).length cz, .bool (inB i T.length)]) ∧ BothG B w0 w' q r S (takeS T i) G := by
  obtain ⟨bs, cs, hn, hr, hd, hb, hB, hG⟩ := h
  refine (take_ref hr i).mono ?_
  rintro e w' ⟨az, cz, h1, h2, h3⟩
  exact ⟨az, cz, h1, bg_ref hn hr hd hb hB hG h2⟩
theorem drop_bN {B : Nat} {w0 w : World} {q r : Nat} {S T : Words} {G : List (Nat × List Value)} (h : BothG B w0 w q r S T G) (i : Int) :
    Calls Try.prog 13 #[.pointer (some ⟨q, 0, none⟩), .int .i64 i] w fun e w' => e = .returned (.bool (inB i S.length)) ∧ BothG B w0 w' q r (takeS S i) T G := by
  obtain ⟨bs, cs, hn, hr, hd, hb, hB, hG⟩ := h
  exact (drop_net hn i).mono fun e w' ⟨h1, h2⟩ => ⟨h1, bg_net hn hr hd hb hB hG h2⟩
theorem copy_bN {B : Nat} {w0 w : World} {q r : Nat} {S T : Words} {G : List (Nat × List Value)} (h : BothG B w0 w q r S T G) (i : Int) :
    Calls Try.prog 12 #[.pointer (some ⟨q, 0, none⟩), .int .i64 i] w fun e w' => e = .returned (.int .i64 (againC S i)) ∧ BothG B w0 w' q r (againS S i) T G := by
  obtain ⟨bs, cs, hn, hr, hd, hb, hB, hG⟩ := h
  exact (copy_net hn i).mono fun e w' ⟨h1, h2⟩ => ⟨h1, bg_net hn hr hd hb hB hG h2⟩
theorem again_bR {B : Nat} {w0 w : World} {q r : Nat} {S T : Words} {G : List (Nat × List Value)} (h : BothG B w0 w q r S T G) (i : Int) :
    Calls Try.prog 17 #[.pointer (some ⟨r, 0, none⟩), .int .i64 i] w fun e w' => e = .returned (.int .i64 (againC T i)) ∧ BothG B w0 w' q r S (againS T i) G := by
  obtain ⟨bs, cs, hn, hr, hd, hb, hB, hG⟩ := h
  exact (again_ref hr i).mono fun e w' ⟨h1, h2⟩ => ⟨h1, bg_ref hn hr hd hb hB hG h2⟩
theorem bend_bN {B : Nat} {w0 w : World} {q r : Nat} {S T : Words} {G : List (Nat × List Value)} (h : BothG B w0 w q r S T G) (i a : Int) (k : UInt8) (u : Int) (hu : u = (k.toNat : Int)) :
    Calls Try.prog 18 #[.pointer (some ⟨q, 0, none⟩), .int .i64 i, .int .i64 a, .int .u8 u] w fun e w' => e = .returned (.bool (bendB S i a)) ∧ BothG B w0 w' q r (bendS S i a k) T G := by
  subst hu
  obtain ⟨bs, cs, hn, hr, hd, hb, hB, hG⟩ := h
  exact (bend_net hn i a k).mono fun e w' ⟨h1, h2⟩ => ⟨h1, bg_net hn hr hd hb hB hG h2⟩
theorem bend_bR {B : Nat} {w0 w : World} {q r : Nat} {S T : Words} {G : List (Nat × List Value)} (h : BothG B w0 w q r S T G) (i a : Int) (k : UInt8) (u : Int) (hu : u = (k.toNat : Int)) :
    Calls Try.prog 19 #[.pointer (some ⟨r, 0, none⟩), .int .i64 i, .int .i64 a, .int .u8 u] w fun e w' => e = .returned (.bool (bendB T i a)) ∧ BothG B w0 w' q r S (bendS T i a k) G := by
  subst hu
  obtain ⟨bs, cs, hn, hr, hd, hb, hB, hG⟩ := h
  exact (bend_ref hr i a k).mono fun e w' ⟨h1, h2⟩ => ⟨h1, bg_ref hn hr hd hb hB hG h2⟩
theorem len_b {B : Nat} {w0 w : World} {q r : Nat} {S T : Words} {G : List (Nat × List Value)} (h : BothG B w0 w q r S T G) (n : Int) (hn : (S.length : Int) = n) :
    Calls Try.prog 11 #[.pointer (some ⟨q, 0, none⟩)] w fun e w' => e = .returned (.int .i64 n) ∧ w' = w := by
  subst hn
  obtain ⟨bs, cs, hn, hr, hd, hb, hB, hG⟩ := h
  exact (len_net hn).mono fun e w' ⟨h1, h2⟩ => ⟨h1, h2.symm⟩
theorem BothG.few {B : Nat} {w0 w : World} {q r : Nat} {S T : Words} {G : List (Nat × List Value)} (h : BothG B w0 w q r S T G) : S.length ≤ 32 := by
  obtain ⟨bs, cs, ⟨v, L, hq, _, rfl⟩, hr, hd, hb, hB, hG⟩ := h
  rw [List.length_map]
  exact hq.few
/-- what is sent, taken .. leaves as many. -/
theorem both_begin {w0 w : World} {q r : Nat} {v : Value} (hn : Que w0.heap.size w q v []) (hv : v = .slice none 0 0) (hb : Below w0.heap.size w0 w) (hr : r = w.heap.size) :
    BothG w0.heap.size w0 (w.alloc (.cells #[.slice none 0 0, .slice none 0 0] 41)) q r [] [] [] := by
  subst hv hr
  have h := heap_alloc_new w (.cells #[.slice none 0 0, .slice none 0 0] 41)
  have hl := hb.size
  have hq := hn.lt
  refine ⟨_, _, ⟨_, [], hn.below ((Below.refl _ _).alloc (Nat.le_refl _) _), rfl, rfl⟩, ⟨.slice none 0 0, .slice none 0 0, [], ⟨hl, by simp, by simp, by simp, by simp, World.ownsRow_nil _ _ _ _, World.ownsRow_nil _ _ _ _, (by intro m hm; cases hm), by simp [rblks, Value.ownBlock], by simp, (by intro m hm; cases hm), (by intro m hm; cases hm)⟩, rfl, rfl⟩, fun k hk hm => ?_, hb.alloc hl _, by simp; omega, fun p hp => by cases hp⟩
  have hk2 : k = w.heap.size := by simpa [rblks, Value.ownBlock] using hk
  have := (hq k hm).2
  omega
end Go.Proofs.Ytgbcjbbkcoaohaa
