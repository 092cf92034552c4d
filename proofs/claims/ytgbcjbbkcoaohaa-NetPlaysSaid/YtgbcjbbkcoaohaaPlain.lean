/- What a queue holds in plain words, and the calls of net told in those words. -/
import Derived.Test.YtgbcjbbkcoaohaaKeep
namespace Go.Proofs.Ytgbcjbbkcoaohaa
open Go.RowKit
set_option linter.unusedVariables false

abbrev Words := List (Int × List UInt8)
def plain (m : Msg) : Int × List UInt8 := (m.kind, m.bytes)
/-- the answer of a send. -/
def sendC (n : Nat) (kind : Int) (m : Nat) : Int := if kind ≠ 1 ∧ kind ≠ 2 then 1 else if 131072 < m then 3 else if 32 ≤ n then 18 else 0
def sendS (S : Words) (kind : Int) (bs : List UInt8) : Words := if sendC S.length kind bs.length = 0 then S ++ [(kind, bs)] else S
def atS (S : Words) (i : Int) : Option (Int × List UInt8) := if 0 ≤ i then S[i.toNat]? else none
def takeK (S : Words) (i : Int) : Int := match atS S i with | some p => p.1 | none => 0
def takeB (S : Words) (i : Int) : List UInt8 := match atS S i with | some p => p.2 | none => []
def takeS (S : Words) (i : Int) : Words := if inB i S.length then S.eraseIdx i.toNat else S
def againC (S : Words) (i : Int) : Int := match atS S i with | some p => sendC S.length p.1 p.2.length | none => 19
def againS (S : Words) (i : Int) : Words := match atS S i with | some p => sendS S p.1 p.2 | none => S
def bendB (S : Words) (i a : Int) : Bool := match atS S i with | some p => inB a p.2.length | none => false
def bendS (S : Words) (i a : Int) (k : UInt8) : Words := if bendB S i a then S.modify i.toNat (fun p => (p.1, p.2.set a.toNat (p.2.getD a.toNat 0 ^^^ k))) else S
theorem atS_no {S : Words} {i : Int} (h : inB i S.length = false) : atS S i = none := by
  unfold atS
  rcases in_no h with h | h
  · rw [if_neg (by omega)]
  · by_cases h0 : 0 ≤ i
    · rw [if_pos h0]; exact List.getElem?_eq_none (by omega)
    · rw [if_neg h0]
theorem atS_yes {S : Words} {i : Int} (h : inB i S.length = true) : ∃ (k : Nat) (hk : k < S.length), i = (k : Int) ∧ atS S i = some S[k] := by
  obtain ⟨h0, h1⟩ := in_yes h
  refine ⟨i.toNat, by omega, by omega, ?_⟩
  unfold atS
  rw [if_pos h0, List.getElem?_eq_getElem (by omega)]

def NetAt (B : Nat) (w : World) (q : Nat) (bs : List Nat) (S : Words) : Prop := ∃ v L, Que B w q v L ∧ bs = blks v L ∧ S = L.map plain
/-- what a call leaves of the queue. -/
def NetTo (B : Nat) (w w' : World) (q : Nat) (bs : List Nat) (S : Words) : Prop := ∃ bs', NetAt B w' q bs' S ∧ Kept (q :: bs) w w' ∧ ∀ k ∈ bs', k ∈ bs ∨ w.heap.size ≤ k
theorem NetAt.stay {B : Nat} {w w' : World} {q : Nat} {bs : List Nat} {S : Words} (h : NetAt B w q bs S) (e : w = w') : NetTo B w w' q bs S := by
  subst e
  exact ⟨bs, h, Kept.refl _ _, fun k hk => .inl hk⟩
theorem NetAt.below {B : Nat} {w w' : World} {q : Nat} {bs : List Nat} {S : Words} (h : NetAt B w q bs S) (b : Below w.heap.size w w') : NetTo B w w' q bs S := by
  obtain ⟨v, L, hq, rfl, rfl⟩ := h
  exact ⟨_, ⟨v, L, hq.below b, rfl, rfl⟩, Kept.of_below b, fun k hk => .inl hk⟩
theorem plain_at {L : List Msg} {k : Nat} (hk : k < (L.map plain).length) : ∃ h : k < L.length, (L.map plain)[k] = plain L[k] := ⟨by simpa using hk, by simp⟩

theorem send_net {B : Nat} {w : World} {q : Nat} {bs : List Nat} {S : Words} (h : NetAt B w q bs S) (kind : Int) {B' : Nat} (ao : Option Addr) (m c : Nat) (ys : List UInt8) (hp : Sl B' w 1 ao m (encs ys)) (hc0 : ao = none → c = 0) (hB' : B' ≤ w.heap.size) (hm : m ≤ 9223372036854775807) :
    Calls Try.prog 9 #[.pointer (some ⟨q, 0, none⟩), .int .i64 kind, .slice ao m c] w fun e w' => e = .returned (.int .i64 (sendC S.length kind ys.length)) ∧ NetTo B w w' q bs (sendS S kind ys) := by
  have hl : ys.length = m := by have := hp.len; simpa [encs] using this
  have hs := h
  obtain ⟨v, L, hq, rfl, rfl⟩ := h
  subst hl
  unfold sendS sendC
  rw [List.length_map] at *
  by_cases h1 : kind ≠ 1 ∧ kind ≠ 2
  · rw [if_pos h1, if_neg (by decide)]
    exact (send_kind hq kind ao _ c (by simp [h1.1]) (by simp [h1.2])).mono fun e w' ⟨h2, h3⟩ => ⟨h2, hs.stay h3⟩
  · rw [if_neg h1]
    have hk : ((kind != 1) = false) ∨ ((kind != 1) = true ∧ (kind != 2) = false) := by
      by_cases g1 : kind = 1
      · left; simp [g1]
      · right
        have g2 : kind = 2 := by omega
        simp [g2]
    by_cases h2 : 131072 < ys.length
    · rw [if_pos h2, if_neg (by decide)]
      exact (send_long hq kind ao _ c hk h2 hm).mono fun e w' ⟨h2, h3⟩ => ⟨h2, hs.stay h3⟩
    · rw [if_neg h2]
      by_cases h3 : 32 ≤ L.length
      · rw [if_pos h3, if_neg (by decide)]
        exact (send_full hq kind ao _ c hk (by omega) h3).mono fun e w' ⟨h2, h3⟩ => ⟨h2, hs.stay h3⟩
      · rw [if_neg h3, if_pos rfl]
        refine (send_ok hq kind ao _ c ys hk hp hc0 hB' (by omega) (by omega)).mono ?_
        rintro e w' ⟨h4, v', y, h5, h6, h7⟩
        exact ⟨h4, _, ⟨v', _, h5, rfl, by simp [plain]⟩, h6, h7⟩

theorem map_erase {L : List Msg} {k : Nat} : (L.map plain).eraseIdx k = (L.eraseIdx k).map plain := by
  rw [List.eraseIdx_eq_take_drop_succ, List.eraseIdx_eq_take_drop_succ, List.map_append, List.map_take, List.map_drop]
theorem take_net {B : Nat} {w : World} {q : Nat} {bs : List Nat} {S : Words} (h : NetAt B w q bs S) (i : Int) :
    Calls Try.prog 10 #[.pointer (some ⟨q, 0, none⟩), .int .i64 i] w fun e w' => ∃ ay cy, e = .returned (.tuple #[.int .i64 (takeK S i), .slice ay (takeB S i).length cy, .bool (inB i S.length)]) ∧ NetTo B w w' q bs (takeS S i) ∧
      w'.ownsRow B 5 1 (.slice ay (takeB S i).length cy) (takeB S i).length (encs (takeB S i)) ∧ ∀ g, (Value.slice ay (takeB S i).length cy).ownBlock = some g → g ∈ bs := by
  have hs := h
  obtain ⟨v, L, hq, rfl, rfl⟩ := h
  unfold takeK takeB takeS
  cases hi : inB i (L.map plain).length
  · rw [atS_no hi]
    rw [List.length_map] at hi
    refine (take_no hq i hi).mono ?_
    rintro e w' ⟨rfl, rfl⟩
    exact ⟨none, 0, rfl, hs.stay rfl, World.ownsRow_nil _ _ _ _, fun g hg => by simp [Value.ownBlock] at hg⟩
  · obtain ⟨k, hk, rfl, e⟩ := atS_yes hi
    obtain ⟨hk', ep⟩ := plain_at hk
    rw [e, ep]
    simp only [if_true, Int.toNat_natCast, plain]
    refine (take_yes hq k hk').mono ?_
    rintro e w' ⟨rfl, v', h1, h2, h3, h4, h5⟩
    obtain ⟨ay, cy, ey, _⟩ := sl_of_owns h4
    rw [ey] at h4 ⊢
    refine ⟨ay, cy, rfl, ⟨_, ⟨v', _, h1, rfl, by rw [map_erase]⟩, h2, fun k hk => .inl (h3 k hk)⟩, h4, fun g hg => ?_⟩
    exact List.mem_append_right _ (List.mem_filterMap.2 ⟨L[k], List.getElem_mem hk', by rw [ey]; exact hg⟩)

theorem drop_net {B : Nat} {w : World} {q : Nat} {bs : List Nat} {S : Words} (h : NetAt B w q bs S) (i : Int) :
    Calls Try.prog 13 #[.pointer (some ⟨q, 0, none⟩), .int .i64 i] w fun e w' => e = .returned (.bool (inB i S.length)) ∧ NetTo B w w' q bs (takeS S i) := by
  have hs := h
  obtain ⟨v, L, hq, rfl, rfl⟩ := h
  unfold takeS
  cases hi : inB i (L.map plain).length
  · rw [List.length_map] at hi
    exact (drop_no hq i hi).mono fun e w' ⟨h1, h2⟩ => ⟨h1, hs.stay h2⟩
  · obtain ⟨k, hk, rfl, e⟩ := atS_yes hi
    obtain ⟨hk', ep⟩ := plain_at hk
    simp only [if_true, Int.toNat_natCast]
    refine (drop_yes hq k hk').mono ?_
    rintro e w' ⟨rfl, v', h1, h2, h3, h4, h5⟩
    exact ⟨rfl, _, ⟨v', _, h1, rfl, by rw [map_erase]⟩, h2, fun k hk => .inl (h3 k hk)⟩

theorem copy_net {B : Nat} {w : World} {q : Nat} {bs : List Nat} {S : Words} (h : NetAt B w q bs S) (i : Int) :
    Calls Try.prog 12 #[.pointer (some ⟨q, 0, none⟩), .int .i64 i] w fun e w' => e = .returned (.int .i64 (againC S i)) ∧ NetTo B w w' q bs (againS S i) := by
  have hs := h
  obtain ⟨v, L, hq, rfl, rfl⟩ := h
  unfold againC againS
  cases hi : inB i (L.map plain).length
  · rw [atS_no hi]
    rw [List.length_map] at hi
    exact (copy_no hq i hi).mono fun e w' ⟨h1, h2⟩ => ⟨h1, hs.stay h2⟩
  · obtain ⟨k, hk, rfl, e⟩ := atS_yes hi
    obtain ⟨hk', ep⟩ := plain_at hk
    have g1 := hq.kin L[k] (List.getElem_mem hk')
    have g2 := hq.short L[k] (List.getElem_mem hk')
    rw [e, ep]
    unfold sendS sendC plain
    simp only [List.length_map]
    rw [if_neg (by omega), if_neg (by omega)]
    by_cases h3 : 32 ≤ L.length
    · rw [if_pos h3, if_neg (by decide)]
      exact (copy_full hq k hk' h3).mono fun e w' ⟨h1, h2⟩ => ⟨h1, hs.below h2⟩
    · rw [if_neg h3, if_pos rfl]
      refine (copy_yes hq k hk' (by omega)).mono ?_
      rintro e w' ⟨h4, v', y, h5, h6, h7⟩
      exact ⟨h4, _, ⟨v', _, h5, rfl, by simp [plain]⟩, h6, h7⟩

theorem map_bent (a : Nat) (k : UInt8) : ∀ (L : List Msg) (i : Nat), (L.map plain).modify i (fun p => (p.1, p.2.set a (p.2.getD a 0 ^^^ k))) = (bentAt L i a k).map plain
  | [], _ => by simp [bentAt]
  | m :: L, 0 => by simp [bentAt, bent, plain]
  | m :: L, i + 1 => by
    exact congrArg (plain m :: ·) (map_bent a k L i)

theorem bend_net {B : Nat} {w : World} {q : Nat} {bs : List Nat} {S : Words} (h : NetAt B w q bs S) (i a : Int) (k : UInt8) :
    Calls Try.prog 18 #[.pointer (some ⟨q, 0, none⟩), .int .i64 i, .int .i64 a, .int .u8 (k.toNat : Int)] w fun e w' => e = .returned (.bool (bendB S i a)) ∧ NetTo B w w' q bs (bendS S i a k) := by
  have hs := h
  obtain ⟨v, L, hq, rfl, rfl⟩ := h
  unfold bendS bendB
  cases hi : inB i (L.map plain).length
  · rw [atS_no hi]
    rw [List.length_map] at hi
    exact (bend_no hq i a k hi).mono fun e w' ⟨h1, h2⟩ => ⟨h1, hs.stay h2⟩
  · obtain ⟨j, hj, rfl, e⟩ := atS_yes hi
    obtain ⟨hj', ep⟩ := plain_at hj
    rw [e, ep]
    simp only [plain]
    by_cases ha : inB a L[j].bytes.length = true
    rotate_left
    · replace ha : inB a L[j].bytes.length = false := by simpa using ha
      simp only [ha, Bool.false_eq_true, if_false]
      exact (bend_out hq j a k hj' (in_no ha)).mono fun e w' ⟨h1, h2⟩ => ⟨h1, hs.stay h2⟩
    · obtain ⟨a0, a1⟩ := in_yes ha
      simp only [ha, if_true]
      obtain ⟨x, rfl⟩ := Int.eq_ofNat_of_zero_le a0
      refine (bend_yes hq j x k hj' (by omega)).mono ?_
      rintro e w' ⟨rfl, h5, h6⟩
      refine ⟨rfl, _, ⟨v, _, h5, rfl, ?_⟩, h6, fun k hk => .inl ?_⟩
      · rw [Int.toNat_natCast, Int.toNat_natCast, map_bent]
      · rwa [blks_bent] at hk

theorem len_net {B : Nat} {w : World} {q : Nat} {bs : List Nat} {S : Words} (h : NetAt B w q bs S) :
    Calls Try.prog 11 #[.pointer (some ⟨q, 0, none⟩)] w fun e w' => e = .returned (.int .i64 (S.length : Int)) ∧ w = w' := by
  obtain ⟨v, L, hq, rfl, rfl⟩ := h
  rw [List.length_map]
  exact len_any hq
end Go.Proofs.Ytgbcjbbkcoaohaa
