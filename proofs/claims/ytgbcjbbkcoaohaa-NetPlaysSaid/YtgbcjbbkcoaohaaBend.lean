/- What Bend does to the queue in memory. -/
import Derived.Test.YtgbcjbbkcoaohaaCopy
import Derived.Laws.BitsAllLaws
namespace Go.Proofs.Ytgbcjbbkcoaohaa
open Go.RowKit
set_option linter.unusedVariables false

/-- a message with one byte turned. -/
def bent (m : Msg) (a : Nat) (k : UInt8) : Msg := ⟨m.kind, m.bytes.set a (m.bytes.getD a 0 ^^^ k), m.val⟩
def bentAt (L : List Msg) (i a : Nat) (k : UInt8) : List Msg := L.modify i (fun m => bent m a k)
theorem cells_bent (a : Nat) (k : UInt8) : ∀ (L : List Msg) (i : Nat), cellsOf (bentAt L i a k) = cellsOf L
  | [], i => by simp [bentAt]
  | m :: L, 0 => by simp [bentAt, cellsOf, bent]
  | m :: L, i + 1 => by
    have ih := cells_bent a k L i
    unfold bentAt at *
    rw [List.modify_succ_cons]
    simp only [cellsOf]
    rw [ih]
theorem vals_bent (a : Nat) (k : UInt8) : ∀ (L : List Msg) (i : Nat), (bentAt L i a k).filterMap (fun m => m.val.ownBlock) = L.filterMap (fun m => m.val.ownBlock)
  | [], i => by simp [bentAt]
  | m :: L, 0 => by simp [bentAt, bent, List.filterMap_cons]
  | m :: L, i + 1 => by
    have ih := vals_bent a k L i
    unfold bentAt at *
    rw [List.modify_succ_cons, List.filterMap_cons, List.filterMap_cons, ih]
theorem blks_bent (v : Value) (L : List Msg) (i a : Nat) (k : UInt8) : blks v (bentAt L i a k) = blks v L := by unfold blks; rw [vals_bent]
theorem length_bent (L : List Msg) (i a : Nat) (k : UInt8) : (bentAt L i a k).length = L.length := by simp [bentAt]
theorem nodup_apart (f : Msg → Option Nat) : ∀ (L : List Msg) (i j : Nat) (hi : i < L.length) (hj : j < L.length) (k : Nat), (L.filterMap f).Nodup → f L[i] = some k → f L[j] = some k → i = j
  | [], i, _, h, _, _, _, _, _ => by simp at h
  | m :: L, 0, 0, _, _, _, _, _, _ => rfl
  | m :: L, 0, j + 1, _, hj, k, hn, h1, h2 => by
    simp only [List.getElem_cons_zero] at h1
    simp only [List.getElem_cons_succ] at h2
    rw [List.filterMap_cons, h1] at hn
    exact absurd (List.mem_filterMap.2 ⟨_, List.getElem_mem _, h2⟩) (List.nodup_cons.1 hn).1
  | m :: L, i + 1, 0, hi, _, k, hn, h1, h2 => by
    simp only [List.getElem_cons_zero] at h2
    simp only [List.getElem_cons_succ] at h1
    rw [List.filterMap_cons, h2] at hn
    exact absurd (List.mem_filterMap.2 ⟨_, List.getElem_mem _, h1⟩) (List.nodup_cons.1 hn).1
  | m :: L, i + 1, j + 1, hi, hj, k, hn, h1, h2 => by
    simp only [List.getElem_cons_succ] at h1 h2
    have hn' : (L.filterMap f).Nodup := by
      rw [List.filterMap_cons] at hn
      cases e : f m with
      | none => rw [e] at hn; exact hn
      | some a => rw [e] at hn; exact (List.nodup_cons.1 hn).2
    rw [nodup_apart f L i j (by simpa using hi) (by simpa using hj) k hn' h1 h2]

theorem que_bent {B : Nat} {w : World} {q : Nat} {v : Value} {L : List Msg} (hq : Que B w q v L) (i : Nat) (hi : i < L.length) (a : Nat) (ha : a < L[i].bytes.length) (k : UInt8) (gb N mc : Nat) (hv : L[i].val = .slice (some ⟨gb, 0, none⟩) N mc)
    (u : Value) (hu : u = encB (L[i].bytes.getD a 0 ^^^ k)) :
    Que B (w.setCell ⟨gb, a, none⟩ u) q v (bentAt L i a k) ∧ Kept (q :: blks v L) w (w.setCell ⟨gb, a, none⟩ u) := by
  subst hu
  have hlt := hq.lt
  have hnod := hq.nod
  rw [List.nodup_cons] at hnod
  have hob : L[i].val.ownBlock = some gb := by rw [hv]; rfl
  have hgL : gb ∈ L.filterMap (fun m : Msg => m.val.ownBlock) := List.mem_filterMap.2 ⟨L[i], List.getElem_mem hi, hob⟩
  have hgb : gb ∈ blks v L := List.mem_append_right _ hgL
  have hgq : gb ≠ q := fun e => hnod.1 (by rw [← e]; exact hgb)
  have hgv : v.ownBlock ≠ some gb := by
    intro e
    have h2 := hnod.2
    unfold blks at h2
    rw [List.nodup_append] at h2
    exact h2.2.2 gb (by rw [e]; simp) gb hgL rfl
  have hLn : (L.filterMap (fun m : Msg => m.val.ownBlock)).Nodup := by
    have h2 := hnod.2
    unfold blks at h2
    rw [List.nodup_append] at h2
    exact h2.2.1
  have hne : ∀ x, x ≠ gb → (w.setCell ⟨gb, a, none⟩ (encB (L[i].bytes.getD a 0 ^^^ k))).heap[x]? = w.heap[x]? := fun x hx => Below.heap_setCell w ⟨gb, a, none⟩ _ x hx
  have hmem : ∀ j (hj : j < (bentAt L i a k).length), ∃ hj' : j < L.length, (bentAt L i a k)[j] = if i = j then bent L[j] a k else L[j] := by
    intro j hj
    have hj' : j < L.length := by rw [length_bent] at hj; exact hj
    refine ⟨hj', ?_⟩
    exact List.getElem_modify _ _ _ _ _
  have each : ∀ m ∈ bentAt L i a k, (w.setCell ⟨gb, a, none⟩ (encB (L[i].bytes.getD a 0 ^^^ k))).ownsRow B 5 1 m.val m.bytes.length (encs m.bytes) ∧ m.bytes.length ≤ 131072 ∧ (m.kind = 1 ∨ m.kind = 2) := by
    intro m hm
    obtain ⟨j, hj, rfl⟩ := List.getElem_of_mem hm
    obtain ⟨hj', e⟩ := hmem j hj
    rw [e]
    by_cases hij : i = j
    · subst hij
      rw [if_pos rfl]
      have hrow := hq.msg L[i] (List.getElem_mem hi)
      have hsh := hq.short L[i] (List.getElem_mem hi)
      have hk := hq.kin L[i] (List.getElem_mem hi)
      refine ⟨?_, by simpa [bent] using hsh, hk⟩
      simp only [bent, List.length_set]
      rw [hv] at hrow ⊢
      obtain ⟨ao, c, e2, _⟩ := sl_of_owns hrow
      have hN : N = L[i].bytes.length := by injection e2
      subst hN
      have hst := (hrow.stored a (encB (L[i].bytes.getD a 0 ^^^ k))).1
      have e3 : encs (L[i].bytes.set a (L[i].bytes.getD a 0 ^^^ k)) = (encs L[i].bytes).set a (encB (L[i].bytes.getD a 0 ^^^ k)) := by unfold encs; rw [List.map_set]
      rw [e3]
      exact hst
    · rw [if_neg hij]
      have hmL := List.getElem_mem hj'
      refine ⟨owns_kept (hq.msg L[j] hmL) fun x hx => hne x fun ex => ?_, hq.short L[j] hmL, hq.kin L[j] hmL⟩
      subst ex
      exact hij (nodup_apart _ L i j hi hj' x hLn hob hx)
  refine ⟨⟨hq.lo, ?_, ?_, ?_, fun m hm => (each m hm).1, by rw [blks_bent]; exact hq.nod, by rw [length_bent]; exact hq.few, fun m hm => (each m hm).2.1, fun m hm => (each m hm).2.2⟩, ?_⟩
  · rw [World.cell?_of_block (a := ⟨q, 0, none⟩) (hne q (Ne.symm hgq))]; exact hq.cel
  · rw [World.frozen?_of_block (a := ⟨q, 0, none⟩) (hne q (Ne.symm hgq))]; exact hq.fro
  · rw [length_bent, cells_bent]
    exact owns_kept hq.row fun x hx => hne x fun ex => hgv (by rw [hx, ex])
  · exact (Kept.refl _ w).set _ (.inl (List.mem_cons_of_mem _ hgb)) _

theorem bend_no {B : Nat} {w : World} {q : Nat} {v : Value} {L : List Msg} (hq : Que B w q v L) (i at' : Int) (k : UInt8) (hi : inB i L.length = false) :
    Calls Try.prog 18 #[.pointer (some ⟨q, 0, none⟩), .int .i64 i, .int .i64 at', .int .u8 (k.toNat : Int)] w fun e w' => e = .returned (.bool false) ∧ w = w' := by
  have HQ := Lib.hid hq
  clear hq
  go_enter Try.func18, Try.ntmps18
  go_wp2_with (go_at_call 21; refine (in_any HQ.out i).mono ?_; rintro e w' ⟨rfl, rfl⟩)
  go_ret
  exact ⟨rfl, rfl⟩

theorem bend_out {B : Nat} {w : World} {q : Nat} {v : Value} {L : List Msg} (hq : Que B w q v L) (i : Nat) (at' : Int) (k : UInt8) (hi : i < L.length) (ha : at' < 0 ∨ (L[i].bytes.length : Int) ≤ at') :
    Calls Try.prog 18 #[.pointer (some ⟨q, 0, none⟩), .int .i64 (i : Int), .int .i64 at', .int .u8 (k.toNat : Int)] w fun e w' => e = .returned (.bool false) ∧ w = w' := by
  have hin : inB (i : Int) L.length = true := decide_eq_true (by omega)
  have hm := hq.short L[i] (List.getElem_mem hi)
  obtain ⟨g, cv, am, mc, rfl, hval, hglt, hgq, hck, hcv⟩ := hq.at i hi
  have hfew := hq.few
  have hcel := hq.cel
  have hil : (i : Int) < (L.length : Int) := by omega
  have HQ := Lib.hid hq
  clear hq hval
  generalize L[i].bytes.length = N at hcv hm ha
  by_cases h0 : at' < 0
  · clear ha
    go_enter Try.func18, Try.ntmps18
    go_wp2_with (go_at_call 21; refine (in_any HQ.out (i : Int)).mono ?_; rintro e w' ⟨rfl, rfl⟩)
    go_ret
    exact ⟨rfl, rfl⟩
  · have h1 : (N : Int) ≤ at' := by omega
    clear ha
    go_enter Try.func18, Try.ntmps18
    go_wp2_with (go_at_call 21; refine (in_any HQ.out (i : Int)).mono ?_; rintro e w' ⟨rfl, rfl⟩)
    go_ret
    exact ⟨rfl, rfl⟩

def Bent (B : Nat) (w : World) (q : Nat) (v : Value) (L : List Msg) (i a : Nat) (k : UInt8) (e : Ending) (w' : World) : Prop :=
  e = .returned (.bool true) ∧ Que B w' q v (bentAt L i a k) ∧ Kept (q :: blks v L) w w'
theorem xor_byte (a k : UInt8) : Value.int .u8 (bits .xor .u8 (a.toNat : Int) (k.toNat : Int)) = encB (a ^^^ k) := by
  unfold encB
  rw [u8_xor_nat _ _ a.toNat_lt k.toNat_lt, UInt8.toNat_xor]

theorem bend_yes {B : Nat} {w : World} {q : Nat} {v : Value} {L : List Msg} (hq : Que B w q v L) (i a : Nat) (k : UInt8) (hi : i < L.length) (ha : a < L[i].bytes.length) :
    Calls Try.prog 18 #[.pointer (some ⟨q, 0, none⟩), .int .i64 (i : Int), .int .i64 (a : Int), .int .u8 (k.toNat : Int)] w (Bent B w q v L i a k) := by
  have hin : inB (i : Int) L.length = true := decide_eq_true (by omega)
  have hm := hq.short L[i] (List.getElem_mem hi)
  have hrow := hq.msg L[i] (List.getElem_mem hi)
  have HE : Hid (∀ (gb N mc : Nat) (hv : L[i].val = .slice (some ⟨gb, 0, none⟩) N mc) (u : Value), u = encB (L[i].bytes.getD a 0 ^^^ k) → Que B (w.setCell ⟨gb, a, none⟩ u) q v (bentAt L i a k) ∧ Kept (q :: blks v L) w (w.setCell ⟨gb, a, none⟩ u)) :=
    fun gb N mc hv u hu => que_bent hq i hi a ha k gb N mc hv u hu
  obtain ⟨g, cv, am, mc, rfl, hval, hglt, hgq, hck, hcv⟩ := hq.at i hi
  obtain ⟨gb, rfl⟩ : ∃ gb, am = some ⟨gb, 0, none⟩ := by
    rw [hval] at hrow
    rcases hrow.2 with ⟨h, h0⟩ | ⟨g', cap, cur, h, _⟩
    · omega
    · injection h with h1 h2 h3
      exact ⟨g', h1⟩
  have hby : w.cell? ⟨gb, a, none⟩ = some (encB (L[i].bytes.getD a 0)) := by
    rw [hval] at hrow
    rw [hrow.cellAt a (by omega)]
    unfold encs
    rw [List.getElem?_map, List.getElem?_eq_getElem ha]
    simp [List.getD, List.getElem?_eq_getElem ha]
  have hbf : w.frozen? ⟨gb, a, none⟩ = false := by
    rw [hval] at hrow
    exact hrow.frozenAt a
  have HV := Lib.hid hval
  have hfew := hq.few
  have hcel := hq.cel
  have hil : (i : Int) < (L.length : Int) := by omega
  have hal : (a : Int) < (L[i].bytes.length : Int) := by omega
  have HQ := Lib.hid hq
  clear hq hval hrow ha
  unfold encB at hby
  generalize hx : L[i].bytes.getD a 0 = x at hby HE
  generalize L[i].bytes.length = N at hcv hm hal HV
  clear hx
  have hx2 : (x.toNat : Int) ≤ 255 := by have := x.toNat_lt; omega
  have hk2 : (k.toNat : Int) ≤ 255 := by have := k.toNat_lt; omega
  go_enter Try.func18, Try.ntmps18
  go_wp2_with (go_at_call 21; refine (in_any HQ.out (i : Int)).mono ?_; rintro e w' ⟨rfl, rfl⟩)
  go_ret
  exact ⟨rfl, HE.out gb N mc HV.out _ (xor_byte x k)⟩
end Go.Proofs.Ytgbcjbbkcoaohaa
