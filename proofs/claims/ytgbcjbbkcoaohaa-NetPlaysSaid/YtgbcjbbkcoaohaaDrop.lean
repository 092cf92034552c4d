/- What Drop and Take do to the queue in memory. -/
import Derived.Test.YtgbcjbbkcoaohaaDelete
namespace Go.Proofs.Ytgbcjbbkcoaohaa
open Go.RowKit
set_option linter.unusedVariables false

theorem cells_erase : ∀ (L : List Msg) (i : Nat), i < L.length → cellsOf (L.eraseIdx i) = (cellsOf L).take (i * 2) ++ (cellsOf L).drop ((i + 1) * 2)
  | [], i, h => by simp at h
  | m :: L, 0, _ => by simp [cellsOf]
  | m :: L, i + 1, h => by
    have ih := cells_erase L i (by simpa using h)
    have e1 : (i + 1) * 2 = i * 2 + 1 + 1 := by omega
    have e2 : (i + 1 + 1) * 2 = (i + 1) * 2 + 1 + 1 := by omega
    rw [List.eraseIdx_cons_succ]
    simp only [cellsOf]
    rw [ih, e2, e1, List.take_succ_cons, List.take_succ_cons, List.drop_succ_cons, List.drop_succ_cons]
    simp
theorem cells_at : ∀ (L : List Msg) (i : Nat) (h : i < L.length), (cellsOf L)[i * 2]? = some (.int .i64 L[i].kind) ∧ (cellsOf L)[i * 2 + 1]? = some L[i].val
  | [], i, h => by simp at h
  | m :: L, 0, _ => by simp [cellsOf]
  | m :: L, i + 1, h => by
    have ih := cells_at L i (by simpa using h)
    have e1 : (i + 1) * 2 = i * 2 + 1 + 1 := by omega
    simp only [cellsOf]
    rw [e1, List.getElem?_cons_succ, List.getElem?_cons_succ, List.getElem?_cons_succ, List.getElem?_cons_succ]
    simpa using ih
theorem cells_one {B : Nat} {w : World} {q : Nat} {v : Value} {L : List Msg} (h : Que B w q v L) : ∀ u ∈ cellsOf L, u.oneCell' = true := by
  have hm := h.msg
  clear h
  induction L with
  | nil => intro u hu; simp [cellsOf] at hu
  | cons m L ih =>
    intro u hu
    simp only [cellsOf, List.mem_cons] at hu
    rcases hu with rfl | rfl | hu
    · rfl
    · obtain ⟨ao, c, e, _⟩ := sl_of_owns (hm m (by simp))
      rw [e]; rfl
    · exact ih (fun x hx => hm x (by simp [hx])) u hu

theorem erase_fresh (f : Msg → Option Nat) : ∀ (L : List Msg) (i : Nat) (hi : i < L.length) (k : Nat), (L.filterMap f).Nodup → f L[i] = some k → k ∉ (L.eraseIdx i).filterMap f
  | [], i, h, _, _, _ => by simp at h
  | m :: L, 0, _, k, hn, hk => by
    simp only [List.getElem_cons_zero] at hk
    rw [List.filterMap_cons, hk] at hn
    exact (List.nodup_cons.1 hn).1
  | m :: L, i + 1, h, k, hn, hk => by
    have hi : i < L.length := by simpa using h
    simp only [List.getElem_cons_succ] at hk
    rw [List.eraseIdx_cons_succ, List.filterMap_cons]
    rw [List.filterMap_cons] at hn
    cases e : f m with
    | none =>
      rw [e] at hn
      exact erase_fresh f L i hi k hn hk
    | some a =>
      rw [e] at hn
      obtain ⟨h1, h2⟩ := List.nodup_cons.1 hn
      have hkm : k ∈ L.filterMap f := List.mem_filterMap.2 ⟨L[i], List.getElem_mem hi, hk⟩
      intro hm
      rcases List.mem_cons.1 hm with h3 | h3
      · exact h1 (by rw [← h3]; exact hkm)
      · exact erase_fresh f L i hi k h2 hk h3

/-- the queue without its i-th message, in a world where only its row's block and its own cell were written. -/
theorem que_erase {B : Nat} {w w' : World} {q g cap : Nat} {v' : Value} {L : List Msg} {c : Nat} (hq : Que B w q (.slice (some ⟨g, 0, none⟩) L.length c) L) (i : Nat) (hi : i < L.length)
    (hcel : w'.cell? ⟨q, 0, none⟩ = some v') (hfro : w'.frozen? ⟨q, 0, none⟩ = false) (hv : v'.ownBlock = some g) (hrow : w'.ownsRow B 53 2 v' (L.length - 1) ((cellsOf L).take (i * 2) ++ (cellsOf L).drop ((i + 1) * 2)))
    (hkeep : ∀ k, k < w.heap.size → k ≠ q → k ≠ g → w'.heap[k]? = w.heap[k]?) :
    Que B w' q v' (L.eraseIdx i) ∧ (∀ k ∈ blks v' (L.eraseIdx i), k ∈ blks (.slice (some ⟨g, 0, none⟩) L.length c) L) ∧ w'.ownsRow B 5 1 L[i].val L[i].bytes.length (encs L[i].bytes) ∧ (∀ k, L[i].val.ownBlock = some k → k ∉ q :: blks v' (L.eraseIdx i)) := by
  have hlt := hq.lt
  have hnod := hq.nod
  rw [List.nodup_cons] at hnod
  have hsub : (L.eraseIdx i).Sublist L := List.eraseIdx_sublist L i
  have hb : (Value.slice (some ⟨g, 0, none⟩) L.length c).ownBlock = some g := rfl
  have hfs : ((L.eraseIdx i).filterMap (fun m : Msg => m.val.ownBlock)).Sublist (L.filterMap (fun m : Msg => m.val.ownBlock)) := hsub.filterMap _
  have hbl : blks v' (L.eraseIdx i) = g :: (L.eraseIdx i).filterMap (fun m : Msg => m.val.ownBlock) := by unfold blks; rw [hv]; rfl
  have hbl0 : blks (.slice (some ⟨g, 0, none⟩) L.length c) L = g :: L.filterMap (fun m : Msg => m.val.ownBlock) := by unfold blks; rw [hb]; rfl
  have hsl : (blks v' (L.eraseIdx i)).Sublist (blks (.slice (some ⟨g, 0, none⟩) L.length c) L) := by rw [hbl, hbl0]; exact hfs.cons_cons g
  have hmem : ∀ k ∈ L.filterMap (fun m : Msg => m.val.ownBlock), k < w.heap.size ∧ k ≠ q ∧ k ≠ g := by
    intro k hk
    have hk0 : k ∈ blks (.slice (some ⟨g, 0, none⟩) L.length c) L := by rw [hbl0]; exact List.mem_cons_of_mem _ hk
    refine ⟨(hlt k (List.mem_cons_of_mem _ hk0)).2, fun e => hnod.1 (by rw [← e]; exact hk0), fun e => ?_⟩
    have h2 := hnod.2
    rw [hbl0, List.nodup_cons] at h2
    exact h2.1 (by rw [← e]; exact hk)
  have hmrow : ∀ m ∈ L, w'.ownsRow B 5 1 m.val m.bytes.length (encs m.bytes) := fun m hm => owns_kept (hq.msg m hm) fun k e => by
    obtain ⟨h1, h2, h3⟩ := hmem k (List.mem_filterMap.2 ⟨m, hm, e⟩)
    exact hkeep k h1 h2 h3
  have hlen : (L.eraseIdx i).length = L.length - 1 := by rw [List.length_eraseIdx]; simp [hi]
  refine ⟨⟨hq.lo, hcel, hfro, ?_, fun m hm => hmrow m (hsub.subset hm), ?_, by rw [hlen]; have := hq.few; omega, fun m hm => hq.short m (hsub.subset hm), fun m hm => hq.kin m (hsub.subset hm)⟩, fun k hk => hsl.subset hk, hmrow _ (List.getElem_mem hi), ?_⟩
  · rw [hlen, cells_erase L i hi]; exact hrow
  · rw [List.nodup_cons]
    exact ⟨fun hm => hnod.1 (hsl.subset hm), hnod.2.sublist hsl⟩
  · intro k hk hm
    have hkL : k ∈ L.filterMap (fun m : Msg => m.val.ownBlock) := List.mem_filterMap.2 ⟨L[i], List.getElem_mem hi, hk⟩
    obtain ⟨_, k2, k3⟩ := hmem k hkL
    rcases List.mem_cons.1 hm with h1 | h1
    · exact k2 h1
    · rw [hbl] at h1
      rcases List.mem_cons.1 h1 with h1 | h1
      · exact k3 h1
      · have h2 := hnod.2
        rw [hbl0, List.nodup_cons] at h2
        exact erase_fresh _ L i hi k h2.2 hk h1

/-- the queue behind the loss of its i-th message. -/
def Lost (B : Nat) (w : World) (q : Nat) (v : Value) (L : List Msg) (i : Nat) (hi : i < L.length) (w' : World) : Prop :=
  ∃ v', Que B w' q v' (L.eraseIdx i) ∧ Kept (q :: blks v L) w w' ∧ (∀ k ∈ blks v' (L.eraseIdx i), k ∈ blks v L) ∧ w'.ownsRow B 5 1 L[i].val L[i].bytes.length (encs L[i].bytes) ∧ (∀ k, L[i].val.ownBlock = some k → k ∉ q :: blks v' (L.eraseIdx i))

theorem drop_no {B : Nat} {w : World} {q : Nat} {v : Value} {L : List Msg} (hq : Que B w q v L) (i : Int) (hi : inB i L.length = false) :
    Calls Try.prog 13 #[.pointer (some ⟨q, 0, none⟩), .int .i64 i] w fun e w' => e = .returned (.bool false) ∧ w = w' := by
  have HQ := Lib.hid hq
  clear hq
  go_enter Try.func13, Try.ntmps13
  go_wp2_with (go_at_call 21; refine (in_any HQ.out i).mono ?_; rintro e w' ⟨rfl, rfl⟩)
  go_ret
  exact ⟨rfl, rfl⟩

theorem drop_yes {B : Nat} {w : World} {q : Nat} {v : Value} {L : List Msg} (hq : Que B w q v L) (i : Nat) (hi : i < L.length) :
    Calls Try.prog 13 #[.pointer (some ⟨q, 0, none⟩), .int .i64 (i : Int)] w fun e w' => e = .returned (.bool true) ∧ Lost B w q v L i hi w' := by
  have hin : inB (i : Int) L.length = true := decide_eq_true (by omega)
  have hone := cells_one hq
  have hfew := hq.few
  obtain ⟨av, cv, rfl⟩ := hq.form
  obtain ⟨g, hav⟩ : ∃ g, av = some ⟨g, 0, none⟩ := by
    rcases hq.row.2 with ⟨h, h0⟩ | ⟨g, cap, cur, h, _⟩
    · omega
    · injection h with h1 h2 h3
      exact ⟨g, h1⟩
  subst hav
  have hcel := hq.cel
  have hfro := hq.fro
  have hnq : g ≠ q := by
    intro e
    have := hq.nod
    rw [List.nodup_cons] at this
    exact this.1 (by rw [← e]; simp [blks, Value.ownBlock])
  have hqlt := (hq.lt q (by simp)).2
  have HD := Lib.hid (delete_any hq.row i hi (r := L.length - 1) (by omega) (by omega) hone)
  have HQ := Lib.hid hq
  have HNQ := Lib.hid hnq
  have HI := Lib.hid hi
  have hil : (i : Int) < (L.length : Int) := by omega
  clear hq hone hnq
  go_enter Try.func13, Try.ntmps13
  go_wp2_with (first | (go_at_call 21; refine (in_any HQ.out (i : Int)).mono ?_; rintro e w' ⟨rfl, rfl⟩))
  refine HD.out.mono ?_
  rintro e w1 ⟨rfl, hrow, hg⟩
  have hc1 : w1.cell? ⟨q, 0, none⟩ = some (.slice (some ⟨g, 0, none⟩) L.length cv) := (hg.cell_far ⟨q, 0, none⟩ hqlt (by intro e; injection e with e; exact HNQ.out e.symm)).trans hcel
  have hf1 : w1.frozen? ⟨q, 0, none⟩ = false := (hg.frozen_far ⟨q, 0, none⟩ hqlt (by intro e; injection e with e; exact HNQ.out e.symm)).trans hfro
  have HR := Lib.hid hrow
  have HG := Lib.hid hg
  clear hrow hg hcel hfro HD
  go_wp2
  go_ret
  have hne : ∀ k, k ≠ q → (w1.setCell ⟨q, 0, none⟩ (.slice (some ⟨g, 0, none⟩) (L.length - 1) cv)).heap[k]? = w1.heap[k]? := fun k hk => Below.heap_setCell w1 ⟨q, 0, none⟩ _ k hk
  have h := que_erase (w' := w1.setCell ⟨q, 0, none⟩ (.slice (some ⟨g, 0, none⟩) (L.length - 1) cv)) (v' := .slice (some ⟨g, 0, none⟩) (L.length - 1) cv) (cap := cv) HQ.out i hi (World.cell?_setCell_same _ _ _ hc1) (by simpa using hf1) rfl
    (owns_kept HR.out fun k e => hne k (by simp [Value.ownBlock] at e; rw [← e]; exact HNQ.out)) (fun k h1 h2 h3 => (hne k h2).trans (HG.out.block k h1 (by intro e; injection e with e; exact h3 e)))
  refine ⟨rfl, _, h.1, ?_, h.2.1, h.2.2.1, h.2.2.2⟩
  refine Kept.set ((Kept.refl _ w).grown HG.out fun k e => .inl ?_) _ (.inl (by simp)) _
  injection e with e
  subst e
  simp [blks, Value.ownBlock]
end Go.Proofs.Ytgbcjbbkcoaohaa
