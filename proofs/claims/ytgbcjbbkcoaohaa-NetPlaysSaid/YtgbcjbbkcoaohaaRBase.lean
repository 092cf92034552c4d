/- The reference's queue behind a send; rows that stay. -/
import Derived.Test.YtgbcjbbkcoaohaaRef
namespace Go.Proofs.Ytgbcjbbkcoaohaa
open Go.RowKit
set_option linter.unusedVariables false

theorem info3 : (Try.prog.info? 3).map (fun i => (i.zero, i.size, i.bytes)) = some (some (.int .i64 0), 1, 8) := by kernel_rfl
theorem info23 : (Try.prog.info? 23).map (fun i => (i.zero, i.size, i.bytes)) = some (some (.slice none 0 0), 1, 24) := by kernel_rfl
theorem sl_one (w : World) (u : Value) (t : TypeId) : Sl (w.heap.size + 1) (w.alloc (.cells #[u] t)) 1 (some ⟨w.heap.size, 0, none⟩) 1 [u] :=
  ⟨rfl, (fun ha => by cases ha), (fun ad ha _ => by injection ha with ha; subst ha; exact Nat.lt_succ_self _), (fun ad ha => by injection ha with ha; subst ha; exact World.news_of_block (cs := #[u]) (t := t) (fr := (0, 0)) (heap_alloc_new w _))⟩
theorem kindsV_one (M : List Msg) : ∀ u ∈ kindsV M, u.oneCell' = true := by
  intro u hu
  obtain ⟨m, _, rfl⟩ := List.mem_map.1 hu
  rfl
theorem Ref.valsV_one {B : Nat} {w : World} {r : Nat} {kv bv : Value} {M : List Msg} (h : Ref B w r kv bv M) : ∀ u ∈ valsV M, u.oneCell' = true := by
  intro u hu
  obtain ⟨m, hm, rfl⟩ := List.mem_map.1 hu
  obtain ⟨ao, c, e, _⟩ := sl_of_owns (h.msg m hm)
  rw [e]
  rfl
theorem grown_nil {w w' : World} (h : w.grownBy w' (Value.slice none 0 0).ownBlock) : Below w.heap.size w w' :=
  (Below.refl _ _).grown h (Nat.le_refl _) fun k hk => by simp [Value.ownBlock] at hk
theorem owns_below {w w' : World} {base : Nat} {e : TypeId} {size : Nat} {v : Value} {n : Nat} {xs : List Value} (h : w.ownsRow base e size v n xs) (hb : Below w.heap.size w w') : w'.ownsRow base e size v n xs :=
  owns_kept h fun k e => hb.block k (h.lt k e).2

/-- the world behind the two stores. -/
theorem ref_sent {B : Nat} {w W : World} {r : Nat} {kv bv v2 v4 v5 : Value} {M : List Msg} (h : Ref B w r kv bv M) (kind : Int) (bs : List UInt8) (hk : kind = 1 ∨ kind = 2) (hs : bs.length ≤ 131072) (hf : M.length < 32)
    (k5 : Below w.heap.size w W) (o2 : W.ownsRow w.heap.size 3 1 v2 (M.length + 1) (kindsV M ++ [.int .i64 kind])) (o4 : W.ownsRow w.heap.size 5 1 v4 bs.length (encs bs)) (o5 : W.ownsRow w.heap.size 23 1 v5 (M.length + 1) (valsV M ++ [v4])) :
    RefTo B w ((W.setCell ⟨r, 0, none⟩ v2).setCell ⟨r, 1, none⟩ v5) r (rblks kv bv M) (M.map plain ++ [(kind, bs)]) := by
  have hr := (h.lt r (by simp)).2
  have hBw : B ≤ w.heap.size := by have := (h.lt r (by simp)).1; omega
  have hne : ∀ k, k ≠ r → ((W.setCell ⟨r, 0, none⟩ v2).setCell ⟨r, 1, none⟩ v5).heap[k]? = W.heap[k]? := fun k hk => (Below.heap_setCell _ ⟨r, 1, none⟩ v5 k hk).trans (Below.heap_setCell W ⟨r, 0, none⟩ v2 k hk)
  have hko : ∀ {e : TypeId} {v : Value} {n : Nat} {xs : List Value}, W.ownsRow w.heap.size e 1 v n xs → ((W.setCell ⟨r, 0, none⟩ v2).setCell ⟨r, 1, none⟩ v5).ownsRow w.heap.size e 1 v n xs :=
    fun o => owns_kept o fun k e => hne k (by have := (o.lt k e).1; omega)
  have c0 : W.cell? ⟨r, 0, none⟩ = some kv := (k5.cell (p := ⟨r, 0, none⟩) hr).trans h.celk
  have c1 : W.cell? ⟨r, 1, none⟩ = some bv := (k5.cell (p := ⟨r, 1, none⟩) hr).trans h.celb
  have f0 : W.frozen? ⟨r, 0, none⟩ = false := (k5.frozen (p := ⟨r, 0, none⟩) hr).trans h.frok
  have f1 : W.frozen? ⟨r, 1, none⟩ = false := (k5.frozen (p := ⟨r, 1, none⟩) hr).trans h.frob
  have e : M.map plain ++ [(kind, bs)] = (M ++ [(⟨kind, bs, v4⟩ : Msg)]).map plain := by simp [plain]
  rw [e]
  refine ref_of h (Kept.set (Kept.set (Kept.of_below k5) _ (.inl (by simp)) _) _ (.inl (by simp)) _) v2 v5 (M ++ [(⟨kind, bs, v4⟩ : Msg)]) ?_ ?_ (by simpa using f0) (by simpa using f1) ?_ (fun g e => .inr (o2.lt g e).1) ?_ (fun m hm => ?_) (by simp; omega)
  · rw [World.cell?_setCell_other _ _ _ _ (by simp)]
    exact World.cell?_setCell_same _ _ _ c0
  · exact World.cell?_setCell_same _ _ _ ((World.cell?_setCell_other _ _ _ _ (by simp)).trans c1)
  · simpa using owns_mono (hko o2) hBw
  · simpa using hko o5
  · rcases List.mem_append.1 hm with g | g
    · exact .inl g
    · simp at g
      subst g
      exact .inr ⟨hko o4, hs, hk⟩
/-- a row stays where another one grows. -/
theorem owns_apart {w w' : World} {base : Nat} {e : TypeId} {size : Nat} {u v : Value} {n : Nat} {xs : List Value} {t : TypeId} {cs : Array Value} (h : w.ownsRow base e size v n xs) (hg : (w.alloc (.cells cs t)).grownBy w' u.ownBlock) (hd : ∀ x, v.ownBlock = some x → some x = u.ownBlock → False) : w'.ownsRow base e size v n xs :=
  owns_kept h fun k hk => (hg.block k (by have := (h.lt k hk).2; simp; omega) (fun he => hd k hk he)).trans (Below.heap_alloc w _ k (h.lt k hk).2)
end Go.Proofs.Ytgbcjbbkcoaohaa
