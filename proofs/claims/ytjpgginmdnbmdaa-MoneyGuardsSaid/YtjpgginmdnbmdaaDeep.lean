/- Guard over the recursive function: its answer, and what is left done in the captured variables. -/
import Derived.Test.YtjpgginmdnbmdaaDown
namespace Go.Proofs.Ytjpgginmdnbmdaa
open Go.RowKit

theorem enter12 (bd bk : Nat) (w : World) : (callFunc 12 #[.pointer (some ⟨bd, 0, none⟩), .pointer (some ⟨bk, 0, none⟩)]).run Try.prog w = .ok (.enter 12 #[.pointer (some ⟨bd, 0, none⟩), .pointer (some ⟨bk, 0, none⟩)]) w := by kernel_rfl
theorem enter15 (w : World) : (callFunc 15 #[]).run Try.prog w = .ok (.enter 15 #[]) w := by kernel_rfl
theorem lit3_any (w : World) : Calls Try.prog 15 #[] w (Panics w) := by
  go_enter Try.func15, Try.ntmps15
  go_wp2
  exact ⟨rfl, _, _, rfl, rfl⟩
theorem guard3_any (w : World) : Calls Try.prog 11 #[.func (.func 15) #[] #[]] w fun e w' => e = .returned (.bool false) ∧ Below w.heap.size w w' := by
  refine (guard_panic 15 #[] w (fun w1 => w.alloc (.cells #[.bool false] 4) = w1) enter15 ?_).mono ?_
  · refine (lit3_any _).mono ?_
    rintro e w1 ⟨u, pv, rfl, rfl⟩
    exact ⟨⟨by simp, by simp⟩, ⟨_, _, rfl⟩, rfl⟩
  · rintro e w' ⟨rfl, w1, rfl, rfl⟩
    exact ⟨rfl, ((Below.refl _ _).alloc (Nat.le_refl _) _).setCell (Nat.le_refl _) _⟩

/-- the world with Guard's own cell. -/
theorem cell_new (w : World) (o : Obj) (b : Nat) {v : Value} (h : w.cell? ⟨b, 0, none⟩ = some v) : (w.alloc o).cell? ⟨b, 0, none⟩ = some v := by
  rw [World.cell?_alloc_lt w o ⟨b, 0, none⟩ (World.block_lt_of_cell? w _ h)]; exact h
theorem frozen_new (w : World) (c : Array Value) (t : TypeId) (a : Addr) : (w.alloc (.cells c t)).frozen? a = w.frozen? a := by
  exact frozen?_alloc_cells w c t a

def After (zs : List Int) (g bn bs B : Nat) (w : World) (e : Ending) (w' : World) : Prop :=
  e = .returned (.bool (fine zs)) ∧ w'.cell? ⟨bn, 0, none⟩ = some (.int .i64 (zs.take g).sum) ∧ w'.cell? ⟨bs, 0, none⟩ = some (.int .i64 (g : Int)) ∧ Below B w w'

theorem guards_at (bd bl bn bs bk B : Nat) (zs : List Int) (g : Nat) (hg : Lead zs g) (hns : bn ≠ bs) (hsn : bs ≠ bn) (hln : bl ≠ bn) (hls : bl ≠ bs) (hBn : B ≤ bn) (hBs : B ≤ bs) (ao : Option Addr) (len cap : Nat) (hlen : len ≤ 100)
    (deep : Int) (hdeep : 0 ≤ deep ∧ deep ≤ 255) (w : World) (hBw : B ≤ w.heap.size) (hp : Part B w ao len zs)
    (hd : w.cell? ⟨bd, 0, none⟩ = some (.func (.func 9) #[] (cap4 bd bl bn bs))) (hk : w.cell? ⟨bk, 0, none⟩ = some (.int .u8 deep))
    (hl : w.cell? ⟨bl, 0, none⟩ = some (.slice ao len cap)) (hn : w.cell? ⟨bn, 0, none⟩ = some (.int .i64 0)) (hs : w.cell? ⟨bs, 0, none⟩ = some (.int .i64 0))
    (hfn : w.frozen? ⟨bn, 0, none⟩ = false) (hfs : w.frozen? ⟨bs, 0, none⟩ = false) :
    Calls Try.prog 11 #[.func (.func 12) #[] #[.pointer (some ⟨bd, 0, none⟩), .pointer (some ⟨bk, 0, none⟩)]] w (After zs g bn bs B w) := by
  have ln := World.block_lt_of_cell? w _ hn
  have ls := World.block_lt_of_cell? w _ hs
  simp only at ln ls
  have hbel : Below B w (w.alloc (.cells #[.bool false] 4)) := (Below.refl _ _).alloc hBw _
  have HC := begins bd bl bn bs bk B zs g hg hns hsn hln hls hBn hBs ao len cap hlen deep hdeep (w.alloc (.cells #[.bool false] 4)) (hp.below hbel)
    (cell_new w _ _ hd) (cell_new w _ _ hk) (cell_new w _ _ hl) (cell_new w _ _ hn) (cell_new w _ _ hs) (by rw [frozen_new]; exact hfn) (by rw [frozen_new]; exact hfs)
  have own : ∀ w1, Moved bn bs (w.alloc (.cells #[.bool false] 4)) w1 → w1.cell? ⟨w.heap.size, 0, none⟩ = some (.bool false) ∧ w1.frozen? ⟨w.heap.size, 0, none⟩ = false := by
    intro w1 hm
    have hb := hm.block w.heap.size (by omega) (by omega)
    refine ⟨?_, ?_⟩
    · rw [World.cell?_of_block (a := ⟨w.heap.size, 0, none⟩) hb]; simp
    · rw [World.frozen?_of_block (a := ⟨w.heap.size, 0, none⟩) hb]; simp
  have fin : ∀ (v : Bool) w1, Left zs g bn bs (w.alloc (.cells #[.bool false] 4)) w1 →
      (w1.setCell ⟨w.heap.size, 0, none⟩ (.bool v)).cell? ⟨bn, 0, none⟩ = some (.int .i64 (zs.take g).sum) ∧ (w1.setCell ⟨w.heap.size, 0, none⟩ (.bool v)).cell? ⟨bs, 0, none⟩ = some (.int .i64 (g : Int)) ∧ Below B w (w1.setCell ⟨w.heap.size, 0, none⟩ (.bool v)) := by
    intro v w1 hL
    refine ⟨?_, ?_, (hbel.trans (hL.2.2.2.2.below hBn hBs)).setCell hBw _⟩
    · rw [World.cell?_setCell_other _ _ _ _ (by intro e; injection e with e; omega)]; exact hL.1
    · rw [World.cell?_setCell_other _ _ _ _ (by intro e; injection e with e; omega)]; exact hL.2.1
  have hf := lead_fine hg
  by_cases hgl : g = zs.length
  · refine (guard_ok 12 _ w (Left zs g bn bs (w.alloc (.cells #[.bool false] 4))) (enter12 bd bk) ?_).mono ?_
    · refine HC.mono ?_
      rintro e w1 ⟨hE, hL⟩
      rw [if_pos hgl] at hE
      exact ⟨own w1 hL.2.2.2.2, ⟨_, hE⟩, hL⟩
    · rintro e w' ⟨rfl, w1, hL, rfl⟩
      have h3 := fin true w1 hL
      exact ⟨by rw [hf]; simp [hgl], h3.1, h3.2.1, h3.2.2⟩
  · refine (guard_panic 12 _ w (Left zs g bn bs (w.alloc (.cells #[.bool false] 4))) (enter12 bd bk) ?_).mono ?_
    · refine HC.mono ?_
      rintro e w1 ⟨hE, hL⟩
      rw [if_neg hgl] at hE
      exact ⟨own w1 hL.2.2.2.2, hE, hL⟩
    · rintro e w' ⟨rfl, w1, hL, rfl⟩
      have h3 := fin false w1 hL
      exact ⟨by rw [hf]; simp [hgl], h3.1, h3.2.1, h3.2.2⟩
end Go.Proofs.Ytjpgginmdnbmdaa
