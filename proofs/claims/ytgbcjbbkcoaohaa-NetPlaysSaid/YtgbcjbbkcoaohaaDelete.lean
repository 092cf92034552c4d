/- slices.Delete of one message: what it leaves in the queue's row. -/
import Derived.Test.YtgbcjbbkcoaohaaSend
namespace Go.Proofs.Ytgbcjbbkcoaohaa
open Go.RowKit
set_option linter.unusedVariables false

theorem size48 (w : World) : (sizeOf (Try.prog.elem 48)).run Try.prog w = .ok 2 w := by kernel_rfl
theorem elem48 : Try.prog.underlying 48 = some (.slice (Try.prog.elem 48)) := by kernel_rfl
theorem zero53 (w : World) : (zeroValue 53).run Try.prog w = .ok (.agg #[.int .i64 0, .slice none 0 0]) w := by kernel_rfl

def zz : List Value := [.int .i64 0, .slice none 0 0]
theorem zz_cells : (Builtin.zeroCells (Value.agg #[.int .i64 0, .slice none 0 0]).cells 1).toList = zz := by kernel_rfl
theorem run_clear_row (w : World) (g k c : Nat) (cur : Array Value) (ty : TypeId) (hg : w.heap[g]? = some (.cells cur 53 (0, 0))) (hk : k * 2 + 2 ≤ cur.size) :
    (Builtin.clear_ #[48] ty #[.slice (some ⟨g, k * 2, none⟩) 1 c]).run Try.prog w =
      .ok (.tuple #[]) (w.setRow g (cur.toList.take (k * 2) ++ zz ++ cur.toList.drop (k * 2 + 2)).toArray) := by
  have h := run_storeCells_at Try.prog g (k * 2) 53 zz 0 cur w hg (by simpa [zz] using hk) (by intro u hu; simp [zz] at hu; rcases hu with rfl | rfl <;> rfl)
  have hz : zz.length = 2 := rfl
  rw [hz] at h
  simp only [Nat.add_zero] at h
  simp [Builtin.clear_, run_underlying Try.underlying48, Result.andThen, zz_cells, h]

/-- the row behind a clearing of what stands past its end. -/
theorem owns_clear {w : World} {base g r cap : Nat} {xs : List Value} (h : w.ownsRow base 53 2 (.slice (some ⟨g, 0, none⟩) r cap) r xs) (hr : r + 1 ≤ cap) (ty : TypeId) (c : Nat) :
    ∃ w', (Builtin.clear_ #[48] ty #[.slice (some ⟨g, r * 2, none⟩) 1 c]).run Try.prog w = .ok (.tuple #[]) w' ∧ w'.ownsRow base 53 2 (.slice (some ⟨g, 0, none⟩) r cap) r xs ∧ w.grownBy w' (some g) := by
  rcases h.2 with ⟨h', _⟩ | ⟨g', cap', cur, h', hbg, hg, hnc, hcm, hcs, htake⟩
  · simp at h'
  · simp only [Value.slice.injEq, Option.some.injEq, Addr.mk.injEq, and_true, true_and] at h'
    obtain ⟨rfl, rfl⟩ := h'
    refine ⟨_, run_clear_row w g r c cur ty hg (by omega), ⟨h.1, .inr ⟨g, cap, _, rfl, hbg, setRow_heap w g cur _ 53 _ hg, hnc, hcm, ?_, ?_⟩⟩, ⟨rfl, rfl, rfl, by simp, fun k _ hk => setRow_other w g k _ (fun e => hk (by simp [e]))⟩⟩
    · simp only [List.size_toArray, List.length_append, List.length_take, List.length_drop, Array.length_toList, show zz.length = 2 from rfl]
      omega
    · rw [List.append_assoc, List.take_append_of_le_length (by simp; omega), List.take_take, Nat.min_self]
      exact htake

theorem owns_prefix {w : World} {base g n cap : Nat} {xs : List Value} (h : w.ownsRow base 53 2 (.slice (some ⟨g, 0, none⟩) n cap) n xs) (i : Nat) (hi : i ≤ n) : w.ownsRow base 53 2 (.slice (some ⟨g, 0, none⟩) i cap) i (xs.take (i * 2)) := by
  rcases h.2 with ⟨h', _⟩ | ⟨g', cap', cur, h', hbg, hg, hnc, hcm, hcs, htake⟩
  · simp at h'
  · simp only [Value.slice.injEq, Option.some.injEq, Addr.mk.injEq, and_true, true_and] at h'
    obtain ⟨rfl, rfl⟩ := h'
    refine ⟨by have := h.1; simp; omega, .inr ⟨g, cap, cur, rfl, hbg, hg, by omega, hcm, hcs, ?_⟩⟩
    rw [← htake, List.take_take, Nat.min_eq_left (by omega)]

/-- what Delete hands back: the row without its i-th message. -/
def Deleted (w : World) (base g r cap : Nat) (xs : List Value) (i : Nat) (e : Ending) (w' : World) : Prop :=
  e = .returned (.slice (some ⟨g, 0, none⟩) r cap) ∧ w'.ownsRow base 53 2 (.slice (some ⟨g, 0, none⟩) r cap) r (xs.take (i * 2) ++ xs.drop ((i + 1) * 2)) ∧ w.grownBy w' (some g)

theorem delete_any {w : World} {base g n cap r : Nat} {xs : List Value} (h : w.ownsRow base 53 2 (.slice (some ⟨g, 0, none⟩) n cap) n xs) (i : Nat) (hin : i < n) (hr : r + 1 = n) (hn : n ≤ 1000) (h1 : ∀ u ∈ xs, u.oneCell' = true) :
    Calls Try.prog 22 #[.slice (some ⟨g, 0, none⟩) n cap, .int .i64 (i : Int), .int .i64 ((i : Int) + 1)] w (Deleted w base g r cap xs i) := by
  obtain ⟨i0, hi, hz0, hz1, hz2⟩ := info_parts info53
  have hnc : n ≤ cap := by
    rcases h.2 with ⟨h', _⟩ | ⟨g', cap', cur, h', hbg, hg, hnc, hcm, hcs, htake⟩
    · simp at h'
    · simp only [Value.slice.injEq, Option.some.injEq, Addr.mk.injEq, and_true, true_and] at h'
      obtain ⟨rfl, rfl⟩ := h'
      exact hnc
  obtain ⟨X, hs1⟩ : ∃ X, ∀ W, (Instr.slice 48 (.slice (some ⟨g, 0, none⟩) n cap) (some (.int .i64 (i : Int))) (some (.int .i64 ((i : Int) + 1))) (some (.int .i64 (n : Int)))).run Try.prog W = .ok X W := by
    refine ⟨sliced (some ⟨g, 0, none⟩) ((i : Int)).toNat ((i : Int) + 1).toNat ((n : Int)).toNat 2, fun W => ?_⟩
    rw [run_slice_lhm W 48 _ n cap elem48 .i64 .i64 .i64 (i : Int) ((i : Int) + 1) (n : Int) (by omega) (by omega) (by omega) (by omega), size48]
    rfl
  have hs2 : ∀ W, (Instr.slice 48 (.slice (some ⟨g, 0, none⟩) n cap) none (some (.int .i64 (i : Int))) none).run Try.prog W = .ok (.slice (some ⟨g, 0, none⟩) i cap) W := by
    intro W
    rw [run_slice_h W 48 _ n cap elem48 .i64 (i : Int) (by omega) (by omega), size48]
    have : ¬ cap = 0 := by omega
    simp [Result.andThen, sliced, add_zero']
  obtain ⟨m, hm⟩ : ∃ m, i + 1 + m = n := ⟨n - (i + 1), by omega⟩
  obtain ⟨c3, o3, hs3, hsrc⟩ : ∃ c3 o3, (∀ W, (Instr.slice 48 (.slice (some ⟨g, 0, none⟩) n cap) (some (.int .i64 ((i : Int) + 1))) none none).run Try.prog W = .ok (.slice (some ⟨g, o3, none⟩) m c3) W) ∧
      (∀ j u, (xs.drop ((i + 1) * 2))[j]? = some u → w.cell? ((⟨g, o3, none⟩ : Addr).add j) = some u) := by
    refine ⟨cap - (i + 1), if cap = i + 1 then 0 else (i + 1) * 2, fun W => ?_, fun j u hu => ?_⟩
    · rw [run_slice_l W 48 _ n cap elem48 .i64 ((i : Int) + 1) (by omega) (by omega), size48]
      have e1 : ((i : Int) + 1).toNat = i + 1 := by omega
      have e2 : n - (i + 1) = m := by omega
      simp only [Result.andThen, sliced, e1, e2]
      split
      · rfl
      · have : (⟨g, 0, none⟩ : Addr).add ((i + 1) * 2) = ⟨g, (i + 1) * 2, none⟩ := by unfold Addr.add; split <;> simp_all
        simp [this]
    · have hj : j < (xs.drop ((i + 1) * 2)).length := (List.getElem?_eq_some_iff.1 hu).1
      have hl := h.1
      rw [List.length_drop] at hj
      have hne : ¬ cap = i + 1 := by omega
      rw [if_neg hne]
      have e : (⟨g, (i + 1) * 2, none⟩ : Addr).add j = ⟨g, (i + 1) * 2 + j, none⟩ := by unfold Addr.add; split <;> simp_all
      rw [e, h.cellAt ((i + 1) * 2 + j) (by omega), ← hu, List.getElem?_drop]
  have hs4 : ∀ W, (Instr.slice 48 (.slice (some ⟨g, 0, none⟩) r cap) (some (.int .i64 (r : Int))) (some (.int .i64 (n : Int))) none).run Try.prog W = .ok (.slice (some ⟨g, r * 2, none⟩) 1 (cap - r)) W := by
    intro W
    rw [run_slice_lh W 48 _ r cap elem48 .i64 .i64 (r : Int) (n : Int) (by omega) (by omega) (by omega), size48]
    have e1 : n - r = 1 := by omega
    have e2 : ¬ cap = r := by omega
    have : (⟨g, 0, none⟩ : Addr).add (r * 2) = ⟨g, r * 2, none⟩ := by unfold Addr.add; split <;> simp_all
    simp [Result.andThen, sliced, e1, e2, this]
  have heq : ((i : Int) == (i : Int) + 1) = false := by simp; omega
  have hdl : (xs.drop ((i + 1) * 2)).length = m * 2 := by have := h.1; rw [List.length_drop]; omega
  have hone : ∀ u ∈ xs.drop ((i + 1) * 2), u.oneCell' = true := fun u hu => h1 u (List.mem_of_mem_drop hu)
  obtain ⟨W1, hr1, hown1, hg1⟩ := run_append_fits (P := Try.prog) w.drew base 48 48 53 i0 2 Try.underlying48 hi hz1 g i cap (xs.take (i * 2)) ((owns_prefix h i (by omega)).drew) ⟨g, o3, none⟩ m c3 (xs.drop ((i + 1) * 2)) hdl hsrc hone (by omega)
  have him : i + m = r := by omega
  rw [him] at hr1 hown1
  obtain ⟨W2, hr2, hown2, hg2⟩ := owns_clear hown1 (by omega) 0 (cap - r)
  have HR1 := Lib.hid hr1
  have HR2 : ∀ ty, (Builtin.clear_ #[48] ty #[.slice (some ⟨g, r * 2, none⟩) 1 (cap - r)]).run Try.prog W1 = .ok (.tuple #[]) W2 := fun ty => hr2
  have HO := Lib.hid hown2
  have HG : Hid (w.grownBy W2 (some g)) := ⟨hg2.os.trans hg1.os, hg2.tape.trans hg1.tape, hg2.output.trans hg1.output, Nat.le_trans hg1.size hg2.size, fun k hk hne => (hg2.block k (Nat.lt_of_lt_of_le hk hg1.size) hne).trans (hg1.block k hk hne)⟩
  clear h h1 hin hr him hm hdl hone hr1 hown1 hg1 hr2 hown2 hg2 hsrc hi hz0 hz1 hz2
  go_enter Try.func22, Try.ntmps22
  go_wp2
  go_region_law (first
    | (refine step_append_run rfl (.tmp 22) (.tmp 25) 48 rfl (.slice (some ⟨g, 0, none⟩) i cap) (.slice (some ⟨g, o3, none⟩) m c3) (.slice (some ⟨g, 0, none⟩) r cap) W1 (by simp [Act.eval, Act.put]) (by simp [Act.eval, Act.put]) HR1.out ?_)
    | fail)
  go_wp2
  go_ret
  exact ⟨rfl, HO.out, HG.out⟩
end Go.Proofs.Ytgbcjbbkcoaohaa
