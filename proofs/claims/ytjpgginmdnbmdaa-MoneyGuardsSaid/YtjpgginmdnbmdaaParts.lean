/- Parts of a row of numbers: what a slice of it reads as, what Sum answers of it, and an append of it to a row of the call's own. -/
import Derived.Test.YtjpgginmdnbmdaaGuard
import Derived.Laws.AppendOwnNone
import Derived.Deep.AppendLies
import Derived.Deep.RegionLaw
namespace Go.Proofs.Ytjpgginmdnbmdaa
open Go.RowKit

/-- a slice value's memory: it leads to the numbers `ys`, all of it below block `B`. -/
structure Part (B : Nat) (w : World) (ao : Option Addr) (m : Nat) (ys : List Int) : Prop where
  len : ys.length = m
  non : ao = none → m = 0
  blk : ∀ ad, ao = some ad → 0 < m → ad.block < B
  cel : ∀ ad, ao = some ad → ∀ j, j < m → w.cell? (ad.add j) = some (.int .i64 (ys.getD j 0))

theorem Part.cells {B : Nat} {w : World} {ao : Option Addr} {m : Nat} {ys : List Int} (h : Part B w ao m ys) (ad : Addr) (ha : ao = some ad) :
    ∀ j u, (ys.map (Value.int .i64))[j]? = some u → w.cell? (ad.add j) = some u := by
  intro j u hu
  rw [List.getElem?_map, Option.map_eq_some_iff] at hu
  obtain ⟨x, hx, rfl⟩ := hu
  have hj : j < ys.length := (List.getElem?_eq_some_iff.1 hx).1
  rw [h.cel ad ha j (by rw [← h.len]; exact hj)]
  simp [List.getD, hx]

theorem Part.of {B : Nat} {w : World} {ao : Option Addr} {m : Nat} {ys : List Int} (h1 : ys.length = m) (h2 : ao = none → m = 0) (h3 : ∀ ad, ao = some ad → 0 < m → ad.block < B)
    (h4 : ∀ ad, ao = some ad → ∀ j u, (ys.map (Value.int .i64))[j]? = some u → w.cell? (ad.add j) = some u) : Part B w ao m ys :=
  ⟨h1, h2, h3, fun ad ha j hj => h4 ad ha j _ (by
    have hj' : j < ys.length := by omega
    rw [List.getElem?_map, List.getElem?_eq_getElem hj']
    simp [List.getD, List.getElem?_eq_getElem hj'])⟩

theorem Part.same {B : Nat} {w w' : World} {ao : Option Addr} {m : Nat} {ys : List Int} (h : Part B w ao m ys) (hs : ∀ a : Addr, a.block < B → w'.cell? a = w.cell? a) : Part B w' ao m ys :=
  ⟨h.len, h.non, h.blk, fun ad ha j hj => by
    rw [hs _ (by have := h.blk ad ha (by omega); unfold Addr.add; split <;> exact this)]
    exact h.cel ad ha j hj⟩

theorem Part.below {B : Nat} {w w' : World} {ao : Option Addr} {m : Nat} {ys : List Int} (h : Part B w ao m ys) (hb : Below B w w') : Part B w' ao m ys :=
  h.same fun _ ha => hb.cell ha

/-- Sum, of any such slice. -/
theorem sum_part {B : Nat} {w : World} {ao : Option Addr} {m : Nat} {ys : List Int} (cap : Nat) (h : Part B w ao m ys) (hbig : m ≤ 9223372036854775807) :
    Calls Try.prog 21 #[.slice ao m cap] w fun e w' => e = .returned (two (sumV ys) (fine ys)) ∧ w = w' := by
  obtain ⟨hl, hn, hb, hc⟩ := h
  by_cases h0 : m = 0
  · subst h0
    have : ys = [] := List.length_eq_zero_iff.1 hl
    subst this
    exact sum_empty ao cap w
  · cases ao with
    | none => exact absurd (hn rfl) h0
    | some ad =>
      obtain ⟨b, off, spot⟩ := ad
      have h1 := hc _ rfl 0 (by omega)
      have hspot : spot = none := by simpa [Addr.add] using World.cell?_spot h1
      subst hspot
      subst hl
      refine sum_any b off cap ys w hbig fun j hj => ?_
      have h2 := hc _ rfl j hj
      have e : (⟨b, off, none⟩ : Addr).add j = ⟨b, off + j, none⟩ := by unfold Addr.add; split <;> simp_all
      rw [e] at h2
      exact h2

/-- the reference's sum, of any such slice. -/
theorem refSum_part {B : Nat} {w : World} {ao : Option Addr} {m : Nat} {ys : List Int} (cap : Nat) (h : Part B w ao m ys) (hbig : m ≤ 9223372036854775807) :
    Calls Try.prog 13 #[.slice ao m cap] w fun e w' => e = .returned (two (sumV ys) (fine ys)) ∧ w = w' := by
  obtain ⟨hl, hn, hb, hc⟩ := h
  by_cases h0 : m = 0
  · subst h0
    have : ys = [] := List.length_eq_zero_iff.1 hl
    subst this
    exact refSum_empty ao cap w
  · cases ao with
    | none => exact absurd (hn rfl) h0
    | some ad =>
      obtain ⟨b, off, spot⟩ := ad
      have h1 := hc _ rfl 0 (by omega)
      have hspot : spot = none := by simpa [Addr.add] using World.cell?_spot h1
      subst hspot
      subst hl
      refine refSum_any b off cap ys w hbig fun j hj => ?_
      have h2 := hc _ rfl j hj
      have e : (⟨b, off, none⟩ : Addr).add j = ⟨b, off + j, none⟩ := by unfold Addr.add; split <;> simp_all
      rw [e] at h2
      exact h2

/-- Sum, of a row that the call itself owns. -/
theorem sum_owns {base : Nat} {w : World} {v : Value} {n : Nat} {ys : List Int} (h : w.ownsRow base 3 1 v n (ys.map (Value.int .i64))) (hbig : n ≤ 9223372036854775807) :
    Calls Try.prog 21 #[v] w fun e w' => e = .returned (two (sumV ys) (fine ys)) ∧ w = w' := by
  have hlen : ys.length = n := by have := h.1; simpa using this
  rcases h.2 with ⟨rfl, h0⟩ | ⟨g, cap, cur, rfl, _, _, _, _, _, _⟩
  · subst h0
    have : ys = [] := List.length_eq_zero_iff.1 hlen
    subst this
    exact sum_empty none 0 w
  · exact sum_part (B := g + 1) cap (Part.of hlen (fun hc => by cases hc) (fun ad ha _ => by injection ha with ha; subst ha; simp)
      (fun ad ha => by injection ha with ha; subst ha; exact h.cells rfl)) hbig

theorem info3 : (Try.prog.info? 3).map (fun i => (i.zero, i.size, i.bytes)) = some (some (.int .i64 0), 1, 8) := by kernel_rfl

/-- 'append(v, src...)' at a step of a region that draws its order: v is the call's own row, src any slice of numbers. -/
theorem step_append_part {B : Nat} {w : World} {ops : Array Oper} {o : Oper} {a : Act} {K : Act → World → Prop} {Q : Exit → Act → World → Prop} {E : Prop} (hgd : o.guard = none) (s x : Operand)
    (ho : o.op = .call { callee := .builtin .append, args := #[s, x], argTypes := #[22, 22] })
    (v : Value) (n : Nat) (ys : List Int) (hs : a.eval s = v) (hown : w.ownsRow B 3 1 v n (ys.map (Value.int .i64)))
    (ao : Option Addr) (m c : Nat) (zs : List Int) (hx : a.eval x = .slice ao m c) (hp : Part B w ao m zs) (hc0 : ao = none → c = 0)
    (hsmall : n + m ≤ 1000) (hbase : B ≤ w.heap.size)
    (h : ∀ v' w', w'.ownsRow B 3 1 v' (n + m) ((ys ++ zs).map (Value.int .i64)) → Below B w w' → B ≤ w'.heap.size → K (a.put o.dst v') w') :
    if Region.wanted o (yielded ops a.tmps) = true then Oper.wp Try.prog o a w K Q else E := by
  have hw : Region.wanted o (yielded ops a.tmps) = true := by simp [Region.wanted, hgd]
  rw [if_pos hw]
  obtain ⟨i0, hi, hz0, hz1, hz2⟩ := info_parts info3
  have hbel : ∀ w', w.grownBy w' v.ownBlock → Below B w w' := fun w' hg => (Below.refl B w).grown hg hbase fun k hk => (hown.lt k hk).1
  cases ao with
  | none =>
    have hm := hp.non rfl
    have hc := hc0 rfl
    subst hm hc
    have hzs : zs = [] := List.length_eq_zero_iff.1 hp.len
    subst hzs
    have hrun := run_append_owned_none (P := Try.prog) (w := w) B 22 o.type 3 i0 1 Try.underlying22 hi v n _ hown
    unfold Oper.wp
    simp [execOp, ho, resolve, invoke, builtin, hs, hx, hrun, Result.andThen]
    exact h v w (by simpa using hown) (Below.refl _ _) hbase
  | some ad =>
    obtain ⟨v', w', hr, h2, h3, _⟩ := run_append_own (P := Try.prog) w B 22 o.type 3 i0 (.int .i64 0) 1 8 Try.underlying22 hi hz0 hz1 hz2 rfl (by decide) v n _ hown ad m c
      (zs.map (Value.int .i64)) (by simp [hp.len]) (hp.cells ad rfl) (by intro u hu; simp at hu; obtain ⟨x, _, rfl⟩ := hu; rfl) (by unfold maxLen; omega) (by omega) hbase
    unfold Oper.wp execOp
    simp only [ho, resolve, invoke, builtin, Sem.run_bind, Sem.run_pure, Result.andThen_ok, List.map_toArray, List.map_cons, List.map_nil, hs, hx, hr]
    exact h v' w' (by rw [List.map_append]; exact h2) (hbel w' h3) (Nat.le_trans hbase h3.size)

theorem size3 (w : World) : (sizeOf (Try.prog.elem 22)).run Try.prog w = .ok 1 w := by kernel_rfl
theorem elem22 : Try.prog.underlying 22 = some (.slice (Try.prog.elem 22)) := by kernel_rfl

theorem add_zero' (a : Addr) : a.add 0 = a := by simp [Addr.add]
theorem add_add (a : Addr) (k j : Nat) (ha : a.spot = none) : (a.add k).add j = a.add (k + j) := by
  obtain ⟨b, off, spot⟩ := a
  simp only at ha
  subst ha
  unfold Addr.add
  by_cases hk : k = 0
  · subst hk; simp
  · by_cases hj : j = 0
    · subst hj; simp
    · simp [hk, hj, Nat.add_assoc]

theorem cut_low {B : Nat} {w : World} {a : Option Addr} {n cap : Nat} {ys : List Int} (h : Part B w a n ys) (hcap : n ≤ cap) (hc0 : a = none → cap = 0) (k : Nat) (hk : k ≤ n) :
    ∃ ao c, (∀ W, (Instr.slice 22 (.slice a n cap) none (some (.int .i64 (k : Int))) none).run Try.prog W = .ok (.slice ao k c) W) ∧ Part B w ao k (ys.take k) ∧ (ao = none → c = 0) := by
  refine ⟨if cap = 0 then a else a.map (·.add (0 * 1)), cap, fun W => ?_, ?_, ?_⟩
  · rw [run_slice_h W 22 a n cap elem22 .i64 (k : Int) (by omega) (by omega), size3]
    simp [Result.andThen, sliced]
  · have e : (if cap = 0 then a else a.map (·.add (0 * 1))) = a := by
      split
      · rfl
      · cases a <;> simp [add_zero']
    rw [e]
    refine ⟨by have := h.len; simp; omega, fun ha => by have := h.non ha; omega, fun ad ha hm => h.blk ad ha (by omega), fun ad ha j hj => ?_⟩
    rw [h.cel ad ha j (by omega)]
    simp [List.getD, hj]
  · intro ha
    split at ha
    · assumption
    · cases a with
      | none => exact hc0 rfl
      | some x => simp at ha

theorem cut_high {B : Nat} {w : World} {a : Option Addr} {n cap : Nat} {ys : List Int} (h : Part B w a n ys) (hcap : n ≤ cap) (hc0 : a = none → cap = 0) (k : Nat) (hk : k ≤ n) :
    ∃ ao c, (∀ W, (Instr.slice 22 (.slice a n cap) (some (.int .i64 (k : Int))) none none).run Try.prog W = .ok (.slice ao (n - k) c) W) ∧ Part B w ao (n - k) (ys.drop k) ∧ (ao = none → c = 0) := by
  refine ⟨if cap = k then a else a.map (·.add (k * 1)), cap - k, fun W => ?_, ?_, ?_⟩
  · rw [run_slice_l W 22 a n cap elem22 .i64 (k : Int) (by omega) (by omega), size3]
    simp [Result.andThen, sliced]
  · have hl := h.len
    by_cases hkn : k = n
    · subst hkn
      have e : ys.drop k = [] := List.drop_of_length_le (by omega)
      rw [e, Nat.sub_self]
      exact ⟨rfl, fun _ => rfl, fun ad ha hm => by omega, fun ad ha j hj => by omega⟩
    · have hck : ¬ cap = k := by omega
      rw [if_neg hck]
      cases a with
      | none => have := h.non rfl; omega
      | some x =>
        have hsp : x.spot = none := by
          have := h.cel x rfl 0 (by omega)
          rw [add_zero'] at this
          exact World.cell?_spot this
        refine ⟨by simp [hl], fun ha => by simp at ha, fun ad ha hm => ?_, fun ad ha j hj => ?_⟩
        · have hx := h.blk x rfl (by omega)
          simp at ha
          subst ha
          unfold Addr.add
          split <;> exact hx
        · simp at ha
          subst ha
          rw [add_add x k j hsp, h.cel x rfl (k + j) (by omega)]
          simp [List.getD, List.getElem?_drop]
  · intro ha
    split at ha
    · omega
    · cases a with
      | none => have := hc0 rfl; omega
      | some x => simp at ha

/-- the plain law: in any order, and in parts. -/
theorem sum_turned (ys : List Int) (k : Nat) : fine (ys.drop k ++ ys.take k) = fine ys ∧ sumV (ys.drop k ++ ys.take k) = sumV ys := by
  have e : (ys.drop k ++ ys.take k).sum = ys.sum := by
    rw [List.sum_append, Int.add_comm, ← List.sum_append, List.take_append_drop]
  have hm : ∀ x, x ∈ ys.drop k ++ ys.take k ↔ x ∈ ys := by
    intro x
    rw [List.mem_append, or_comm, ← List.mem_append, List.take_append_drop]
  have hf : fine (ys.drop k ++ ys.take k) = fine ys := by
    unfold fine
    rw [e]
    congr 1
    simp only [hm]
  exact ⟨hf, by unfold sumV; rw [hf, e]⟩
theorem sum_parts (ys : List Int) (k : Nat) (h : fine ys = true) : fine (ys.take k) = true ∧ fine (ys.drop k) = true ∧ addB (sumV (ys.take k)) (sumV (ys.drop k)) = true ∧ addV (sumV (ys.take k)) (sumV (ys.drop k)) = sumV ys := by
  have h' := h
  rw [← List.take_append_drop k ys] at h'
  obtain ⟨h1, h2⟩ := fine_pre h'
  have hs : (ys.take k).sum + (ys.drop k).sum = ys.sum := by rw [← List.sum_append, List.take_append_drop]
  rw [sumV_yes h1, sumV_yes h2, sumV_yes h]
  have hb : addB (ys.take k).sum (ys.drop k).sum = true := (both_yes (fine_sum h1) (fine_sum h2) (by rw [hs]; exact fine_sum h)).1
  exact ⟨h1, h2, hb, (add_val hb).trans hs⟩
end Go.Proofs.Ytjpgginmdnbmdaa
