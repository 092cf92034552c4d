/- Slices in memory and rows of the call's own, as the statements on net need them; appends of any slice; bytes.Clone. -/
import Derived.Test.YtgbcjbbkcoaohaaRows
import Derived.WalkKit
import Derived.WalkLawsBesides
import Derived.WalkSpells
import Derived.Below
import Derived.Lib.Hide
import Derived.Lib.SliceRun
import Derived.Laws.AppendOwnNone
import Derived.Maps.AppendAt
import Derived.Deep.AppendLies
import Derived.Deep.RegionLaw
import Derived.Deep.RegionHeld3
import Derived.BigQuiet
import Derived.Deep.QuietTactic
namespace Go.Proofs.Ytgbcjbbkcoaohaa
open Go.RowKit

def encB (b : UInt8) : Value := .int .u8 (b.toNat : Int)
def encs (l : List UInt8) : List Value := l.map encB

/-- a slice's memory: `m` elements of `size` cells each, which hold `us`; where there are any it lies below block `B`. -/
structure Sl (B : Nat) (w : World) (size : Nat) (ao : Option Addr) (m : Nat) (us : List Value) : Prop where
  len : us.length = m * size
  non : ao = none → m = 0
  blk : ∀ ad, ao = some ad → 0 < us.length → ad.block < B
  cel : ∀ ad, ao = some ad → ∀ j u, us[j]? = some u → w.cell? (ad.add j) = some u

theorem addr_block (a : Addr) (j : Nat) : (a.add j).block = a.block := by unfold Addr.add; split <;> rfl
theorem add_zero' (a : Addr) : a.add 0 = a := by simp [Addr.add]
theorem add_add (a : Addr) (k j : Nat) (ha : a.spot = none) : (a.add k).add j = a.add (k + j) := by
  obtain ⟨b, off, spot⟩ := a
  simp only at ha
  subst ha
  unfold Addr.add
  by_cases hk : k = 0
  · subst hk; simp
  · by_cases hj : j = 0
    · subst hj; simp
    · simp [hk, hj, Nat.add_assoc]

theorem Sl.same {B : Nat} {w w' : World} {size : Nat} {ao : Option Addr} {m : Nat} {us : List Value} (h : Sl B w size ao m us) (hs : ∀ a : Addr, a.block < B → w'.cell? a = w.cell? a) : Sl B w' size ao m us :=
  ⟨h.len, h.non, h.blk, fun ad ha j u hu => by
    have hj : j < us.length := (List.getElem?_eq_some_iff.1 hu).1
    rw [hs _ (by rw [addr_block]; exact h.blk ad ha (by omega))]
    exact h.cel ad ha j u hu⟩
theorem Sl.below {B : Nat} {w w' : World} {size : Nat} {ao : Option Addr} {m : Nat} {us : List Value} (h : Sl B w size ao m us) (hb : Below B w w') : Sl B w' size ao m us :=
  h.same fun _ ha => hb.cell ha
theorem Sl.mono {B B' : Nat} {w : World} {size : Nat} {ao : Option Addr} {m : Nat} {us : List Value} (h : Sl B w size ao m us) (hB : B ≤ B') : Sl B' w size ao m us :=
  ⟨h.len, h.non, fun ad ha hu => Nat.lt_of_lt_of_le (h.blk ad ha hu) hB, h.cel⟩

/-- a row of the call's own is such a slice. -/
theorem sl_of_owns {base : Nat} {w : World} {e : TypeId} {size : Nat} {v : Value} {n : Nat} {us : List Value} (h : w.ownsRow base e size v n us) :
    ∃ ao c, v = .slice ao n c ∧ Sl w.heap.size w size ao n us ∧ (ao = none → c = 0) ∧ n ≤ c := by
  have hl := h.1
  rcases h.2 with ⟨rfl, h0⟩ | ⟨g, cap, cur, rfl, hb, hg, hc, hm, hs, ht⟩
  · subst h0
    refine ⟨none, 0, rfl, ⟨hl, fun _ => rfl, fun ad ha => (by cases ha), fun ad ha => (by cases ha)⟩, fun _ => rfl, Nat.le_refl _⟩
  · have hlt : g < w.heap.size := by
      rcases Nat.lt_or_ge g w.heap.size with h1 | h1
      · exact h1
      · rw [Array.getElem?_eq_none h1] at hg; cases hg
    refine ⟨some ⟨g, 0, none⟩, cap, rfl, ⟨hl, (fun ha => by cases ha), (fun ad ha _ => by injection ha with ha; subst ha; exact hlt), (fun ad ha => by injection ha with ha; subst ha; exact h.cells rfl)⟩, (fun ha => by cases ha), hc⟩

/-- 'append(v, src...)': v is the call's own row, src any slice. -/
theorem run_append_sl {w : World} {base : Nat} {t ty e : TypeId} {i : TypeInfo} {z : Value} {size bytes : Nat} (ht : Try.prog.underlying t = some (.slice e)) (hi : Try.prog.info? e = some i) (hz : i.zero = some z)
    (hsize : i.size = size) (hby : i.bytes = bytes) (hzs : z.cells.size = size) (hsz : 0 < size)
    (v : Value) (n : Nat) (xs : List Value) (hown : w.ownsRow base e size v n xs)
    {B : Nat} (ao : Option Addr) (m c : Nat) (us : List Value) (hp : Sl B w size ao m us) (hc0 : ao = none → c = 0) (h1 : ∀ u ∈ us, u.oneCell' = true)
    (h63 : n + m ≤ maxLen) (hbytes : (n + m) * bytes ≤ 140737488355328) (hbase : base ≤ w.heap.size) :
    ∃ v' w', (Builtin.append_ #[t, t] ty #[v, .slice ao m c]).run Try.prog w = .ok v' w' ∧ w'.ownsRow base e size v' (n + m) (xs ++ us) ∧ w.grownBy w' v.ownBlock ∧ (v'.ownBlock = v.ownBlock ∨ v'.ownBlock = some w.heap.size) := by
  cases ao with
  | none =>
    have hm := hp.non rfl
    have hc := hc0 rfl
    subst hm hc
    have hus : us = [] := List.length_eq_zero_iff.1 (by rw [hp.len]; simp)
    subst hus
    exact ⟨v, w, run_append_owned_none (P := Try.prog) (w := w) base t ty e i size ht hi v n _ hown, by simpa using hown, ⟨rfl, rfl, rfl, Nat.le_refl _, fun _ _ _ => rfl⟩, .inl rfl⟩
  | some ad =>
    obtain ⟨v', w', hr, h2, h3, _, h5⟩ := run_append_own_at (P := Try.prog) w base t ty e i z size bytes ht hi hz hsize hby hzs hsz v n xs hown ad m c us hp.len (hp.cel ad rfl) h1 h63 hbytes hbase
    exact ⟨v', w', hr, h2, h3, h5⟩

/-- an append whose run is known, at the operation, at a plain region's list, at a step of a region that draws. -/
theorem wp_append_run {w : World} {o : Oper} {a : Act} {K : Act → World → Prop} {Q : Exit → Act → World → Prop} (s x : Operand) (t : TypeId)
    (ho : o.op = .call { callee := .builtin .append, args := #[s, x], argTypes := #[t, t] }) (u y v' : Value) (w' : World) (hs : a.eval s = u) (hx : a.eval x = y)
    (hr : (Builtin.append_ #[t, t] o.type #[u, y]).run Try.prog w = .ok v' w') (h : K (a.put o.dst v') w') : o.wp Try.prog a w K Q := by
  unfold Oper.wp execOp
  simp only [ho, resolve, invoke, builtin, Sem.run_bind, Sem.run_pure, Result.andThen_ok, List.map_toArray, List.map_cons, List.map_nil, hs, hx, hr]
  exact h
theorem wpList_append_run {w : World} {ops : Array Oper} {rest : List Oper} {o : Oper} {a : Act} {Q : Exit → Act → World → Prop} (hgd : o.guard = none) (s x : Operand) (t : TypeId)
    (ho : o.op = .call { callee := .builtin .append, args := #[s, x], argTypes := #[t, t] }) (u y v' : Value) (w' : World) (hs : a.eval s = u) (hx : a.eval x = y)
    (hr : (Builtin.append_ #[t, t] o.type #[u, y]).run Try.prog w = .ok v' w') (h : wpList Try.prog ops Q rest (a.put o.dst v') w') : wpList Try.prog ops Q (o :: rest) a w :=
  wpList_plain hgd fun _ hK => wp_append_run s x t ho u y v' w' hs hx hr (hK _ _ h)
theorem step_append_run {w : World} {ops : Array Oper} {o : Oper} {a : Act} {K : Act → World → Prop} {Q : Exit → Act → World → Prop} {E : Prop} (hgd : o.guard = none) (s x : Operand) (t : TypeId)
    (ho : o.op = .call { callee := .builtin .append, args := #[s, x], argTypes := #[t, t] }) (u y v' : Value) (w' : World) (hs : a.eval s = u) (hx : a.eval x = y)
    (hr : (Builtin.append_ #[t, t] o.type #[u, y]).run Try.prog w = .ok v' w') (h : K (a.put o.dst v') w') :
    if Region.wanted o (yielded ops a.tmps) = true then Oper.wp Try.prog o a w K Q else E := by
  have hw : Region.wanted o (yielded ops a.tmps) = true := by simp [Region.wanted, hgd]
  rw [if_pos hw]
  exact wp_append_run s x t ho u y v' w' hs hx hr h

theorem info5 : (Try.prog.info? 5).map (fun i => (i.zero, i.size, i.bytes)) = some (some (.int .u8 0), 1, 1) := by kernel_rfl
theorem info53 : (Try.prog.info? 53).map (fun i => (i.zero, i.size, i.bytes)) = some (some (.agg #[.int .i64 0, .slice none 0 0]), 2, 32) := by kernel_rfl
theorem encs_one (l : List UInt8) : ∀ u ∈ encs l, u.oneCell' = true := by
  intro u hu
  unfold encs at hu
  rw [List.mem_map] at hu
  obtain ⟨x, _, rfl⟩ := hu
  rfl
theorem nil23 (w : World) (a : Option Addr) (n c n' c' : Nat) : (binOp .eql 23 (.slice a n c) (.slice none n' c')).run Try.prog w = .ok (.bool a.isNone) w := Lib.run_eql_slice_nil w _ _ a n c n' c' Try.underlying23

/-- what bytes.Clone hands back: nil, or a new row of its own. -/
def Cloned (w : World) (bs : List UInt8) (e : Ending) (w' : World) : Prop :=
  ∃ v, e = .returned v ∧ w'.ownsRow w.heap.size 5 1 v bs.length (encs bs) ∧ Below w.heap.size w w'
theorem clone_any {B : Nat} (ao : Option Addr) (m c : Nat) (bs : List UInt8) (w : World) (hp : Sl B w 1 ao m (encs bs)) (hc0 : ao = none → c = 0) (hm : m ≤ 1000000) (hB : B ≤ w.heap.size) :
    Calls Try.prog 20 #[.slice ao m c] w (Cloned w bs) := by
  obtain ⟨i0, hi, hz0, hz1, hz2⟩ := info_parts info5
  have hlen : bs.length = m := by have := hp.len; simpa [encs] using this
  have hn := nil23
  cases ao with
  | none =>
    have h0 := hp.non rfl
    subst h0
    have : bs = [] := List.length_eq_zero_iff.1 hlen
    subst this
    clear hp hc0 hlen hi hz0 hz1 hz2
    go_enter Try.func20, Try.ntmps20
    go_wp2
    go_ret
    exact ⟨_, rfl, World.ownsRow_nil _ _ _ _, Below.refl _ _⟩
  | some ad =>
    have hp2 : Sl B (w.alloc (.cells #[] 5)) 1 (some ad) m (encs bs) := hp.same fun a ha => World.cell?_alloc_lt w _ a (Nat.lt_of_lt_of_le ha hB)
    obtain ⟨v', w', hr, h2, h3, _⟩ := run_append_sl (w := w.alloc (.cells #[] 5)) (base := w.heap.size) (t := 23) (ty := 23) Try.underlying23 hi hz0 hz1 hz2 rfl (by decide)
      (.slice (some ⟨w.heap.size, 0, none⟩) 0 0) 0 [] (World.ownsRow_made w #[] 0 (Nat.le_refl _) (by decide) rfl) (some ad) m c (encs bs) hp2 hc0 (encs_one bs) (by unfold maxLen; omega) (by omega) (by simp)
    have H2 : Hid (w'.ownsRow w.heap.size 5 1 v' bs.length (encs bs)) := by unfold Hid; rw [hlen]; simpa using h2
    have H3 : Hid (Below w.heap.size w w') := ((Below.refl _ w).alloc (Nat.le_refl _) _).grown h3 (by simp) (by intro k hk; simp [Value.ownBlock] at hk; omega)
    have HR := Lib.hid hr
    clear hp hp2 hc0 hlen hi hz0 hz1 hz2 hr h2 h3 hB
    go_enter Try.func20, Try.ntmps20
    go_wp2_with (at_builtin; refine wpList_append_run rfl _ _ 23 rfl _ _ v' w' rfl rfl HR.out ?_)
    go_ret
    exact ⟨_, rfl, H2.out, H3.out⟩
end Go.Proofs.Ytgbcjbbkcoaohaa
