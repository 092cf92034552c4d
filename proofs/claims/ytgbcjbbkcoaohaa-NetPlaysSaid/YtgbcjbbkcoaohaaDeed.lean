/- The deeds of a play in memory, and whether there is room for them. -/
import Derived.WalkKit
import Derived.ProofKit
import Derived.OpenShut
import Derived.ShutString
import Derived.ChangeOld
import Derived.Below
import Derived.Laws.Cover2
import Derived.Deep.Slices
import Derived.Test.YtgbcjbbkcoaohaaKeep
namespace Go.Proofs.Ytgbcjbbkcoaohaa
open Go.ChangeShapes Go.WideShapes Go.ChangeAt Go.RowKit
set_option linter.unusedVariables false

structure Deed where
  op : Int
  kind : Int
  i : Int
  spot : Int
  ao : Option Addr
  m : Nat
  c : Nat
  bytes : List UInt8
  mask : UInt8
def cellsD (d : Deed) : List Value := [.int .i64 d.op, .int .i64 d.kind, .int .i64 d.i, .int .i64 d.spot, .slice d.ao d.m d.c, .int .u8 (d.mask.toNat : Int)]
def DeedOk (w : World) (d : Deed) : Prop := Sl w.heap.size w 1 d.ao d.m (encs d.bytes) ∧ (d.ao = none → d.c = 0) ∧ d.m ≤ 9223372036854775807
/-- a slice value's memory: it leads to the deeds `ds`. -/
def Deeds (w : World) (a : Option Addr) (len : Nat) (ds : List Deed) : Prop :=
  ds.length = len ∧ (∀ d ∈ ds, DeedOk w d) ∧ len ≤ 9223372036854775807 ∧ (len = 0 ∨ ∃ b off, a = some ⟨b, off, none⟩ ∧ b < w.heap.size ∧ ∀ (j : Nat) (d : Deed), ds[j]? = some d → ∀ (t : Nat) (v : Value), (cellsD d)[t]? = some v → w.cell? ⟨b, off + j * 6 + t, none⟩ = some v)
instance : Inhabited Deed := ⟨⟨0, 0, 0, 0, none, 0, 0, [], 0⟩⟩

theorem open_deed {H : Type} {enc : TypeId × Value → H} {w : World} {base : Nat} {held : Bool} {fuel : Nat} {cs : List Value} {x : DataW H × List MemPlace}
    (h : DataW.trod enc Try.prog w base (fun _ => true) held fuel 43 cs = some x) : ∃ d, cs = cellsD d ∧ DeedOk w d := by
  have c3 : Try.prog.cellsOf 3 = 1 := by kernel_rfl
  have c5 : Try.prog.cellsOf 5 = 1 := by kernel_rfl
  have c23 : Try.prog.cellsOf 23 = 1 := by kernel_rfl
  have c43 : Try.prog.cellsOf 43 = 6 := by kernel_rfl
  obtain ⟨xs, n, _, _, hl, hx, hf⟩ := DataW.trod_struct Try.underlying43 h
  rw [c43] at hl
  have hx6 : xs.length = 6 := hx
  match xs, hx6, cs, hl with
  | [y0, y1, y2, y3, y4, y5], _, [v0, v1, v2, v3, v4, v5], _ =>
    have g0 := hf 0 _ rfl
    have g1 := hf 1 _ rfl
    have g2 := hf 2 _ rfl
    have g3 := hf 3 _ rfl
    have g4 := hf 4 _ rfl
    have g5 := hf 5 _ rfl
    simp [c3, c5, c23] at g0 g1 g2 g3 g4 g5
    obtain ⟨n0, e0, _, _⟩ := DataW.trod_int Try.underlying3 g0
    obtain ⟨n1, e1, _, _⟩ := DataW.trod_int Try.underlying3 g1
    obtain ⟨n2, e2, _, _⟩ := DataW.trod_int Try.underlying3 g2
    obtain ⟨n3, e3, _, _⟩ := DataW.trod_int Try.underlying3 g3
    obtain ⟨n5, e5, _, w5⟩ := DataW.trod_int Try.underlying5 g5
    injection e0 with e0
    injection e1 with e1
    injection e2 with e2
    injection e3 with e3
    injection e5 with e5
    subst e0 e1 e2 e3 e5
    obtain ⟨k, rfl⟩ := u8_of w5
    obtain ⟨ao, m, c, bs, e4, hb, hsl, hc, hm⟩ : ∃ ao m c bs, v4 = .slice ao m c ∧ bs.length = m ∧ Sl w.heap.size w 1 ao m (encs bs) ∧ (ao = none → c = 0) ∧ m ≤ 9223372036854775807 := by
      rcases open_ints Try.underlying23 Try.underlying5 c5 g4 with ⟨hcs, _⟩ | ⟨a, l, c, zs, hcs, _, hl, hm, hz, _, hcell, hwz⟩
      · injection hcs with hcs
        obtain ⟨bs, h1, h2, h3⟩ := row_bytes (w := w) (a := none) (len := 0) (cap := 0) (zs := []) (.inl ⟨rfl, rfl, rfl, rfl⟩)
        exact ⟨none, 0, 0, bs, hcs, h1, h2, h3, by omega⟩
      · injection hcs with hcs
        obtain ⟨bs, h1, h2, h3⟩ := row_bytes (w := w) (a := some a) (len := l) (cap := c) (zs := zs) (.inr ⟨a, rfl, hl, hm, by simpa using hz, hcell, hwz⟩)
        exact ⟨some a, l, c, bs, hcs, h1, h2, h3, by unfold maxLen at hm; omega⟩
    exact ⟨⟨n0, n1, n2, n3, ao, m, c, bs, k⟩, by rw [e4]; rfl, hsl, hc, hm⟩

theorem open_deeds {H : Type} {enc : TypeId × Value → H} {w : World} {base : Nat} {held : Bool} {a : Option Addr} {len cap : Nat} {d : DataW H} {ps : List MemPlace}
    (h : DataW.Trod enc Try.prog w base (fun _ => true) held 36 (.slice a len cap) d ps) : ∃ ds, Deeds w a len ds := by
  obtain ⟨fuel, hf⟩ := h
  have c43 : Try.prog.cellsOf 43 = 6 := by kernel_rfl
  rcases Go.Deep.open_slice Try.underlying36 hf with ⟨hcs, _⟩ | ⟨x, l, c, m, n, D, Pl, hcs, _, hl, hcm, hmm, _, hall⟩
  · simp [Value.cells] at hcs
    obtain ⟨rfl, rfl, rfl⟩ := hcs
    exact ⟨[], rfl, fun _ h => (by cases h), by omega, .inl rfl⟩
  · simp [Value.cells] at hcs
    obtain ⟨rfl, rfl, rfl⟩ := hcs
    have hlm : len ≤ m := by rw [hmm]; split <;> omega
    rw [c43] at hall
    have each : ∀ i, i < len → ∃ d, w.cells? base (x.add (i * 6)) 6 = some (cellsD d) ∧ DeedOk w d := fun i hi => by
      obtain ⟨cs', h1, h2⟩ := hall i (by omega)
      obtain ⟨d, rfl, hd⟩ := open_deed h2
      exact ⟨d, h1, hd⟩
    obtain ⟨f, hfv⟩ := Go.Deep.choose_lt each
    refine ⟨(List.range len).map f, by simp, fun d hd => ?_, by unfold maxLen at hcm; omega, ?_⟩
    · obtain ⟨i, hi, rfl⟩ := List.mem_map.1 hd
      exact (hfv i (List.mem_range.1 hi)).2
    · by_cases h0 : len = 0
      · exact .inl h0
      · refine .inr ?_
        obtain ⟨b, off, spot⟩ := x
        have hcell0 := (World.cells?_some (hfv 0 (by omega)).1).2.2 0 (by omega)
        have hs : spot = none := by
          have := World.cell?_spot hcell0
          simpa [Addr.add] using this
        subst hs
        refine ⟨b, off, rfl, ?_, fun j d hj t v hv => ?_⟩
        · have := World.block_lt_of_cell? w _ hcell0
          simpa [addr_block] using this
        · obtain ⟨hj2, rfl⟩ : j < len ∧ d = f j := by
            have h1 := (List.getElem?_eq_some_iff.1 hj).1
            simp at h1
            refine ⟨h1, ?_⟩
            rw [List.getElem?_map, List.getElem?_range h1] at hj
            simpa using hj.symm
          have ht : t < 6 := (List.getElem?_eq_some_iff.1 hv).1
          have h3 := (World.cells?_some (hfv j hj2).1).2.2 t ht
          rw [add_add _ _ _ rfl] at h3
          have e : (⟨b, off, none⟩ : Addr).add (j * 6 + t) = ⟨b, off + j * 6 + t, none⟩ := by unfold Addr.add; split <;> simp_all [Nat.add_assoc]
          rw [e] at h3
          rw [h3, hv]

def RoomSaid (len : Nat) (w : World) (e : Ending) (w' : World) : Prop := ∃ b, e = .returned (.bool b) ∧ (b = true → len ≤ 100) ∧ w' = w
theorem room_any (a : Option Addr) (len cap : Nat) (ds : List Deed) (w : World) (h : Deeds w a len ds) :
    Calls Try.prog 14 #[.slice a len cap] w (RoomSaid len w) := by
  obtain ⟨hl, hok, hbig, hcase⟩ := h
  obtain ⟨b, off, ha, hc⟩ : ∃ b off, (0 < len → a = some ⟨b, off, none⟩) ∧ ∀ (j : Nat) (d : Deed), ds[j]? = some d → ∀ (t : Nat) (v : Value), (cellsD d)[t]? = some v → w.cell? ⟨b, off + j * 6 + t, none⟩ = some v := by
    rcases hcase with h0 | ⟨b, off, h1, h2, h3⟩
    · refine ⟨0, 0, fun h => (by omega), fun j d hj => ?_⟩
      have := (List.getElem?_eq_some_iff.1 hj).1
      omega
    · exact ⟨b, off, fun _ => h1, h3⟩
  have HA := Lib.hid ha
  have HC := Lib.hid hc
  have HL := Lib.hid hl
  clear ha hc hl hok hcase
  go_enter Try.func14, Try.ntmps14
  go_wp2_with fail
  go_loop [3, 4] (fun s i => ∃ (k : Nat) (x : Int), k ≤ len ∧ i = .int .i64 k ∧ s = .int .i64 x) (fun _ i => len - (intOf i).toNat)
  case atStart => exact ⟨0, 0, Nat.zero_le _, rfl, rfl⟩
  case round =>
    obtain ⟨k, x, hk, rfl, rfl⟩ := hrel
    by_cases hlt : k < len
    · obtain rfl := HA.out (by omega)
      obtain ⟨d, hd⟩ : ∃ d, ds[k]? = some d := ⟨_, List.getElem?_eq_getElem (by have := HL.out; omega)⟩
      have h4 := HC.out k d hd 4 _ rfl
      clear hd
      go_wp2_with fail
      go_round
      case rel => exact ⟨k + 1, _, by omega, by go_num, rfl⟩
      case measure => simp [intOf]; omega
    · have hge : len ≤ k := by omega
      by_cases hh : len ≤ 100
      · by_cases hx : x ≤ 20000
        · go_wp2_with fail
          go_ret
          exact ⟨_, rfl, fun _ => hh, rfl⟩
        · have hx2 : 20000 < x := by omega
          go_wp2_with fail
          go_ret
          exact ⟨_, rfl, fun _ => hh, rfl⟩
      · have hh2 : 100 < len := by omega
        go_wp2_with fail
        go_ret
        exact ⟨false, rfl, fun h => (by cases h), rfl⟩
end Go.Proofs.Ytgbcjbbkcoaohaa
