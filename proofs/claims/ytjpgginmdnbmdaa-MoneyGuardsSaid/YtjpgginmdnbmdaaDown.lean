/- The laws' recursive function that adds a row deep within, with its captured variables: what it leaves done, and how it ends. -/
import Derived.Test.YtjpgginmdnbmdaaParts
import Derived.StillTailTactics
namespace Go.Proofs.Ytjpgginmdnbmdaa
open Go.RowKit

/-- only cells of two blocks have been written. -/
structure Moved (b1 b2 : Nat) (w w' : World) : Prop where
  os : w'.os = w.os
  tape : w'.tape = w.tape
  output : w'.output = w.output
  size : w'.heap.size = w.heap.size
  block : ∀ k, k ≠ b1 → k ≠ b2 → w'.heap[k]? = w.heap[k]?
theorem Moved.refl (b1 b2 : Nat) (w : World) : Moved b1 b2 w w := ⟨rfl, rfl, rfl, rfl, fun _ _ _ => rfl⟩
theorem Moved.drew {b1 b2 : Nat} {w w' : World} (h : Moved b1 b2 w w') : Moved b1 b2 w w'.drew := ⟨h.os, h.tape, h.output, h.size, h.block⟩
theorem setCell_size (w : World) (p : Addr) (v : Value) : (w.setCell p v).heap.size = w.heap.size := by simp
theorem Moved.set1 {b1 b2 : Nat} {w w' : World} (h : Moved b1 b2 w w') (v : Value) : Moved b1 b2 w (w'.setCell ⟨b1, 0, none⟩ v) :=
  ⟨h.os, h.tape, h.output, (setCell_size _ _ _).trans h.size, fun k h1 h2 => (Below.heap_setCell w' ⟨b1, 0, none⟩ v k h1).trans (h.block k h1 h2)⟩
theorem Moved.set2 {b1 b2 : Nat} {w w' : World} (h : Moved b1 b2 w w') (v : Value) : Moved b1 b2 w (w'.setCell ⟨b2, 0, none⟩ v) :=
  ⟨h.os, h.tape, h.output, (setCell_size _ _ _).trans h.size, fun k h1 h2 => (Below.heap_setCell w' ⟨b2, 0, none⟩ v k h2).trans (h.block k h1 h2)⟩
theorem Moved.cell {b1 b2 : Nat} {w w' : World} (h : Moved b1 b2 w w') (a : Addr) (h1 : a.block ≠ b1) (h2 : a.block ≠ b2) : w'.cell? a = w.cell? a :=
  World.cell?_of_block (h.block a.block h1 h2)
theorem Moved.below {b1 b2 B : Nat} {w w' : World} (h : Moved b1 b2 w w') (h1 : B ≤ b1) (h2 : B ≤ b2) : Below B w w' :=
  ⟨h.os, h.tape, h.output, Nat.le_of_eq h.size.symm, fun k hk => h.block k (by omega) (by omega)⟩

/-- how many numbers are added before it would go beyond. -/
def Lead (zs : List Int) (g : Nat) : Prop := g ≤ zs.length ∧ fine (zs.take g) = true ∧ (g < zs.length → fine (zs.take (g + 1)) = false)
theorem lead_from (zs : List Int) : ∀ (d g : Nat), zs.length - g = d → g ≤ zs.length → fine (zs.take g) = true → ∃ g, Lead zs g := by
  intro d
  induction d with
  | zero => intro g h1 h2 h3; exact ⟨g, h2, h3, fun h => by omega⟩
  | succ d ih =>
    intro g h1 h2 h3
    cases hf : fine (zs.take (g + 1))
    · exact ⟨g, h2, h3, fun _ => hf⟩
    · exact ih (g + 1) (by omega) (by omega) hf
theorem lead_exists (zs : List Int) : ∃ g, Lead zs g := lead_from zs _ 0 rfl (Nat.zero_le _) (by simp [fine_nil])
theorem lead_fine {zs : List Int} {g : Nat} (h : Lead zs g) : fine zs = decide (g = zs.length) := by
  obtain ⟨h1, h2, h3⟩ := h
  by_cases hg : g = zs.length
  · subst hg
    rw [List.take_length] at h2
    simp [h2]
  · rw [fine_cut (h3 (by omega))]
    simp [hg]
theorem fine_take_le {zs : List Int} {g k : Nat} (h : fine (zs.take g) = true) (hk : k ≤ g) : fine (zs.take k) = true := by
  have e : zs.take k = (zs.take g).take k := by rw [List.take_take, Nat.min_eq_left hk]
  rw [e]
  rw [← List.take_append_drop k (zs.take g)] at h
  exact (fine_pre h).1
theorem lead_step {zs : List Int} {g k : Nat} (h : Lead zs g) (hk : k < g) : addB (zs.take k).sum (zs.getD k 0) = true ∧ (zs.take k).sum + zs.getD k 0 = (zs.take (k + 1)).sum := by
  obtain ⟨h1, h2, h3⟩ := h
  have hl : k < zs.length := by omega
  rw [fine_step (fine_take_le h2 (by omega)), ← take_next zs k hl, sum_next zs k hl]
  exact ⟨fine_take_le h2 (by omega), rfl⟩
theorem lead_stop {zs : List Int} {g : Nat} (h : Lead zs g) (hg : g < zs.length) : addB (zs.take g).sum (zs.getD g 0) = false := by
  obtain ⟨h1, h2, h3⟩ := h
  rw [fine_step h2, ← take_next zs g hg]
  exact h3 hg

def cap4 (bd bl bn bs : Nat) : Array Value := #[.pointer (some ⟨bd, 0, none⟩), .pointer (some ⟨bl, 0, none⟩), .pointer (some ⟨bn, 0, none⟩), .pointer (some ⟨bs, 0, none⟩)]

/-- what is left done. -/
def Left (zs : List Int) (g bn bs : Nat) (w w' : World) : Prop :=
  w'.cell? ⟨bn, 0, none⟩ = some (.int .i64 (zs.take g).sum) ∧ w'.cell? ⟨bs, 0, none⟩ = some (.int .i64 (g : Int)) ∧ w'.frozen? ⟨bn, 0, none⟩ = false ∧ w'.frozen? ⟨bs, 0, none⟩ = false ∧ Moved bn bs w w'
theorem Left.drew {zs : List Int} {k bn bs : Nat} {w wr : World} (h : Left zs k bn bs w wr) : Left zs k bn bs w wr.drew :=
  ⟨h.1, h.2.1, h.2.2.1, h.2.2.2.1, h.2.2.2.2.drew⟩
theorem left_next {zs : List Int} {k bn bs : Nat} {w wr : World} (hns : bn ≠ bs) (h : Left zs k bn bs w wr) (s x : Int) (hs : s = (zs.take (k + 1)).sum) (hx : x = (k : Int) + 1) :
    Left zs (k + 1) bn bs w ((wr.drew.setCell ⟨bn, 0, none⟩ (.int .i64 s)).setCell ⟨bs, 0, none⟩ (.int .i64 x)) := by
  obtain ⟨h1, h2, h3, h4, h5⟩ := h
  subst hs hx
  have n1 : (⟨bs, 0, none⟩ : Addr) ≠ ⟨bn, 0, none⟩ := by intro e; injection e with e; exact hns e.symm
  have n2 : (⟨bn, 0, none⟩ : Addr) ≠ ⟨bs, 0, none⟩ := by intro e; injection e with e; exact hns e
  have c1 : (wr.drew.setCell ⟨bn, 0, none⟩ (.int .i64 (zs.take (k + 1)).sum)).cell? ⟨bs, 0, none⟩ = some (.int .i64 (k : Int)) := by
    rw [World.cell?_setCell_other _ _ _ _ n2]; exact h2
  refine ⟨?_, ?_, by simpa using h3, by simpa using h4, ((h5.drew).set1 _).set2 _⟩
  · rw [World.cell?_setCell_other _ _ _ _ n1]
    exact World.cell?_setCell_same _ _ _ (u := .int .i64 (zs.take k).sum) h1
  · exact World.cell?_setCell_same _ _ _ c1

def Ends (zs : List Int) (g bn bs : Nat) (w : World) (e : Ending) (w' : World) : Prop :=
  (if g = zs.length then e = .returned (.tuple #[]) else ∃ u pv, e = .panicked [{ v := .iface u pv, recovered := false }]) ∧ Left zs g bn bs w w'

theorem down_zero (bd bl bn bs B : Nat) (zs : List Int) (g : Nat) (hg : Lead zs g) (hns : bn ≠ bs) (hsn : bs ≠ bn) (hln : bl ≠ bn) (hls : bl ≠ bs) (hBn : B ≤ bn) (hBs : B ≤ bs) (ao : Option Addr) (len cap : Nat) (w : World)
    (hp : Part B w ao len zs) (hlen : len ≤ 100)
    (hl : w.cell? ⟨bl, 0, none⟩ = some (.slice ao len cap)) (hn : w.cell? ⟨bn, 0, none⟩ = some (.int .i64 0)) (hs : w.cell? ⟨bs, 0, none⟩ = some (.int .i64 0))
    (hfn : w.frozen? ⟨bn, 0, none⟩ = false) (hfs : w.frozen? ⟨bs, 0, none⟩ = false) :
    Calls Try.prog 9 #[.int .i64 0, .pointer (some ⟨bd, 0, none⟩), .pointer (some ⟨bl, 0, none⟩), .pointer (some ⟨bn, 0, none⟩), .pointer (some ⟨bs, 0, none⟩)] w (Ends zs g bn bs w) := by
  have HP := Lib.hid hp
  have HG := Lib.hid hg
  have HN := Lib.hid hn
  have HS := Lib.hid hs
  have HFN := Lib.hid hfn
  have HFS := Lib.hid hfs
  clear hp hg
  go_enter Try.func9, Try.ntmps9
  go_wp2
  have HL := Lib.hid hl
  clear hl hfn hfs hn hs
  go_loopw [6] (fun i wr => ∃ k : Nat, k ≤ g ∧ i = .int .i64 k ∧ Hid (Left zs k bn bs w wr)) (fun i _ => len - (intOf i).toNat)
  case atStart => exact ⟨0, Nat.zero_le _, rfl, ⟨by simpa using HN.out, by simpa using HS.out, HFN.out, HFS.out, Moved.refl _ _ _⟩⟩
  case round =>
    obtain ⟨k, hk, rfl, HR⟩ := hrel
    have hglen : g ≤ zs.length := HG.out.1
    have hzl : zs.length = len := HP.out.len
    have HZ := Lib.hid hzl
    have hll : g ≤ len := by omega
    have hnr := HR.out.1
    have hsr := HR.out.2.1
    have hfnr := HR.out.2.2.1
    have hfsr := HR.out.2.2.2.1
    have hlr : wr.cell? ⟨bl, 0, none⟩ = some (.slice ao len cap) := by rw [HR.out.2.2.2.2.cell _ hln hls]; exact HL.out
    clear hzl hglen
    by_cases hlt : k < len
    · have hp := HP.out
      have hcell0 := hp.cel
      cases ao with
      | none => exact absurd (hp.non rfl) (by omega)
      | some ad =>
        have hb := hp.blk ad rfl (by omega)
        have hc0 := hp.cel ad rfl 0 (by omega)
        have hc := hp.cel ad rfl k hlt
        obtain ⟨b, off, spot⟩ := ad
        have hspot : spot = none := by simpa [Addr.add] using World.cell?_spot hc0
        subst hspot
        have e : (⟨b, off, none⟩ : Addr).add k = ⟨b, off + k, none⟩ := by unfold Addr.add; split <;> simp_all
        rw [e] at hc
        have hcr : wr.cell? ⟨b, off + k, none⟩ = some (.int .i64 (zs.getD k 0)) := by
          rw [HR.out.2.2.2.2.cell _ (by show b ≠ bn; simp at hb; omega) (by show b ≠ bs; simp at hb; omega)]; exact hc
        clear hcell0 hp hc0 hc e hb
        by_cases hkg : k < g
        · obtain ⟨st1, st2⟩ := lead_step HG.out hkg
          generalize zs.getD k 0 = x at st1 st2 hcr
          generalize (zs.take k).sum = s at st1 st2 hnr
          have ST := Lib.hid st2
          clear st2
          go_wp2
          go_still_tail 5, (by kernel_rfl)
          change wpList _ _ _ _ _ wr.drew
          go_wp2_with (go_at_call 10; refine (must_yes _ _ _ st1).mono ?_; rintro e w' ⟨rfl, rfl⟩)
          go_roundw
          case rel => exact ⟨k + 1, by omega, by go_num, left_next hns HR.out _ _ ST.out rfl⟩
          case measure => simp [intOf]; omega
        · have ekg : k = g := by omega
          have st1 := lead_stop HG.out (by have := HZ.out; omega)
          rw [← ekg] at st1
          have HE : Hid (g ≠ zs.length) := by show g ≠ zs.length; have := HZ.out; omega
          have HLft : Hid (Left zs g bn bs w wr) := by rw [← ekg]; exact HR.out
          clear ekg
          generalize zs.getD k 0 = x at st1 hcr
          generalize (zs.take k).sum = s at st1 hnr
          go_wp2
          go_still_tail 5, (by kernel_rfl)
          change wpList _ _ _ _ _ wr.drew
          go_wp2_with (go_at_call 10; refine (must_no _ _ _ st1).mono ?_; rintro e w' ⟨u, pv, rfl, rfl⟩)
          exact ⟨rfl, by rw [if_neg HE.out]; exact ⟨_, _, rfl⟩, HLft.out.drew⟩
    · have ekg : k = g := by omega
      have HE : Hid (g = zs.length) := by show g = zs.length; have := HZ.out; omega
      have HLft : Hid (Left zs g bn bs w wr) := by rw [← ekg]; exact HR.out
      clear ekg
      go_wp2
      go_end0
      exact ⟨by rw [if_pos HE.out], HLft.out⟩

theorem down_any (bd bl bn bs B : Nat) (zs : List Int) (g : Nat) (hg : Lead zs g) (hns : bn ≠ bs) (hsn : bs ≠ bn) (hln : bl ≠ bn) (hls : bl ≠ bs) (hBn : B ≤ bn) (hBs : B ≤ bs) (ao : Option Addr) (len cap : Nat) (hlen : len ≤ 100) :
    ∀ (m : Nat) (w : World), m ≤ 100 → Part B w ao len zs →
    w.cell? ⟨bd, 0, none⟩ = some (.func (.func 9) #[] (cap4 bd bl bn bs)) →
    w.cell? ⟨bl, 0, none⟩ = some (.slice ao len cap) → w.cell? ⟨bn, 0, none⟩ = some (.int .i64 0) → w.cell? ⟨bs, 0, none⟩ = some (.int .i64 0) →
    w.frozen? ⟨bn, 0, none⟩ = false → w.frozen? ⟨bs, 0, none⟩ = false →
    Calls Try.prog 9 #[.int .i64 (m : Int), .pointer (some ⟨bd, 0, none⟩), .pointer (some ⟨bl, 0, none⟩), .pointer (some ⟨bn, 0, none⟩), .pointer (some ⟨bs, 0, none⟩)] w (Ends zs g bn bs w) := by
  intro m
  induction m with
  | zero =>
    intro w _ hp _ hl hn hs hfn hfs
    exact down_zero bd bl bn bs B zs g hg hns hsn hln hls hBn hBs ao len cap w hp hlen hl hn hs hfn hfs
  | succ m ih =>
    intro w hm hp hd hl hn hs hfn hfs
    have IH := Lib.hid (ih w (by omega) hp hd hl hn hs hfn hfs)
    unfold cap4 at hd
    clear ih hp hl hn hs hfn hfs
    go_enter Try.func9, Try.ntmps9
    go_wp2_with fail
    refine IH.out.mono ?_
    rintro e w' ⟨hE, hL⟩
    by_cases hgl : g = zs.length
    · rw [if_pos hgl] at hE
      subst hE
      have HE : Hid (g = zs.length) := hgl
      clear hgl
      go_wp2
      first | go_end0 | refine bodyPost_ret (results_none rfl _ _ _) rfl ?_
      exact ⟨by rw [if_pos HE.out], hL⟩
    · rw [if_neg hgl] at hE
      obtain ⟨u, pv, rfl⟩ := hE
      exact ⟨rfl, by rw [if_neg hgl]; exact ⟨_, _, rfl⟩, hL⟩

/-- the function that is handed to Guard. -/
theorem begins (bd bl bn bs bk B : Nat) (zs : List Int) (g : Nat) (hg : Lead zs g) (hns : bn ≠ bs) (hsn : bs ≠ bn) (hln : bl ≠ bn) (hls : bl ≠ bs) (hBn : B ≤ bn) (hBs : B ≤ bs) (ao : Option Addr) (len cap : Nat) (hlen : len ≤ 100)
    (deep : Int) (hdeep : 0 ≤ deep ∧ deep ≤ 255) (w : World) (hp : Part B w ao len zs)
    (hd : w.cell? ⟨bd, 0, none⟩ = some (.func (.func 9) #[] (cap4 bd bl bn bs))) (hk : w.cell? ⟨bk, 0, none⟩ = some (.int .u8 deep))
    (hl : w.cell? ⟨bl, 0, none⟩ = some (.slice ao len cap)) (hn : w.cell? ⟨bn, 0, none⟩ = some (.int .i64 0)) (hs : w.cell? ⟨bs, 0, none⟩ = some (.int .i64 0))
    (hfn : w.frozen? ⟨bn, 0, none⟩ = false) (hfs : w.frozen? ⟨bs, 0, none⟩ = false) :
    Calls Try.prog 12 #[.pointer (some ⟨bd, 0, none⟩), .pointer (some ⟨bk, 0, none⟩)] w (Ends zs g bn bs w) := by
  obtain ⟨m, hm⟩ := Int.eq_ofNat_of_zero_le (show 0 ≤ deep % 20 by omega)
  have hm' : m ≤ 100 := by omega
  have HC := Lib.hid (down_any bd bl bn bs B zs g hg hns hsn hln hls hBn hBs ao len cap hlen m w hm' hp hd hl hn hs hfn hfs)
  unfold cap4 at hd
  clear hp hl hn hs hfn hfs hg
  go_enter Try.func12, Try.ntmps12
  go_wp2_with fail
  refine HC.out.mono ?_
  rintro e w' ⟨hE, hL⟩
  by_cases hgl : g = zs.length
  · rw [if_pos hgl] at hE
    subst hE
    have HE : Hid (g = zs.length) := hgl
    clear hgl
    go_wp2
    first | go_end0 | refine bodyPost_ret (results_none rfl _ _ _) rfl ?_
    exact ⟨by rw [if_pos HE.out], hL⟩
  · rw [if_neg hgl] at hE
    obtain ⟨u, pv, rfl⟩ := hE
    exact ⟨rfl, by rw [if_neg hgl]; exact ⟨_, _, rfl⟩, hL⟩
end Go.Proofs.Ytjpgginmdnbmdaa
