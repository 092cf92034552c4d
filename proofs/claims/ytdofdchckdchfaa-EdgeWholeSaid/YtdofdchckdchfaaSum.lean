/- Edge's Sum and the reference's SumWork, of any row of floats: what they answer, with the parts of a row and an append of one to a row of the call's own. -/
import Derived.Test.YtdofdchckdchfaaWork
import Derived.Laws.AppendOwnNone
import Derived.Deep.AppendLies
import Derived.Deep.RegionLaw
namespace Go.Proofs.Ytdofdchckdchfaa
open Go.RowKit
set_option linter.unusedVariables false

abbrev two (n : Int) (b : Bool) : Value := .tuple #[.int .i64 n, .bool b]
theorem two_eq {a b : Int} {c d : Bool} (h : a = b) (g : c = d) : Ending.returned (two a c) = .returned (two b d) := by rw [h, g]

def allF (ys : List Nat) : Bool := ys.all fun x => decide (kindOf x = 5)
def addF (ys : List Nat) : Int := (ys.map workOf).sum
/-- does such a row add up? -/
def okS (ys : List Nat) : Bool := decide (ys.length ≤ 400) && allF ys
/-- what it adds up to. -/
def sumS (ys : List Nat) : Int := if okS ys then addF ys else 0

theorem work_bound (x : Nat) : 0 ≤ workOf x ∧ workOf x ≤ 1048576 := by
  unfold workOf
  by_cases h : kindOf x = 5
  · rw [if_pos h]
    obtain ⟨n, h0, h1, _, hv⟩ := kind_fine h
    omega
  · rw [if_neg h]; omega
theorem addF_bound (ys : List Nat) : 0 ≤ addF ys ∧ addF ys ≤ (ys.length : Int) * 1048576 := by
  unfold addF
  induction ys with
  | nil => simp
  | cons x l ih =>
    have := work_bound x
    simp only [List.map_cons, List.sum_cons, List.length_cons]
    omega
theorem take_next {α : Type} (l : List α) (k : Nat) (x : α) (h : l[k]? = some x) : l.take (k + 1) = l.take k ++ [x] := by
  rw [List.take_add_one, h]; rfl
theorem allF_next {l : List Nat} {k x : Nat} (h : l[k]? = some x) : allF (l.take (k + 1)) = (allF (l.take k) && decide (kindOf x = 5)) := by
  rw [take_next l k x h]; simp [allF]
theorem addF_next {l : List Nat} {k x : Nat} (h : l[k]? = some x) : addF (l.take (k + 1)) = addF (l.take k) + workOf x := by
  rw [take_next l k x h]; simp [addF]
theorem allF_cut {l : List Nat} {k : Nat} (h : allF (l.take k) = false) : allF l = false := by
  rw [← List.take_append_drop k l]
  simp only [allF, List.all_append] at h ⊢
  rw [h]
  rfl

theorem sum_any (b off cap n : Nat) (ys : List Nat) (w : World) (hn : n = ys.length) (hm : ∀ x ∈ ys, x < 18446744073709551616) (hc : ∀ j x, ys[j]? = some x → w.cell? ⟨b, off + j, none⟩ = some (.float .f64 x)) :
    Calls Try.prog 19 #[.slice (some ⟨b, off, none⟩) n cap] w fun e w' => e = .returned (two (sumS ys) (okS ys)) ∧ w' = w := by
  have HC := Lib.hid hc
  have HM := Lib.hid hm
  have HN := Lib.hid hn
  clear hc hm hn
  by_cases hbig : 400 < n
  · have HO : Hid (okS ys = false) := by have := HN.out; show _ = _; unfold okS; rw [decide_eq_false (by omega)]; rfl
    have HS : Hid (sumS ys = 0) := by show _ = _; unfold sumS; rw [HO.out]; rfl
    go_enter Try.func19, Try.ntmps19
    go_wp2_with fail
    go_ret2
    exact ⟨two_eq HS.out.symm HO.out.symm, rfl⟩
  · go_enter Try.func19, Try.ntmps19
    go_wp2_with fail
    go_loop [4, 14] (fun s i => ∃ k : Nat, k ≤ n ∧ i = .int .i64 k ∧ s = .int .i64 (addF (ys.take k)) ∧ Hid (allF (ys.take k) = true)) (fun _ i => n - (intOf i).toNat)
    case atStart => exact ⟨0, Nat.zero_le _, rfl, by simp [addF], by simp [allF, Hid]⟩
    case round =>
      obtain ⟨k, hk, rfl, rfl, HF⟩ := hrel
      by_cases hlt : k < n
      · obtain ⟨x, hx⟩ : ∃ x, ys[k]? = some x := ⟨_, List.getElem?_eq_getElem (by have := HN.out; omega)⟩
        have hcell := HC.out k x hx
        have hw := work_any x (HM.out x (List.mem_of_getElem? hx))
        have HA := Lib.hid (allF_next hx)
        have HD := Lib.hid (addF_next hx)
        have hb1 := addF_bound (ys.take k)
        have hl : (ys.take k).length = k := by rw [List.length_take]; have := HN.out; omega
        rw [hl] at hb1
        have hb2 := work_bound x
        clear hl hx
        rw [HF.out] at HA
        by_cases h5 : kindOf x = 5
        · rw [decide_eq_true h5] at hw HA
          clear h5
          generalize addF (ys.take k) = s at *
          generalize workOf x = v at *
          go_wp2_with (first | (go_at_call 13; refine (hw _).mono ?_; rintro e w' ⟨rfl, rfl⟩) | fail)
          go_round
          case rel => exact ⟨k + 1, by omega, by go_num, by rw [HD.out], HA.out⟩
          case measure => simp [intOf]; omega
        · rw [decide_eq_false h5] at hw HA
          clear h5
          have HO : Hid (okS ys = false) := by show _ = _; unfold okS; rw [allF_cut HA.out, Bool.and_false]
          have HS : Hid (sumS ys = 0) := by show _ = _; unfold sumS; rw [HO.out]; rfl
          generalize addF (ys.take k) = s at *
          generalize workOf x = v at *
          go_wp2_with (first | (go_at_call 13; refine (hw _).mono ?_; rintro e w' ⟨rfl, rfl⟩) | fail)
          go_ret2
          exact ⟨two_eq HS.out.symm HO.out.symm, rfl⟩
      · have ek : k = ys.length := by have := HN.out; omega
        rw [ek, List.take_length] at HF
        have HO : Hid (okS ys = true) := by have := HN.out; show _ = _; unfold okS; rw [decide_eq_true (by omega), HF.out]; rfl
        have HS : Hid (sumS ys = addF (ys.take k)) := by show _ = _; unfold sumS; rw [HO.out, ek, List.take_length]; rfl
        clear ek
        go_wp2_with fail
        go_ret2
        exact ⟨two_eq HS.out.symm HO.out.symm, rfl⟩
theorem sum_empty (a : Option Addr) (cap : Nat) (w : World) : Calls Try.prog 19 #[.slice a 0 cap] w fun e w' => e = .returned (two (sumS []) (okS [])) ∧ w' = w := by
  go_enter Try.func19, Try.ntmps19
  go_wp2_with fail
  go_loop [4, 14] (fun s i => s = .int .i64 0 ∧ i = .int .i64 0) (fun _ _ => 0)
  case atStart => exact ⟨rfl, rfl⟩
  case round =>
    obtain ⟨rfl, rfl⟩ := hrel
    go_wp2_with fail
    go_ret2
    exact ⟨rfl, rfl⟩

theorem refsum_any (b off cap n : Nat) (ys : List Nat) (w : World) (hn : n = ys.length) (hm : ∀ x ∈ ys, x < 18446744073709551616) (hc : ∀ j x, ys[j]? = some x → w.cell? ⟨b, off + j, none⟩ = some (.float .f64 x)) :
    Calls Try.prog 20 #[.slice (some ⟨b, off, none⟩) n cap] w fun e w' => e = .returned (two (sumS ys) (okS ys)) ∧ w' = w := by
  have HC := Lib.hid hc
  have HM := Lib.hid hm
  have HN := Lib.hid hn
  clear hc hm hn
  by_cases hbig : 400 < n
  · have HO : Hid (okS ys = false) := by have := HN.out; show _ = _; unfold okS; rw [decide_eq_false (by omega)]; rfl
    have HS : Hid (sumS ys = 0) := by show _ = _; unfold sumS; rw [HO.out]; rfl
    go_enter Try.func20, Try.ntmps20
    go_wp2_with fail
    go_ret2
    exact ⟨two_eq HS.out.symm HO.out.symm, rfl⟩
  · go_enter Try.func20, Try.ntmps20
    go_wp2_with fail
    go_loop [4, 5] (fun s i => ∃ k : Nat, k ≤ n ∧ i = .int .i64 k ∧ s = .int .i64 (addF (ys.take k)) ∧ Hid (allF (ys.take k) = true)) (fun _ i => n - (intOf i).toNat)
    case atStart => exact ⟨0, Nat.zero_le _, rfl, by simp [addF], by simp [allF, Hid]⟩
    case round =>
      obtain ⟨k, hk, rfl, rfl, HF⟩ := hrel
      by_cases hlt : k < n
      · obtain ⟨x, hx⟩ : ∃ x, ys[k]? = some x := ⟨_, List.getElem?_eq_getElem (by have := HN.out; omega)⟩
        have hcell := HC.out k x hx
        have hw := refwork_any x (HM.out x (List.mem_of_getElem? hx))
        have HA := Lib.hid (allF_next hx)
        have HD := Lib.hid (addF_next hx)
        have hb1 := addF_bound (ys.take k)
        have hl : (ys.take k).length = k := by rw [List.length_take]; have := HN.out; omega
        rw [hl] at hb1
        have hb2 := work_bound x
        clear hl hx
        rw [HF.out] at HA
        by_cases h5 : kindOf x = 5
        · rw [decide_eq_true h5] at hw HA
          clear h5
          generalize addF (ys.take k) = s at *
          generalize workOf x = v at *
          go_wp2_with (first | (go_at_call 14; refine (hw _).mono ?_; rintro e w' ⟨rfl, rfl⟩) | fail)
          go_round
          case rel => exact ⟨k + 1, by omega, by go_num, by rw [HD.out], HA.out⟩
          case measure => simp [intOf]; omega
        · rw [decide_eq_false h5] at hw HA
          clear h5
          have HO : Hid (okS ys = false) := by show _ = _; unfold okS; rw [allF_cut HA.out, Bool.and_false]
          have HS : Hid (sumS ys = 0) := by show _ = _; unfold sumS; rw [HO.out]; rfl
          generalize addF (ys.take k) = s at *
          generalize workOf x = v at *
          go_wp2_with (first | (go_at_call 14; refine (hw _).mono ?_; rintro e w' ⟨rfl, rfl⟩) | fail)
          go_ret2
          exact ⟨two_eq HS.out.symm HO.out.symm, rfl⟩
      · have ek : k = ys.length := by have := HN.out; omega
        rw [ek, List.take_length] at HF
        have HO : Hid (okS ys = true) := by have := HN.out; show _ = _; unfold okS; rw [decide_eq_true (by omega), HF.out]; rfl
        have HS : Hid (sumS ys = addF (ys.take k)) := by show _ = _; unfold sumS; rw [HO.out, ek, List.take_length]; rfl
        clear ek
        go_wp2_with fail
        go_ret2
        exact ⟨two_eq HS.out.symm HO.out.symm, rfl⟩
theorem refsum_empty (a : Option Addr) (cap : Nat) (w : World) : Calls Try.prog 20 #[.slice a 0 cap] w fun e w' => e = .returned (two (sumS []) (okS [])) ∧ w' = w := by
  go_enter Try.func20, Try.ntmps20
  go_wp2_with fail
  go_loop [4, 5] (fun s i => s = .int .i64 0 ∧ i = .int .i64 0) (fun _ _ => 0)
  case atStart => exact ⟨rfl, rfl⟩
  case round =>
    obtain ⟨rfl, rfl⟩ := hrel
    go_wp2_with fail
    go_ret2
    exact ⟨rfl, rfl⟩
/-- a slice value's memory: it leads to the numbers `ys`, all of it below block `B`. -/
structure Part (B : Nat) (w : World) (ao : Option Addr) (m : Nat) (ys : List Nat) : Prop where
  len : ys.length = m
  non : ao = none → m = 0
  blk : ∀ ad, ao = some ad → 0 < m → ad.block < B
  cel : ∀ ad, ao = some ad → ∀ j, j < m → w.cell? (ad.add j) = some (.float .f64 (ys.getD j 0))

theorem Part.cells {B : Nat} {w : World} {ao : Option Addr} {m : Nat} {ys : List Nat} (h : Part B w ao m ys) (ad : Addr) (ha : ao = some ad) :
    ∀ j u, (ys.map (Value.float .f64))[j]? = some u → w.cell? (ad.add j) = some u := by
  intro j u hu
  rw [List.getElem?_map, Option.map_eq_some_iff] at hu
  obtain ⟨x, hx, rfl⟩ := hu
  have hj : j < ys.length := (List.getElem?_eq_some_iff.1 hx).1
  rw [h.cel ad ha j (by rw [← h.len]; exact hj)]
  simp [List.getD, hx]

theorem Part.of {B : Nat} {w : World} {ao : Option Addr} {m : Nat} {ys : List Nat} (h1 : ys.length = m) (h2 : ao = none → m = 0) (h3 : ∀ ad, ao = some ad → 0 < m → ad.block < B)
    (h4 : ∀ ad, ao = some ad → ∀ j u, (ys.map (Value.float .f64))[j]? = some u → w.cell? (ad.add j) = some u) : Part B w ao m ys :=
  ⟨h1, h2, h3, fun ad ha j hj => h4 ad ha j _ (by
    have hj' : j < ys.length := by omega
    rw [List.getElem?_map, List.getElem?_eq_getElem hj']
    simp [List.getD, List.getElem?_eq_getElem hj'])⟩

theorem Part.same {B : Nat} {w w' : World} {ao : Option Addr} {m : Nat} {ys : List Nat} (h : Part B w ao m ys) (hs : ∀ a : Addr, a.block < B → w'.cell? a = w.cell? a) : Part B w' ao m ys :=
  ⟨h.len, h.non, h.blk, fun ad ha j hj => by
    rw [hs _ (by have := h.blk ad ha (by omega); unfold Addr.add; split <;> exact this)]
    exact h.cel ad ha j hj⟩

theorem Part.below {B : Nat} {w w' : World} {ao : Option Addr} {m : Nat} {ys : List Nat} (h : Part B w ao m ys) (hb : Below B w w') : Part B w' ao m ys :=
  h.same fun _ ha => hb.cell ha

/-- Sum, of any such slice. -/
theorem sum_part {B : Nat} {w : World} {ao : Option Addr} {m : Nat} {ys : List Nat} (cap : Nat) (h : Part B w ao m ys) (hbig : ∀ x ∈ ys, x < 18446744073709551616) :
    Calls Try.prog 19 #[.slice ao m cap] w fun e w' => e = .returned (two (sumS ys) (okS ys)) ∧ w' = w := by
  obtain ⟨hl, hn, hb, hc⟩ := h
  by_cases h0 : m = 0
  · subst h0
    have : ys = [] := List.length_eq_zero_iff.1 hl
    subst this
    exact sum_empty ao cap w
  · cases ao with
    | none => exact absurd (hn rfl) h0
    | some ad =>
      obtain ⟨b, off, spot⟩ := ad
      have h1 := hc _ rfl 0 (by omega)
      have hspot : spot = none := by simpa [Addr.add] using World.cell?_spot h1
      subst hspot
      subst hl
      refine sum_any b off cap _ ys w rfl hbig fun j x hx => ?_
      have h2 := hc _ rfl j (List.getElem?_eq_some_iff.1 hx).1
      have e : (⟨b, off, none⟩ : Addr).add j = ⟨b, off + j, none⟩ := by unfold Addr.add; split <;> simp_all
      rw [e] at h2
      rw [h2]
      simp [List.getD, hx]

/-- the reference's sum, of any such slice. -/
theorem refsum_part {B : Nat} {w : World} {ao : Option Addr} {m : Nat} {ys : List Nat} (cap : Nat) (h : Part B w ao m ys) (hbig : ∀ x ∈ ys, x < 18446744073709551616) :
    Calls Try.prog 20 #[.slice ao m cap] w fun e w' => e = .returned (two (sumS ys) (okS ys)) ∧ w' = w := by
  obtain ⟨hl, hn, hb, hc⟩ := h
  by_cases h0 : m = 0
  · subst h0
    have : ys = [] := List.length_eq_zero_iff.1 hl
    subst this
    exact refsum_empty ao cap w
  · cases ao with
    | none => exact absurd (hn rfl) h0
    | some ad =>
      obtain ⟨b, off, spot⟩ := ad
      have h1 := hc _ rfl 0 (by omega)
      have hspot : spot = none := by simpa [Addr.add] using World.cell?_spot h1
      subst hspot
      subst hl
      refine refsum_any b off cap _ ys w rfl hbig fun j x hx => ?_
      have h2 := hc _ rfl j (List.getElem?_eq_some_iff.1 hx).1
      have e : (⟨b, off, none⟩ : Addr).add j = ⟨b, off + j, none⟩ := by unfold Addr.add; split <;> simp_all
      rw [e] at h2
      rw [h2]
      simp [List.getD, hx]

/-- Sum, of a row that the call itself owns. -/
theorem sum_owns {base : Nat} {w : World} {v : Value} {n : Nat} {ys : List Nat} (h : w.ownsRow base 24 1 v n (ys.map (Value.float .f64))) (hbig : ∀ x ∈ ys, x < 18446744073709551616) :
    Calls Try.prog 19 #[v] w fun e w' => e = .returned (two (sumS ys) (okS ys)) ∧ w' = w := by
  have hlen : ys.length = n := by have := h.1; simpa using this
  rcases h.2 with ⟨rfl, h0⟩ | ⟨g, cap, cur, rfl, _, _, _, _, _, _⟩
  · subst h0
    have : ys = [] := List.length_eq_zero_iff.1 hlen
    subst this
    exact sum_empty none 0 w
  · exact sum_part (B := g + 1) cap (Part.of hlen (fun hc => by cases hc) (fun ad ha _ => by injection ha with ha; subst ha; simp)
      (fun ad ha => by injection ha with ha; subst ha; exact h.cells rfl)) hbig

theorem info24 : (Try.prog.info? 24).map (fun i => (i.zero, i.size, i.bytes)) = some (some (.float .f64 0), 1, 8) := by kernel_rfl

/-- 'append(v, src...)' at a step of a region that draws its order: v is the call's own row, src any slice of numbers. -/
theorem step_append_part {B : Nat} {w : World} {ops : Array Oper} {o : Oper} {a : Act} {K : Act → World → Prop} {Q : Exit → Act → World → Prop} {E : Prop} (hgd : o.guard = none) (s x : Operand)
    (ho : o.op = .call { callee := .builtin .append, args := #[s, x], argTypes := #[35, 35] })
    (v : Value) (n : Nat) (ys : List Nat) (hs : a.eval s = v) (hown : w.ownsRow B 24 1 v n (ys.map (Value.float .f64)))
    (ao : Option Addr) (m c : Nat) (zs : List Nat) (hx : a.eval x = .slice ao m c) (hp : Part B w ao m zs) (hc0 : ao = none → c = 0)
    (hsmall : n + m ≤ 1000) (hbase : B ≤ w.heap.size)
    (h : ∀ v' w', w'.ownsRow B 24 1 v' (n + m) ((ys ++ zs).map (Value.float .f64)) → Below B w w' → B ≤ w'.heap.size → K (a.put o.dst v') w') :
    if Region.wanted o (yielded ops a.tmps) = true then Oper.wp Try.prog o a w K Q else E := by
  have hw : Region.wanted o (yielded ops a.tmps) = true := by simp [Region.wanted, hgd]
  rw [if_pos hw]
  obtain ⟨i0, hi, hz0, hz1, hz2⟩ := info_parts info24
  have hbel : ∀ w', w.grownBy w' v.ownBlock → Below B w w' := fun w' hg => (Below.refl B w).grown hg hbase fun k hk => (hown.lt k hk).1
  cases ao with
  | none =>
    have hm := hp.non rfl
    have hc := hc0 rfl
    subst hm hc
    have hzs : zs = [] := List.length_eq_zero_iff.1 hp.len
    subst hzs
    have hrun := run_append_owned_none (P := Try.prog) (w := w) B 35 o.type 24 i0 1 Try.underlying35 hi v n _ hown
    unfold Oper.wp
    simp [execOp, ho, resolve, invoke, builtin, hs, hx, hrun, Result.andThen]
    exact h v w (by simpa using hown) (Below.refl _ _) hbase
  | some ad =>
    obtain ⟨v', w', hr, h2, h3, _⟩ := run_append_own (P := Try.prog) w B 35 o.type 24 i0 (.float .f64 0) 1 8 Try.underlying35 hi hz0 hz1 hz2 rfl (by decide) v n _ hown ad m c
      (zs.map (Value.float .f64)) (by simp [hp.len]) (hp.cells ad rfl) (by intro u hu; simp at hu; obtain ⟨x, _, rfl⟩ := hu; rfl) (by unfold maxLen; omega) (by omega) hbase
    unfold Oper.wp execOp
    simp only [ho, resolve, invoke, builtin, Sem.run_bind, Sem.run_pure, Result.andThen_ok, List.map_toArray, List.map_cons, List.map_nil, hs, hx, hr]
    exact h v' w' (by rw [List.map_append]; exact h2) (hbel w' h3) (Nat.le_trans hbase h3.size)

theorem size24 (w : World) : (sizeOf (Try.prog.elem 35)).run Try.prog w = .ok 1 w := by kernel_rfl
theorem elem35 : Try.prog.underlying 35 = some (.slice (Try.prog.elem 35)) := by kernel_rfl

theorem add_zero' (a : Addr) : a.add 0 = a := by simp [Addr.add]
theorem add_add (a : Addr) (k j : Nat) (ha : a.spot = none) : (a.add k).add j = a.add (k + j) := by
  obtain ⟨b, off, spot⟩ := a
  simp only at ha
  subst ha
  unfold Addr.add
  by_cases hk : k = 0
  · subst hk; simp
  · by_cases hj : j = 0
    · subst hj; simp
    · simp [hk, hj, Nat.add_assoc]

theorem cut_low {B : Nat} {w : World} {a : Option Addr} {n cap : Nat} {ys : List Nat} (h : Part B w a n ys) (hcap : n ≤ cap) (hc0 : a = none → cap = 0) (k : Nat) (hk : k ≤ n) :
    ∃ ao c, (∀ W, (Instr.slice 35 (.slice a n cap) none (some (.int .i64 (k : Int))) none).run Try.prog W = .ok (.slice ao k c) W) ∧ Part B w ao k (ys.take k) ∧ (ao = none → c = 0) := by
  refine ⟨if cap = 0 then a else a.map (·.add (0 * 1)), cap, fun W => ?_, ?_, ?_⟩
  · rw [run_slice_h W 35 a n cap elem35 .i64 (k : Int) (by omega) (by omega), size24]
    simp [Result.andThen, sliced]
  · have e : (if cap = 0 then a else a.map (·.add (0 * 1))) = a := by
      split
      · rfl
      · cases a <;> simp [add_zero']
    rw [e]
    refine ⟨by have := h.len; simp; omega, fun ha => by have := h.non ha; omega, fun ad ha hm => h.blk ad ha (by omega), fun ad ha j hj => ?_⟩
    rw [h.cel ad ha j (by omega)]
    simp [List.getD, hj]
  · intro ha
    split at ha
    · assumption
    · cases a with
      | none => exact hc0 rfl
      | some x => simp at ha

theorem cut_high {B : Nat} {w : World} {a : Option Addr} {n cap : Nat} {ys : List Nat} (h : Part B w a n ys) (hcap : n ≤ cap) (hc0 : a = none → cap = 0) (k : Nat) (hk : k ≤ n) :
    ∃ ao c, (∀ W, (Instr.slice 35 (.slice a n cap) (some (.int .i64 (k : Int))) none none).run Try.prog W = .ok (.slice ao (n - k) c) W) ∧ Part B w ao (n - k) (ys.drop k) ∧ (ao = none → c = 0) := by
  refine ⟨if cap = k then a else a.map (·.add (k * 1)), cap - k, fun W => ?_, ?_, ?_⟩
  · rw [run_slice_l W 35 a n cap elem35 .i64 (k : Int) (by omega) (by omega), size24]
    simp [Result.andThen, sliced]
  · have hl := h.len
    by_cases hkn : k = n
    · subst hkn
      have e : ys.drop k = [] := List.drop_of_length_le (by omega)
      rw [e, Nat.sub_self]
      exact ⟨rfl, fun _ => rfl, fun ad ha hm => by omega, fun ad ha j hj => by omega⟩
    · have hck : ¬ cap = k := by omega
      rw [if_neg hck]
      cases a with
      | none => have := h.non rfl; omega
      | some x =>
        have hsp : x.spot = none := by
          have := h.cel x rfl 0 (by omega)
          rw [add_zero'] at this
          exact World.cell?_spot this
        refine ⟨by simp [hl], fun ha => by simp at ha, fun ad ha hm => ?_, fun ad ha j hj => ?_⟩
        · have hx := h.blk x rfl (by omega)
          simp at ha
          subst ha
          unfold Addr.add
          split <;> exact hx
        · simp at ha
          subst ha
          rw [add_add x k j hsp, h.cel x rfl (k + j) (by omega)]
          simp [List.getD, List.getElem?_drop]
  · intro ha
    split at ha
    · omega
    · cases a with
      | none => have := hc0 rfl; omega
      | some x => simp at ha


/-- the plain law: in any order. -/
theorem sum_turned (ys : List Nat) (k : Nat) : okS (ys.drop k ++ ys.take k) = okS ys ∧ sumS (ys.drop k ++ ys.take k) = sumS ys := by
  have e : addF (ys.drop k ++ ys.take k) = addF ys := by
    unfold addF
    rw [List.map_append, List.sum_append, Int.add_comm, ← List.sum_append, ← List.map_append, List.take_append_drop]
  have hf : okS (ys.drop k ++ ys.take k) = okS ys := by
    unfold okS allF
    rw [List.length_append, Nat.add_comm, ← List.length_append, List.take_append_drop, List.all_append, Bool.and_comm (List.all _ _), ← List.all_append, List.take_append_drop]
  exact ⟨hf, by unfold sumS; rw [hf, e]⟩
end Go.Proofs.Ytdofdchckdchfaa
