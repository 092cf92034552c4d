/- Contracts of package money and of the reference's sums: what May, Add, Sub, Sum, Must and Guard answer; no memory that was there is touched. -/
import Derived.Test.YtjpgginmdnbmdaaRows
import Derived.WalkKit
import Derived.WalkLawsBesides
import Derived.WalkSpells
import Derived.Below
import Derived.Defers
import Derived.Recover
import Derived.Lib.Hide
namespace Go.Proofs.Ytjpgginmdnbmdaa
open Go.RowKit

/-- the most money. -/
def mayB (n : Int) : Bool := decide (0 ≤ n ∧ n ≤ 1125899906842624)
theorem may_yes {n : Int} (h : mayB n = true) : 0 ≤ n ∧ n ≤ 1125899906842624 := of_decide_eq_true h
theorem may_no {n : Int} (h : mayB n = false) : n < 0 ∨ 1125899906842624 < n := by
  have := of_decide_eq_false h
  omega
theorem may_mk {n : Int} (h : 0 ≤ n ∧ n ≤ 1125899906842624) : mayB n = true := decide_eq_true h
theorem may_mkno {n : Int} (h : n < 0 ∨ 1125899906842624 < n) : mayB n = false := decide_eq_false (by omega)
def bothB (a b n : Int) : Bool := mayB a && mayB b && mayB n
def bothV (a b n : Int) : Int := if bothB a b n = true then n else 0
def addB (a b : Int) : Bool := bothB a b (a + b)
def addV (a b : Int) : Int := bothV a b (a + b)
def subB (a b : Int) : Bool := bothB a b (a - b)
def subV (a b : Int) : Int := bothV a b (a - b)
/-- two results, a number and a bool. -/
abbrev two (n : Int) (b : Bool) : Value := .tuple #[.int .i64 n, .bool b]
theorem two_eq {n m : Int} {b c : Bool} (h : n = m) (k : b = c) : Ending.returned (.tuple #[.int .i64 n, .bool b]) = .returned (two m c) := by rw [h, k]
theorem both_yes {a b n : Int} (ha : mayB a = true) (hb : mayB b = true) (hn : mayB n = true) : bothB a b n = true ∧ bothV a b n = n := by
  have : bothB a b n = true := by simp [bothB, ha, hb, hn]
  exact ⟨this, by simp [bothV, this]⟩
theorem both_no {a b n : Int} (h : mayB a = false ∨ mayB b = false ∨ mayB n = false) : bothB a b n = false ∧ bothV a b n = 0 := by
  have : bothB a b n = false := by rcases h with h | h | h <;> simp [bothB, h]
  exact ⟨this, by simp [bothV, this]⟩

theorem may_any (n : Int) (w : World) :
    Calls Try.prog 19 #[.int .i64 n] w fun e w' => e = .returned (.bool (mayB n)) ∧ w = w' := by
  by_cases h0 : 0 ≤ n
  · by_cases h1 : n ≤ 1125899906842624
    · have hb : Hid (mayB n = true) := may_mk ⟨h0, h1⟩
      go_enter Try.func19, Try.ntmps19
      go_wp2
      go_ret
      exact ⟨by rw [hb.out]; rfl, rfl⟩
    · have hb : Hid (mayB n = false) := may_mkno (by omega)
      go_enter Try.func19, Try.ntmps19
      go_wp2
      go_ret
      exact ⟨by rw [hb.out]; rfl, rfl⟩
  · have hb : Hid (mayB n = false) := may_mkno (by omega)
    go_enter Try.func19, Try.ntmps19
    go_wp2
    go_ret
    exact ⟨by rw [hb.out]; rfl, rfl⟩

theorem refMay_any (n : Int) (w : World) :
    Calls Try.prog 20 #[.int .i64 n] w fun e w' => e = .returned (.bool (mayB n)) ∧ w = w' := by
  by_cases h0 : 0 ≤ n
  · by_cases h1 : n ≤ 1125899906842624
    · have hb : Hid (mayB n = true) := may_mk ⟨h0, h1⟩
      go_enter Try.func20, Try.ntmps20
      go_wp2
      go_ret
      exact ⟨by rw [hb.out]; rfl, rfl⟩
    · have hb : Hid (mayB n = false) := may_mkno (by omega)
      go_enter Try.func20, Try.ntmps20
      go_wp2
      go_ret
      exact ⟨by rw [hb.out]; rfl, rfl⟩
  · have hb : Hid (mayB n = false) := may_mkno (by omega)
    go_enter Try.func20, Try.ntmps20
    go_wp2
    go_ret
    exact ⟨by rw [hb.out]; rfl, rfl⟩

theorem both_any (a b n : Int) (w : World) :
    Calls Try.prog 25 #[.int .i64 a, .int .i64 b, .int .i64 n] w fun e w' => e = .returned (two (bothV a b n) (bothB a b n)) ∧ w = w' := by
  cases ha : mayB a
  · have H := Lib.hid (both_no (a := a) (b := b) (n := n) (.inl ha))
    go_enter Try.func25, Try.ntmps25
    go_wp2_with (go_at_call 19; refine (may_any _ _).mono ?_; rintro e w' ⟨rfl, rfl⟩)
    go_ret2
    exact ⟨two_eq H.out.2.symm H.out.1.symm, rfl⟩
  · cases hb : mayB b
    · have H := Lib.hid (both_no (a := a) (b := b) (n := n) (.inr (.inl hb)))
      go_enter Try.func25, Try.ntmps25
      go_wp2_with (go_at_call 19; refine (may_any _ _).mono ?_; rintro e w' ⟨rfl, rfl⟩)
      go_ret2
      exact ⟨two_eq H.out.2.symm H.out.1.symm, rfl⟩
    · cases hn : mayB n
      · have H := Lib.hid (both_no (a := a) (b := b) (n := n) (.inr (.inr hn)))
        go_enter Try.func25, Try.ntmps25
        go_wp2_with (go_at_call 19; refine (may_any _ _).mono ?_; rintro e w' ⟨rfl, rfl⟩)
        go_ret2
        exact ⟨two_eq H.out.2.symm H.out.1.symm, rfl⟩
      · have H := Lib.hid (both_yes ha hb hn)
        go_enter Try.func25, Try.ntmps25
        go_wp2_with (go_at_call 19; refine (may_any _ _).mono ?_; rintro e w' ⟨rfl, rfl⟩)
        go_ret2
        exact ⟨two_eq H.out.2.symm H.out.1.symm, rfl⟩


theorem add_any (a b : Int) (w : World) :
    Calls Try.prog 16 #[.int .i64 a, .int .i64 b] w fun e w' => e = .returned (two (addV a b) (addB a b)) ∧ w = w' := by
  cases ha : mayB a
  · have H := both_no (a := a) (b := b) (n := a + b) (.inl ha)
    have K := both_no (a := a) (b := b) (n := wrap64 (a + b)) (.inl ha)
    have HV := Lib.hid (K.2.trans H.2.symm)
    have HB := Lib.hid (K.1.trans H.1.symm)
    clear H K
    go_enter Try.func16, Try.ntmps16
    go_wp2_with (go_at_call 25; refine (both_any _ _ _ _).mono ?_; rintro e w' ⟨rfl, rfl⟩)
    go_ret2
    exact ⟨two_eq HV.out HB.out, rfl⟩
  · cases hb : mayB b
    · have H := both_no (a := a) (b := b) (n := a + b) (.inr (.inl hb))
      have K := both_no (a := a) (b := b) (n := wrap64 (a + b)) (.inr (.inl hb))
      have HV := Lib.hid (K.2.trans H.2.symm)
      have HB := Lib.hid (K.1.trans H.1.symm)
      clear H K
      go_enter Try.func16, Try.ntmps16
      go_wp2_with (go_at_call 25; refine (both_any _ _ _ _).mono ?_; rintro e w' ⟨rfl, rfl⟩)
      go_ret2
      exact ⟨two_eq HV.out HB.out, rfl⟩
    · have ha' := may_yes ha
      have hb' := may_yes hb
      clear ha hb
      go_enter Try.func16, Try.ntmps16
      go_wp2_with (go_at_call 25; refine (both_any _ _ _ _).mono ?_; rintro e w' ⟨rfl, rfl⟩)
      go_ret2
      exact ⟨rfl, rfl⟩

theorem sub_any (a b : Int) (w : World) :
    Calls Try.prog 17 #[.int .i64 a, .int .i64 b] w fun e w' => e = .returned (two (subV a b) (subB a b)) ∧ w = w' := by
  cases ha : mayB a
  · have H := both_no (a := a) (b := b) (n := a - b) (.inl ha)
    have K := both_no (a := a) (b := b) (n := wrap64 (a - b)) (.inl ha)
    have HV := Lib.hid (K.2.trans H.2.symm)
    have HB := Lib.hid (K.1.trans H.1.symm)
    clear H K
    go_enter Try.func17, Try.ntmps17
    go_wp2_with (go_at_call 25; refine (both_any _ _ _ _).mono ?_; rintro e w' ⟨rfl, rfl⟩)
    go_ret2
    exact ⟨two_eq HV.out HB.out, rfl⟩
  · cases hb : mayB b
    · have H := both_no (a := a) (b := b) (n := a - b) (.inr (.inl hb))
      have K := both_no (a := a) (b := b) (n := wrap64 (a - b)) (.inr (.inl hb))
      have HV := Lib.hid (K.2.trans H.2.symm)
      have HB := Lib.hid (K.1.trans H.1.symm)
      clear H K
      go_enter Try.func17, Try.ntmps17
      go_wp2_with (go_at_call 25; refine (both_any _ _ _ _).mono ?_; rintro e w' ⟨rfl, rfl⟩)
      go_ret2
      exact ⟨two_eq HV.out HB.out, rfl⟩
    · have ha' := may_yes ha
      have hb' := may_yes hb
      clear ha hb
      go_enter Try.func17, Try.ntmps17
      go_wp2_with (go_at_call 25; refine (both_any _ _ _ _).mono ?_; rintro e w' ⟨rfl, rfl⟩)
      go_ret2
      exact ⟨rfl, rfl⟩

theorem refAdd_any (a b : Int) (w : World) :
    Calls Try.prog 14 #[.int .i64 a, .int .i64 b] w fun e w' => e = .returned (two (addV a b) (addB a b)) ∧ w = w' := by
  cases ha : mayB a
  · have H := Lib.hid (both_no (a := a) (b := b) (n := a + b) (.inl ha))
    go_enter Try.func14, Try.ntmps14
    go_wp2_with (go_at_call 20; refine (refMay_any _ _).mono ?_; rintro e w' ⟨rfl, rfl⟩)
    go_ret2
    exact ⟨two_eq H.out.2.symm H.out.1.symm, rfl⟩
  · cases hb : mayB b
    · have H := Lib.hid (both_no (a := a) (b := b) (n := a + b) (.inr (.inl hb)))
      go_enter Try.func14, Try.ntmps14
      go_wp2_with (go_at_call 20; refine (refMay_any _ _).mono ?_; rintro e w' ⟨rfl, rfl⟩)
      go_ret2
      exact ⟨two_eq H.out.2.symm H.out.1.symm, rfl⟩
    · have ha' := may_yes ha
      have hb' := may_yes hb
      by_cases hn : 1125899906842624 - b < a
      · have H := Lib.hid (both_no (a := a) (b := b) (n := a + b) (.inr (.inr (may_mkno (by omega)))))
        go_enter Try.func14, Try.ntmps14
        go_wp2_with (go_at_call 20; refine (refMay_any _ _).mono ?_; rintro e w' ⟨rfl, rfl⟩)
        go_ret2
        exact ⟨two_eq H.out.2.symm H.out.1.symm, rfl⟩
      · have H := Lib.hid (both_yes ha hb (n := a + b) (may_mk (by omega)))
        go_enter Try.func14, Try.ntmps14
        go_wp2_with (go_at_call 20; refine (refMay_any _ _).mono ?_; rintro e w' ⟨rfl, rfl⟩)
        go_ret2
        exact ⟨two_eq H.out.2.symm H.out.1.symm, rfl⟩

theorem refSub_any (a b : Int) (w : World) :
    Calls Try.prog 18 #[.int .i64 a, .int .i64 b] w fun e w' => e = .returned (two (subV a b) (subB a b)) ∧ w = w' := by
  cases ha : mayB a
  · have H := Lib.hid (both_no (a := a) (b := b) (n := a - b) (.inl ha))
    go_enter Try.func18, Try.ntmps18
    go_wp2_with (go_at_call 20; refine (refMay_any _ _).mono ?_; rintro e w' ⟨rfl, rfl⟩)
    go_ret2
    exact ⟨two_eq H.out.2.symm H.out.1.symm, rfl⟩
  · cases hb : mayB b
    · have H := Lib.hid (both_no (a := a) (b := b) (n := a - b) (.inr (.inl hb)))
      go_enter Try.func18, Try.ntmps18
      go_wp2_with (go_at_call 20; refine (refMay_any _ _).mono ?_; rintro e w' ⟨rfl, rfl⟩)
      go_ret2
      exact ⟨two_eq H.out.2.symm H.out.1.symm, rfl⟩
    · have ha' := may_yes ha
      have hb' := may_yes hb
      by_cases hn : a < b
      · have H := Lib.hid (both_no (a := a) (b := b) (n := a - b) (.inr (.inr (may_mkno (by omega)))))
        go_enter Try.func18, Try.ntmps18
        go_wp2_with (go_at_call 20; refine (refMay_any _ _).mono ?_; rintro e w' ⟨rfl, rfl⟩)
        go_ret2
        exact ⟨two_eq H.out.2.symm H.out.1.symm, rfl⟩
      · have H := Lib.hid (both_yes ha hb (n := a - b) (may_mk (by omega)))
        go_enter Try.func18, Try.ntmps18
        go_wp2_with (go_at_call 20; refine (refMay_any _ _).mono ?_; rintro e w' ⟨rfl, rfl⟩)
        go_ret2
        exact ⟨two_eq H.out.2.symm H.out.1.symm, rfl⟩

/-! rows of numbers -/
/-- no number below nought, and not too much together. -/
def fine (l : List Int) : Bool := decide ((∀ x ∈ l, 0 ≤ x) ∧ l.sum ≤ 1125899906842624)
def sumV (l : List Int) : Int := if fine l = true then l.sum else 0
theorem fine_of {l : List Int} (h : fine l = true) : (∀ x ∈ l, 0 ≤ x) ∧ l.sum ≤ 1125899906842624 := of_decide_eq_true h
theorem fine_mk {l : List Int} (h : (∀ x ∈ l, 0 ≤ x) ∧ l.sum ≤ 1125899906842624) : fine l = true := decide_eq_true h
theorem sum_nonneg : ∀ {l : List Int}, (∀ x ∈ l, 0 ≤ x) → 0 ≤ l.sum
  | [], _ => by simp
  | x :: l, h => by
    have h1 := h x (by simp)
    have h2 := sum_nonneg (l := l) fun y hy => h y (by simp [hy])
    simp only [List.sum_cons]
    omega
theorem fine_nil : fine [] = true := fine_mk ⟨by simp, by simp⟩
theorem fine_pre {l m : List Int} (h : fine (l ++ m) = true) : fine l = true ∧ fine m = true := by
  obtain ⟨h1, h2⟩ := fine_of h
  have a := sum_nonneg (l := l) fun y hy => h1 y (by simp [hy])
  have b := sum_nonneg (l := m) fun y hy => h1 y (by simp [hy])
  rw [List.sum_append] at h2
  exact ⟨fine_mk ⟨fun y hy => h1 y (by simp [hy]), by omega⟩, fine_mk ⟨fun y hy => h1 y (by simp [hy]), by omega⟩⟩
theorem fine_sum {l : List Int} (h : fine l = true) : mayB l.sum = true := by
  obtain ⟨h1, h2⟩ := fine_of h
  exact may_mk ⟨sum_nonneg h1, h2⟩
theorem fine_step {l : List Int} (h : fine l = true) (x : Int) : addB l.sum x = fine (l ++ [x]) := by
  obtain ⟨h1, h2⟩ := fine_of h
  have h0 := sum_nonneg h1
  have hs : (l ++ [x]).sum = l.sum + x := by simp [List.sum_append]
  cases hf : fine (l ++ [x])
  · have : ¬ ((∀ y ∈ l ++ [x], 0 ≤ y) ∧ (l ++ [x]).sum ≤ 1125899906842624) := of_decide_eq_false hf
    refine (both_no ?_).1
    by_cases hx : 0 ≤ x
    · refine .inr (.inr (may_mkno (.inr ?_)))
      apply Classical.byContradiction
      intro hc
      refine this ⟨?_, by rw [hs]; omega⟩
      intro y hy
      rcases List.mem_append.1 hy with hy | hy
      · exact h1 y hy
      · simp at hy; omega
    · exact .inr (.inl (may_mkno (.inl (by omega))))
  · obtain ⟨k1, k2⟩ := fine_of hf
    have hx := k1 x (by simp)
    rw [hs] at k2
    exact (both_yes (fine_sum h) (may_mk ⟨hx, by omega⟩) (may_mk ⟨by omega, k2⟩)).1
theorem add_val {a b : Int} (h : addB a b = true) : addV a b = a + b := by unfold addB at h; unfold addV bothV; rw [if_pos h]
theorem add_zero {a b : Int} (h : addB a b = false) : addV a b = 0 := by unfold addV bothV; rw [if_neg (by show ¬ addB a b = true; simp [h])]
theorem take_next (l : List Int) (k : Nat) (h : k < l.length) : l.take (k + 1) = l.take k ++ [l.getD k 0] := by
  rw [List.take_succ_eq_append_getElem h]; simp [List.getD, h]
theorem sum_next (l : List Int) (k : Nat) (h : k < l.length) : (l.take (k + 1)).sum = (l.take k).sum + l.getD k 0 := by
  rw [take_next l k h, List.sum_append]; simp
theorem fine_cut {l : List Int} {k : Nat} (h : fine (l.take k) = false) : fine l = false := by
  cases hf : fine l
  · rfl
  · rw [← List.take_append_drop k l] at hf
    rw [(fine_pre hf).1] at h
    exact h
theorem sumV_yes {l : List Int} (h : fine l = true) : sumV l = l.sum := by simp [sumV, h]
theorem sumV_no {l : List Int} (h : fine l = false) : sumV l = 0 := by simp [sumV, h]

theorem sum_any (b off cap : Nat) (zs : List Int) (w : World) (hbig : zs.length ≤ 9223372036854775807) (hc : ∀ j, j < zs.length → w.cell? ⟨b, off + j, none⟩ = some (.int .i64 (zs.getD j 0))) :
    Calls Try.prog 21 #[.slice (some ⟨b, off, none⟩) zs.length cap] w fun e w' => e = .returned (two (sumV zs) (fine zs)) ∧ w = w' := by
  obtain ⟨n, hn⟩ : ∃ n, n = zs.length := ⟨_, rfl⟩
  rw [← hn] at hbig ⊢
  have HN := Lib.hid hn
  have hc' : ∀ j, j < n → w.cell? ⟨b, off + j, none⟩ = some (.int .i64 (zs.getD j 0)) := fun j hj => hc j (by omega)
  have HC := Lib.hid hc'
  clear hc hc' hn
  go_enter Try.func21, Try.ntmps21
  go_wp2
  go_loop [4, 5, 10] (fun s o i => ∃ k : Nat, k ≤ n ∧ i = .int .i64 k ∧ s = .int .i64 (zs.take k).sum ∧ o = .bool true ∧ Hid (fine (zs.take k) = true)) (fun _ _ i => n - (intOf i).toNat)
  case atStart => exact ⟨0, Nat.zero_le _, rfl, by simp, rfl, fine_nil⟩
  case round =>
    obtain ⟨k, hk, rfl, rfl, rfl, HF⟩ := hrel
    by_cases hlt : k < n
    · have hcell := HC.out k hlt
      have hlen : k < zs.length := by rw [← HN.out]; exact hlt
      have hst := fine_step HF.out (zs.getD k 0)
      rw [← take_next zs k hlen] at hst
      have hsum := sum_next zs k hlen
      generalize zs.getD k 0 = x at hcell hst hsum
      generalize (zs.take k).sum = s at hst hsum ⊢
      have HS := Lib.hid hsum
      clear hsum
      cases hf : fine (zs.take (k + 1))
      · rw [hf] at hst
        have HV := Lib.hid (sumV_no (fine_cut hf))
        have HB := Lib.hid (fine_cut hf)
        clear hf
        go_wp2_with (go_at_call 16; refine (add_any _ _ _).mono ?_; rintro e w' ⟨rfl, rfl⟩)
        go_ret2
        exact ⟨two_eq HV.out.symm HB.out.symm, rfl⟩
      · rw [hf] at hst
        have HV := Lib.hid (add_val hst)
        have HB := Lib.hid hf
        clear hf
        go_wp2_with (go_at_call 16; refine (add_any _ _ _).mono ?_; rintro e w' ⟨rfl, rfl⟩)
        go_round
        case rel => exact ⟨k + 1, by omega, by go_num, by rw [HV.out, HS.out], rfl, HB.out⟩
        case measure => simp [intOf]; omega
    · have ek : k = n := by omega
      have HT : Hid (zs.take k = zs) := by rw [ek, HN.out]; exact List.take_length
      have hge : n ≤ k := by omega
      clear ek
      go_wp2
      go_ret2
      exact ⟨two_eq (by rw [HT.out]; exact (sumV_yes (by rw [← HT.out]; exact HF.out)).symm) (by rw [← HT.out, HF.out]), rfl⟩

theorem sum_empty (a : Option Addr) (cap : Nat) (w : World) :
    Calls Try.prog 21 #[.slice a 0 cap] w fun e w' => e = .returned (two (sumV []) (fine [])) ∧ w = w' := by
  go_enter Try.func21, Try.ntmps21
  go_wp2
  go_loop [4, 5, 10] (fun s o i => i = .int .i64 0 ∧ s = .int .i64 0 ∧ o = .bool true) (fun _ _ _ => 0)
  case atStart => exact ⟨rfl, rfl, rfl⟩
  case round =>
    obtain ⟨rfl, rfl, rfl⟩ := hrel
    go_wp2
    go_ret2
    exact ⟨two_eq (by simp [sumV]) (by rw [fine_nil]), rfl⟩

theorem refSum_any (b off cap : Nat) (zs : List Int) (w : World) (hbig : zs.length ≤ 9223372036854775807) (hc : ∀ j, j < zs.length → w.cell? ⟨b, off + j, none⟩ = some (.int .i64 (zs.getD j 0))) :
    Calls Try.prog 13 #[.slice (some ⟨b, off, none⟩) zs.length cap] w fun e w' => e = .returned (two (sumV zs) (fine zs)) ∧ w = w' := by
  obtain ⟨n, hn⟩ : ∃ n, n = zs.length := ⟨_, rfl⟩
  rw [← hn] at hbig ⊢
  have HN := Lib.hid hn
  have hc' : ∀ j, j < n → w.cell? ⟨b, off + j, none⟩ = some (.int .i64 (zs.getD j 0)) := fun j hj => hc j (by omega)
  have HC := Lib.hid hc'
  clear hc hc' hn
  go_enter Try.func13, Try.ntmps13
  go_wp2
  go_loop [4, 5, 6] (fun s o i => ∃ (k : Nat) (y : Bool), k ≤ n ∧ i = .int .i64 k ∧ s = .int .i64 (sumV (zs.take k)) ∧ o = .bool y ∧ Hid (y = fine (zs.take k))) (fun _ _ i => n - (intOf i).toNat)
  case atStart => exact ⟨0, true, Nat.zero_le _, rfl, by simp [sumV, fine_nil], rfl, by simp [fine_nil, Hid]⟩
  case round =>
    obtain ⟨k, y, hk, rfl, rfl, rfl, HY⟩ := hrel
    by_cases hlt : k < n
    · have hcell := HC.out k hlt
      have hlen : k < zs.length := by rw [← HN.out]; exact hlt
      cases y
      · have HF : Hid (fine (zs.take k) = false) := HY.out.symm
        clear HY
        have HB := Lib.hid (fine_cut HF.out)
        go_wp2
        go_ret2
        exact ⟨two_eq ((sumV_no HF.out).trans (sumV_no HB.out).symm) HB.out.symm, rfl⟩
      · have HF : Hid (fine (zs.take k) = true) := HY.out.symm
        clear HY
        have hst := fine_step HF.out (zs.getD k 0)
        rw [← take_next zs k hlen] at hst
        have hsum := sum_next zs k hlen
        rw [sumV_yes HF.out]
        generalize zs.getD k 0 = x at hcell hst hsum
        generalize (zs.take k).sum = s at hst hsum ⊢
        have HST := Lib.hid hst
        have HS := Lib.hid hsum
        clear hsum hst
        go_wp2_with (go_at_call 14; refine (refAdd_any _ _ _).mono ?_; rintro e w' ⟨rfl, rfl⟩)
        go_round
        case rel =>
          refine ⟨k + 1, _, by omega, by go_num, ?_, rfl, HST.out⟩
          cases hf : fine (zs.take (k + 1))
          · rw [sumV_no hf, add_zero (HST.out.trans hf)]
          · rw [sumV_yes hf, add_val (HST.out.trans hf), HS.out]
        case measure => simp [intOf]; omega
    · have ek : k = n := by omega
      have HT : Hid (zs.take k = zs) := by rw [ek, HN.out]; exact List.take_length
      have hge : n ≤ k := by omega
      clear ek
      go_wp2
      go_ret2
      exact ⟨two_eq (by rw [HT.out]) (by rw [HY.out, HT.out]), rfl⟩

theorem refSum_empty (a : Option Addr) (cap : Nat) (w : World) :
    Calls Try.prog 13 #[.slice a 0 cap] w fun e w' => e = .returned (two (sumV []) (fine [])) ∧ w = w' := by
  go_enter Try.func13, Try.ntmps13
  go_wp2
  go_loop [4, 5, 6] (fun s o i => i = .int .i64 0 ∧ s = .int .i64 0 ∧ o = .bool true) (fun _ _ _ => 0)
  case atStart => exact ⟨rfl, rfl, rfl⟩
  case round =>
    obtain ⟨rfl, rfl, rfl⟩ := hrel
    go_wp2
    go_ret2
    exact ⟨two_eq (by simp [sumV]) (by rw [fine_nil]), rfl⟩

end Go.Proofs.Ytjpgginmdnbmdaa
