/- The reference's other answers, and its calls in plain words. -/
import Derived.Test.YtgbcjbbkcoaohaaRSend
import Derived.Test.YtgbcjbbkcoaohaaRTake
namespace Go.Proofs.Ytgbcjbbkcoaohaa
open Go.RowKit
set_option linter.unusedVariables false

theorem refsend_kind (r : Nat) (w : World) (kind : Int) (ao : Option Addr) (m c : Nat) (h1 : (kind != 1) = true) (h2 : (kind != 2) = true) :
    Calls Try.prog 15 #[.pointer (some ⟨r, 0, none⟩), .int .i64 kind, .slice ao m c] w fun e w' => e = .returned (.int .i64 1) ∧ w' = w := by
  go_enter Try.func15, Try.ntmps15
  go_wp2_with fail
  go_ret
  exact ⟨rfl, rfl⟩
theorem refsend_long (r : Nat) (w : World) (kind : Int) (ao : Option Addr) (m c : Nat) (hk : kind = 1 ∨ kind = 2) (hm : 131072 < m) (hm2 : m ≤ 9223372036854775807) :
    Calls Try.prog 15 #[.pointer (some ⟨r, 0, none⟩), .int .i64 kind, .slice ao m c] w fun e w' => e = .returned (.int .i64 3) ∧ w' = w := by
  rcases hk with rfl | rfl
  · go_enter Try.func15, Try.ntmps15
    go_wp2_with fail
    go_ret
    exact ⟨rfl, rfl⟩
  · go_enter Try.func15, Try.ntmps15
    go_wp2_with fail
    go_ret
    exact ⟨rfl, rfl⟩
theorem refsend_full {B : Nat} {w : World} {r : Nat} {kv bv : Value} {M : List Msg} (h : Ref B w r kv bv M) (kind : Int) (ao : Option Addr) (m c : Nat) (hk : kind = 1 ∨ kind = 2) (hm : m ≤ 131072) (hf : 32 ≤ M.length) :
    Calls Try.prog 15 #[.pointer (some ⟨r, 0, none⟩), .int .i64 kind, .slice ao m c] w fun e w' => e = .returned (.int .i64 18) ∧ w' = w := by
  obtain ⟨ab, cb, rfl, _⟩ := sl_of_owns h.rowb
  have c1 := h.celb
  have h32 : M.length = 32 := by have := h.few; omega
  rw [h32] at c1
  clear h
  rcases hk with rfl | rfl
  · go_enter Try.func15, Try.ntmps15
    go_wp2_with fail
    go_ret
    exact ⟨rfl, rfl⟩
  · go_enter Try.func15, Try.ntmps15
    go_wp2_with fail
    go_ret
    exact ⟨rfl, rfl⟩

theorem send_ref {B : Nat} {w : World} {r : Nat} {cs : List Nat} {T : Words} (h : RefAt B w r cs T) (kind : Int) {B' : Nat} (ao : Option Addr) (m c : Nat) (ys : List UInt8) (hp : Sl B' w 1 ao m (encs ys)) (hc0 : ao = none → c = 0) (hB' : B' ≤ w.heap.size) (hm : m ≤ 9223372036854775807) :
    Calls Try.prog 15 #[.pointer (some ⟨r, 0, none⟩), .int .i64 kind, .slice ao m c] w fun e w' => e = .returned (.int .i64 (sendC T.length kind ys.length)) ∧ RefTo B w w' r cs (sendS T kind ys) := by
  have hl : ys.length = m := by have := hp.len; simpa [encs] using this
  have hs := h
  obtain ⟨kv, bv, M, hq, rfl, rfl⟩ := h
  subst hl
  unfold sendS sendC
  rw [List.length_map] at *
  by_cases h1 : kind ≠ 1 ∧ kind ≠ 2
  · rw [if_pos h1, if_neg (by decide)]
    exact (refsend_kind r w kind ao _ c (by simp [h1.1]) (by simp [h1.2])).mono fun e w' ⟨h2, h3⟩ => ⟨h2, hs.stay h3⟩
  · rw [if_neg h1]
    have hk : kind = 1 ∨ kind = 2 := by omega
    by_cases h2 : 131072 < ys.length
    · rw [if_pos h2, if_neg (by decide)]
      exact (refsend_long r w kind ao _ c hk h2 hm).mono fun e w' ⟨h2, h3⟩ => ⟨h2, hs.stay h3⟩
    · rw [if_neg h2]
      by_cases h3 : 32 ≤ M.length
      · rw [if_pos h3, if_neg (by decide)]
        exact (refsend_full hq kind ao _ c hk (by omega) h3).mono fun e w' ⟨h2, h3⟩ => ⟨h2, hs.stay h3⟩
      · rw [if_neg h3, if_pos rfl]
        exact refsend_ok hq kind ao _ c ys hk hp hc0 hB' (by omega) (by omega)

theorem take_ref {B : Nat} {w : World} {r : Nat} {cs : List Nat} {T : Words} (h : RefAt B w r cs T) (i : Int) :
    Calls Try.prog 16 #[.pointer (some ⟨r, 0, none⟩), .int .i64 i] w fun e w' => ∃ ay cy, e = .returned (.tuple #[.int .i64 (takeK T i), .slice ay (takeB T i).length cy, .bool (inB i T.length)]) ∧ RefTo B w w' r cs (takeS T i) ∧
      w'.ownsRow B 5 1 (.slice ay (takeB T i).length cy) (takeB T i).length (encs (takeB T i)) := by
  have hs := h
  obtain ⟨kv, bv, M, hq, rfl, rfl⟩ := h
  unfold takeK takeB takeS
  cases hi : inB i (M.map plain).length
  · rw [atS_no hi]
    rw [List.length_map] at hi
    refine (reftake_no hq i hi).mono ?_
    rintro e w' ⟨rfl, rfl⟩
    exact ⟨none, 0, rfl, hs.stay rfl, World.ownsRow_nil _ _ _ _⟩
  · obtain ⟨k, hk, rfl, e⟩ := atS_yes hi
    obtain ⟨hk', ep⟩ := plain_at hk
    rw [e, ep]
    simp only [if_true, Int.toNat_natCast, plain]
    refine (reftake_yes hq k hk').mono ?_
    rintro e w' ⟨rfl, h1, h2⟩
    obtain ⟨ay, cy, ey, _⟩ := sl_of_owns h2
    rw [ey] at h2 ⊢
    exact ⟨ay, cy, rfl, h1, h2⟩

theorem refagain_no {B : Nat} {w : World} {r : Nat} {kv bv : Value} {M : List Msg} (h : Ref B w r kv bv M) (i : Int) (hi : inB i M.length = false) :
    Calls Try.prog 17 #[.pointer (some ⟨r, 0, none⟩), .int .i64 i] w fun e w' => e = .returned (.int .i64 19) ∧ w' = w := by
  obtain ⟨ab, cb, rfl, _⟩ := sl_of_owns h.rowb
  have c1 := h.celb
  have hf := h.few
  clear h
  by_cases h0 : i < 0
  · clear hi
    go_enter Try.func17, Try.ntmps17
    go_wp2_with fail
    go_ret
    exact ⟨rfl, rfl⟩
  · have h1 : (M.length : Int) ≤ i := by rcases in_no hi with h | h <;> omega
    clear hi
    go_enter Try.func17, Try.ntmps17
    go_wp2_with fail
    go_ret
    exact ⟨rfl, rfl⟩
theorem RefTo.drew {B : Nat} {w w' : World} {r : Nat} {cs : List Nat} {T : Words} (h : RefTo B w.drew w' r cs T) : RefTo B w w' r cs T := by
  obtain ⟨cs', h1, h2, h3⟩ := h
  exact ⟨cs', h1, ⟨h2.os, h2.tape, h2.output, h2.size, h2.block⟩, h3⟩
theorem refagain_yes {B : Nat} {w : World} {r : Nat} {kv bv : Value} {M : List Msg} (h : Ref B w r kv bv M) (i : Nat) (hi : i < M.length) :
    Calls Try.prog 17 #[.pointer (some ⟨r, 0, none⟩), .int .i64 (i : Int)] w fun e w' => e = .returned (.int .i64 (sendC M.length M[i].kind M[i].bytes.length)) ∧ RefTo B w w' r (rblks kv bv M) (sendS (M.map plain) M[i].kind M[i].bytes) := by
  have hd : Ref B w.drew r kv bv M := h.keep fun _ _ => rfl
  obtain ⟨gk, ck, gb, cb, am, cm, rfl, rfl, hval, x0, x1⟩ := h.form i hi
  have hm := hd.msg M[i] (List.getElem_mem hi)
  rw [hval] at hm
  obtain ⟨sm, nm, _⟩ := sl_row hm
  have hsz := h.short M[i] (List.getElem_mem hi)
  have hc := send_ref hd.at M[i].kind am M[i].bytes.length cm M[i].bytes sm nm (Nat.le_refl _) (by omega)
  rw [List.length_map] at hc
  have HC := Lib.hid hc
  have c0 := h.celk
  have c1 := h.celb
  have hf := h.few
  clear hd hm sm nm hc h
  generalize sendC M.length M[i].kind M[i].bytes.length = C at *
  generalize sendS (M.map plain) M[i].kind M[i].bytes = S' at *
  generalize M[i].bytes.length = bn at *
  generalize M[i].kind = kk at *
  go_enter Try.func17, Try.ntmps17
  go_wp2_with fail
  go_region_law (first | (go_simp; go_at_call 15; refine HC.out.mono ?_; rintro e w' ⟨rfl, hw⟩; have HW := Lib.hid hw; clear hw) | fail)
  all_goals
    go_wp2_with fail
    go_ret
    exact ⟨rfl, HW.out.drew⟩
theorem again_ref {B : Nat} {w : World} {r : Nat} {cs : List Nat} {T : Words} (h : RefAt B w r cs T) (i : Int) :
    Calls Try.prog 17 #[.pointer (some ⟨r, 0, none⟩), .int .i64 i] w fun e w' => e = .returned (.int .i64 (againC T i)) ∧ RefTo B w w' r cs (againS T i) := by
  have hs := h
  obtain ⟨kv, bv, M, hq, rfl, rfl⟩ := h
  unfold againC againS
  cases hi : inB i (M.map plain).length
  · rw [atS_no hi]
    rw [List.length_map] at hi
    exact (refagain_no hq i hi).mono fun e w' ⟨h1, h2⟩ => ⟨h1, hs.stay h2⟩
  · obtain ⟨k, hk, rfl, e⟩ := atS_yes hi
    obtain ⟨hk', ep⟩ := plain_at hk
    rw [e, ep]
    simp only [List.length_map]
    exact refagain_yes hq k hk'
end Go.Proofs.Ytgbcjbbkcoaohaa
