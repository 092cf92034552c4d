/- What Copy does to the queue in memory. -/
import Derived.Test.YtgbcjbbkcoaohaaTake
namespace Go.Proofs.Ytgbcjbbkcoaohaa
open Go.RowKit
set_option linter.unusedVariables false

theorem copy_no {B : Nat} {w : World} {q : Nat} {v : Value} {L : List Msg} (hq : Que B w q v L) (i : Int) (hi : inB i L.length = false) :
    Calls Try.prog 12 #[.pointer (some ⟨q, 0, none⟩), .int .i64 i] w fun e w' => e = .returned (.int .i64 19) ∧ w = w' := by
  have HQ := Lib.hid hq
  clear hq
  go_enter Try.func12, Try.ntmps12
  go_wp2_with (go_at_call 21; refine (in_any HQ.out i).mono ?_; rintro e w' ⟨rfl, rfl⟩)
  go_ret
  exact ⟨rfl, rfl⟩

theorem kind_ok {k : Int} (h : k = 1 ∨ k = 2) : ((k != 1) = false) ∨ ((k != 1) = true ∧ (k != 2) = false) := by
  rcases h with rfl | rfl <;> simp
theorem Sent.from {B : Nat} {w wa w' : World} {q : Nat} {v : Value} {L : List Msg} {kind : Int} {bs : List UInt8} {e : Ending} (h : Sent B wa q v L kind bs e w') (hb : Below w.heap.size w wa) : Sent B w q v L kind bs e w' := by
  obtain ⟨h0, v', y, h1, h2, h3⟩ := h
  exact ⟨h0, v', y, h1, (Kept.of_below hb).trans h2 fun x hx => .inl hx, fun k hk => (h3 k hk).imp id fun h => Nat.le_trans hb.size h⟩

theorem copy_full {B : Nat} {w : World} {q : Nat} {v : Value} {L : List Msg} (hq : Que B w q v L) (i : Nat) (hi : i < L.length) (hf : 32 ≤ L.length) :
    Calls Try.prog 12 #[.pointer (some ⟨q, 0, none⟩), .int .i64 (i : Int)] w fun e w' => e = .returned (.int .i64 18) ∧ Below w.heap.size w w' := by
  have hin : inB (i : Int) L.length = true := decide_eq_true (by omega)
  have hm := hq.short L[i] (List.getElem_mem hi)
  have hk := hq.kin L[i] (List.getElem_mem hi)
  obtain ⟨g, cv, am, mc, rfl, hval, hglt, hgq, hck, hcv⟩ := hq.at i hi
  have hfew := hq.few
  have hcel := hq.cel
  have hil : (i : Int) < (L.length : Int) := by omega
  have HQ := Lib.hid hq
  clear hq hval
  generalize L[i].kind = K at hck hk
  generalize L[i].bytes.length = N at hcv hm
  have HK := Lib.hid hk
  have HF := Lib.hid hf
  clear hk
  go_enter Try.func12, Try.ntmps12
  go_wp2_with (go_at_call 21; refine (in_any HQ.out (i : Int)).mono ?_; rintro e w' ⟨rfl, rfl⟩)
  go_region_law (first
    | (go_simp; go_at_call 9; refine (send_full (B := B) (HQ.out.keep (w' := w.drew) fun _ _ => rfl) K am N mc (kind_ok HK.out) hm HF.out).mono ?_; rintro e w1 ⟨rfl, rfl⟩)
    | fail)
  all_goals
    go_wp2
    go_ret
    exact ⟨rfl, (Below.refl _ _).drew⟩

theorem copy_yes {B : Nat} {w : World} {q : Nat} {v : Value} {L : List Msg} (hq : Que B w q v L) (i : Nat) (hi : i < L.length) (hf : L.length < 32) :
    Calls Try.prog 12 #[.pointer (some ⟨q, 0, none⟩), .int .i64 (i : Int)] w (Sent B w q v L L[i].kind L[i].bytes) := by
  have hin : inB (i : Int) L.length = true := decide_eq_true (by omega)
  have hm := hq.short L[i] (List.getElem_mem hi)
  have hk := hq.kin L[i] (List.getElem_mem hi)
  obtain ⟨g, cv, am, mc, rfl, hval, hglt, hgq, hck, hcv⟩ := hq.at i hi
  have hrow := hq.msg L[i] (List.getElem_mem hi)
  rw [hval] at hrow
  obtain ⟨ao', c', he, hsl, hc0, _⟩ := sl_of_owns hrow
  injection he with he1 he2 he3
  subst he1 he3
  have hfew := hq.few
  have hcel := hq.cel
  have hil : (i : Int) < (L.length : Int) := by omega
  have HQ := Lib.hid hq
  clear hq hval he2 hrow
  generalize L[i].kind = K at hck hk ⊢
  generalize hbs : L[i].bytes = bs at hcv hm hsl ⊢
  generalize hN : bs.length = N at hcv hm hsl
  have HK := Lib.hid hk
  have HF := Lib.hid hf
  have HS := Lib.hid hsl
  have HC := Lib.hid hc0
  clear hk hbs hN hsl hc0 hf
  go_enter Try.func12, Try.ntmps12
  go_wp2_with (go_at_call 21; refine (in_any HQ.out (i : Int)).mono ?_; rintro e w' ⟨rfl, rfl⟩)
  go_region_law (first
    | (go_simp; go_at_call 9; refine (send_ok (B := B) (HQ.out.keep (w' := w.drew) fun _ _ => rfl) K am N mc bs (kind_ok HK.out) (HS.out.below ((Below.refl _ _).drew)) HC.out (Nat.le_refl _) hm HF.out).mono ?_; rintro e w1 ⟨rfl, hs⟩; have HSE := Lib.hid hs; clear hs)
    | fail)
  all_goals
    go_wp2
    go_ret
    exact Sent.from ⟨rfl, HSE.out⟩ ((Below.refl _ _).drew)
end Go.Proofs.Ytgbcjbbkcoaohaa
