/- Of any three floats EdgeOrder returns true; no condition. -/
import Derived.Test.YtdofdchckdchfaaRows
import Derived.WalkKit
import Derived.ProofKit
import Derived.OpenShut
import Derived.ShutString
import Derived.ChangeOld
import Derived.Below
import Derived.Laws.Cover2
import Derived.Deep.RegionWith
import Derived.Deep.RegionHeld3
import Derived.BigQuiet
import Derived.Deep.QuietTactic
import Derived.Test.YtdofdchckdchfaaCmp
namespace Go.Proofs.Ytdofdchckdchfaa.edgeOrder
open Go.ChangeShapes Go.WideShapes Go.ChangeAt Go.RowKit
open Go.ChangeMaps (open_string shut_string)
set_option linter.unusedVariables false

theorem own : ownKnob Try.prog.godebug = none := by kernel_rfl
theorem laidOut : laidOutB Try.prog = true := by kernel_rfl
theorem list3 {α : Type} (l : List α) (h : l.length = 3) : ∃ a b c, l = [a, b, c] := by
  match l, h with
  | [a, b, c], _ => exact ⟨a, b, c, rfl⟩
theorem trod_float {H : Type} {enc : TypeId × Value → H} {w : World} {base : Nat} {spare : Nat → Bool} {held : Bool} {fuel : Nat} {cs : List Value} {x : DataW H × List MemPlace}
    (h : DataW.trod enc Try.prog w base spare held fuel 24 cs = some x) : ∃ b, cs = [.float .f64 b] ∧ (Lit.float .f64 b).wf = true := by
  cases fuel with
  | zero => simp [DataW.trod] at h
  | succ n =>
    unfold DataW.trod at h
    rw [Try.underlying24] at h
    split at h <;> simp_all
theorem floats_of (l : List Value) (h : ∀ i, i < l.length → ∃ b : Nat, l[i]? = some (.float .f64 b) ∧ b < 18446744073709551616) : ∃ bs : List Nat, (l = bs.map fun b => .float .f64 b) ∧ ∀ b ∈ bs, b < 18446744073709551616 := by
  induction l with
  | nil => exact ⟨[], rfl, fun _ h => by cases h⟩
  | cons x l ih =>
    obtain ⟨b, hb, hw⟩ := h 0 (by simp)
    obtain ⟨bs, hbs, hws⟩ := ih fun i hi => by
      obtain ⟨c, hc, hd⟩ := h (i + 1) (by simpa using hi)
      exact ⟨c, by simpa using hc, hd⟩
    refine ⟨b :: bs, ?_, fun c hc => ?_⟩
    · simp at hb
      rw [hbs, hb]
      rfl
    · rcases List.mem_cons.1 hc with rfl | hc
      · exact hw
      · exact hws c hc
theorem open_arr3 {H : Type} {enc : TypeId × Value → H} {w : World} {base : Nat} {spare : Nat → Bool} {held : Bool} {cs : Array Value} {d : DataW H} {ps : List MemPlace} (hsz : cs.size = Try.prog.cellsOf 44)
    (h : DataW.Trod enc Try.prog w base spare held 44 (.agg cs) d ps) : ∃ x0 x1 x2 : Nat, (x0 < 18446744073709551616 ∧ x1 < 18446744073709551616 ∧ x2 < 18446744073709551616) ∧ Value.agg cs = .agg #[.float .f64 x0, .float .f64 x1, .float .f64 x2] := by
  have c44 : Try.prog.cellsOf 44 = 3 := by kernel_rfl
  have c24 : Try.prog.cellsOf 24 = 1 := by kernel_rfl
  obtain ⟨fuel, hf⟩ := h
  obtain ⟨xs, m, _, _, hl, hx, hall⟩ := DataW.trod_array Try.underlying44 hf
  rw [c44] at hsz
  obtain ⟨l⟩ := cs
  have hlen : l.length = 3 := by simpa using hsz
  have hbs := floats_of l fun i hi => by
    have hi8 : i < 3 := by omega
    have h1 := hall i hi8
    rw [List.getElem?_eq_getElem (by omega), c24] at h1
    obtain ⟨b, hn, hw⟩ := trod_float h1
    refine ⟨b, ?_, by simpa [Lit.wf] using hw⟩
    have h2 : ((l.drop (i * 1)).take 1)[0]? = some (Value.float .f64 b) := by
      have h3 : (List.take 1 (List.drop (i * 1) l)) = [Value.float .f64 b] := hn
      rw [h3]
      rfl
    simpa using h2
  obtain ⟨bs, rfl, hw⟩ := hbs
  obtain ⟨a, b, c, rfl⟩ := list3 bs (by simpa using hlen)
  exact ⟨a, b, c, ⟨hw a (by simp), hw b (by simp), hw c (by simp)⟩, rfl⟩

theorem refl22 (u : Nat) (w : World) : (Op.equalIn 10000 22 (aggOf u) (aggOf u)).run Try.prog w = .ok true w := by
  have u3 := Try.underlying5
  have a3 := Try.isAgg5
  have z3 := Try.sizeOf5
  rw [show (10000 : Nat) = 9999 + 1 from rfl, Op.equalIn]
  simp only [Sem.run_bind, run_underlying Try.underlying22, Result.andThen_ok]
  simp only [Std.Legacy.Range.forIn_eq_forIn_range', Std.Legacy.Range.size, Nat.sub_zero, Nat.add_sub_cancel, Nat.div_one, List.range'_succ, List.range'_zero, List.forIn_cons, List.forIn_nil]
  go_simp

/-- the row as it stands in the block. -/
def Row3 (B : Nat) (L : List Nat) (w0 w : World) : Prop := Below (B + 1) w0 w ∧ (B + 1 ≤ w0.heap.size ∧ L.length = 3) ∧ (∀ x ∈ L, x < 18446744073709551616) ∧ ∀ (j x : Nat), L[j]? = some x → w0.cell? ⟨B, j, none⟩ = some (.float .f64 x)
theorem Row3.get {B : Nat} {L : List Nat} {w0 w : World} (h : Row3 B L w0 w) (j : Nat) (hj : j < 3) : ∃ x, L[j]? = some x ∧ x < 18446744073709551616 ∧ w.cell? ⟨B, j, none⟩ = some (.float .f64 x) := by
  obtain ⟨b, ⟨_, l⟩, m, c⟩ := h
  refine ⟨L[j]'(by omega), List.getElem?_eq_getElem (by omega), m _ (List.getElem_mem _), ?_⟩
  rw [b.cell (p := ⟨B, j, none⟩) (Nat.lt_succ_self B)]
  exact c j _ (List.getElem?_eq_getElem (by omega))
theorem Row3.size {B : Nat} {L : List Nat} {w0 w : World} (h : Row3 B L w0 w) : B + 1 ≤ w.heap.size := Nat.le_trans h.2.1.1 h.1.size
theorem Row3.next {B : Nat} {L : List Nat} {w0 w w' : World} (h : Row3 B L w0 w) (k : Below (B + 1) w w') : Row3 B L w0 w' := ⟨h.1.trans k, h.2⟩
theorem canon_tot {x : Nat} : tot (canon x) = tot x := by
  unfold canon
  by_cases h : isNan x
  · rw [if_pos h, tot_nan h, tot_nan (by unfold isNan; decide)]
  · rw [if_neg h]
theorem canon_lt {x : Nat} (hx : x < 18446744073709551616) : canon x < 18446744073709551616 := by
  unfold canon
  split <;> omega
/-- one word's bytes: there and back. -/
theorem there (x : Nat) (hx : x < 18446744073709551616) : ∃ arr : Array Value, (∀ w, Calls Try.prog 10 #[.float .f64 x] w fun r w' => r = .returned (.agg arr) ∧ Below w.heap.size w w') ∧
    (∀ w, Calls Try.prog 23 #[.float .f64 x] w fun r w' => r = .returned (.agg arr) ∧ Below w.heap.size w w') ∧ (∀ w, (Op.equalIn 10000 22 (.agg arr) (.agg arr)).run Try.prog w = .ok true w) ∧
    ∃ y, (∀ w, Calls Try.prog 9 #[.agg arr] w fun r w' => r = .returned (.float .f64 y) ∧ Below w.heap.size w w') ∧ (∀ w, Calls Try.prog 11 #[.float .f64 y, .float .f64 x] w fun e w' => e = .returned (.bool true) ∧ w' = w) := by
  refine ⟨_, bits_any x hx, refbits_any x hx, refl22 (canon x), canon x, ?_, ?_⟩
  · have h := of_any (byte (canon x) 1) (byte (canon x) 256) (byte (canon x) 65536) (byte (canon x) 16777216) (byte (canon x) 4294967296) (byte (canon x) 1099511627776) (byte (canon x) 281474976710656) (byte (canon x) 72057594037927936)
    rw [num_bytes _ (canon_lt hx)] at h
    exact h
  · have h := same_any (canon x) x (canon_lt hx) hx
    rw [show sameB (canon x) x = true from decide_eq_true canon_tot] at h
    exact h
/-- a later world of the same round. -/
def At (B : Nat) (wb w : World) : Prop := Hid (Below (B + 1) wb w ∧ B + 1 ≤ w.heap.size)
theorem At.step {B : Nat} {wb w w' : World} (h : At B wb w) (b : Below w.heap.size w w') : At B wb w' := ⟨h.out.1.trans (b.mono h.out.2), Nat.le_trans h.out.2 b.size⟩
theorem At.start {B : Nat} {wb : World} (h : B + 1 ≤ wb.heap.size) : At B wb wb.drew := ⟨(Below.refl _ _).drew, h⟩
theorem At.cell {B : Nat} {wb w : World} (h : At B wb w) {j : Nat} {v : Value} (c : wb.cell? ⟨B, j, none⟩ = some v) : w.cell? ⟨B, j, none⟩ = some v := (h.out.1.cell (p := ⟨B, j, none⟩) (Nat.lt_succ_self B)).trans c
theorem below_drewN {B : Nat} {w w' : World} (h : Below B w w') (n : Nat) : Below B w (w'.drewN n) := ⟨h.os, h.tape, h.output, h.size, h.block⟩
theorem cmp_three (x z : Nat) : (cmpOf x z = -1 ∧ cmpOf z x = 1 ∧ sameB x z = false ∧ tot x < tot z) ∨ (cmpOf x z = 0 ∧ cmpOf z x = 0 ∧ sameB x z = true ∧ tot x = tot z) ∨ (cmpOf x z = 1 ∧ cmpOf z x = -1 ∧ sameB x z = false ∧ tot z < tot x) := by
  unfold cmpOf sameB
  rcases Int.lt_trichotomy (tot x) (tot z) with h | h | h
  · exact .inl ⟨if_pos h, by rw [if_neg (by omega), if_pos h], decide_eq_false (by omega), h⟩
  · exact .inr (.inl ⟨by rw [if_neg (by omega), if_neg (by omega)], by rw [if_neg (by omega), if_neg (by omega)], decide_eq_true h, h⟩)
  · exact .inr (.inr ⟨by rw [if_neg (by omega), if_pos h], if_pos h, decide_eq_false (by omega), h⟩)
theorem cmp_pass {x z : Nat} (v : Nat) (h : tot x ≤ tot z) : cmpOf z v = 1 ∨ ((cmpOf z v = -1 ∨ cmpOf z v = 0) ∧ (cmpOf x v = -1 ∨ cmpOf x v = 0)) := by
  rcases cmp_three z v with ⟨e1, _, _, e4⟩ | ⟨e1, _, _, e4⟩ | ⟨e1, _, _, e4⟩
  · rcases cmp_three x v with ⟨f1, _, _, f4⟩ | ⟨f1, _, _, f4⟩ | ⟨f1, _, _, f4⟩
    · exact .inr ⟨.inl e1, .inl f1⟩
    · exact .inr ⟨.inl e1, .inr f1⟩
    · omega
  · rcases cmp_three x v with ⟨f1, _, _, f4⟩ | ⟨f1, _, _, f4⟩ | ⟨f1, _, _, f4⟩
    · exact .inr ⟨.inr e1, .inl f1⟩
    · exact .inr ⟨.inr e1, .inr f1⟩
    · omega
  · exact .inl e1
theorem Row3.at {B : Nat} {L : List Nat} {w0 w : World} (h : Row3 B L w0 w) {j x : Nat} (hx : L[j]? = some x) : w.cell? ⟨B, j, none⟩ = some (.float .f64 x) := by
  obtain ⟨b, _, _, c⟩ := h
  rw [b.cell (p := ⟨B, j, none⟩) (Nat.lt_succ_self B)]
  exact c j _ hx

set_option maxRecDepth 1000000 in
set_option maxHeartbeats 8000000 in
theorem walk (x0 x1 x2 : Nat) (w : World) (hx : x0 < 18446744073709551616 ∧ x1 < 18446744073709551616 ∧ x2 < 18446744073709551616) :
    Calls Try.prog 7 #[.agg #[.float .f64 x0, .float .f64 x1, .float .f64 x2]] w fun e w' => e = .returned (.bool true) ∧ Below w.heap.size w w' := by
  have H0 : Hid (Row3 w.heap.size [x0, x1, x2] (w.alloc (.cells #[.float .f64 x0, .float .f64 x1, .float .f64 x2] 44)) (w.alloc (.cells #[.float .f64 x0, .float .f64 x1, .float .f64 x2] 44))) := by
    refine ⟨Below.refl _ _, ⟨by simp, rfl⟩, fun x h => ?_, fun j x h => ?_⟩
    · simp at h
      rcases h with rfl | rfl | rfl <;> omega
    · rw [cell_of_row _ _ _ _ _ _ (heap_alloc_new _ _)]
      match j, h with
      | 0, h => simp at h; subst h; rfl
      | 1, h => simp at h; subst h; rfl
      | 2, h => simp at h; subst h; rfl
  have HB : Hid (Below w.heap.size w (w.alloc (.cells #[.float .f64 x0, .float .f64 x1, .float .f64 x2] 44))) := (Below.refl _ _).alloc (Nat.le_refl _) _
  clear hx
  go_enter Try.func7, Try.ntmps7
  go_wp2_with (first | (go_at_call 8; refine (awake_any _).mono ?_; rintro e w1 ⟨rfl, rfl⟩) | fail)
  generalize [x0, x1, x2] = L at H0
  generalize w.alloc (.cells #[.float .f64 x0, .float .f64 x1, .float .f64 x2] 44) = w0 at *
  go_loopw [3] (fun i wr => ∃ n : Nat, n ≤ 3 ∧ i = .int .i64 n ∧ Hid (Row3 w.heap.size L w0 wr)) (fun i _ => 3 - (intOf i).toNat)
  case atStart => exact ⟨0, by omega, rfl, H0.out⟩
  case round =>
    clear H0
    obtain ⟨n, hn, rfl, H1⟩ := hrel
    by_cases hn3 : n < 3
    · obtain ⟨x, hx, hlx, cx⟩ := H1.out.get n hn3
      have HX := Lib.hid hx
      have HLX := Lib.hid hlx
      obtain ⟨arr, hb, hrb, heq, y, hof, hsame⟩ := there x hlx
      clear hx hlx
      have K0 : At w.heap.size wr wr.drew := At.start (H1.out.size)
      go_wp2_with fail
      go_region_held3 (fun w' => w'.cell? ⟨w.heap.size, n, none⟩ = some (.float .f64 x) ∧ At w.heap.size wr w') (first
        | exact ⟨At.cell (by assumption) cx, by assumption⟩
        | exact At.cell (by assumption) cx
        | assumption
        | fail) (first
        | (go_at_call 10; with_reducible refine (hb _).mono ?_; rintro e w2 ⟨rfl, b2⟩; have k2 := At.step (by first | assumption | exact (‹_ ∧ At _ _ _›).2) b2; clear b2)
        | (go_at_call 9; with_reducible refine (hof _).mono ?_; rintro e w2 ⟨rfl, b2⟩; have k2 := At.step (by first | assumption | exact (‹_ ∧ At _ _ _›).2) b2; clear b2)
        | (go_at_call 23; with_reducible refine (hrb _).mono ?_; rintro e w2 ⟨rfl, b2⟩; have k2 := At.step (by first | assumption | exact (‹_ ∧ At _ _ _›).2) b2; clear b2)
        | (go_at_call 11; with_reducible refine (hsame _).mono ?_; rintro e w2 ⟨rfl, rfl⟩)
        | fail)
      have H2 : Hid (Row3 w.heap.size L w0 w2) := H1.out.next k2.out.1
      clear hb hrb heq hof hsame cx k2
      rename_i hh
      clear hh
      go_wp2_with fail
      go_loopw [4] (fun j wi => ∃ m : Nat, m ≤ 3 ∧ j = .int .i64 m ∧ Hid (Row3 w.heap.size L w0 wi)) (fun j _ => 3 - (intOf j).toNat)
      case atStart => exact ⟨0, by omega, rfl, H2.out⟩
      case round =>
        clear H2
        obtain ⟨m, hm, rfl, H3⟩ := hrel
        by_cases hm3 : m < 3
        · obtain ⟨z, hz, hlz, cz⟩ := H3.out.get m hm3
          have cx : wr.cell? ⟨w.heap.size, n, none⟩ = some (.float .f64 x) := by
            obtain ⟨x', h1, _, h2⟩ := H3.out.get n hn3
            rw [HX.out] at h1
            cases h1
            exact h2
          have hc := cmp_any x z HLX.out hlz
          have hr := refcmp_any x z HLX.out hlz
          have hd := cmp_any z x hlz HLX.out
          have hs := same_any x z HLX.out hlz
          have HZ := Lib.hid hz
          have HLZ := Lib.hid hlz
          clear hz hlz
          rcases cmp_three x z with ⟨e1, e2, e3, e4⟩ | ⟨e1, e2, e3, e4⟩ | ⟨e1, e2, e3, e4⟩
          · have HT := Lib.hid e4
            rw [e1] at hc hr
            rw [e2] at hd
            rw [e3] at hs
            clear e1 e2 e3 e4
            go_wp2_with fail
            go_quiet ((go_at_call 24; exact Calls.quiet_of_same (hc _)))
            have H4 : Hid (Row3 w.heap.size L w0 (wr.drewN nq)) := H3.out.next (below_drewN (Below.refl _ _) nq)
            have cx4 : (wr.drewN nq).cell? ⟨w.heap.size, n, none⟩ = some (.float .f64 x) := cx
            have cz4 : (wr.drewN nq).cell? ⟨w.heap.size, m, none⟩ = some (.float .f64 z) := cz
            clear cx cz H3
            generalize wr.drewN nq = wq at *
            go_wp2_with fail
            go_quiet (first | (go_at_call 25; exact Calls.quiet_of_same (hr _)) | (go_at_call 24; exact Calls.quiet_of_same (hd _)) | (go_at_call 11; exact Calls.quiet_of_same (hs _)))
            have H5 : Hid (Row3 w.heap.size L w0 (wq.drewN nq)) := H4.out.next (below_drewN (Below.refl _ _) nq)
            clear cx4 cz4 H4 hc hr hd hs
            generalize wq.drewN nq = wp at *
            go_wp2_with fail
            go_loopw [6] (fun k wi => ∃ p : Nat, p ≤ 3 ∧ k = .int .i64 p ∧ Hid (Row3 w.heap.size L w0 wi)) (fun k _ => 3 - (intOf k).toNat)
            case atStart => exact ⟨0, by omega, rfl, H5.out⟩
            case round =>
              clear H5
              obtain ⟨p, hp, rfl, H6⟩ := hrel
              by_cases hp3 : p < 3
              · obtain ⟨v, hv, hlv, cv⟩ := H6.out.get p hp3
                have cx : wr.cell? ⟨w.heap.size, n, none⟩ = some (.float .f64 x) := H6.out.at HX.out
                have cz : wr.cell? ⟨w.heap.size, m, none⟩ = some (.float .f64 z) := H6.out.at HZ.out
                have hc := cmp_any z v HLZ.out hlv
                have hd := cmp_any x v HLX.out hlv
                clear hv hlv
                rcases cmp_pass v (Int.le_of_lt HT.out) with e | ⟨e | e, f | f⟩
                · rw [e] at hc
                  clear e
                  go_wp2_with fail
                  go_quiet (first | (go_at_call 24; with_reducible exact Calls.quiet_of_same (hc _)) | (go_at_call 24; with_reducible exact Calls.quiet_of_same (hd _)))
                  have H7 : Hid (Row3 w.heap.size L w0 (wr.drewN nq)) := H6.out.next (below_drewN (Below.refl _ _) nq)
                  clear cx cz cv H6 hc hd
                  generalize wr.drewN nq = wq at *
                  go_wp2_with fail
                  go_roundw
                  case rel => exact ⟨p + 1, by omega, by go_num, H7.out⟩
                  case measure => simp [intOf]; omega
                · rw [e] at hc
                  rw [f] at hd
                  clear e f
                  go_wp2_with fail
                  go_quiet (first | (go_at_call 24; with_reducible exact Calls.quiet_of_same (hc _)) | (go_at_call 24; with_reducible exact Calls.quiet_of_same (hd _)))
                  have H7 : Hid (Row3 w.heap.size L w0 (wr.drewN nq)) := H6.out.next (below_drewN (Below.refl _ _) nq)
                  clear cx cz cv H6 hc hd
                  generalize wr.drewN nq = wq at *
                  go_wp2_with fail
                  go_roundw
                  case rel => exact ⟨p + 1, by omega, by go_num, H7.out⟩
                  case measure => simp [intOf]; omega
                · rw [e] at hc
                  rw [f] at hd
                  clear e f
                  go_wp2_with fail
                  go_quiet (first | (go_at_call 24; with_reducible exact Calls.quiet_of_same (hc _)) | (go_at_call 24; with_reducible exact Calls.quiet_of_same (hd _)))
                  have H7 : Hid (Row3 w.heap.size L w0 (wr.drewN nq)) := H6.out.next (below_drewN (Below.refl _ _) nq)
                  clear cx cz cv H6 hc hd
                  generalize wr.drewN nq = wq at *
                  go_wp2_with fail
                  go_roundw
                  case rel => exact ⟨p + 1, by omega, by go_num, H7.out⟩
                  case measure => simp [intOf]; omega
                · rw [e] at hc
                  rw [f] at hd
                  clear e f
                  go_wp2_with fail
                  go_quiet (first | (go_at_call 24; with_reducible exact Calls.quiet_of_same (hc _)) | (go_at_call 24; with_reducible exact Calls.quiet_of_same (hd _)))
                  have H7 : Hid (Row3 w.heap.size L w0 (wr.drewN nq)) := H6.out.next (below_drewN (Below.refl _ _) nq)
                  clear cx cz cv H6 hc hd
                  generalize wr.drewN nq = wq at *
                  go_wp2_with fail
                  go_roundw
                  case rel => exact ⟨p + 1, by omega, by go_num, H7.out⟩
                  case measure => simp [intOf]; omega
                · rw [e] at hc
                  rw [f] at hd
                  clear e f
                  go_wp2_with fail
                  go_quiet (first | (go_at_call 24; with_reducible exact Calls.quiet_of_same (hc _)) | (go_at_call 24; with_reducible exact Calls.quiet_of_same (hd _)))
                  have H7 : Hid (Row3 w.heap.size L w0 (wr.drewN nq)) := H6.out.next (below_drewN (Below.refl _ _) nq)
                  clear cx cz cv H6 hc hd
                  generalize wr.drewN nq = wq at *
                  go_wp2_with fail
                  go_roundw
                  case rel => exact ⟨p + 1, by omega, by go_num, H7.out⟩
                  case measure => simp [intOf]; omega
              · go_wp2
                go_roundw
                case rel => exact ⟨m + 1, by omega, by go_num, H6.out⟩
                case measure => simp [intOf]; omega
          · have HT := Lib.hid e4
            rw [e1] at hc hr
            rw [e2] at hd
            rw [e3] at hs
            clear e1 e2 e3 e4
            go_wp2_with fail
            go_quiet ((go_at_call 24; exact Calls.quiet_of_same (hc _)))
            have H4 : Hid (Row3 w.heap.size L w0 (wr.drewN nq)) := H3.out.next (below_drewN (Below.refl _ _) nq)
            have cx4 : (wr.drewN nq).cell? ⟨w.heap.size, n, none⟩ = some (.float .f64 x) := cx
            have cz4 : (wr.drewN nq).cell? ⟨w.heap.size, m, none⟩ = some (.float .f64 z) := cz
            clear cx cz H3
            generalize wr.drewN nq = wq at *
            go_wp2_with fail
            go_quiet (first | (go_at_call 25; exact Calls.quiet_of_same (hr _)) | (go_at_call 24; exact Calls.quiet_of_same (hd _)) | (go_at_call 11; exact Calls.quiet_of_same (hs _)))
            have H5 : Hid (Row3 w.heap.size L w0 (wq.drewN nq)) := H4.out.next (below_drewN (Below.refl _ _) nq)
            clear cx4 cz4 H4 hc hr hd hs
            generalize wq.drewN nq = wp at *
            go_wp2_with fail
            go_loopw [6] (fun k wi => ∃ p : Nat, p ≤ 3 ∧ k = .int .i64 p ∧ Hid (Row3 w.heap.size L w0 wi)) (fun k _ => 3 - (intOf k).toNat)
            case atStart => exact ⟨0, by omega, rfl, H5.out⟩
            case round =>
              clear H5
              obtain ⟨p, hp, rfl, H6⟩ := hrel
              by_cases hp3 : p < 3
              · obtain ⟨v, hv, hlv, cv⟩ := H6.out.get p hp3
                have cx : wr.cell? ⟨w.heap.size, n, none⟩ = some (.float .f64 x) := H6.out.at HX.out
                have cz : wr.cell? ⟨w.heap.size, m, none⟩ = some (.float .f64 z) := H6.out.at HZ.out
                have hc := cmp_any z v HLZ.out hlv
                have hd := cmp_any x v HLX.out hlv
                clear hv hlv
                rcases cmp_pass v (Int.le_of_eq HT.out) with e | ⟨e | e, f | f⟩
                · rw [e] at hc
                  clear e
                  go_wp2_with fail
                  go_quiet (first | (go_at_call 24; with_reducible exact Calls.quiet_of_same (hc _)) | (go_at_call 24; with_reducible exact Calls.quiet_of_same (hd _)))
                  have H7 : Hid (Row3 w.heap.size L w0 (wr.drewN nq)) := H6.out.next (below_drewN (Below.refl _ _) nq)
                  clear cx cz cv H6 hc hd
                  generalize wr.drewN nq = wq at *
                  go_wp2_with fail
                  go_roundw
                  case rel => exact ⟨p + 1, by omega, by go_num, H7.out⟩
                  case measure => simp [intOf]; omega
                · rw [e] at hc
                  rw [f] at hd
                  clear e f
                  go_wp2_with fail
                  go_quiet (first | (go_at_call 24; with_reducible exact Calls.quiet_of_same (hc _)) | (go_at_call 24; with_reducible exact Calls.quiet_of_same (hd _)))
                  have H7 : Hid (Row3 w.heap.size L w0 (wr.drewN nq)) := H6.out.next (below_drewN (Below.refl _ _) nq)
                  clear cx cz cv H6 hc hd
                  generalize wr.drewN nq = wq at *
                  go_wp2_with fail
                  go_roundw
                  case rel => exact ⟨p + 1, by omega, by go_num, H7.out⟩
                  case measure => simp [intOf]; omega
                · rw [e] at hc
                  rw [f] at hd
                  clear e f
                  go_wp2_with fail
                  go_quiet (first | (go_at_call 24; with_reducible exact Calls.quiet_of_same (hc _)) | (go_at_call 24; with_reducible exact Calls.quiet_of_same (hd _)))
                  have H7 : Hid (Row3 w.heap.size L w0 (wr.drewN nq)) := H6.out.next (below_drewN (Below.refl _ _) nq)
                  clear cx cz cv H6 hc hd
                  generalize wr.drewN nq = wq at *
                  go_wp2_with fail
                  go_roundw
                  case rel => exact ⟨p + 1, by omega, by go_num, H7.out⟩
                  case measure => simp [intOf]; omega
                · rw [e] at hc
                  rw [f] at hd
                  clear e f
                  go_wp2_with fail
                  go_quiet (first | (go_at_call 24; with_reducible exact Calls.quiet_of_same (hc _)) | (go_at_call 24; with_reducible exact Calls.quiet_of_same (hd _)))
                  have H7 : Hid (Row3 w.heap.size L w0 (wr.drewN nq)) := H6.out.next (below_drewN (Below.refl _ _) nq)
                  clear cx cz cv H6 hc hd
                  generalize wr.drewN nq = wq at *
                  go_wp2_with fail
                  go_roundw
                  case rel => exact ⟨p + 1, by omega, by go_num, H7.out⟩
                  case measure => simp [intOf]; omega
                · rw [e] at hc
                  rw [f] at hd
                  clear e f
                  go_wp2_with fail
                  go_quiet (first | (go_at_call 24; with_reducible exact Calls.quiet_of_same (hc _)) | (go_at_call 24; with_reducible exact Calls.quiet_of_same (hd _)))
                  have H7 : Hid (Row3 w.heap.size L w0 (wr.drewN nq)) := H6.out.next (below_drewN (Below.refl _ _) nq)
                  clear cx cz cv H6 hc hd
                  generalize wr.drewN nq = wq at *
                  go_wp2_with fail
                  go_roundw
                  case rel => exact ⟨p + 1, by omega, by go_num, H7.out⟩
                  case measure => simp [intOf]; omega
              · go_wp2
                go_roundw
                case rel => exact ⟨m + 1, by omega, by go_num, H6.out⟩
                case measure => simp [intOf]; omega
          · have HT := Lib.hid e4
            rw [e1] at hc hr
            rw [e2] at hd
            rw [e3] at hs
            clear e1 e2 e3 e4
            go_wp2_with fail
            go_quiet ((go_at_call 24; exact Calls.quiet_of_same (hc _)))
            have H4 : Hid (Row3 w.heap.size L w0 (wr.drewN nq)) := H3.out.next (below_drewN (Below.refl _ _) nq)
            have cx4 : (wr.drewN nq).cell? ⟨w.heap.size, n, none⟩ = some (.float .f64 x) := cx
            have cz4 : (wr.drewN nq).cell? ⟨w.heap.size, m, none⟩ = some (.float .f64 z) := cz
            clear cx cz H3
            generalize wr.drewN nq = wq at *
            go_wp2_with fail
            go_quiet (first | (go_at_call 25; exact Calls.quiet_of_same (hr _)) | (go_at_call 24; exact Calls.quiet_of_same (hd _)) | (go_at_call 11; exact Calls.quiet_of_same (hs _)))
            have H5 : Hid (Row3 w.heap.size L w0 (wq.drewN nq)) := H4.out.next (below_drewN (Below.refl _ _) nq)
            clear cx4 cz4 H4 hc hr hd hs
            generalize wq.drewN nq = wp at *
            go_wp2_with fail
            go_loopw [6] (fun k wi => ∃ p : Nat, p ≤ 3 ∧ k = .int .i64 p ∧ Hid (Row3 w.heap.size L w0 wi)) (fun k _ => 3 - (intOf k).toNat)
            case atStart => exact ⟨0, by omega, rfl, H5.out⟩
            case round =>
              clear H5
              obtain ⟨p, hp, rfl, H6⟩ := hrel
              by_cases hp3 : p < 3
              · obtain ⟨v, hv, hlv, cv⟩ := H6.out.get p hp3
                have cx : wr.cell? ⟨w.heap.size, n, none⟩ = some (.float .f64 x) := H6.out.at HX.out
                have cz : wr.cell? ⟨w.heap.size, m, none⟩ = some (.float .f64 z) := H6.out.at HZ.out
                have hc := cmp_any z v HLZ.out hlv
                have hd := cmp_any x v HLX.out hlv
                clear hv hlv
                go_wp2_with fail
                go_quiet (first | (go_at_call 24; with_reducible exact Calls.quiet_of_same (hc _)) | (go_at_call 24; with_reducible exact Calls.quiet_of_same (hd _)))
                have H7 : Hid (Row3 w.heap.size L w0 (wr.drewN nq)) := H6.out.next (below_drewN (Below.refl _ _) nq)
                clear cx cz cv H6 hc hd
                generalize wr.drewN nq = wq at *
                go_wp2_with fail
                go_roundw
                case rel => exact ⟨p + 1, by omega, by go_num, H7.out⟩
                case measure => simp [intOf]; omega
              · go_wp2
                go_roundw
                case rel => exact ⟨m + 1, by omega, by go_num, H6.out⟩
                case measure => simp [intOf]; omega
        · go_wp2
          go_roundw
          case rel => exact ⟨n + 1, by omega, by go_num, H3.out⟩
          case measure => simp [intOf]; omega
    · go_wp2
      go_ret
      exact ⟨rfl, HB.out.trans (H1.out.1.mono (Nat.le_succ _))⟩

set_option maxRecDepth 100000 in
theorem lifted (os : Os) (started : os.Started) (H : Type) (enc : TypeId × Value → H) :
    ReturnsInHanded {} Try.checked os 7 .any (Rows.edgeOrderSpec.pre6 enc Try.prog Try.f7 Rows.edgeOrderRow.domain false) (Rows.edgeOrderSpec.post enc Try.prog Try.f7 false true false false) := by
  refine returnsInHanded_of_change (C := Try.checked) own started (by kernel_rfl) Try.func7
    (ChangeSpec.witness6 (enc := enc) (C := Try.checked) false ⟨#[], #[.agg #[.float .f64 0, .float .f64 0, .float .f64 0]], []⟩ 8 (by kernel_rfl) (by kernel_rfl) (by kernel_rfl) (by kernel_rfl)) ?_
  intro W base args ds gs before hval0 hW hcnd _
  have hval : ∀ (j : Nat) t v, Try.f7.params[j]? = some t → args[j]? = some v → Value.okWide Try.prog W .any base t v := hval0
  have hW' := hW
  obtain ⟨p, q, hA0, hV, rfl, hfz, hnd⟩ := hW
  have hA : DataW.TrodAll enc Try.prog W 0 (fun _ => true) true Try.f7.params.toList args.toList ds p := hA0
  rw [Try.params7] at hA hval
  obtain ⟨v0, vs0, d0, ds0, p0, q0, hargs, rfl, rfl, h0, r0⟩ := trodAll_cons hA
  obtain ⟨rfl, rfl, rfl⟩ := trodAll_nil r0
  obtain rfl : args = #[v0] := by cases args; simp_all
  obtain ⟨rfl, rfl⟩ := trodVars_none hV
  have k0 := h0
  have lt0 : ∀ x ∈ p0, x.block < W.heap.size := by obtain ⟨m, hm⟩ := k0; exact DataW.trod_lt m _ _ _ hm
  obtain ⟨cs, rfl, hsz, _⟩ : ∃ cs, v0 = .agg cs ∧ cs.size = Try.prog.cellsOf 44 ∧ Row.okWide Try.prog W .any base 44 cs := by
    have := hval 0 44 v0 rfl rfl
    simpa [Value.okWide, Try.underlying44] using this
  obtain ⟨x0, x1, x2, hx, hcs⟩ := open_arr3 hsz h0
  obtain rfl : cs = #[.float .f64 x0, .float .f64 x1, .float .f64 x2] := Value.agg.inj hcs
  clear hA0 hval0
  refine (walk x0 x1 x2 W hx).mono fun e W' ⟨he, bel⟩ => ?_
  subst he
  exact ⟨_, rfl, _, _, _, [], _, [], hW', trodAll_mk1 (shut_bool Try.underlying4 _), (trodAll_cons_mk (Below.trod laidOut (by kernel_rfl) (of_decide_eq_true (by kernel_rfl)) k0 bel lt0) trodAll_mk0), rfl, bel.frame _, fun h => by cases h⟩

theorem over : Rows.edgeOrderRow.holds Try.pinned (OpenSpec.ofChange Rows.edgeOrderSpec) :=
  OpenClaim.holds_of_wide 7 Try.f7 rfl rfl rfl rfl rfl rfl rfl ⟨rfl, rfl, rfl, rfl, rfl⟩ rfl rfl rfl rfl rfl (by kernel_rfl) Try.func7 (by kernel_rfl)
    (of_decide_eq_true (by kernel_rfl)) (by unfold Func.isWrapper; first | (rw [if_pos (by decide +kernel)]; kernel_rfl) | (rw [if_neg (by decide +kernel)]; exact ⟨rfl, rfl⟩))
    (fun os started H enc _ => lifted os started H enc)
end Go.Proofs.Ytdofdchckdchfaa.edgeOrder
namespace Go.Proofs.Ytdofdchckdchfaa
theorem edgeOrder_holds : Rows.EdgeOrderSaid := edgeOrder.over
#print axioms edgeOrder_holds
end Go.Proofs.Ytdofdchckdchfaa
