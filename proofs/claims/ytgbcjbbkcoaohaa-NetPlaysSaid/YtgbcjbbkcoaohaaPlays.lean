/- Of any row of deeds NetPlays returns true; no condition. -/
import Derived.Test.YtgbcjbbkcoaohaaRows
import Derived.WalkKit
import Derived.ProofKit
import Derived.OpenShut
import Derived.ShutString
import Derived.ChangeOld
import Derived.Below
import Derived.Laws.Cover2
import Derived.Deep.RegionWith
import Derived.Deep.RegionHeld3
import Derived.BigQuiet
import Derived.Deep.QuietTactic
import Derived.Test.YtgbcjbbkcoaohaaBoth
import Derived.Test.YtgbcjbbkcoaohaaDeed
namespace Go.Proofs.Ytgbcjbbkcoaohaa.netPlays
open Go.ChangeShapes Go.WideShapes Go.ChangeAt Go.RowKit
open Go.ChangeMaps (open_string shut_string)
set_option linter.unusedVariables false

theorem own : ownKnob Try.prog.godebug = none := by kernel_rfl
theorem laidOut : laidOutB Try.prog = true := by kernel_rfl
theorem Deeds.below {w w' : World} {a : Option Addr} {len : Nat} {ds : List Deed} (h : Deeds w a len ds) (hb : Below w.heap.size w w') : Deeds w' a len ds := by
  obtain ⟨h1, h2, h3, h4⟩ := h
  refine ⟨h1, fun d hd => ⟨((h2 d hd).1.below hb).mono hb.size, (h2 d hd).2⟩, h3, ?_⟩
  rcases h4 with h0 | ⟨b, off, e, hlt, hc⟩
  · exact .inl h0
  · exact .inr ⟨b, off, e, Nat.lt_of_lt_of_le hlt hb.size, fun j d hj t v hv => (hb.cell (p := ⟨b, off + j * 6 + t, none⟩) hlt).trans (hc j d hj t v hv)⟩
/-- how many wait, as it stands in memory. -/
def waits (w : World) (q : Nat) : Nat := match w.cell? ⟨q, 0, none⟩ with | some (.slice _ n _) => n | _ => 0
theorem waits_eq {B : Nat} {w0 w : World} {q r : Nat} {S T : Words} {G : List (Nat × List Value)} (h : BothG B w0 w q r S T G) : waits w q = S.length := by
  obtain ⟨bs, cs, ⟨v, L, hq, _, rfl⟩, _⟩ := h
  obtain ⟨ao, c, rfl⟩ := hq.form
  unfold waits
  rw [hq.cel, List.length_map]
theorem takeS_len {S : Words} (h : 0 < S.length) : inB 0 S.length = true ∧ (takeS S 0).length + 1 = S.length := by
  have e : inB 0 S.length = true := decide_eq_true (by omega)
  refine ⟨e, ?_⟩
  unfold takeS
  rw [if_pos e, List.length_eraseIdx, if_pos (by simpa using h)]
  omega

set_option maxRecDepth 1000000 in
set_option maxHeartbeats 8000000 in
theorem walk (a0 : Option Addr) (len0 cap0 : Nat) (ds : List Deed) (w : World) (hd : Deeds w a0 len0 ds) :
    Calls Try.prog 5 #[.slice a0 len0 cap0] w fun e w' => e = .returned (.bool true) ∧ Below w.heap.size w w' := by
  have HDD := Lib.hid hd
  obtain ⟨hl, hok, hbig, hcase⟩ := hd
  obtain ⟨b, off, ha, hblt, hc⟩ : ∃ b off, (0 < len0 → a0 = some ⟨b, off, none⟩) ∧ (0 < len0 → b < w.heap.size) ∧ ∀ (j : Nat) (d : Deed), ds[j]? = some d → ∀ (t : Nat) (v : Value), (cellsD d)[t]? = some v → w.cell? ⟨b, off + j * 6 + t, none⟩ = some v := by
    rcases hcase with h0 | ⟨b, off, h1, h2, h3⟩
    · refine ⟨0, 0, fun h => (by omega), fun h => (by omega), fun j d hj => ?_⟩
      have := (List.getElem?_eq_some_iff.1 hj).1
      omega
    · exact ⟨b, off, fun _ => h1, fun _ => h2, h3⟩
  have HA := Lib.hid ha
  have HBL := Lib.hid hblt
  have HC := Lib.hid hc
  have HL := Lib.hid hl
  have HOK := Lib.hid hok
  clear ha hc hl hok hcase hblt
  obtain ⟨B, hB⟩ : ∃ B, B = w.heap.size := ⟨_, rfl⟩
  have HBB := Lib.hid hB
  clear hB
  go_enter Try.func5, Try.ntmps5
  go_wp2_with fail
  refine (awake_any _).mono ?_
  rintro e w1 ⟨rfl, hw1⟩
  have B1 := Lib.hid hw1
  clear hw1
  go_wp2_with fail
  refine (room_any _ _ _ ds _ (Deeds.below HDD.out B1.out)).mono ?_
  rintro e w2 ⟨bb, rfl, hb, rfl⟩
  cases bb
  · go_wp2_with fail
    go_ret
    exact ⟨rfl, B1.out⟩
  · replace hb := hb rfl
    go_wp2_with (first | (go_at_call 8; refine (new_any _ w.heap.size B1.out.size).mono ?_; rintro e w3 ⟨rfl, hq, hw3⟩; have HQ := Lib.hid hq; have B3 := Lib.hid (B1.out.trans (hw3.mono B1.out.size)); clear hq hw3) | fail)
    have H0 := Lib.hid (both_begin (r := w3.heap.size) HQ.out rfl B3.out rfl)
    clear HQ B3 B1
    go_loopw [5] (fun i wr => ∃ k : Nat, k ≤ len0 ∧ i = .int .i64 k ∧ Hid (∃ S, BothG w.heap.size w wr w2.heap.size w3.heap.size S S [])) (fun i _ => len0 - (intOf i).toNat)
    case atStart => exact ⟨0, Nat.zero_le _, rfl, ⟨[], H0.out⟩⟩
    case round =>
      clear H0
      obtain ⟨k, hk, rfl, HS⟩ := hrel
      by_cases hlt : k < len0
      · obtain ⟨S, hS⟩ := HS.out
        clear HS
        obtain rfl := HA.out (by omega)
        have hbl := HBL.out (by omega)
        obtain ⟨d, hd⟩ : ∃ d, ds[k]? = some d := ⟨_, List.getElem?_eq_getElem (by have := HL.out; omega)⟩
        have hcd := fun t v hv => (hS.below.cell (p := ⟨b, off + k * 6 + t, none⟩) hbl).trans (HC.out k d hd t v hv)
        have hdok := HOK.out d (List.mem_of_getElem? hd)
        obtain ⟨op, kind, ix, spot, ao, m, c, bytes, mask⟩ := d
        have x0 := hcd 0 _ rfl
        have x1 := hcd 1 _ rfl
        have x2 := hcd 2 _ rfl
        have x3 := hcd 3 _ rfl
        have x4 := hcd 4 _ rfl
        have x5 := hcd 5 _ rfl
        have HS := Lib.hid hS
        have HSL := Lib.hid hdok.1
        have HNO := Lib.hid hdok.2.1
        have HMX := Lib.hid hdok.2.2
        rw [Nat.add_zero] at x0
        clear hcd hdok hd hS
        have HP : Hid (BothG w.heap.size w (wr.alloc (.cells #[.int .i64 op, .int .i64 kind, .int .i64 ix, .int .i64 spot, .slice ao m c, .int .u8 (mask.toNat : Int)] 43)) w2.heap.size w3.heap.size S S [(wr.heap.size, [.int .i64 op, .int .i64 kind, .int .i64 ix, .int .i64 spot, .slice ao m c, .int .u8 (mask.toNat : Int)])]) :=
          HS.out.put ((Below.refl _ _).alloc (Nat.le_refl _) _) wr.heap.size (Nat.le_refl _) (by simp) [.int .i64 op, .int .i64 kind, .int .i64 ix, .int .i64 spot, .slice ao m c, .int .u8 (mask.toNat : Int)] (fun j v hv => by rw [cell_of_row _ _ _ _ _ _ (heap_alloc_new _ _)]; simpa using hv)
        clear HS
        by_cases o0 : op = 0
        · subst o0
          go_wp2_with fail
          go_region_held3 (fun w' => w'.cell? ⟨wr.heap.size, 1, none⟩ = some (.int .i64 kind) ∧ w'.cell? ⟨wr.heap.size, 4, none⟩ = some (.slice ao m c)) (first | exact ⟨H5.out.cell (j := 1) rfl, H5.out.cell (j := 4) rfl⟩ | exact ⟨H4.out.cell (j := 1) rfl, H4.out.cell (j := 4) rfl⟩ | exact ⟨HP.out.drew.cell (j := 1) rfl, HP.out.drew.cell (j := 4) rfl⟩ | fail) (first | (go_at_call 9; with_reducible refine (send_bN HP.out.drew kind ao m c bytes HSL.out HNO.out HMX.out).mono ?_; rintro e w4 ⟨rfl, h4⟩; have H4 := Lib.hid h4; clear h4) | (go_at_call 15; with_reducible refine (send_bR H4.out kind ao m c bytes HSL.out HNO.out HMX.out).mono ?_; rintro e w5 ⟨rfl, h5⟩; have H5 := Lib.hid h5; clear h5) | fail)
          generalize sendS S kind bytes = S' at *
          have HZ := Lib.hid H5.out.few
          obtain ⟨ab, cb, hrow⟩ := H5.out.row
          have hlen := fun n => len_b (H5.out.drewN n) _ rfl
          go_wp2_with fail
          go_quiet ((go_at_call 11; exact Calls.quiet_of_same (hlen _)))
          clear hlen hrow
          go_wp2_with fail
          go_roundw
          case rel => exact ⟨k + 1, by omega, by go_num, ⟨_, (H5.out.drewN nq).rest⟩⟩
          case measure => simp [intOf]; omega
        by_cases o1 : op = 1
        · subst o1
          go_wp2_with fail
          go_region_held3 (fun w' => w'.cell? ⟨wr.heap.size, 1, none⟩ = some (.int .i64 kind) ∧ w'.cell? ⟨wr.heap.size, 4, none⟩ = some (.slice ao m c)) (first | exact ⟨H5.out.cell (j := 1) rfl, H5.out.cell (j := 4) rfl⟩ | exact ⟨H4.out.cell (j := 1) rfl, H4.out.cell (j := 4) rfl⟩ | exact ⟨HP.out.drew.cell (j := 1) rfl, HP.out.drew.cell (j := 4) rfl⟩ | fail) (first | (go_at_call 9; with_reducible refine (send_bN HP.out.drew kind ao m c bytes HSL.out HNO.out HMX.out).mono ?_; rintro e w4 ⟨rfl, h4⟩; have H4 := Lib.hid h4; clear h4) | (go_at_call 15; with_reducible refine (send_bR H4.out kind ao m c bytes HSL.out HNO.out HMX.out).mono ?_; rintro e w5 ⟨rfl, h5⟩; have H5 := Lib.hid h5; clear h5) | fail)
          generalize sendS S kind bytes = S' at *
          have HZ := Lib.hid H5.out.few
          obtain ⟨ab, cb, hrow⟩ := H5.out.row
          have hlen := fun n => len_b (H5.out.drewN n) _ rfl
          go_wp2_with fail
          go_quiet ((go_at_call 11; exact Calls.quiet_of_same (hlen _)))
          clear hlen hrow
          go_wp2_with fail
          go_roundw
          case rel => exact ⟨k + 1, by omega, by go_num, ⟨_, (H5.out.drewN nq).rest⟩⟩
          case measure => simp [intOf]; omega
        by_cases o2 : op = 2
        · subst o2
          go_wp2_with fail
          go_region_held3 (fun w' => w'.cell? ⟨wr.heap.size, 1, none⟩ = some (.int .i64 kind) ∧ w'.cell? ⟨wr.heap.size, 4, none⟩ = some (.slice ao m c)) (first | exact ⟨H5.out.cell (j := 1) rfl, H5.out.cell (j := 4) rfl⟩ | exact ⟨H4.out.cell (j := 1) rfl, H4.out.cell (j := 4) rfl⟩ | exact ⟨HP.out.drew.cell (j := 1) rfl, HP.out.drew.cell (j := 4) rfl⟩ | fail) (first | (go_at_call 9; with_reducible refine (send_bN HP.out.drew kind ao m c bytes HSL.out HNO.out HMX.out).mono ?_; rintro e w4 ⟨rfl, h4⟩; have H4 := Lib.hid h4; clear h4) | (go_at_call 15; with_reducible refine (send_bR H4.out kind ao m c bytes HSL.out HNO.out HMX.out).mono ?_; rintro e w5 ⟨rfl, h5⟩; have H5 := Lib.hid h5; clear h5) | fail)
          generalize sendS S kind bytes = S' at *
          have HZ := Lib.hid H5.out.few
          obtain ⟨ab, cb, hrow⟩ := H5.out.row
          have hlen := fun n => len_b (H5.out.drewN n) _ rfl
          go_wp2_with fail
          go_quiet ((go_at_call 11; exact Calls.quiet_of_same (hlen _)))
          clear hlen hrow
          go_wp2_with fail
          go_roundw
          case rel => exact ⟨k + 1, by omega, by go_num, ⟨_, (H5.out.drewN nq).rest⟩⟩
          case measure => simp [intOf]; omega
        by_cases o3 : op = 3
        · subst o3
          go_wp2_with fail
          refine (take_bN HP.out ix).mono ?_
          rintro e w4 ⟨ay, cy, rfl, h4, ho⟩
          have y2 : w4.cell? ⟨wr.heap.size, 2, none⟩ = some (.int .i64 ix) := h4.cell (j := 2) rfl
          have H4 := Lib.hid h4
          have HO := Lib.hid ho
          clear h4 ho
          go_wp2_with fail
          refine (take_bR H4.out ix _ ay cy HO.out).mono ?_
          rintro e w5 ⟨az, cz, rfl, h5, s1, s2⟩
          have q1 := conv_sl s1 cy
          have q2 := conv_sl s2 cz
          have H5 := Lib.hid h5
          clear h5 s1 s2 y2
          generalize takeS S ix = S' at *
          generalize inB ix S.length = bI at *
          have HZ := Lib.hid H5.out.few
          obtain ⟨ab, cb, hrow⟩ := H5.out.row
          have hlen := fun n => len_b (H5.out.drewN n) _ rfl
          go_wp2_with fail
          go_quiet ((go_at_call 11; exact Calls.quiet_of_same (hlen _)))
          clear hlen hrow
          go_wp2_with fail
          go_roundw
          case rel => exact ⟨k + 1, by omega, by go_num, ⟨_, (H5.out.drewN nq).rest⟩⟩
          case measure => simp [intOf]; omega
        by_cases o4 : op = 4
        · subst o4
          go_wp2_with fail
          refine (take_bR0 HP.out ix).mono ?_
          rintro e w4 ⟨az, cz, rfl, h4⟩
          have y2 : w4.cell? ⟨wr.heap.size, 2, none⟩ = some (.int .i64 ix) := h4.cell (j := 2) rfl
          have H4 := Lib.hid h4
          clear h4
          go_wp2_with fail
          refine (drop_bN H4.out ix).mono ?_
          rintro e w5 ⟨rfl, h5⟩
          have H5 := Lib.hid h5
          clear h5 y2
          generalize takeS S ix = S' at *
          generalize inB ix S.length = bI at *
          have HZ := Lib.hid H5.out.few
          obtain ⟨ab, cb, hrow⟩ := H5.out.row
          have hlen := fun n => len_b (H5.out.drewN n) _ rfl
          go_wp2_with fail
          go_quiet ((go_at_call 11; exact Calls.quiet_of_same (hlen _)))
          clear hlen hrow
          go_wp2_with fail
          go_roundw
          case rel => exact ⟨k + 1, by omega, by go_num, ⟨_, (H5.out.drewN nq).rest⟩⟩
          case measure => simp [intOf]; omega
        by_cases o5 : op = 5
        · subst o5
          go_wp2_with fail
          go_region_held3 (fun w' => w'.cell? ⟨wr.heap.size, 2, none⟩ = some (.int .i64 ix)) (first | exact H5.out.cell (j := 2) rfl | exact H4.out.cell (j := 2) rfl | exact HP.out.drew.cell (j := 2) rfl | fail) (first | (go_at_call 12; with_reducible refine (copy_bN HP.out.drew ix).mono ?_; rintro e w4 ⟨rfl, h4⟩; have H4 := Lib.hid h4; clear h4) | (go_at_call 17; with_reducible refine (again_bR H4.out ix).mono ?_; rintro e w5 ⟨rfl, h5⟩; have H5 := Lib.hid h5; clear h5) | fail)
          generalize againS S ix = S' at *
          have HZ := Lib.hid H5.out.few
          obtain ⟨ab, cb, hrow⟩ := H5.out.row
          have hlen := fun n => len_b (H5.out.drewN n) _ rfl
          go_wp2_with fail
          go_quiet ((go_at_call 11; exact Calls.quiet_of_same (hlen _)))
          clear hlen hrow
          go_wp2_with fail
          go_roundw
          case rel => exact ⟨k + 1, by omega, by go_num, ⟨_, (H5.out.drewN nq).rest⟩⟩
          case measure => simp [intOf]; omega
        by_cases o6 : op = 6
        · subst o6
          go_wp2_with fail
          go_region_held3 (fun w' => w'.cell? ⟨wr.heap.size, 2, none⟩ = some (.int .i64 ix) ∧ w'.cell? ⟨wr.heap.size, 3, none⟩ = some (.int .i64 spot) ∧ w'.cell? ⟨wr.heap.size, 5, none⟩ = some (.int .u8 (mask.toNat : Int))) (first | exact ⟨H5.out.cell (j := 2) rfl, H5.out.cell (j := 3) rfl, H5.out.cell (j := 5) rfl⟩ | exact ⟨H4.out.cell (j := 2) rfl, H4.out.cell (j := 3) rfl, H4.out.cell (j := 5) rfl⟩ | exact ⟨HP.out.drew.cell (j := 2) rfl, HP.out.drew.cell (j := 3) rfl, HP.out.drew.cell (j := 5) rfl⟩ | fail) (first | (go_at_call 18; with_reducible refine (bend_bN HP.out.drew ix spot mask _ rfl).mono ?_; rintro e w4 ⟨rfl, h4⟩; have H4 := Lib.hid h4; clear h4) | (go_at_call 19; with_reducible refine (bend_bR H4.out ix spot mask _ rfl).mono ?_; rintro e w5 ⟨rfl, h5⟩; have H5 := Lib.hid h5; clear h5) | fail)
          generalize bendS S ix spot mask = S' at *
          have HZ := Lib.hid H5.out.few
          obtain ⟨ab, cb, hrow⟩ := H5.out.row
          have hlen := fun n => len_b (H5.out.drewN n) _ rfl
          go_wp2_with fail
          go_quiet ((go_at_call 11; exact Calls.quiet_of_same (hlen _)))
          clear hlen hrow
          go_wp2_with fail
          go_roundw
          case rel => exact ⟨k + 1, by omega, by go_num, ⟨_, (H5.out.drewN nq).rest⟩⟩
          case measure => simp [intOf]; omega
        have HZ := Lib.hid HP.out.few
        obtain ⟨ab, cb, hrow⟩ := HP.out.row
        have hlen := fun n => len_b (HP.out.drewN n) _ rfl
        go_wp2_with fail
        go_quiet ((go_at_call 11; exact Calls.quiet_of_same (hlen _)))
        clear hlen hrow
        go_wp2_with fail
        go_roundw
        case rel => exact ⟨k + 1, by omega, by go_num, ⟨_, (HP.out.drewN nq).rest⟩⟩
        case measure => simp [intOf]; omega
      · have hge : len0 ≤ k := by omega
        clear HA HBL HC HOK HL HDD
        go_wp2_with fail
        go_loopw [17] (fun _ wr => Hid (∃ S, BothG w.heap.size w wr w2.heap.size w3.heap.size S S [])) (fun _ wr => waits wr w2.heap.size)
        case atStart => exact HS.out
        case round =>
          clear HS
          obtain ⟨S, hS⟩ := hrel.out
          have H5 := Lib.hid hS
          clear hrel hS
          have hfew := H5.out.few
          by_cases h0 : 0 < S.length
          · obtain ⟨t1, t2⟩ := takeS_len h0
            have HT := Lib.hid t2
            obtain ⟨z, hz⟩ : ∃ z : Int, (S.length : Int) = z := ⟨_, rfl⟩
            have hz1 : 1 ≤ z := by omega
            have hz2 : z ≤ 32 := by omega
            have hz3 : ((takeS S 0).length : Int) = z - 1 := by omega
            have HZ1 := Lib.hid hz
            have HZ3 := Lib.hid hz3
            clear t2 hz hz3 h0 hfew
            go_wp2_with fail
            refine (len_b H5.out z HZ1.out).mono ?_
            rintro e w6 ⟨rfl, rfl⟩
            go_wp2_with fail
            refine (len_b H5.out z HZ1.out).mono ?_
            rintro e w6 ⟨rfl, rfl⟩
            go_wp2_with fail
            refine (take_bN H5.out 0).mono ?_
            rintro e w4 ⟨ay, cy, rfl, h4, ho⟩
            have H4 := Lib.hid h4
            have HO := Lib.hid ho
            clear h4 ho
            go_wp2_with fail
            refine (take_bR H4.out 0 _ ay cy HO.out).mono ?_
            rintro e w5 ⟨az, cz, rfl, h5, s1, s2⟩
            have q1 := conv_sl s1 cy
            have q2 := conv_sl s2 cz
            have H6 := Lib.hid h5
            clear h5 s1 s2
            rw [t1]
            go_wp2_with fail
            refine (len_b H6.out (z - 1) HZ3.out).mono ?_
            rintro e w7 ⟨rfl, rfl⟩
            go_wp2_with fail
            go_roundw
            case rel => exact ⟨_, H6.out⟩
            case measure =>
              rw [waits_eq H6.out, waits_eq H5.out]
              have := HT.out
              omega
          · have h1 : S = [] := List.length_eq_zero_iff.1 (by omega)
            subst h1
            obtain ⟨ab, cb, hrow⟩ := H5.out.row
            go_wp2_with fail
            refine (len_b H5.out 0 rfl).mono ?_
            rintro e w6 ⟨rfl, rfl⟩
            go_wp2_with fail
            go_ret
            exact ⟨rfl, H5.out.below⟩

set_option maxRecDepth 100000 in
theorem lifted (os : Os) (started : os.Started) (H : Type) (enc : TypeId × Value → H) :
    ReturnsInHanded {} Try.checked os 5 .any (Rows.netPlaysSpec.pre6 enc Try.prog Try.f5 Rows.netPlaysRow.domain false) (Rows.netPlaysSpec.post enc Try.prog Try.f5 false true false false) := by
  refine returnsInHanded_of_change (C := Try.checked) own started (by kernel_rfl) Try.func5
    (ChangeSpec.witness6 (enc := enc) (C := Try.checked) false ⟨#[], #[.slice none 0 0], []⟩ 8 (by kernel_rfl) (by kernel_rfl) (by kernel_rfl) (by kernel_rfl)) ?_
  intro W base args ds gs before hval0 hW hcnd _
  have hval : ∀ (j : Nat) t v, Try.f5.params[j]? = some t → args[j]? = some v → Value.okWide Try.prog W .any base t v := hval0
  have hW' := hW
  obtain ⟨p, q, hA0, hV, rfl, hfz, hnd⟩ := hW
  have hA : DataW.TrodAll enc Try.prog W 0 (fun _ => true) true Try.f5.params.toList args.toList ds p := hA0
  rw [Try.params5] at hA hval
  obtain ⟨v0, vs0, d0, ds0, p0, q0, hargs, rfl, rfl, h0, r0⟩ := trodAll_cons hA
  obtain ⟨rfl, rfl, rfl⟩ := trodAll_nil r0
  obtain rfl : args = #[v0] := by cases args; simp_all
  obtain ⟨rfl, rfl⟩ := trodVars_none hV
  have k0 := h0
  have lt0 : ∀ x ∈ p0, x.block < W.heap.size := by obtain ⟨m, hm⟩ := k0; exact DataW.trod_lt m _ _ _ hm
  obtain ⟨a0, len0, cap0, rfl⟩ := okWide_slice Try.underlying36 (hval 0 36 v0 rfl rfl)
  obtain ⟨ds, hd⟩ := open_deeds h0
  clear hA0 hval0
  refine (walk a0 len0 cap0 ds W hd).mono fun e W' ⟨he, bel⟩ => ?_
  subst he
  exact ⟨_, rfl, _, _, _, [], _, [], hW', trodAll_mk1 (shut_bool Try.underlying4 _), (trodAll_cons_mk (Below.trod laidOut (by kernel_rfl) (of_decide_eq_true (by kernel_rfl)) k0 bel lt0) trodAll_mk0), rfl, bel.frame _, fun h => by cases h⟩

theorem over : Rows.netPlaysRow.holds Try.pinned (OpenSpec.ofChange Rows.netPlaysSpec) :=
  OpenClaim.holds_of_wide 5 Try.f5 rfl rfl rfl rfl rfl rfl rfl ⟨rfl, rfl, rfl, rfl, rfl⟩ rfl rfl rfl rfl rfl (by kernel_rfl) Try.func5 (by kernel_rfl)
    (of_decide_eq_true (by kernel_rfl)) (by unfold Func.isWrapper; first | (rw [if_pos (by decide +kernel)]; kernel_rfl) | (rw [if_neg (by decide +kernel)]; exact ⟨rfl, rfl⟩))
    (fun os started H enc _ => lifted os started H enc)
end Go.Proofs.Ytgbcjbbkcoaohaa.netPlays
namespace Go.Proofs.Ytgbcjbbkcoaohaa
theorem netPlays_holds : Rows.NetPlaysSaid := netPlays.over
#print axioms netPlays_holds
end Go.Proofs.Ytgbcjbbkcoaohaa
