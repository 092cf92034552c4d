/- The contracts of net as the statements use them; text made of a slice; the statements' awake. -/
import Derived.Test.YtgbcjbbkcoaohaaBend
import Derived.Laws.IdiomStrings
import Derived.Lib.BufferRead
namespace Go.Proofs.Ytgbcjbbkcoaohaa
open Go.RowKit
set_option linter.unusedVariables false

theorem conv_sl {B : Nat} {w : World} {ao : Option Addr} {m : Nat} {bs : List UInt8} (hp : Sl B w 1 ao m (encs bs)) (c : Nat) : (convert 23 9 (.slice ao m c)).run Try.prog w = .ok (.string ⟨bs.toArray⟩) w := by
  have hl : bs.length = m := by have := hp.len; simpa [encs] using this
  cases ao with
  | none =>
    have h0 := hp.non rfl
    subst h0
    have : bs = [] := List.length_eq_zero_iff.1 hl
    subst this
    exact Lib.run_convert_nil_bytes w 23 9 5 c Try.underlying23 Try.underlying5 Try.underlying9
  | some ad =>
    subst hl
    refine run_convert_bytes_back w 23 9 5 ad c bs Try.underlying23 Try.underlying5 Try.underlying9 fun j hj => ?_
    refine hp.cel ad rfl j _ ?_
    simp [encs, encB, hj]

theorem sl_lit (w : World) (t : TypeId) (cs : List Value) (bs : List UInt8) (h : cs = encs bs) (n : Nat) (hn : n = bs.length) : Sl (w.heap.size + 1) (w.alloc (.cells cs.toArray t)) 1 (some ⟨w.heap.size, 0, none⟩) n (encs bs) := by
  subst h hn
  exact ⟨by simp [encs], (fun ha => by cases ha), (fun ad ha _ => by injection ha with ha; subst ha; exact Nat.lt_succ_self _),
    (fun ad ha => by injection ha with ha; subst ha; exact World.news_of_block (cs := (encs bs).toArray) (t := t) (fr := (0, 0)) (heap_alloc_new w _))⟩

def TookM (B : Nat) (w : World) (q : Nat) (v : Value) (L : List Msg) (i : Nat) (k : Int) (bs : List UInt8) (y : Value) (e : Ending) (w' : World) : Prop :=
  e = .returned (.tuple #[.int .i64 k, y, .bool true]) ∧ ∃ v', Que B w' q v' (L.eraseIdx i) ∧ Kept (q :: blks v L) w w' ∧ (∀ g ∈ blks v' (L.eraseIdx i), g ∈ blks v L) ∧
    w'.ownsRow B 5 1 y bs.length (encs bs) ∧ (∀ g, y.ownBlock = some g → g ∉ q :: blks v' (L.eraseIdx i))
theorem take_api {B : Nat} {w : World} {q : Nat} {v : Value} {L : List Msg} (hq : Que B w q v L) (z : Int) (i : Nat) (hz : z = (i : Int)) (k : Int) (bs : List UInt8) (y : Value) (hm : L[i]? = some ⟨k, bs, y⟩) :
    Calls Try.prog 10 #[.pointer (some ⟨q, 0, none⟩), .int .i64 z] w (TookM B w q v L i k bs y) := by
  subst hz
  have hi : i < L.length := (List.getElem?_eq_some_iff.1 hm).1
  have he : L[i] = ⟨k, bs, y⟩ := (List.getElem?_eq_some_iff.1 hm).2
  refine (take_yes hq i hi).mono ?_
  rintro e w' ⟨he1, v', h1, h2, h3, h4, h5⟩
  rw [he] at he1 h4 h5
  exact ⟨he1, v', h1, h2, h3, h4, h5⟩
theorem bend_api {B : Nat} {w : World} {q : Nat} {v : Value} {L : List Msg} (hq : Que B w q v L) (z : Int) (i : Nat) (hz : z = (i : Int)) (x : Int) (a : Nat) (hx : x = (a : Int)) (u : Int) (k : UInt8) (hu : u = (k.toNat : Int)) (m : Msg) (hm : L[i]? = some m) (ha : a < m.bytes.length) :
    Calls Try.prog 18 #[.pointer (some ⟨q, 0, none⟩), .int .i64 z, .int .i64 x, .int .u8 u] w (Bent B w q v L i a k) := by
  subst hz hx hu
  have hi : i < L.length := (List.getElem?_eq_some_iff.1 hm).1
  have he : L[i] = m := (List.getElem?_eq_some_iff.1 hm).2
  exact bend_yes hq i a k hi (by rw [he]; exact ha)
theorem copy_api {B : Nat} {w : World} {q : Nat} {v : Value} {L : List Msg} (hq : Que B w q v L) (z : Int) (i : Nat) (hz : z = (i : Int)) (k : Int) (bs : List UInt8) (y : Value) (hm : L[i]? = some ⟨k, bs, y⟩) (hf : L.length < 32) :
    Calls Try.prog 12 #[.pointer (some ⟨q, 0, none⟩), .int .i64 z] w (Sent B w q v L k bs) := by
  subst hz
  have hi : i < L.length := (List.getElem?_eq_some_iff.1 hm).1
  have he : L[i] = ⟨k, bs, y⟩ := (List.getElem?_eq_some_iff.1 hm).2
  have h := copy_yes hq i hi hf
  rw [he] at h
  exact h

theorem len_api {B : Nat} {w : World} {q : Nat} {v : Value} {L : List Msg} (hq : Que B w q v L) (z : Int) (hz : (L.length : Int) = z) :
    Calls Try.prog 11 #[.pointer (some ⟨q, 0, none⟩)] w fun e w' => e = .returned (.int .i64 z) ∧ w = w' := by
  subst hz
  exact len_any hq
theorem Que.to {B : Nat} {w w' : World} {q : Nat} {v : Value} {L : List Msg} (hq : Que B w q v L) (hk : Kept (q :: blks v L) w w') : Below B w w' :=
  hk.below (fun k h => (hq.lt k h).1) (by have := hq.lt q (by simp); omega)
theorem Que.new {B : Nat} {w : World} {q : Nat} {v : Value} {L : List Msg} (hq : Que B w q v L) (o : Obj) : Que B (w.alloc o) q v L := hq.below ((Below.refl _ _).alloc (Nat.le_refl _) _)

theorem awake_any (w : World) : Calls Try.prog 7 #[] w fun e w' => e = .returned (.bool true) ∧ Below w.heap.size w w' := by
  go_enter Try.func7, Try.ntmps7
  go_wp2_with fail
  refine (new_any w w.heap.size (Nat.le_refl _)).mono ?_
  rintro e w1 ⟨rfl, hq1, hb1⟩
  have Q1 := Lib.hid hq1
  have B1 := Lib.hid hb1
  clear hq1 hb1
  go_wp2_with fail
  refine (send_ok (Q1.out.new _) 1 _ 1 1 [1] (.inl rfl) (sl_lit w1 5 [.int .u8 1] [1] rfl 1 rfl) some_none (by simp) (by omega) (by simp)).mono ?_
  rintro e w2 ⟨rfl, v2, y2, hq2, hk2, hs2⟩
  have Q2 := Lib.hid hq2
  have B2 := Lib.hid ((B1.out.alloc B1.out.size _).trans ((Q1.out.new _).to hk2))
  clear hq2 hk2 hs2
  go_wp2_with fail
  refine (send_ok (Q2.out.new _) 2 _ 2 2 [2, 3] (.inr ⟨rfl, rfl⟩) (sl_lit w2 5 [.int .u8 2, .int .u8 3] [2, 3] rfl 2 rfl) some_none (by simp) (by omega) (by simp)).mono ?_
  rintro e w3 ⟨rfl, v3, y3, hq3, hk3, hs3⟩
  have Q3 := Lib.hid hq3
  have B3 := Lib.hid ((B2.out.alloc B2.out.size _).trans ((Q2.out.new _).to hk3))
  clear hq3 hk3 hs3
  go_wp2_with fail
  refine (take_api Q3.out 1 1 rfl 2 [2, 3] y3 (by simp)).mono ?_
  rintro e w4 ⟨rfl, v4, hq4, hk4, hs4, hy4, hf4⟩
  obtain ⟨am, mc, rfl, hsl, _, _⟩ := sl_of_owns hy4
  have hcv : (convert 23 9 (.slice am 2 mc)).run Try.prog w4 = .ok (.string ⟨#[2, 3]⟩) w4 := conv_sl hsl mc
  have Q4 := Lib.hid hq4
  have B4 := Lib.hid (B3.out.trans (Q3.out.to hk4))
  clear hq4 hk4 hs4 hy4 hf4 hsl
  go_wp2_with fail
  refine (len_api Q4.out 1 rfl).mono ?_
  rintro e w5 ⟨rfl, rfl⟩
  go_wp2
  go_ret
  exact ⟨rfl, B4.out⟩
end Go.Proofs.Ytgbcjbbkcoaohaa
