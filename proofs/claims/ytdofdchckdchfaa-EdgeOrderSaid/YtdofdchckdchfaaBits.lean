/- Contracts of Bits and Of on both sides and of same: a word's bytes, the word that bytes are; no condition but that the words are words. -/
import Derived.Test.YtdofdchckdchfaaWork
import Derived.LoopTactic
import Derived.Laws.BitsAllLaws
namespace Go.Proofs.Ytdofdchckdchfaa
open Go.RowKit

def num (l : List UInt8) : Nat := l.foldr (fun b n => b.toNat + 256 * n) 0
abbrev agg8 (a b c d e f g h : UInt8) : Value := .agg #[.int .u8 (a.toNat : Int), .int .u8 (b.toNat : Int), .int .u8 (c.toNat : Int), .int .u8 (d.toNat : Int), .int .u8 (e.toNat : Int), .int .u8 (f.toNat : Int), .int .u8 (g.toNat : Int), .int .u8 (h.toNat : Int)]

theorem num_lt (l : List UInt8) : num l < 256 ^ l.length := by
  induction l with
  | nil => simp [num]
  | cons b l ih =>
    have e : num (b :: l) = b.toNat + 256 * num l := rfl
    have hb := b.toNat_lt
    rw [e, List.length_cons, Nat.pow_succ]
    omega
theorem wrap_u64 (n : Int) (h0 : 0 ≤ n) (h1 : n < 18446744073709551616) : IntKind.u64.wrap n = n := by
  simp [IntKind.wrap, IntKind.bits, IntKind.signed]
  omega
theorem or_step0 (b : UInt8) : bits BinOp.or IntKind.u64 ((num [] : Nat) : Int) (IntKind.u64.wrap (IntKind.u64.wrap (b.toNat : Int))) = ((b.toNat : Nat) : Int) := by
  have hb := b.toNat_lt
  rw [wrap_u64 (b.toNat : Int) (by omega) (by omega), wrap_u64 (b.toNat : Int) (by omega) (by omega), u64_or_nat _ _ (by decide) (by omega)]
  show (((0 ||| b.toNat : Nat)) : Int) = _
  rw [Nat.zero_or]
theorem or_step (N : Nat) (b : UInt8) (s : Nat) (z : Int) (hz : z = (s : Int)) (hN : N < s) (hs : s ≤ 72057594037927936) (hp : ∃ i, s = 2 ^ i) :
    bits BinOp.or IntKind.u64 (N : Int) (IntKind.u64.wrap (IntKind.u64.wrap (b.toNat : Int) * z)) = ((N + b.toNat * s : Nat) : Int) := by
  subst hz
  obtain ⟨i, hi⟩ := hp
  have hb := b.toNat_lt
  have hm : b.toNat * s < 18446744073709551616 := by
    have := Nat.mul_le_mul (show b.toNat ≤ 255 by omega) hs
    omega
  have hN2 : N < 18446744073709551616 := by omega
  rw [wrap_u64 (b.toNat : Int) (by omega) (by omega), ← Int.natCast_mul, wrap_u64 _ (by omega) (by omega), u64_or_nat _ _ hN2 hm]
  congr 1
  subst hi
  rw [Nat.or_comm, Nat.mul_comm, ← Nat.two_pow_add_eq_or_of_lt hN]
  omega
set_option maxRecDepth 100000 in
theorem of_any (a b c d e f g h : UInt8) (w : World) : Calls Try.prog 9 #[agg8 a b c d e f g h] w fun r w' => r = .returned (.float .f64 (num [a, b, c, d, e, f, g, h])) ∧ Below w.heap.size w w' := by
  have i0 : ∀ w : World, (Instr.index 22 (agg8 a b c d e f g h) (.int .i64 0)).run Try.prog w = .ok (.int .u8 (a.toNat : Int)) w := fun _ => by kernel_rfl
  have i1 : ∀ w : World, (Instr.index 22 (agg8 a b c d e f g h) (.int .i64 1)).run Try.prog w = .ok (.int .u8 (b.toNat : Int)) w := fun _ => by kernel_rfl
  have i2 : ∀ w : World, (Instr.index 22 (agg8 a b c d e f g h) (.int .i64 2)).run Try.prog w = .ok (.int .u8 (c.toNat : Int)) w := fun _ => by kernel_rfl
  have i3 : ∀ w : World, (Instr.index 22 (agg8 a b c d e f g h) (.int .i64 3)).run Try.prog w = .ok (.int .u8 (d.toNat : Int)) w := fun _ => by kernel_rfl
  have i4 : ∀ w : World, (Instr.index 22 (agg8 a b c d e f g h) (.int .i64 4)).run Try.prog w = .ok (.int .u8 (e.toNat : Int)) w := fun _ => by kernel_rfl
  have i5 : ∀ w : World, (Instr.index 22 (agg8 a b c d e f g h) (.int .i64 5)).run Try.prog w = .ok (.int .u8 (f.toNat : Int)) w := fun _ => by kernel_rfl
  have i6 : ∀ w : World, (Instr.index 22 (agg8 a b c d e f g h) (.int .i64 6)).run Try.prog w = .ok (.int .u8 (g.toNat : Int)) w := fun _ => by kernel_rfl
  have i7 : ∀ w : World, (Instr.index 22 (agg8 a b c d e f g h) (.int .i64 7)).run Try.prog w = .ok (.int .u8 (h.toNat : Int)) w := fun _ => by kernel_rfl
  go_enter Try.func9, Try.ntmps9
  go_wp2
  go_loop [3, 7] (fun t i => ∃ k : Nat, k ≤ 8 ∧ i = .int .i64 k ∧ t = .int .u64 (num ([a, b, c, d, e, f, g, h].take k) : Nat)) (fun _ i => match i with | .int _ n => 8 - n.toNat | _ => 0)
  case atStart => exact ⟨0, Nat.zero_le _, rfl, rfl⟩
  case round =>
    obtain ⟨k, hk, rfl, rfl⟩ := hrel
    have hk5 : k = 0 ∨ k = 1 ∨ k = 2 ∨ k = 3 ∨ k = 4 ∨ k = 5 ∨ k = 6 ∨ k = 7 ∨ k = 8 := by omega
    rcases hk5 with rfl | rfl | rfl | rfl | rfl | rfl | rfl | rfl | rfl
    · go_wp2
      exact ⟨⟨1, by omega, rfl, congrArg (Value.int .u64) ((or_step0 a).trans (congrArg Int.ofNat (by simp [num]; try omega)))⟩, by simp⟩
    · go_wp2
      exact ⟨⟨2, by omega, rfl, congrArg (Value.int .u64) ((or_step (num [a]) b 256 _ rfl (Nat.lt_of_lt_of_le (num_lt _) (by simp)) (by decide) ⟨8, by decide⟩).trans (congrArg Int.ofNat (by simp [num]; try omega)))⟩, by simp⟩
    · go_wp2
      exact ⟨⟨3, by omega, rfl, congrArg (Value.int .u64) ((or_step (num [a, b]) c 65536 _ rfl (Nat.lt_of_lt_of_le (num_lt _) (by simp)) (by decide) ⟨16, by decide⟩).trans (congrArg Int.ofNat (by simp [num]; try omega)))⟩, by simp⟩
    · go_wp2
      exact ⟨⟨4, by omega, rfl, congrArg (Value.int .u64) ((or_step (num [a, b, c]) d 16777216 _ rfl (Nat.lt_of_lt_of_le (num_lt _) (by simp)) (by decide) ⟨24, by decide⟩).trans (congrArg Int.ofNat (by simp [num]; try omega)))⟩, by simp⟩
    · go_wp2
      exact ⟨⟨5, by omega, rfl, congrArg (Value.int .u64) ((or_step (num [a, b, c, d]) e 4294967296 _ rfl (Nat.lt_of_lt_of_le (num_lt _) (by simp)) (by decide) ⟨32, by decide⟩).trans (congrArg Int.ofNat (by simp [num]; try omega)))⟩, by simp⟩
    · go_wp2
      exact ⟨⟨6, by omega, rfl, congrArg (Value.int .u64) ((or_step (num [a, b, c, d, e]) f 1099511627776 _ rfl (Nat.lt_of_lt_of_le (num_lt _) (by simp)) (by decide) ⟨40, by decide⟩).trans (congrArg Int.ofNat (by simp [num]; try omega)))⟩, by simp⟩
    · go_wp2
      exact ⟨⟨7, by omega, rfl, congrArg (Value.int .u64) ((or_step (num [a, b, c, d, e, f]) g 281474976710656 _ rfl (Nat.lt_of_lt_of_le (num_lt _) (by simp)) (by decide) ⟨48, by decide⟩).trans (congrArg Int.ofNat (by simp [num]; try omega)))⟩, by simp⟩
    · go_wp2
      exact ⟨⟨8, by omega, rfl, congrArg (Value.int .u64) ((or_step (num [a, b, c, d, e, f, g]) h 72057594037927936 _ rfl (Nat.lt_of_lt_of_le (num_lt _) (by simp)) (by decide) ⟨56, by decide⟩).trans (congrArg Int.ofNat (by simp [num]; try omega)))⟩, by simp⟩
    · go_wp2
      go_ret
      exact ⟨rfl, (Below.refl _ _).alloc (Nat.le_refl _) _⟩
set_option maxRecDepth 100000 in
theorem refof_any (a b c d e f g h : UInt8) (w : World) : Calls Try.prog 12 #[agg8 a b c d e f g h] w fun r w' => r = .returned (.float .f64 (num [a, b, c, d, e, f, g, h])) ∧ Below w.heap.size w w' := by
  go_enter Try.func12, Try.ntmps12
  go_wp2
  go_loop [3, 4] (fun t i => ∃ k : Nat, k ≤ 8 ∧ i = .int .i64 k ∧ t = .int .u64 (num ([a, b, c, d, e, f, g, h].take k) : Nat)) (fun _ i => match i with | .int _ n => 8 - n.toNat | _ => 0)
  case atStart => exact ⟨0, Nat.zero_le _, rfl, rfl⟩
  case round =>
    obtain ⟨k, hk, rfl, rfl⟩ := hrel
    have hk5 : k = 0 ∨ k = 1 ∨ k = 2 ∨ k = 3 ∨ k = 4 ∨ k = 5 ∨ k = 6 ∨ k = 7 ∨ k = 8 := by omega
    rcases hk5 with rfl | rfl | rfl | rfl | rfl | rfl | rfl | rfl | rfl
    · go_wp2
      exact ⟨⟨1, by omega, rfl, congrArg (Value.int .u64) ((or_step0 a).trans (congrArg Int.ofNat (by simp [num]; try omega)))⟩, by simp⟩
    · go_wp2
      exact ⟨⟨2, by omega, rfl, congrArg (Value.int .u64) ((or_step (num [a]) b 256 _ rfl (Nat.lt_of_lt_of_le (num_lt _) (by simp)) (by decide) ⟨8, by decide⟩).trans (congrArg Int.ofNat (by simp [num]; try omega)))⟩, by simp⟩
    · go_wp2
      exact ⟨⟨3, by omega, rfl, congrArg (Value.int .u64) ((or_step (num [a, b]) c 65536 _ rfl (Nat.lt_of_lt_of_le (num_lt _) (by simp)) (by decide) ⟨16, by decide⟩).trans (congrArg Int.ofNat (by simp [num]; try omega)))⟩, by simp⟩
    · go_wp2
      exact ⟨⟨4, by omega, rfl, congrArg (Value.int .u64) ((or_step (num [a, b, c]) d 16777216 _ rfl (Nat.lt_of_lt_of_le (num_lt _) (by simp)) (by decide) ⟨24, by decide⟩).trans (congrArg Int.ofNat (by simp [num]; try omega)))⟩, by simp⟩
    · go_wp2
      exact ⟨⟨5, by omega, rfl, congrArg (Value.int .u64) ((or_step (num [a, b, c, d]) e 4294967296 _ rfl (Nat.lt_of_lt_of_le (num_lt _) (by simp)) (by decide) ⟨32, by decide⟩).trans (congrArg Int.ofNat (by simp [num]; try omega)))⟩, by simp⟩
    · go_wp2
      exact ⟨⟨6, by omega, rfl, congrArg (Value.int .u64) ((or_step (num [a, b, c, d, e]) f 1099511627776 _ rfl (Nat.lt_of_lt_of_le (num_lt _) (by simp)) (by decide) ⟨40, by decide⟩).trans (congrArg Int.ofNat (by simp [num]; try omega)))⟩, by simp⟩
    · go_wp2
      exact ⟨⟨7, by omega, rfl, congrArg (Value.int .u64) ((or_step (num [a, b, c, d, e, f]) g 281474976710656 _ rfl (Nat.lt_of_lt_of_le (num_lt _) (by simp)) (by decide) ⟨48, by decide⟩).trans (congrArg Int.ofNat (by simp [num]; try omega)))⟩, by simp⟩
    · go_wp2
      exact ⟨⟨8, by omega, rfl, congrArg (Value.int .u64) ((or_step (num [a, b, c, d, e, f, g]) h 72057594037927936 _ rfl (Nat.lt_of_lt_of_le (num_lt _) (by simp)) (by decide) ⟨56, by decide⟩).trans (congrArg Int.ofNat (by simp [num]; try omega)))⟩, by simp⟩
    · go_wp2
      go_ret
      exact ⟨rfl, (Below.refl _ _).alloc (Nat.le_refl _) _⟩

/-- a word's bytes are a NaN's those of the one NaN. -/
def canon (x : Nat) : Nat := if isNan x then 9221120237041090561 else x
def byte (u s : Nat) : UInt8 := UInt8.ofNat (u / s)
theorem byte_nat (u s : Nat) : (byte u s).toNat = u / s % 256 := by
  unfold byte
  rw [UInt8.toNat_ofNat']
abbrev aggOf (u : Nat) : Value := agg8 (byte u 1) (byte u 256) (byte u 65536) (byte u 16777216) (byte u 4294967296) (byte u 1099511627776) (byte u 281474976710656) (byte u 72057594037927936)
theorem agg_bytes (x : Nat) (hx : x < 18446744073709551616) : Value.agg #[.int .u8 ((x : Int) % 256), .int .u8 ((x : Int) / 256 % 256), .int .u8 ((x : Int) / 65536 % 256), .int .u8 ((x : Int) / 16777216 % 256), .int .u8 ((x : Int) / 4294967296 % 256), .int .u8 ((x : Int) / 1099511627776 % 256), .int .u8 ((x : Int) / 281474976710656 % 256), .int .u8 ((x : Int) / 72057594037927936)] = aggOf x := by
  have e0 : (x : Int) % 256 = ((byte x 1).toNat : Int) := by rw [byte_nat]; omega
  have e1 : (x : Int) / 256 % 256 = ((byte x 256).toNat : Int) := by rw [byte_nat]; omega
  have e2 : (x : Int) / 65536 % 256 = ((byte x 65536).toNat : Int) := by rw [byte_nat]; omega
  have e3 : (x : Int) / 16777216 % 256 = ((byte x 16777216).toNat : Int) := by rw [byte_nat]; omega
  have e4 : (x : Int) / 4294967296 % 256 = ((byte x 4294967296).toNat : Int) := by rw [byte_nat]; omega
  have e5 : (x : Int) / 1099511627776 % 256 = ((byte x 1099511627776).toNat : Int) := by rw [byte_nat]; omega
  have e6 : (x : Int) / 281474976710656 % 256 = ((byte x 281474976710656).toNat : Int) := by rw [byte_nat]; omega
  have e7 : (x : Int) / 72057594037927936 = ((byte x 72057594037927936).toNat : Int) := by rw [byte_nat]; omega
  rw [e0, e1, e2, e3, e4, e5, e6, e7]
theorem agg_nan : Value.agg #[.int .u8 1, .int .u8 0, .int .u8 0, .int .u8 0, .int .u8 0, .int .u8 0, .int .u8 248, .int .u8 127] = aggOf 9221120237041090561 := by
  simp [aggOf, agg8, byte_nat]
theorem num_div (b : UInt8) (l : List UInt8) (s : Nat) : num (b :: l) / (256 * s) = num l / s := by
  have e : num (b :: l) = b.toNat + 256 * num l := rfl
  have hb := b.toNat_lt
  rw [← Nat.div_div_eq_div_mul, e]
  congr 1
  omega
theorem num_at (l : List UInt8) : ∀ (b : UInt8) (k s : Nat), s = 256 ^ k → l[k]? = some b → byte (num l) s = b := by
  induction l with
  | nil => intro b k s _ h; simp at h
  | cons x l ih =>
    intro b k s hs h
    cases k with
    | zero =>
      have e : num (x :: l) = x.toNat + 256 * num l := rfl
      have hb := x.toNat_lt
      simp at h
      subst h
      rw [hs, ← UInt8.toNat_inj, byte_nat, e]
      omega
    | succ k =>
      have := ih b k (256 ^ k) rfl (by simpa using h)
      rw [← this, hs, Nat.pow_succ, Nat.mul_comm, ← UInt8.toNat_inj, byte_nat, byte_nat, num_div]
theorem bytes_num (a b c d e f g h : UInt8) : aggOf (num [a, b, c, d, e, f, g, h]) = agg8 a b c d e f g h := by
  have e0 : byte (num [a, b, c, d, e, f, g, h]) 1 = a := num_at [a, b, c, d, e, f, g, h] a 0 1 rfl rfl
  have e1 : byte (num [a, b, c, d, e, f, g, h]) 256 = b := num_at [a, b, c, d, e, f, g, h] b 1 256 rfl rfl
  have e2 : byte (num [a, b, c, d, e, f, g, h]) 65536 = c := num_at [a, b, c, d, e, f, g, h] c 2 65536 rfl rfl
  have e3 : byte (num [a, b, c, d, e, f, g, h]) 16777216 = d := num_at [a, b, c, d, e, f, g, h] d 3 16777216 rfl rfl
  have e4 : byte (num [a, b, c, d, e, f, g, h]) 4294967296 = e := num_at [a, b, c, d, e, f, g, h] e 4 4294967296 rfl rfl
  have e5 : byte (num [a, b, c, d, e, f, g, h]) 1099511627776 = f := num_at [a, b, c, d, e, f, g, h] f 5 1099511627776 rfl rfl
  have e6 : byte (num [a, b, c, d, e, f, g, h]) 281474976710656 = g := num_at [a, b, c, d, e, f, g, h] g 6 281474976710656 rfl rfl
  have e7 : byte (num [a, b, c, d, e, f, g, h]) 72057594037927936 = h := num_at [a, b, c, d, e, f, g, h] h 7 72057594037927936 rfl rfl
  unfold aggOf
  rw [e0, e1, e2, e3, e4, e5, e6, e7]
theorem num_bytes (x : Nat) (hx : x < 18446744073709551616) : num [byte x 1, byte x 256, byte x 65536, byte x 16777216, byte x 4294967296, byte x 1099511627776, byte x 281474976710656, byte x 72057594037927936] = x := by
  show (byte x 1).toNat + 256 * ((byte x 256).toNat + 256 * ((byte x 65536).toNat + 256 * ((byte x 16777216).toNat + 256 * ((byte x 4294967296).toNat + 256 * ((byte x 1099511627776).toNat + 256 * ((byte x 281474976710656).toNat + 256 * ((byte x 72057594037927936).toNat + 256 * 0))))))) = x
  simp only [byte_nat]
  omega
set_option maxRecDepth 100000 in
theorem bits_any (x : Nat) (hx : x < 18446744073709551616) (w : World) : Calls Try.prog 10 #[.float .f64 x] w fun r w' => r = .returned (aggOf (canon x)) ∧ Below w.heap.size w w' := by
  have hn := isnan_any x hx
  unfold canon
  by_cases h : isNan x
  · rw [if_pos h]
    rw [decide_eq_true h] at hn
    clear h
    go_enter Try.func10, Try.ntmps10
    go_wp2_with (first | (go_at_call 29; refine (hn _).mono ?_; rintro e w1 ⟨rfl, rfl⟩) | fail)
    refine wp_loop_rounds 9 ?_
    rw [rounds_succ]
    go_wp2
    rw [rounds_succ]
    go_wp2
    rw [rounds_succ]
    go_wp2
    rw [rounds_succ]
    go_wp2
    rw [rounds_succ]
    go_wp2
    rw [rounds_succ]
    go_wp2
    rw [rounds_succ]
    go_wp2
    rw [rounds_succ]
    go_wp2
    rw [rounds_succ]
    go_wp2
    refine bodyPost_ret (results_cell_row rfl _ _ w.heap.size 22 _ _ _ rfl ((heap_alloc_old _ _ (by simp)).trans (heap_alloc_new _ _)) Try.underlying22 rfl (by kernel_rfl)) rfl ⟨?_, ((Below.refl _ _).alloc (Nat.le_refl _) _).alloc (by simp) _⟩
    exact congrArg Ending.returned agg_nan
  · rw [if_neg h]
    rw [decide_eq_false h] at hn
    clear h
    go_enter Try.func10, Try.ntmps10
    go_wp2_with (first | (go_at_call 29; refine (hn _).mono ?_; rintro e w1 ⟨rfl, rfl⟩) | fail)
    refine wp_loop_rounds 9 ?_
    rw [rounds_succ]
    go_wp2
    rw [rounds_succ]
    go_wp2
    rw [rounds_succ]
    go_wp2
    rw [rounds_succ]
    go_wp2
    rw [rounds_succ]
    go_wp2
    rw [rounds_succ]
    go_wp2
    rw [rounds_succ]
    go_wp2
    rw [rounds_succ]
    go_wp2
    rw [rounds_succ]
    go_wp2
    refine bodyPost_ret (results_cell_row rfl _ _ w.heap.size 22 _ _ _ rfl ((heap_alloc_old _ _ (by simp)).trans (heap_alloc_new _ _)) Try.underlying22 rfl (by kernel_rfl)) rfl ⟨?_, ((Below.refl _ _).alloc (Nat.le_refl _) _).alloc (by simp) _⟩
    exact congrArg Ending.returned (agg_bytes x hx)
set_option maxRecDepth 100000 in
theorem refbits_any (x : Nat) (hx : x < 18446744073709551616) (w : World) : Calls Try.prog 23 #[.float .f64 x] w fun r w' => r = .returned (aggOf (canon x)) ∧ Below w.heap.size w w' := by
  have hn := ord_self hx
  unfold canon
  by_cases h : isNan x
  · rw [if_pos h]
    rw [decide_eq_true h] at hn
    clear h
    go_enter Try.func23, Try.ntmps23
    go_wp2_with fail
    refine wp_loop_rounds 9 ?_
    rw [rounds_succ]
    go_wp2
    rw [rounds_succ]
    go_wp2
    rw [rounds_succ]
    go_wp2
    rw [rounds_succ]
    go_wp2
    rw [rounds_succ]
    go_wp2
    rw [rounds_succ]
    go_wp2
    rw [rounds_succ]
    go_wp2
    rw [rounds_succ]
    go_wp2
    rw [rounds_succ]
    go_wp2
    refine bodyPost_ret (results_cell_row rfl _ _ w.heap.size 22 _ _ _ rfl ((heap_alloc_old _ _ (by simp)).trans (heap_alloc_new _ _)) Try.underlying22 rfl (by kernel_rfl)) rfl ⟨?_, ((Below.refl _ _).alloc (Nat.le_refl _) _).alloc (by simp) _⟩
    exact congrArg Ending.returned agg_nan
  · rw [if_neg h]
    rw [decide_eq_false h] at hn
    clear h
    go_enter Try.func23, Try.ntmps23
    go_wp2_with fail
    refine wp_loop_rounds 9 ?_
    rw [rounds_succ]
    go_wp2
    rw [rounds_succ]
    go_wp2
    rw [rounds_succ]
    go_wp2
    rw [rounds_succ]
    go_wp2
    rw [rounds_succ]
    go_wp2
    rw [rounds_succ]
    go_wp2
    rw [rounds_succ]
    go_wp2
    rw [rounds_succ]
    go_wp2
    rw [rounds_succ]
    go_wp2
    refine bodyPost_ret (results_cell_row rfl _ _ w.heap.size 22 _ _ _ rfl ((heap_alloc_old _ _ (by simp)).trans (heap_alloc_new _ _)) Try.underlying22 rfl (by kernel_rfl)) rfl ⟨?_, ((Below.refl _ _).alloc (Nat.le_refl _) _).alloc (by simp) _⟩
    exact congrArg Ending.returned (agg_bytes x hx)
end Go.Proofs.Ytdofdchckdchfaa
