/- Plain functions: sixteen bytes as two numbers of 64 bits. -/
import Derived.Test.YtpkpkfjpnkbkbaaDoorPlainA
namespace Go.Proofs.YtpkpkfjpnkbkbaaDoor
open Go

/-- n bytes from o on as a number, the greatest first. -/
def wn (f : Nat → Nat) (o : Nat) : Nat → Nat
  | 0 => 0
  | n + 1 => wn f o n * 256 + f (o + n)
def hi (f : Nat → Nat) : Nat := wn f 0 8
def lo (f : Nat → Nat) : Nat := wn f 8 8
/-- A block as the program has it. -/
abbrev blk (f : Nat → Nat) : Value := .agg #[.int .u64 (hi f : Nat), .int .u64 (lo f : Nat)]
def B16 (f : Nat → Nat) : Prop := ∀ i, i < 16 → f i < 256

theorem wn_congr {f g : Nat → Nat} {o : Nat} : ∀ n, (∀ i, i < n → f (o + i) = g (o + i)) → wn f o n = wn g o n
  | 0, _ => rfl
  | n + 1, h => by simp only [wn]; rw [wn_congr n (fun i hi => h i (by omega)), h n (by omega)]
theorem wn_lt {f : Nat → Nat} {o : Nat} : ∀ n, (∀ i, i < n → f (o + i) < 256) → wn f o n < 2 ^ (8 * n)
  | 0, _ => by simp [wn]
  | n + 1, h => by
    have ih := wn_lt n (fun i hi => h i (by omega))
    have := h n (by omega)
    simp only [wn]
    rw [show 8 * (n + 1) = 8 * n + 8 by omega, Nat.pow_add]
    omega
theorem wn_testBit {f : Nat → Nat} {o : Nat} : ∀ n, (∀ i, i < n → f (o + i) < 256) → ∀ j, (wn f o n).testBit j = (decide (j < 8 * n) && (f (o + (n - 1 - j / 8))).testBit (j % 8))
  | 0, _, j => by simp [wn]
  | n + 1, h, j => by
    have h8 : f (o + n) < 2 ^ 8 := h n (by omega)
    simp only [wn]
    rw [Nat.mul_comm, show (256 : Nat) = 2 ^ 8 by decide, Nat.testBit_two_pow_mul_add _ h8]
    by_cases hj : j < 8
    · rw [if_pos hj, show o + (n + 1 - 1 - j / 8) = o + n by omega, show j % 8 = j by omega]
      simp; omega
    · rw [if_neg hj, wn_testBit n (fun i hi => h i (by omega)), show (j - 8) % 8 = j % 8 by omega]
      by_cases hn : j < 8 * (n + 1)
      · rw [decide_eq_true hn, decide_eq_true (by omega : j - 8 < 8 * n), show n - 1 - (j - 8) / 8 = n + 1 - 1 - j / 8 by omega]
      · rw [decide_eq_false hn, decide_eq_false (by omega : ¬ j - 8 < 8 * n)]; rfl
theorem wn_xor {f g : Nat → Nat} {o n : Nat} (hf : ∀ i, i < n → f (o + i) < 256) (hg : ∀ i, i < n → g (o + i) < 256) : wn (x2 f g) o n = wn f o n ^^^ wn g o n := by
  apply Nat.eq_of_testBit_eq
  intro j
  rw [wn_testBit (f := x2 f g) n (fun i hi => xor_lt8 (hf i hi) (hg i hi)), Nat.testBit_xor, wn_testBit n hf, wn_testBit n hg]
  by_cases hj : j < 8 * n
  · simp [hj, x2]
  · simp [hj]
theorem wn_byte {f : Nat → Nat} {o n : Nat} (hf : ∀ i, i < n → f (o + i) < 256) {i : Nat} (hi : i < n) : wn f o n / 2 ^ (8 * (n - 1 - i)) % 256 = f (o + i) := by
  apply Nat.eq_of_testBit_eq
  intro j
  rw [show (256 : Nat) = 2 ^ 8 by decide, Nat.testBit_mod_two_pow, Nat.testBit_div_two_pow, wn_testBit n hf]
  by_cases hj : j < 8
  · rw [decide_eq_true hj, decide_eq_true (by omega : j + 8 * (n - 1 - i) < 8 * n), show (j + 8 * (n - 1 - i)) % 8 = j by omega, show n - 1 - (j + 8 * (n - 1 - i)) / 8 = i by omega]
    rfl
  · rw [decide_eq_false hj]
    have : f (o + i) < 2 ^ j := Nat.lt_of_lt_of_le (hf i hi) (by rw [show (256 : Nat) = 2 ^ 8 by decide]; exact Nat.pow_le_pow_right (by decide) (by omega))
    rw [Nat.testBit_lt_two_pow this]; rfl

theorem hi_lt {f : Nat → Nat} (h : B16 f) : hi f < 18446744073709551616 := by
  have := wn_lt (f := f) (o := 0) 8 (fun i hi => h _ (by omega))
  exact this
theorem lo_lt {f : Nat → Nat} (h : B16 f) : lo f < 18446744073709551616 := by
  have := wn_lt (f := f) (o := 8) 8 (fun i hi => h _ (by omega))
  exact this
theorem hi_xor {f g : Nat → Nat} (hf : B16 f) (hg : B16 g) : hi (x2 f g) = hi f ^^^ hi g := wn_xor (fun i hi => hf _ (by omega)) (fun i hi => hg _ (by omega))
theorem lo_xor {f g : Nat → Nat} (hf : B16 f) (hg : B16 g) : lo (x2 f g) = lo f ^^^ lo g := wn_xor (fun i hi => hf _ (by omega)) (fun i hi => hg _ (by omega))
theorem x2_b {f g : Nat → Nat} (hf : B16 f) (hg : B16 g) : B16 (x2 f g) := fun i hi => xor_lt8 (hf i hi) (hg i hi)
theorem blk_congr {f g : Nat → Nat} (h : ∀ i, i < 16 → f i = g i) : blk f = blk g := by
  unfold blk hi lo
  rw [wn_congr (f := f) (g := g) (o := 0) 8 (fun i hi => h _ (by omega)), wn_congr (f := f) (g := g) (o := 8) 8 (fun i hi => h _ (by omega))]
theorem hi_testBit {f : Nat → Nat} (h : B16 f) (j : Nat) : (hi f).testBit j = (decide (j < 64) && (f (7 - j / 8)).testBit (j % 8)) := by
  have := wn_testBit (f := f) (o := 0) 8 (fun i hi => h _ (by omega)) j
  simpa [hi] using this
theorem lo_testBit {f : Nat → Nat} (h : B16 f) (j : Nat) : (lo f).testBit j = (decide (j < 64) && (f (8 + (7 - j / 8))).testBit (j % 8)) := by
  have := wn_testBit (f := f) (o := 8) 8 (fun i hi => h _ (by omega)) j
  simpa [lo] using this

/-- A block doubled, byte by byte. -/
def dblB (f : Nat → Nat) (i : Nat) : Nat := if i = 15 then (f 15 * 2 % 256) ^^^ (f 0 / 128 * 135) else (f i * 2 % 256) ||| (f (i + 1) / 128)
theorem dblB_b {f : Nat → Nat} (h : B16 f) : B16 (dblB f) := fun i hi => by
  unfold dblB
  split
  · have := h 0 (by omega); exact xor_lt8 (by omega) (by omega)
  · have := h (i + 1) (by omega); exact or_lt8 (by omega) (by omega)
theorem tb_shl (x j : Nat) : (x * 2 % 18446744073709551616).testBit j = (decide (j < 64) && (decide (1 ≤ j) && x.testBit (j - 1))) := by
  rw [show (18446744073709551616 : Nat) = 2 ^ 64 by decide, Nat.testBit_mod_two_pow, show x * 2 = x * 2 ^ 1 by omega, Nat.testBit_mul_two_pow]
theorem tb_shl8 (x j : Nat) : (x * 2 % 256).testBit j = (decide (j < 8) && (decide (1 ≤ j) && x.testBit (j - 1))) := by
  rw [show (256 : Nat) = 2 ^ 8 by decide, Nat.testBit_mod_two_pow, show x * 2 = x * 2 ^ 1 by omega, Nat.testBit_mul_two_pow]
theorem tb_shr (x j : Nat) : (x / 9223372036854775808).testBit j = x.testBit (j + 63) := by
  rw [show (9223372036854775808 : Nat) = 2 ^ 63 by decide, Nat.testBit_div_two_pow]
theorem tb_shr8 (x j : Nat) : (x / 128).testBit j = x.testBit (j + 7) := by
  rw [show (128 : Nat) = 2 ^ 7 by decide, Nat.testBit_div_two_pow]
theorem tb_high {x : Nat} (h : x < 256) {j : Nat} (hj : 8 ≤ j) : x.testBit j = false :=
  Nat.testBit_lt_two_pow (Nat.lt_of_lt_of_le h (by rw [show (256 : Nat) = 2 ^ 8 by decide]; exact Nat.pow_le_pow_right (by decide) hj))
theorem hi_dbl {f : Nat → Nat} (h : B16 f) : hi (dblB f) = (hi f * 2 % 18446744073709551616) ||| (lo f / 9223372036854775808) := by
  apply Nat.eq_of_testBit_eq
  intro j
  rw [hi_testBit (dblB_b h), Nat.testBit_or, tb_shl, tb_shr, hi_testBit h, lo_testBit h]
  by_cases hj : j < 64
  · have h15 : ¬ 7 - j / 8 = 15 := by omega
    simp only [dblB, h15, if_false, Nat.testBit_or, tb_shl8, tb_shr8]
    by_cases h0 : j % 8 = 0
    · by_cases hj0 : j = 0
      · subst hj0; simp
      · have e1 : 7 - (j - 1) / 8 = 7 - j / 8 + 1 := by omega
        have e2 : (j - 1) % 8 = 7 := by omega
        have e3 : ¬ j + 63 < 64 := by omega
        simp [hj, h0, e1, e2, e3, show 1 ≤ j by omega, show j - 1 < 64 by omega]
    · have e1 : 7 - (j - 1) / 8 = 7 - j / 8 := by omega
      have e2 : (j - 1) % 8 = j % 8 - 1 := by omega
      have e3 : ¬ j + 63 < 64 := by omega
      have e4 : (f (7 - j / 8 + 1)).testBit (j % 8 + 7) = false := tb_high (h _ (by omega)) (by omega)
      simp [hj, e1, e2, e3, e4, show 1 ≤ j by omega, show j - 1 < 64 by omega, show j % 8 < 8 by omega, show 1 ≤ j % 8 by omega]
  · have e3 : ¬ j + 63 < 64 := by omega
    simp [hj, e3]
theorem lo_dbl {f : Nat → Nat} (h : B16 f) : lo (dblB f) = (lo f * 2 % 18446744073709551616) ^^^ (hi f / 9223372036854775808 * 135) := by
  have hc : hi f / 9223372036854775808 = f 0 / 128 := by
    apply Nat.eq_of_testBit_eq
    intro j
    rw [tb_shr, tb_shr8, hi_testBit h]
    by_cases hj : j = 0
    · subst hj; simp
    · rw [tb_high (h 0 (by omega)) (by omega)]
      simp; omega
  have h0 := h 0 (by omega)
  rw [hc]
  apply Nat.eq_of_testBit_eq
  intro j
  rw [lo_testBit (dblB_b h), Nat.testBit_xor, tb_shl, lo_testBit h]
  by_cases hj : j < 64
  · by_cases h8 : j < 8
    · have e1 : 8 + (7 - j / 8) = 15 := by omega
      have e2 : j % 8 = j := by omega
      simp only [e1, e2, dblB, if_true, Nat.testBit_xor, tb_shl8]
      by_cases hj0 : j = 0
      · subst hj0; simp
      · have e3 : 8 + (7 - (j - 1) / 8) = 15 := by omega
        have e4 : (j - 1) % 8 = j - 1 := by omega
        simp [hj, h8, e3, e4, show 1 ≤ j by omega, show j - 1 < 64 by omega]
    · have h15 : ¬ 8 + (7 - j / 8) = 15 := by omega
      have hz : (f 0 / 128 * 135).testBit j = false := tb_high (by omega) (by omega)
      simp only [dblB, h15, if_false, Nat.testBit_or, tb_shl8, tb_shr8, hz]
      by_cases h0 : j % 8 = 0
      · have e1 : 8 + (7 - (j - 1) / 8) = 8 + (7 - j / 8) + 1 := by omega
        have e2 : (j - 1) % 8 = 7 := by omega
        simp [hj, h0, e1, e2, show 1 ≤ j by omega, show j - 1 < 64 by omega]
      · have e1 : 8 + (7 - (j - 1) / 8) = 8 + (7 - j / 8) := by omega
        have e2 : (j - 1) % 8 = j % 8 - 1 := by omega
        have e4 : (f (8 + (7 - j / 8) + 1)).testBit (j % 8 + 7) = false := tb_high (h _ (by omega)) (by omega)
        simp [hj, e1, e2, e4, show 1 ≤ j by omega, show j - 1 < 64 by omega, show j % 8 < 8 by omega, show 1 ≤ j % 8 by omega]
  · have hz : (f 0 / 128 * 135).testBit j = false := tb_high (by omega) (by omega)
    simp [hj, hz]

theorem wn_shift {f : Nat → Nat} (a o : Nat) : ∀ n, wn (fun i => f (a + i)) o n = wn f (a + o) n
  | 0 => rfl
  | n + 1 => by simp only [wn]; rw [wn_shift a o n, Nat.add_assoc]
theorem or_u64 {a b : Nat} (ha : a < 18446744073709551616) (hb : b < 18446744073709551616) : bits .or .u64 (a : Int) (b : Int) = ((a ||| b : Nat) : Int) := u64_or_nat a b ha hb
theorem xor_u64 {a b : Nat} (ha : a < 18446744073709551616) (hb : b < 18446744073709551616) : bits .xor .u64 (a : Int) (b : Int) = ((a ^^^ b : Nat) : Int) := u64_xor_nat a b ha hb
theorem wrap_u64 (n : Nat) : IntKind.u64.wrap (n : Int) = ((n % 18446744073709551616 : Nat) : Int) := by
  simp [IntKind.wrap, IntKind.bits, IntKind.signed]
/-- One byte more behind a number, as Go says it. -/
theorem num_step {n c : Nat} (hn : n < 2 ^ 56) (hc : c < 256) : bits .or .u64 (IntKind.u64.wrap ((n : Int) * 256)) (c : Int) = ((n * 256 + c : Nat) : Int) := by
  have e : IntKind.u64.wrap ((n : Int) * 256) = ((n * 256 : Nat) : Int) := by
    have := wrap_u64 (n * 256)
    rw [Nat.mod_eq_of_lt (by omega)] at this
    rw [← this]; simp
  rw [e, or_u64 (by omega) (by omega), nat_join 8 (n * 256) c (by omega) hc]
theorem dbl_hi {f : Nat → Nat} (h : B16 f) : bits .or .u64 (IntKind.u64.wrap ((hi f : Int) * 2)) ((lo f : Int) / 9223372036854775808) = (hi (dblB f) : Int) := by
  have e : IntKind.u64.wrap ((hi f : Int) * 2) = ((hi f * 2 % 18446744073709551616 : Nat) : Int) := by
    rw [← wrap_u64]; simp
  have e2 : (lo f : Int) / 9223372036854775808 = ((lo f / 9223372036854775808 : Nat) : Int) := by simp
  rw [e, e2, or_u64 (by omega) (by have := lo_lt h; omega), hi_dbl h]
theorem dbl_lo {f : Nat → Nat} (h : B16 f) : bits .xor .u64 (IntKind.u64.wrap ((lo f : Int) * 2)) (IntKind.u64.wrap ((hi f : Int) / 9223372036854775808 * 135)) = (lo (dblB f) : Int) := by
  have hl := hi_lt h
  have e : IntKind.u64.wrap ((lo f : Int) * 2) = ((lo f * 2 % 18446744073709551616 : Nat) : Int) := by
    rw [← wrap_u64]; simp
  have e2 : IntKind.u64.wrap ((hi f : Int) / 9223372036854775808 * 135) = ((hi f / 9223372036854775808 * 135 : Nat) : Int) := by
    have := wrap_u64 (hi f / 9223372036854775808 * 135)
    rw [Nat.mod_eq_of_lt (by omega)] at this
    rw [← this]; simp
  rw [e, e2, xor_u64 (by omega) (by omega), lo_dbl h]

theorem lo_is_wn (f : Nat → Nat) : wn (fun i => f (8 + i)) 0 8 = lo f := wn_shift 8 0 8

theorem hi_byte {f : Nat → Nat} (h : B16 f) {k : Nat} (hk : k < 8) : (hi f : Int) / 2 ^ (56 - 8 * k) % 256 = (f k : Int) := by
  have := wn_byte (f := f) (o := 0) (n := 8) (fun i hi => h _ (by omega)) hk
  rw [show 8 * (8 - 1 - k) = 56 - 8 * k by omega, Nat.zero_add] at this
  have e : ((hi f / 2 ^ (56 - 8 * k) % 256 : Nat) : Int) = (f k : Int) := by rw [← this]; rfl
  rw [← e]; simp
theorem lo_byte {f : Nat → Nat} (h : B16 f) {k : Nat} (hk : k < 8) : (lo f : Int) / 2 ^ (56 - 8 * k) % 256 = (f (8 + k) : Int) := by
  have := wn_byte (f := f) (o := 8) (n := 8) (fun i hi => h _ (by omega)) hk
  rw [show 8 * (8 - 1 - k) = 56 - 8 * k by omega] at this
  have e : ((lo f / 2 ^ (56 - 8 * k) % 256 : Nat) : Int) = (f (8 + k) : Int) := by rw [← this]; rfl
  rw [← e]; simp

/-- L(0), L(1), .. -/
def lsF (d : Nat → Nat) : Nat → (Nat → Nat)
  | 0 => dblB d
  | n + 1 => dblB (lsF d n)
theorem lsF_b {d : Nat → Nat} (h : B16 d) : ∀ n, B16 (lsF d n)
  | 0 => dblB_b h
  | n + 1 => dblB_b (lsF_b h n)
/-- The nonce's block, before its last six bits are taken off. -/
def nbF (N : List Nat) (i : Nat) : Nat := if i < 15 - N.length then 0 else if i = 15 - N.length then 1 else N.getD (i - (16 - N.length)) 0
/-- .. and behind it. -/
def nbG (N : List Nat) (i : Nat) : Nat := if i = 15 then nbF N 15 / 64 * 64 else nbF N i
/-- Sixteen bytes of two numbers. -/
def pairF (H L : Nat) (j : Nat) : Nat := if j < 8 then H / 2 ^ (56 - 8 * j) % 256 else L / 2 ^ (56 - 8 * (j - 8)) % 256
theorem wn_num {H : Nat} : ∀ n, n ≤ 8 → wn (fun j => H / 2 ^ (56 - 8 * j) % 256) 0 n = H / 2 ^ (64 - 8 * n) % 2 ^ (8 * n)
  | 0, _ => by simp [wn]; omega
  | n + 1, h => by
    simp only [wn, Nat.zero_add]
    rw [wn_num n (by omega)]
    apply Nat.eq_of_testBit_eq
    intro j
    have hb : H / 2 ^ (56 - 8 * n) % 2 ^ 8 < 2 ^ 8 := Nat.mod_lt _ (by decide)
    rw [Nat.mul_comm _ 256, show (256 : Nat) = 2 ^ 8 by decide]
    rw [Nat.testBit_two_pow_mul_add _ hb, Nat.testBit_mod_two_pow, Nat.testBit_div_two_pow, Nat.testBit_mod_two_pow, Nat.testBit_div_two_pow, Nat.testBit_mod_two_pow, Nat.testBit_div_two_pow]
    by_cases hj : j < 8
    · rw [if_pos hj]
      simp [hj, show j < 8 * (n + 1) by omega, show j + (56 - 8 * n) = j + (64 - 8 * (n + 1)) by omega]
    · rw [if_neg hj]
      by_cases hk : j < 8 * (n + 1)
      · simp [hk, show j - 8 < 8 * n by omega, show j - 8 + (64 - 8 * n) = j + (64 - 8 * (n + 1)) by omega]
      · simp [hk, show ¬ j - 8 < 8 * n by omega]
theorem pair_hi {H L : Nat} (h : H < 18446744073709551616) : hi (pairF H L) = H := by
  have := wn_num (H := H) 8 (by omega)
  unfold hi
  rw [wn_congr (g := fun j => H / 2 ^ (56 - 8 * j) % 256) 8 (fun i hi => by simp only [pairF]; rw [if_pos (by omega)]), this]
  simp; omega
theorem pair_lo {H L : Nat} (h : L < 18446744073709551616) : lo (pairF H L) = L := by
  have := wn_num (H := L) 8 (by omega)
  rw [← lo_is_wn]
  rw [wn_congr (g := fun j => L / 2 ^ (56 - 8 * j) % 256) 8 (fun i hi => by simp only [pairF, Nat.zero_add]; rw [if_neg (by omega), show 8 + i - 8 = i by omega]), this]
  simp; omega
theorem pair_b (H L : Nat) : B16 (pairF H L) := fun i _ => by
  unfold pairF; split <;> exact Nat.mod_lt _ (by decide)
/-- The first offset's two numbers. -/
def offH (k : Nat → Nat) (b : Nat) : Nat := (hi k * 2 ^ b % 18446744073709551616) ||| lo k / 2 ^ (64 - b)
def moreF (k : Nat → Nat) : Nat := hi k ^^^ ((hi k * 256 % 18446744073709551616) ||| lo k / 72057594037927936)
def offL (k : Nat → Nat) (b : Nat) : Nat := (lo k * 2 ^ b % 18446744073709551616) ||| moreF k / 2 ^ (64 - b)
/-- The first offset. -/
def offF (k : Nat → Nat) (b : Nat) : Nat → Nat := pairF (offH k b) (offL k b)

theorem and192 : ∀ x, x < 256 → x &&& 192 = x / 64 * 64 := by decide +kernel
theorem andNot63 {x : Nat} (h : x < 256) : bits .andNot .u8 (x : Int) 63 = ((x / 64 * 64 : Nat) : Int) := by
  have := u8_andNot_nat x 63 h (by decide)
  rw [show (255 - 63 : Nat) = 192 by decide, and192 x h] at this
  exact this
theorem and63 {x : Nat} (h : x < 256) : bits .and .u8 (x : Int) 63 = ((x % 64 : Nat) : Int) := by
  have e := u8_and_nat x 63 h (by decide)
  have a : ∀ x, x < 256 → x &&& 63 = x % 64 := by decide +kernel
  rw [a x h] at e
  exact e
theorem more_bits {k : Nat → Nat} (h : B16 k) : bits .xor .u64 (hi k : Int) (bits .or .u64 (IntKind.u64.wrap ((hi k : Int) * 256)) ((lo k : Int) / 72057594037927936)) = ((moreF k : Nat) : Int) := by
  have e : IntKind.u64.wrap ((hi k : Int) * 256) = ((hi k * 256 % 18446744073709551616 : Nat) : Int) := by
    rw [← wrap_u64]; simp
  have e2 : (lo k : Int) / 72057594037927936 = ((lo k / 72057594037927936 : Nat) : Int) := by simp
  have l1 := hi_lt h
  have l2 := lo_lt h
  rw [e, e2, or_u64 (by omega) (by omega), xor_u64 l1 (Nat.or_lt_two_pow (n := 64) (by omega) (by omega))]
  rfl

end Go.Proofs.YtpkpkfjpnkbkbaaDoor
