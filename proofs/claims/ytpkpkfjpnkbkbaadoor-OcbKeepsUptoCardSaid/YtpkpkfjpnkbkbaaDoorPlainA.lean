/- Plain functions on numbers: what the program's AES computes. -/
import Derived.Laws.BitsAllLaws
namespace Go.Proofs.YtpkpkfjpnkbkbaaDoor
open Go

/-- A byte times x. -/
def dbl (b : Nat) : Nat := (b * 2 % 256) ^^^ (b / 128 * 27)
theorem xor_lt8 {a b : Nat} (ha : a < 256) (hb : b < 256) : a ^^^ b < 256 := Nat.xor_lt_two_pow (n := 8) ha hb
theorem dbl_lt {b : Nat} (h : b < 256) : dbl b < 256 := by unfold dbl; exact xor_lt8 (by omega) (by omega)

def x2 (f g : Nat → Nat) (i : Nat) : Nat := f i ^^^ g i

/-- A column's byte, mixed. -/
def mixF (T : Nat → Nat) (i : Nat) : Nat :=
  T i ^^^ ((T (i / 4 * 4) ^^^ T (i / 4 * 4 + 1) ^^^ T (i / 4 * 4 + 2) ^^^ T (i / 4 * 4 + 3)) ^^^ dbl (T i ^^^ T (i / 4 * 4 + (i + 1) % 4)))
theorem mixF_lt {T : Nat → Nat} (h : ∀ i, i < 16 → T i < 256) {i : Nat} (hi : i < 16) : mixF T i < 256 := by
  unfold mixF
  exact xor_lt8 (h i hi) (xor_lt8 (xor_lt8 (xor_lt8 (xor_lt8 (h _ (by omega)) (h _ (by omega))) (h _ (by omega))) (h _ (by omega))) (dbl_lt (xor_lt8 (h _ hi) (h _ (by omega)))))

theorem mixF_lo (T : Nat → Nat) {k j : Nat} (hk : k % 4 = 0) (hj : j < 3) : mixF T (k + j) = T (k + j) ^^^ (T k ^^^ T (k + 1) ^^^ T (k + 2) ^^^ T (k + 3) ^^^ dbl (T (k + j) ^^^ T (k + j + 1))) := by
  unfold mixF
  rw [show (k + j) / 4 * 4 = k by omega, show k + (k + j + 1) % 4 = k + j + 1 by omega]
theorem mixF_hi (T : Nat → Nat) {k : Nat} (hk : k % 4 = 0) : mixF T (k + 3) = T (k + 3) ^^^ (T k ^^^ T (k + 1) ^^^ T (k + 2) ^^^ T (k + 3) ^^^ dbl (T (k + 3) ^^^ T k)) := by
  unfold mixF
  rw [show (k + 3) / 4 * 4 = k by omega, show k + (k + 3 + 1) % 4 = k by omega]

/-- A byte as Go has it. -/
abbrev u8 (n : Nat) : Value := .int .u8 n
abbrev by8 (f : Nat → Nat) : Nat → Value := fun i => .int .u8 (f i)

/-- One round's first half: the rows shifted, S taken. -/
def shiftF (S B : Nat → Nat) (i : Nat) : Nat := S (B ((i + 4 * (i % 4)) % 16))
/-- The state behind so many rounds that are not the last. -/
def encSt (S K B : Nat → Nat) : Nat → (Nat → Nat)
  | 0 => x2 B K
  | r + 1 => x2 (mixF (shiftF S (encSt S K B r))) (fun i => K (16 * (r + 1) + i))
/-- The state behind r of R rounds. -/
def encAt (S K : Nat → Nat) (R : Nat) (B : Nat → Nat) (r : Nat) : Nat → Nat :=
  if r < R then encSt S K B r else x2 (shiftF S (encSt S K B (R - 1))) (fun i => K (16 * R + i))

theorem encAt_step (S K B : Nat → Nat) {R r : Nat} (h : r + 1 < R) : encAt S K R B (r + 1) = x2 (mixF (shiftF S (encAt S K R B r))) (fun i => K (16 * (r + 1) + i)) := by
  unfold encAt; rw [if_pos h, if_pos (by omega)]; rfl
theorem encAt_last (S K B : Nat → Nat) {R r : Nat} (h : r + 1 = R) : encAt S K R B R = x2 (shiftF S (encAt S K R B r)) (fun i => K (16 * R + i)) := by
  unfold encAt; rw [if_neg (by omega), if_pos (by omega), show R - 1 = r by omega]
theorem shiftF_lt {S B : Nat → Nat} (hS : ∀ i, i < 256 → S i < 256) (hB : ∀ i, i < 16 → B i < 256) {i : Nat} : shiftF S B i < 256 :=
  hS _ (hB _ (by omega))
theorem encSt_lt {S K B : Nat → Nat} (hS : ∀ i, i < 256 → S i < 256) (hK : ∀ i, i < 240 → K i < 256) (hB : ∀ i, i < 16 → B i < 256) :
    ∀ r, r ≤ 14 → ∀ i, i < 16 → encSt S K B r i < 256
  | 0, _, i, hi => xor_lt8 (hB i hi) (hK i (by omega))
  | r + 1, hr, i, hi => xor_lt8 (mixF_lt (fun j _ => shiftF_lt hS (encSt_lt hS hK hB r (by omega))) hi) (hK _ (by omega))
theorem encAt_lt {S K B : Nat → Nat} {R : Nat} (hS : ∀ i, i < 256 → S i < 256) (hK : ∀ i, i < 240 → K i < 256) (hB : ∀ i, i < 16 → B i < 256) (hR : R ≤ 14) (r : Nat) (hr : r ≤ R) (i : Nat) (hi : i < 16) : encAt S K R B r i < 256 := by
  unfold encAt
  split
  · exact encSt_lt hS hK hB r (by omega) i hi
  · exact xor_lt8 (shiftF_lt hS (encSt_lt hS hK hB (R - 1) (by omega))) (hK _ (by omega))

def mix3 (T : Nat → Nat) : Nat → (Nat → Nat)
  | 0 => T
  | n + 1 => mixF (mix3 T n)
theorem mix3_lt {T : Nat → Nat} (hT : ∀ i, i < 16 → T i < 256) : ∀ n i, i < 16 → mix3 T n i < 256
  | 0, i, hi => hT i hi
  | n + 1, _, hi => mixF_lt (mix3_lt hT n) hi
/-- The rows shifted back, S' taken. -/
def usF (S' B : Nat → Nat) (j : Nat) : Nat := S' (B ((j + 12 * (j % 4)) % 16))
/-- What is laid into t in the first k rounds of the loop. -/
def scat (S' B : Nat → Nat) : Nat → (Nat → Nat)
  | 0 => fun _ => 0
  | k + 1 => fun j => if j = (k + 4 * (k % 4)) % 16 then S' (B k) else scat S' B k j
theorem scat_all (S' B : Nat → Nat) : ∀ j, j < 16 → scat S' B 16 j = usF S' B j := by
  intro j hj
  have : j = 0 ∨ j = 1 ∨ j = 2 ∨ j = 3 ∨ j = 4 ∨ j = 5 ∨ j = 6 ∨ j = 7 ∨ j = 8 ∨ j = 9 ∨ j = 10 ∨ j = 11 ∨ j = 12 ∨ j = 13 ∨ j = 14 ∨ j = 15 := by omega
  rcases this with rfl | rfl | rfl | rfl | rfl | rfl | rfl | rfl | rfl | rfl | rfl | rfl | rfl | rfl | rfl | rfl <;> rfl
/-- A round's state once it is xored (and unmixed). -/
def decY (K : Nat → Nat) (R : Nat) (B : Nat → Nat) (r : Nat) : Nat → Nat :=
  if r < R then mix3 (x2 B (fun i => K (16 * r + i))) 3 else x2 B (fun i => K (16 * r + i))
/-- The state behind n rounds of the way back. -/
def decSt (S' K : Nat → Nat) (R : Nat) (B : Nat → Nat) : Nat → (Nat → Nat)
  | 0 => B
  | n + 1 => usF S' (decY K R (decSt S' K R B n) (R - n))
theorem usF_lt {S B : Nat → Nat} (hS : ∀ i, i < 256 → S i < 256) (hB : ∀ i, i < 16 → B i < 256) {i : Nat} : usF S B i < 256 :=
  hS _ (hB _ (by omega))
theorem decY_lt {K B : Nat → Nat} {R r : Nat} (hK : ∀ i, i < 240 → K i < 256) (hB : ∀ i, i < 16 → B i < 256) (hr : r ≤ 14) : ∀ i, i < 16 → decY K R B r i < 256 := by
  intro i hi
  have hx : ∀ j, j < 16 → x2 B (fun i => K (16 * r + i)) j < 256 := fun j hj => xor_lt8 (hB j hj) (hK _ (by omega))
  unfold decY
  split
  · exact mix3_lt hx 3 i hi
  · exact hx i hi
theorem decSt_lt {S' K B : Nat → Nat} {R : Nat} (hS : ∀ i, i < 256 → S' i < 256) (hK : ∀ i, i < 240 → K i < 256) (hB : ∀ i, i < 16 → B i < 256) (hR : R ≤ 14) : ∀ n i, i < 16 → decSt S' K R B n i < 256
  | 0, i, hi => hB i hi
  | n + 1, _, _ => usF_lt hS (decY_lt hK (decSt_lt hS hK hB hR n) (by omega))
/-- A block deciphered. -/
def decF (S' K : Nat → Nat) (R : Nat) (B : Nat → Nat) : Nat → Nat := x2 (decSt S' K R B R) K

/-! The two tables: p goes through all bytes but 0, q through their inverses. -/
def qn (q : Nat) : Nat :=
  let q1 := q ^^^ (q * 2 % 256)
  let q2 := q1 ^^^ (q1 * 4 % 256)
  let q3 := q2 ^^^ (q2 * 16 % 256)
  if q3 &&& 128 = 0 then q3 else q3 ^^^ 9
def sval (q : Nat) : Nat :=
  q ^^^ (q * 2 % 256 ||| q / 128) ^^^ (q * 4 % 256 ||| q / 64) ^^^ (q * 8 % 256 ||| q / 32) ^^^ (q * 16 % 256 ||| q / 16) ^^^ 99
def pq : Nat → Nat × Nat
  | 0 => (1, 1)
  | k + 1 => ((pq k).1 ^^^ dbl (pq k).1, qn (pq k).2)
def tab : Nat → (Nat → Nat)
  | 0 => fun _ => 0
  | k + 1 => fun j => if j = (pq (k + 1)).1 then sval (pq (k + 1)).2 else tab k j
def sBox (j : Nat) : Nat := if j = 0 then 99 else tab 255 j
def btab (S : Nat → Nat) : Nat → (Nat → Nat)
  | 0 => fun _ => 0
  | k + 1 => fun j => if j = S k then k else btab S k j
def sBack : Nat → Nat := btab sBox 256
theorem or_lt8 {a b : Nat} (ha : a < 256) (hb : b < 256) : a ||| b < 256 := Nat.or_lt_two_pow (n := 8) ha hb
theorem qn_lt {q : Nat} (h : q < 256) : qn q < 256 := by
  have h1 : q ^^^ (q * 2 % 256) < 256 := xor_lt8 h (by omega)
  have h2 : (q ^^^ (q * 2 % 256)) ^^^ ((q ^^^ (q * 2 % 256)) * 4 % 256) < 256 := xor_lt8 h1 (by omega)
  have h3 := xor_lt8 h2 (b := ((q ^^^ (q * 2 % 256)) ^^^ ((q ^^^ (q * 2 % 256)) * 4 % 256)) * 16 % 256) (by omega)
  show (if (_ ^^^ _) &&& 128 = 0 then _ else _) < 256
  split
  · exact h3
  · exact xor_lt8 h3 (by omega)
theorem qn_of {q q1 q2 q3 : Nat} (h1 : q1 = q ^^^ (q * 2 % 256)) (h2 : q2 = q1 ^^^ (q1 * 4 % 256)) (h3 : q3 = q2 ^^^ (q2 * 16 % 256)) : qn q = if q3 &&& 128 = 0 then q3 else q3 ^^^ 9 := by
  subst h3; subst h2; subst h1; rfl
theorem sval_lt {q : Nat} (h : q < 256) : sval q < 256 := by
  unfold sval
  exact xor_lt8 (xor_lt8 (xor_lt8 (xor_lt8 (xor_lt8 h (or_lt8 (by omega) (by omega))) (or_lt8 (by omega) (by omega))) (or_lt8 (by omega) (by omega))) (or_lt8 (by omega) (by omega))) (by omega)
theorem pq_lt : ∀ k, (pq k).1 < 256 ∧ (pq k).2 < 256
  | 0 => ⟨by decide, by decide⟩
  | k + 1 => ⟨xor_lt8 (pq_lt k).1 (dbl_lt (pq_lt k).1), qn_lt (pq_lt k).2⟩
theorem tab_lt : ∀ k j, tab k j < 256
  | 0, _ => by simp [tab]
  | k + 1, j => by
    simp only [tab]; split
    · exact sval_lt (pq_lt _).2
    · exact tab_lt k j
theorem sBox_lt (j : Nat) : sBox j < 256 := by
  unfold sBox
  split
  · decide
  · exact tab_lt _ _
theorem btab_lt (S : Nat → Nat) : ∀ k, k ≤ 256 → ∀ j, btab S k j < 256
  | 0, _, _ => by simp [btab]
  | k + 1, hk, j => by
    simp only [btab]; split
    · omega
    · exact btab_lt S k (by omega) j
theorem sBack_lt (j : Nat) : sBack j < 256 := btab_lt _ 256 (by omega) j
/-- Of n further rounds none but the last ends at 1. -/
def noOne : Nat → Nat → Bool
  | 0, p => p == 1
  | n + 1, p => p != 1 && noOne n (p ^^^ dbl p)
theorem noOne_pq : ∀ n k, noOne n (pq k).1 = true → (∀ j, j < n → (pq (k + j)).1 ≠ 1) ∧ (pq (k + n)).1 = 1
  | 0, k, h => ⟨fun j hj => absurd hj (by omega), by simpa [noOne] using h⟩
  | n + 1, k, h => by
    simp [noOne] at h
    have ih := noOne_pq n (k + 1) h.2
    refine ⟨fun j hj => ?_, by rw [show k + (n + 1) = k + 1 + n by omega]; exact ih.2⟩
    cases j with
    | zero => exact h.1
    | succ j => rw [show k + (j + 1) = k + 1 + j by omega]; exact ih.1 j (by omega)
theorem pq_one : (∀ k, 0 < k → k < 255 → (pq k).1 ≠ 1) ∧ (pq 255).1 = 1 := by
  have := noOne_pq 254 1 (by decide +kernel)
  refine ⟨fun k h0 h1 => ?_, this.2⟩
  have := this.1 (k - 1) (by omega)
  rwa [show 1 + (k - 1) = k by omega] at this

/-! The round keys. -/
def kmid (S : Nat → Nat) (n : Nat) (ws : List Nat) (rc j : Nat) : Nat :=
  if ws.length % n = 0 then (if j = 0 then S (ws.getD (ws.length - 4 + 1) 0) ^^^ rc else if j = 3 then S (ws.getD (ws.length - 4) 0) else S (ws.getD (ws.length - 4 + (j + 1)) 0))
  else if ws.length % n = 16 then S (ws.getD (ws.length - 4 + j) 0) else ws.getD (ws.length - 4 + j) 0
def kpart (S : Nat → Nat) (n : Nat) (ws : List Nat) (rc : Nat) : Nat → List Nat
  | 0 => ws
  | j + 1 => kpart S n ws rc j ++ [(kpart S n ws rc j).getD (ws.length + j - n) 0 ^^^ kmid S n ws rc j]
def krc (n : Nat) (ws : List Nat) (rc : Nat) : Nat := if ws.length % n = 0 then dbl rc else rc
def kst (S : Nat → Nat) (key : List Nat) : Nat → List Nat × Nat
  | 0 => (key, 1)
  | m + 1 => (kpart S key.length (kst S key m).1 (kst S key m).2 4, krc key.length (kst S key m).1 (kst S key m).2)
/-- The bytes of all round keys, one behind the other. -/
def keyF (S : Nat → Nat) (key : List Nat) (j : Nat) : Nat := (kst S key ((16 * (key.length / 4 + 7) - key.length) / 4)).1.getD j 0

theorem kmid_a {S : Nat → Nat} {n : Nat} {ws : List Nat} {rc t0 t1 t2 t3 : Nat} (h : ws.length % n = 0) (h0 : t0 = ws.getD (ws.length - 4) 0) (h1 : t1 = ws.getD (ws.length - 4 + 1) 0) (h2 : t2 = ws.getD (ws.length - 4 + 2) 0) (h3 : t3 = ws.getD (ws.length - 4 + 3) 0) :
    kmid S n ws rc 0 = S t1 ^^^ rc ∧ kmid S n ws rc 1 = S t2 ∧ kmid S n ws rc 2 = S t3 ∧ kmid S n ws rc 3 = S t0 := by
  subst h0 h1 h2 h3
  simp [kmid, h]
theorem kmid_b {S : Nat → Nat} {n : Nat} {ws : List Nat} {rc t0 t1 t2 t3 : Nat} (h : ¬ ws.length % n = 0) (h' : ws.length % n = 16) (h0 : t0 = ws.getD (ws.length - 4) 0) (h1 : t1 = ws.getD (ws.length - 4 + 1) 0) (h2 : t2 = ws.getD (ws.length - 4 + 2) 0) (h3 : t3 = ws.getD (ws.length - 4 + 3) 0) :
    kmid S n ws rc 0 = S t0 ∧ kmid S n ws rc 1 = S t1 ∧ kmid S n ws rc 2 = S t2 ∧ kmid S n ws rc 3 = S t3 := by
  subst h0 h1 h2 h3
  simp [kmid, h']
theorem kmid_c {S : Nat → Nat} {n : Nat} {ws : List Nat} {rc : Nat} (h : ¬ ws.length % n = 0) (h' : ¬ ws.length % n = 16) (j : Nat) : kmid S n ws rc j = ws.getD (ws.length - 4 + j) 0 := by
  simp [kmid, h, h']
theorem kpart_len (S : Nat → Nat) (n : Nat) (ws : List Nat) (rc : Nat) : ∀ j, (kpart S n ws rc j).length = ws.length + j
  | 0 => rfl
  | j + 1 => by simp [kpart, kpart_len S n ws rc j]; omega
theorem kst_len (S : Nat → Nat) (key : List Nat) : ∀ m, (kst S key m).1.length = key.length + 4 * m
  | 0 => rfl
  | m + 1 => by simp only [kst, kpart_len, kst_len S key m]; omega
def By (L : List Nat) : Prop := ∀ x, x ∈ L → x < 256
theorem By.getD {L : List Nat} (h : By L) (i : Nat) : L.getD i 0 < 256 := by
  rw [List.getD_eq_getElem?_getD]
  by_cases hi : i < L.length
  · rw [List.getElem?_eq_getElem hi]; exact h _ (List.getElem_mem hi)
  · rw [List.getElem?_eq_none (by omega)]; decide
theorem By.app {L M : List Nat} (h : By L) (k : By M) : By (L ++ M) := fun x hx => by
  rcases List.mem_append.1 hx with hx | hx
  · exact h x hx
  · exact k x hx
theorem kmid_lt {S : Nat → Nat} (hS : ∀ i, i < 256 → S i < 256) {n : Nat} {ws : List Nat} (hw : By ws) {rc : Nat} (hr : rc < 256) (j : Nat) : kmid S n ws rc j < 256 := by
  unfold kmid
  split
  · split
    · exact xor_lt8 (hS _ (hw.getD _)) hr
    · split <;> exact hS _ (hw.getD _)
  · split
    · exact hS _ (hw.getD _)
    · exact hw.getD _
theorem kpart_by {S : Nat → Nat} (hS : ∀ i, i < 256 → S i < 256) {n : Nat} {ws : List Nat} (hw : By ws) {rc : Nat} (hr : rc < 256) : ∀ j, By (kpart S n ws rc j)
  | 0 => hw
  | j + 1 => (kpart_by hS hw hr j).app fun x hx => by
    simp at hx; rw [hx]; exact xor_lt8 (by rw [← List.getD_eq_getElem?_getD]; exact (kpart_by hS hw hr j).getD _) (kmid_lt hS hw hr j)
theorem kst_by {S : Nat → Nat} (hS : ∀ i, i < 256 → S i < 256) {key : List Nat} (hk : By key) : ∀ m, By (kst S key m).1 ∧ (kst S key m).2 < 256
  | 0 => ⟨hk, by simp [kst]⟩
  | m + 1 => ⟨kpart_by hS (kst_by hS hk m).1 (kst_by hS hk m).2 4, by
    show krc _ _ _ < 256
    unfold krc; split
    · exact dbl_lt (kst_by hS hk m).2
    · exact (kst_by hS hk m).2⟩
theorem keyF_lt {S : Nat → Nat} (hS : ∀ i, i < 256 → S i < 256) {key : List Nat} (hk : By key) (j : Nat) : keyF S key j < 256 := (kst_by hS hk _).1.getD j

theorem x8 {a b : Nat} (ha : a < 256) (hb : b < 256) : bits .xor .u8 (a : Int) (b : Int) = ((a ^^^ b : Nat) : Int) := u8_xor_nat a b ha hb

theorem o8 {a b : Nat} (ha : a < 256) (hb : b < 256) : bits .or .u8 (a : Int) (b : Int) = ((a ||| b : Nat) : Int) := u8_or_nat a b ha hb
theorem n8 {a b : Nat} (ha : a < 256) (hb : b < 256) : bits .and .u8 (a : Int) (b : Int) = ((a &&& b : Nat) : Int) := u8_and_nat a b ha hb

theorem sval_bits {q : Nat} (h : q < 256) : bits .xor .u8 (bits .xor .u8 (bits .xor .u8 (bits .xor .u8 (bits .xor .u8 (q : Int) (bits .or .u8 ((q : Int) * 2 % 256) ((q : Int) / 128)))
    (bits .or .u8 ((q : Int) * 4 % 256) ((q : Int) / 64))) (bits .or .u8 ((q : Int) * 8 % 256) ((q : Int) / 32))) (bits .or .u8 ((q : Int) * 16 % 256) ((q : Int) / 16))) 99 = ((sval q : Nat) : Int) := by
  have a1 := o8 (a := q * 2 % 256) (b := q / 128) (by omega) (by omega)
  have a2 := o8 (a := q * 4 % 256) (b := q / 64) (by omega) (by omega)
  have a3 := o8 (a := q * 8 % 256) (b := q / 32) (by omega) (by omega)
  have a4 := o8 (a := q * 16 % 256) (b := q / 16) (by omega) (by omega)
  have l1 := or_lt8 (a := q * 2 % 256) (b := q / 128) (by omega) (by omega)
  have l2 := or_lt8 (a := q * 4 % 256) (b := q / 64) (by omega) (by omega)
  have l3 := or_lt8 (a := q * 8 % 256) (b := q / 32) (by omega) (by omega)
  have l4 := or_lt8 (a := q * 16 % 256) (b := q / 16) (by omega) (by omega)
  simp only [Int.natCast_emod, Int.natCast_ediv, Int.natCast_mul, Int.cast_ofNat_Int] at a1 a2 a3 a4
  rw [a1, a2, a3, a4, x8 h l1, x8 (xor_lt8 h l1) l2, x8 (xor_lt8 (xor_lt8 h l1) l2) l3, x8 (xor_lt8 (xor_lt8 (xor_lt8 h l1) l2) l3) l4]
  exact x8 (b := 99) (xor_lt8 (xor_lt8 (xor_lt8 (xor_lt8 h l1) l2) l3) l4) (by omega)

end Go.Proofs.YtpkpkfjpnkbkbaaDoor
