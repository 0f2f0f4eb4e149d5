/- What the sealer's through says, in plain words. -/
import Derived.Test.YtpkpkfjpnkbkbaaDoorOcb9
import Derived.Test.YtpkpkfjpnkbkbaaDoorOcb5
import Derived.Test.YtpkpkfjpnkbkbaaDoorOcb3
import Derived.OwnWalk
namespace Go.Proofs.YtpkpkfjpnkbkbaaDoor
open Go.RowKit

/-- A block's bytes. -/
def blkL (f : Nat → Nat) : List Nat := (List.range 16).map f
theorem blkL_len (f : Nat → Nat) : (blkL f).length = 16 := by simp [blkL]
theorem blkL_get (f : Nat → Nat) {i : Nat} (h : i < 16) : (blkL f).getD i 0 = f i := by
  simp [blkL, List.getD_eq_getElem?_getD, h]
theorem byG_blkL (f : Nat → Nat) {i : Nat} (h : i < 16) : by8 f i = byG (blkL f) i := by
  show Value.int .u8 ((f i : Nat) : Int) = Value.int .u8 (((blkL f).getD i 0 : Nat) : Int)
  rw [blkL_get f h]
/-- The r-th block that comes out. -/
def thrB (op : Bool) (K : Nat → Nat) (R : Nat) (ls : Nat → Nat → Nat) (off : Nat → Nat) (L : List Nat) (r : Nat) : Nat → Nat :=
  x2 (if op = true then decF sBack K R (x2 (adB L r) (hOff ls off (r + 1))) else encAt sBox K R (x2 (adB L r) (hOff ls off (r + 1))) R) (hOff ls off (r + 1))
/-- The plain blocks' sum. -/
def thrSum (op : Bool) (K : Nat → Nat) (R : Nat) (ls : Nat → Nat → Nat) (off sum : Nat → Nat) (L : List Nat) : Nat → Nat → Nat
  | 0 => sum
  | r + 1 => x2 (thrSum op K R ls off sum L r) (if op = true then thrB op K R ls off L r else adB L r)
def thrOut (op : Bool) (K : Nat → Nat) (R : Nat) (ls : Nat → Nat → Nat) (off : Nat → Nat) (L : List Nat) : Nat → List Nat
  | 0 => []
  | r + 1 => thrOut op K R ls off L r ++ blkL (thrB op K R ls off L r)
/-- What is left behind r blocks, under a pad. -/
def restN (L : List Nat) (r : Nat) (pad : Nat → Nat) (n : Nat) : List Nat := (List.range n).map fun j => adB L r j ^^^ pad j
def restL (L : List Nat) (r : Nat) (pad : Nat → Nat) : List Nat := restN L r pad (L.length - 16 * r)
def thrOffF (star : Nat → Nat) (ls : Nat → Nat → Nat) (off : Nat → Nat) (L : List Nat) : Nat → Nat :=
  if L.length % 16 = 0 then hOff ls off (L.length / 16) else x2 (hOff ls off (L.length / 16)) star
def thrOutF (op : Bool) (K : Nat → Nat) (R : Nat) (star : Nat → Nat) (ls : Nat → Nat → Nat) (off : Nat → Nat) (L : List Nat) : List Nat :=
  if L.length % 16 = 0 then thrOut op K R ls off L (L.length / 16)
  else thrOut op K R ls off L (L.length / 16) ++ restL L (L.length / 16) (encAt sBox K R (x2 (hOff ls off (L.length / 16)) star) R)
def thrSumF (op : Bool) (K : Nat → Nat) (R : Nat) (star : Nat → Nat) (ls : Nat → Nat → Nat) (off sum : Nat → Nat) (L : List Nat) : Nat → Nat :=
  if L.length % 16 = 0 then thrSum op K R ls off sum L (L.length / 16)
  else x2 (thrSum op K R ls off sum L (L.length / 16)) (padF (if op = true then restL L (L.length / 16) (encAt sBox K R (x2 (hOff ls off (L.length / 16)) star) R) else L.drop (16 * (L.length / 16))))

theorem restN_len (L : List Nat) (r : Nat) (pad : Nat → Nat) (n : Nat) : (restN L r pad n).length = n := by simp [restN]
theorem restN_succ (L : List Nat) (r : Nat) (pad : Nat → Nat) (n : Nat) : restN L r pad (n + 1) = restN L r pad n ++ [adB L r n ^^^ pad n] := by
  simp [restN, List.range_succ]
theorem by_blkL {f : Nat → Nat} (h : B16 f) : By (blkL f) := fun x hx => by
  simp [blkL] at hx
  obtain ⟨i, hi, rfl⟩ := hx
  exact h i hi
theorem by_app {L M : List Nat} (h : By L) (k : By M) : By (L ++ M) := fun x hx => by
  rcases List.mem_append.1 hx with hx | hx
  · exact h x hx
  · exact k x hx
theorem by_restN {L : List Nat} (h : By L) {pad : Nat → Nat} (hp : B16 pad) (r n : Nat) (hn : n ≤ 16) : By (restN L r pad n) := fun x hx => by
  simp [restN] at hx
  obtain ⟨i, hi, rfl⟩ := hx
  exact xor_lt8 (adB_b h r i (by omega)) (hp i (by omega))
theorem thrB_b {op : Bool} {K : Nat → Nat} {R : Nat} {star dollar : Nat → Nat} {ls : Nat → Nat → Nat} (h : Keyed K R star dollar ls) {off : Nat → Nat} (ho : B16 off) {L : List Nat} (hL : By L) (r : Nat) : B16 (thrB op K R ls off L r) := by
  have h1 := hOff_b h.ls ho (r + 1)
  have h2 := x2_b (adB_b hL r) h1
  refine x2_b ?_ h1
  cases op
  · exact h.enc h2
  · exact decF_b (fun i _ => sBack_lt i) h.key h2 h.le
theorem thrSum_b {op : Bool} {K : Nat → Nat} {R : Nat} {star dollar : Nat → Nat} {ls : Nat → Nat → Nat} (h : Keyed K R star dollar ls) {off sum : Nat → Nat} (ho : B16 off) (hs : B16 sum) {L : List Nat} (hL : By L) : ∀ r, B16 (thrSum op K R ls off sum L r)
  | 0 => hs
  | r + 1 => by
    refine x2_b (thrSum_b h ho hs hL r) ?_
    cases op
    · exact adB_b hL r
    · exact thrB_b h ho hL r
theorem thrOut_len {op : Bool} {K : Nat → Nat} {R : Nat} {ls : Nat → Nat → Nat} {off : Nat → Nat} {L : List Nat} : ∀ r, (thrOut op K R ls off L r).length = 16 * r
  | 0 => rfl
  | r + 1 => by simp [thrOut, thrOut_len r, blkL_len]; omega
theorem thrOut_b {op : Bool} {K : Nat → Nat} {R : Nat} {star dollar : Nat → Nat} {ls : Nat → Nat → Nat} (h : Keyed K R star dollar ls) {off : Nat → Nat} (ho : B16 off) {L : List Nat} (hL : By L) : ∀ r, By (thrOut op K R ls off L r)
  | 0 => fun x hx => by cases hx
  | r + 1 => by_app (thrOut_b h ho hL r) (by_blkL (thrB_b h ho hL r))
theorem thrOffF_b {K : Nat → Nat} {R : Nat} {star dollar : Nat → Nat} {ls : Nat → Nat → Nat} (h : Keyed K R star dollar ls) {off : Nat → Nat} (ho : B16 off) {L : List Nat} : B16 (thrOffF star ls off L) := by
  unfold thrOffF
  split
  · exact hOff_b h.ls ho _
  · exact x2_b (hOff_b h.ls ho _) h.star
theorem thrOutF_len {op : Bool} {K : Nat → Nat} {R : Nat} {star : Nat → Nat} {ls : Nat → Nat → Nat} {off : Nat → Nat} {L : List Nat} : (thrOutF op K R star ls off L).length = L.length := by
  unfold thrOutF
  split
  · rw [thrOut_len]; omega
  · simp [restL, restN_len, thrOut_len]; omega
theorem thrOutF_b {op : Bool} {K : Nat → Nat} {R : Nat} {star dollar : Nat → Nat} {ls : Nat → Nat → Nat} (h : Keyed K R star dollar ls) {off : Nat → Nat} (ho : B16 off) {L : List Nat} (hL : By L) : By (thrOutF op K R star ls off L) := by
  unfold thrOutF
  split
  · exact thrOut_b h ho hL _
  · exact by_app (thrOut_b h ho hL _) (by_restN hL (h.enc (x2_b (hOff_b h.ls ho _) h.star)) _ _ (by omega))
theorem thrSumF_b {op : Bool} {K : Nat → Nat} {R : Nat} {star dollar : Nat → Nat} {ls : Nat → Nat → Nat} (h : Keyed K R star dollar ls) {off sum : Nat → Nat} (ho : B16 off) (hs : B16 sum) {L : List Nat} (hL : By L) : B16 (thrSumF op K R star ls off sum L) := by
  unfold thrSumF
  split
  · exact thrSum_b h ho hs hL _
  · refine x2_b (thrSum_b h ho hs hL _) (padF_b ?_)
    cases op
    · exact fun x hx => hL x (List.mem_of_mem_drop hx)
    · exact by_restN hL (h.enc (x2_b (hOff_b h.ls ho _) h.star)) _ _ (by omega)

theorem Buf.fix {w w' : World} {base g k cap : Nat} {L : List Nat} (h : Buf w base (.slice (some ⟨g, 0, none⟩) k cap) L) {S : List Nat} (ho : Only S w w') (hg : g ∉ S) : Buf w' base (.slice (some ⟨g, 0, none⟩) k cap) L :=
  h.only ho (fun g' h' => by cases h'; exact hg)
/-- append within the capacity. -/
theorem wpList_append_fit {w : World} {ops : Array Oper} {rest : List Oper} {op : Oper} {act : Act} {Q : Exit → Act → World → Prop} (hgd : op.guard = none) (s x : Operand)
    (ho : op.op = .call { callee := .builtin .append, args := #[s, x], argTypes := #[22, 22] })
    (base g k cap : Nat) (L : List Nat) (hs : act.eval s = .slice (some ⟨g, 0, none⟩) k cap) (hown : Buf w base (.slice (some ⟨g, 0, none⟩) k cap) L) (hk : L.length = k)
    (a : Option Addr) (m c : Nat) (M : List Nat) (hm : M.length = m) (hx : act.eval x = .slice a m c) (hM : SlA w a c M) (hle : k + m ≤ cap)
    (h : ∀ w', Buf w' base (.slice (some ⟨g, 0, none⟩) (k + m) cap) (L ++ M) → Only [g] w w' → wpList Tryd.prog ops Q rest (act.put op.dst (.slice (some ⟨g, 0, none⟩) (k + m) cap)) w') : wpList Tryd.prog ops Q (op :: rest) act w := by
  obtain ⟨ti, hti, -, ht1, -⟩ := info_parts (z := .int .u8 0) (size := 1) (bytes := 1) (show (Tryd.prog.info? 5).map (fun i => (i.zero, i.size, i.bytes)) = some (some (.int .u8 0), 1, 1) by kernel_rfl)
  subst hk
  subst hm
  refine wpList_append_fits_any w hgd s x 22 ho base 5 ti 1 Tryd.underlying22 hti ht1 g L.length cap (byL L) hs hown a M.length c (byL M) hx (by simp) (fun h0 => ?_) (fun ad h0 j u hu => ?_) (fun u hu => by simp at hu; obtain ⟨_, _, rfl⟩ := hu; rfl) hle (fun w' h1 h2 => h w' ?_ (Only.of_grown h2))
  · have := hM.nil h0
    have := hM.le
    omega
  · have hj : j < M.length := by have := (List.getElem?_eq_some_iff.1 hu).1; simpa using this
    obtain ⟨b, o, e, hh⟩ := hM.has (by intro e; rw [e] at hj; simp at hj)
    rw [e] at h0
    cases h0
    rw [Addr.add_mid, hh j hj]
    simp at hu
    obtain ⟨y, hy, rfl⟩ := hu
    simp [hy]
  · unfold Buf
    simpa [byL] using h1

end Go.Proofs.YtpkpkfjpnkbkbaaDoor
