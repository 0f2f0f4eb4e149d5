/- Byte slices: those that come in (SlA), those that the call itself grows (Buf); append. -/
import Derived.Test.YtpkpkfjpnkbkbaaDoorBase
import Derived.Test.YtpkpkfjpnkbkbaaDoorPlainA
import Derived.Laws.AppendOwnNone
namespace Go.Proofs.YtpkpkfjpnkbkbaaDoor
open Go.RowKit

abbrev byL (L : List Nat) : List Value := L.map fun (x : Nat) => .int .u8 (x : Int)
abbrev byG (L : List Nat) : Nat → Value := by8 fun i => L.getD i 0

/-- A slice (base address a, capacity cap) reads as the bytes L. -/
structure SlA (w : World) (a : Option Addr) (cap : Nat) (L : List Nat) : Prop where
  le : L.length ≤ cap
  nil : a = none → cap = 0
  has : L ≠ [] → ∃ b o, a = some ⟨b, o, none⟩ ∧ Has w b o L.length (byG L)

theorem SlA.of_has {w : World} {b o cap : Nat} {L : List Nat} (h : Has w b o L.length (byG L)) (hle : L.length ≤ cap) : SlA w (some ⟨b, o, none⟩) cap L :=
  ⟨hle, by simp, fun _ => ⟨b, o, rfl, h⟩⟩
theorem SlA.only {w w' : World} {a : Option Addr} {cap : Nat} {L : List Nat} (h : SlA w a cap L) {S : List Nat} (ho : Only S w w') (hS : ∀ x, a = some x → x.block ∉ S) : SlA w' a cap L :=
  ⟨h.le, h.nil, fun hL => by
    obtain ⟨b, o, rfl, hh⟩ := h.has hL
    exact ⟨b, o, rfl, ho.has hh (hS _ rfl)⟩⟩

/-- The slice value v is one that the call made itself (its row lies from block base on), and reads as L. -/
def Buf (w : World) (base : Nat) (v : Value) (L : List Nat) : Prop := w.ownsRow base 5 1 v L.length (byL L)

theorem Buf.nil (w : World) (base : Nat) : Buf w base (.slice none 0 0) [] := World.ownsRow_nil w base 5 1
theorem Buf.open {w : World} {base : Nat} {v : Value} {L : List Nat} (h : Buf w base v L) (hL : L ≠ []) :
    ∃ g cap, v = .slice (some ⟨g, 0, none⟩) L.length cap ∧ base ≤ g ∧ g < w.heap.size ∧ L.length ≤ cap ∧ cap ≤ maxLen ∧ Has w g 0 L.length (byG L) ∧ Loose w g 0 L.length := by
  have hlen := List.length_pos_iff.2 hL
  rcases h.2 with ⟨_, hn⟩ | ⟨g, cap, cur, hv, hb, hg, hn, hm, hs, ht⟩
  · omega
  · refine ⟨g, cap, hv, hb, by have := Array.getElem?_eq_some_iff.1 hg; exact this.1, hn, hm, fun i hi => ?_, fun i _ => ?_⟩
    · have := h.cells (g := g) (by rw [hv]; rfl) i (.int .u8 (L.getD i 0 : Nat)) (by simp [hi])
      rw [Addr.add_mid] at this
      exact this
    · exact frozen_of_row w g _ cur _ hg
theorem Buf.slA {w : World} {base : Nat} {v : Value} {L : List Nat} (h : Buf w base v L) : ∃ a cap, v = .slice a L.length cap ∧ SlA w a cap L ∧ (∀ x, a = some x → base ≤ x.block ∧ x.block < w.heap.size) := by
  rcases h.2 with ⟨hv, hn⟩ | ⟨g, cap, cur, hv, hb, hg, hn, hm, hs, ht⟩
  · have : L = [] := List.eq_nil_of_length_eq_zero hn
    subst this
    exact ⟨none, 0, hv, ⟨Nat.le_refl _, fun _ => rfl, fun h => absurd rfl h⟩, fun x hx => by cases hx⟩
  · refine ⟨some ⟨g, 0, none⟩, cap, hv, ⟨hn, by simp, fun hL => ?_⟩, fun x hx => by
      cases hx; exact ⟨hb, (Array.getElem?_eq_some_iff.1 hg).1⟩⟩
    obtain ⟨g', cap', hv', _, _, _, _, hh, _⟩ := h.open hL
    rw [hv] at hv'
    cases hv'
    exact ⟨g, 0, rfl, hh⟩
theorem Buf.lt {w : World} {base : Nat} {v : Value} {L : List Nat} (h : Buf w base v L) : ∀ g, v.ownBlock = some g → base ≤ g ∧ g < w.heap.size := World.ownsRow.lt h
theorem Buf.alloc {w : World} {base : Nat} {v : Value} {L : List Nat} (h : Buf w base v L) (o : Obj) : Buf (w.alloc o) base v L := World.ownsRow.alloc h o
theorem Buf.only {w w' : World} {base : Nat} {v : Value} {L : List Nat} (h : Buf w base v L) {S : List Nat} (ho : Only S w w') (hS : ∀ g, v.ownBlock = some g → g ∉ S) : Buf w' base v L := by
  obtain ⟨h1, h2⟩ := h
  refine ⟨h1, ?_⟩
  rcases h2 with h2 | ⟨g, cap, cur, hv, hb, hg, r⟩
  · exact .inl h2
  · exact .inr ⟨g, cap, cur, hv, hb, ho.heap hg (hS g (by rw [hv]; rfl)), r⟩
theorem Buf.base_le {w : World} {base base' : Nat} {v : Value} {L : List Nat} (h : Buf w base v L) (hb : base' ≤ base) : Buf w base' v L := by
  obtain ⟨h1, h2⟩ := h
  refine ⟨h1, ?_⟩
  rcases h2 with h2 | ⟨g, cap, cur, hv, hb', r⟩
  · exact .inl h2
  · exact .inr ⟨g, cap, cur, hv, Nat.le_trans hb hb', r⟩
theorem Only.of_grown {w w' : World} {row : Option Nat} (h : w.grownBy w' row) : Only row.toList w w' :=
  ⟨h.os, h.tape, h.output, h.size, fun k hk hn => h.block k hk (fun e => hn (by rw [← e]; simp))⟩

theorem info8 : (Tryd.prog.info? 5).map (fun i => (i.zero, i.size, i.bytes)) = some (some (.int .u8 0), 1, 1) := by kernel_rfl

/-- append(out, x...) on a slice of the call's own. -/
theorem wpList_append_sl {w : World} {ops : Array Oper} {rest : List Oper} {op : Oper} {act : Act} {Q : Exit → Act → World → Prop} (hgd : op.guard = none) (s x : Operand)
    (ho : op.op = .call { callee := .builtin .append, args := #[s, x], argTypes := #[22, 22] })
    (base : Nat) (v : Value) (L : List Nat) (hs : act.eval s = v) (hown : Buf w base v L)
    (a : Option Addr) (cap : Nat) (M : List Nat) (hx : act.eval x = .slice a M.length cap) (hM : SlA w a cap M)
    (hlen : L.length + M.length ≤ 140737488355328) (hbase : base ≤ w.heap.size)
    (h : ∀ v' w', Buf w' base v' (L ++ M) → Only v.ownBlock.toList w w' → wpList Tryd.prog ops Q rest (act.put op.dst v') w') : wpList Tryd.prog ops Q (op :: rest) act w := by
  obtain ⟨i0, hi, hz0, hz1, hz2⟩ : ∃ i, Tryd.prog.info? 5 = some i ∧ i.zero = some (.int .u8 0) ∧ i.size = 1 ∧ i.bytes = 1 := by
    have := info8
    cases hq : Tryd.prog.info? 5 with
    | none => rw [hq] at this; simp at this
    | some i => rw [hq] at this; simp at this; exact ⟨i, rfl, this.1, this.2.1, this.2.2⟩
  cases a with
  | none =>
    have hc : cap = 0 := hM.nil rfl
    have hl := hM.le
    have : M = [] := List.eq_nil_of_length_eq_zero (by omega)
    subst this
    subst hc
    refine wpList_append_own_none hgd s x 22 ho base 5 i0 1 Tryd.underlying22 hi v L.length (byL L) hs hown (by simpa using hx) (h v w (by simpa using hown) (Only.refl _ _))
  | some ad =>
    refine wpList_append_own w hgd s x 22 ho base 5 i0 (.int .u8 0) 1 1 Tryd.underlying22 hi hz0 hz1 hz2 rfl (by decide) v L.length (byL L) hs hown ad M.length cap (byL M) hx (by simp)
      (fun j u hu => ?_) (fun u hu => by simp at hu; obtain ⟨_, _, rfl⟩ := hu; rfl) (by unfold maxLen; omega) (by omega) hbase (fun v' w' h1 h2 _ => h v' w' ?_ (Only.of_grown h2))
    · have hj : j < M.length := by have := (List.getElem?_eq_some_iff.1 hu).1; simpa using this
      obtain ⟨b, o, e, hh⟩ := hM.has (by intro e; rw [e] at hj; simp at hj)
      cases e
      rw [Addr.add_mid, hh j hj]
      simp at hu
      obtain ⟨y, hy, rfl⟩ := hu
      simp [hy]
    · unfold Buf
      simpa [byL] using h1

end Go.Proofs.YtpkpkfjpnkbkbaaDoor
