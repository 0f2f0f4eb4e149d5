/- Words of this proof for memory: a row of cells that holds a function, what a call may have turned, what it has put. -/
import Derived.Test.YtpkpkfjpnkbkbaaDoorProg
import Derived.WalkKit
import Derived.Deep.LoopGhost
import Derived.Deep.MidRow
import Derived.Deep.Light
import Derived.Deep.Draws
import Derived.Deep.QuietTactic
import Derived.BigQuiet
import Derived.StillTailTactics
import Derived.Deep.RegionHeld3
import Derived.RegionCalls
import Derived.Deep.RegionWith
import Derived.Deep.RegionLaw
import Derived.Deep.Cut
import Derived.Deep.CutRange
import Derived.Deep.CutBlock
import Derived.Lib.Hide
import Derived.WalkSpells
namespace Go.Proofs.YtpkpkfjpnkbkbaaDoor
open Go.RowKit

/-- The row of n values f 0, f 1, .. -/
def rowV (n : Nat) (f : Nat → Value) : Array Value := ((List.range n).map f).toArray

theorem rowV_size (n : Nat) (f : Nat → Value) : (rowV n f).size = n := by simp [rowV]
theorem rowV_get {n i : Nat} (f : Nat → Value) (h : i < n) : (rowV n f)[i]? = some (f i) := by
  simp [rowV, h]
theorem rowV_congr {n : Nat} {f g : Nat → Value} (h : ∀ i, i < n → f i = g i) : rowV n f = rowV n g := by
  unfold rowV
  congr 1
  apply List.map_congr_left
  intro a ha
  exact h a (List.mem_range.1 ha)
theorem rowV_of_array (c : Array Value) (n : Nat) (h : c.size = n) : c = rowV n (fun i => c[i]?.getD undef) := by
  apply Array.ext
  · rw [rowV_size]; exact h
  · intro i h1 h2
    simp [rowV, h1]

/-- n cells of block b from o on hold f 0, f 1, .. -/
def Has (w : World) (b o n : Nat) (f : Nat → Value) : Prop := ∀ i, i < n → w.cell? ⟨b, o + i, none⟩ = some (f i)
/-- No one of n cells of block b from o on is frozen. -/
def Loose (w : World) (b o n : Nat) : Prop := ∀ i, i < n → w.frozen? ⟨b, o + i, none⟩ = false

theorem Has.get0 {w : World} {b n : Nat} {f : Nat → Value} (h : Has w b 0 n f) {i : Nat} (hi : i < n) : w.cell? ⟨b, i, none⟩ = some (f i) := by
  simpa using h i hi
theorem Has.congr {w : World} {b o n : Nat} {f g : Nat → Value} (h : Has w b o n f) (e : ∀ i, i < n → f i = g i) : Has w b o n g := fun i hi => by
  rw [h i hi, e i hi]
theorem Has.sub {w : World} {b o n : Nat} {f : Nat → Value} (h : Has w b o n f) (k m : Nat) (hk : k + m ≤ n) : Has w b (o + k) m (fun i => f (k + i)) := fun i hi => by
  have := h (k + i) (by omega)
  rwa [show o + (k + i) = o + k + i by omega] at this
theorem Loose.sub {w : World} {b o n : Nat} (h : Loose w b o n) (k m : Nat) (hk : k + m ≤ n) : Loose w b (o + k) m := fun i hi => by
  have := h (k + i) (by omega)
  rwa [show o + (k + i) = o + k + i by omega] at this

theorem Has.range {w : World} {b o n : Nat} {f : Nat → Value} (h : Has w b o n f) : w.rangeAt b o ((List.range n).map f) := fun j v hv => by
  have hj : j < n := by
    have := (List.getElem?_eq_some_iff.1 hv).1
    simpa using this
  simp [hj] at hv
  rw [h j hj, hv]
theorem Has.there {w : World} {b o n : Nat} {f : Nat → Value} (h : Has w b o n f) (hl : Loose w b o n) : w.there b o n := fun i hi =>
  ⟨by rw [h i hi]; rfl, hl i hi⟩
theorem Has.lt {w : World} {b o n : Nat} {f : Nat → Value} (h : Has w b o n f) (hn : 0 < n) : b < w.heap.size :=
  World.block_lt_of_cell? _ _ (h 0 hn)

theorem Has.alloc {w : World} {b o n : Nat} {f : Nat → Value} (h : Has w b o n f) (ob : Obj) : Has (w.alloc ob) b o n f := fun i hi => by
  have := h i hi
  rw [World.cell?_alloc_lt _ _ _ (World.block_lt_of_cell? w _ this)]; exact this
theorem Loose.alloc {w : World} {b o n : Nat} (h : Loose w b o n) (hb : b < w.heap.size) (ob : Obj) : Loose (w.alloc ob) b o n := fun i hi => by
  rw [World.frozen?_alloc_past _ _ _ hb]; exact h i hi
theorem Has.new (w : World) (n : Nat) (f : Nat → Value) (t : TypeId) {c : Array Value} (hc : c = rowV n f) : Has (w.alloc (.cells c t)) w.heap.size 0 n f := fun i hi => by
  subst hc
  rw [World.cell?_alloc_at _ _ _ _ rfl]; simpa using rowV_get f hi
theorem Loose.new (w : World) (n o : Nat) (c : Array Value) (t : TypeId) : Loose (w.alloc (.cells c t)) w.heap.size o n := fun _ _ =>
  World.frozen?_alloc_at _ _ _ _ rfl
theorem Has.new_at {w : World} {b n : Nat} {f : Nat → Value} {t : TypeId} {c : Array Value} (hb : b = w.heap.size) (hc : c = rowV n f) : Has (w.alloc (.cells c t)) b 0 n f := by
  subst hb; exact Has.new w n f t hc
theorem Loose.new_at {w : World} {b n o : Nat} {t : TypeId} {c : Array Value} (hb : b = w.heap.size) : Loose (w.alloc (.cells c t)) b o n := by
  subst hb; exact Loose.new w n o c t
theorem Has.drew {w : World} {b o n : Nat} {f : Nat → Value} (h : Has w b o n f) : Has w.drew b o n f := h
theorem Loose.drew {w : World} {b o n : Nat} (h : Loose w b o n) : Loose w.drew b o n := h

/-- From w to w' nothing of what was there has turned but in the blocks S. -/
structure Only (S : List Nat) (w w' : World) : Prop where
  os : w'.os = w.os
  tape : w'.tape = w.tape
  output : w'.output = w.output
  size : w.heap.size ≤ w'.heap.size
  block : ∀ k, k < w.heap.size → k ∉ S → w'.heap[k]? = w.heap[k]?

theorem Only.refl (S : List Nat) (w : World) : Only S w w := ⟨rfl, rfl, rfl, Nat.le_refl _, fun _ _ _ => rfl⟩
theorem Only.trans {S T : List Nat} {a b c : World} (h : Only S a b) (k : Only T b c) : Only (S ++ T) a c :=
  ⟨k.os.trans h.os, k.tape.trans h.tape, k.output.trans h.output, Nat.le_trans h.size k.size, fun i hi hm => by
    simp at hm
    rw [k.block i (Nat.lt_of_lt_of_le hi h.size) hm.2, h.block i hi hm.1]⟩
/-- Blocks that were not there at the start, or that are named besides, need not be told. -/
theorem Only.drop {S T : List Nat} {a c : World} (h : Only S a c) (hs : ∀ b, b ∈ S → b < a.heap.size → b ∈ T) : Only T a c :=
  ⟨h.os, h.tape, h.output, h.size, fun i hi hm => h.block i hi fun e => hm (hs i e hi)⟩
theorem Only.then {S T : List Nat} {a b c : World} (h : Only S a b) (k : Only T b c) (hs : ∀ b, b ∈ T → b < a.heap.size → b ∈ S) : Only S a c :=
  (h.trans k).drop fun i hi hlt => by
    simp at hi
    rcases hi with hi | hi
    · exact hi
    · exact hs i hi hlt
theorem Only.drew {S : List Nat} {a w : World} (h : Only S a w) : Only S a w.drew := ⟨h.os, h.tape, h.output, h.size, h.block⟩
theorem Only.drewN {S : List Nat} {a w : World} (h : Only S a w) (n : Nat) : Only S a (w.drewN n) := ⟨h.os, h.tape, h.output, h.size, h.block⟩
theorem Only.alloc {S : List Nat} {a w : World} (h : Only S a w) (o : Obj) : Only S a (w.alloc o) :=
  ⟨h.os, h.tape, h.output, by simp; have := h.size; omega, fun k hk hm => by
    rw [Below.heap_alloc _ _ _ (Nat.lt_of_lt_of_le hk h.size), h.block k hk hm]⟩
theorem Only.setCell {S : List Nat} {a w : World} (h : Only S a w) {p : Addr} (hp : p.block < a.heap.size → p.block ∈ S) (u : Value) : Only S a (w.setCell p u) :=
  ⟨h.os, h.tape, h.output, by simpa using h.size, fun k hk hm => by
    rw [Below.heap_setCell _ _ _ _ (fun e => by subst e; exact hm (hp hk)), h.block k hk hm]⟩
theorem Only.setCells {S : List Nat} {b : Nat} : ∀ {a w : World}, Only S a w → (b < a.heap.size → b ∈ S) → ∀ (l : List Value) (o : Nat), Only S a (w.setCells b o l)
  | _, _, h, _, [], _ => h
  | _, _, h, hp, v :: l, o => by
    rw [World.setCells]
    exact Only.setCells (h.setCell hp v) hp l (o + 1)
theorem Only.of_below {w w' : World} (h : Below w.heap.size w w') (S : List Nat) : Only S w w' :=
  ⟨h.os, h.tape, h.output, h.size, fun k hk _ => h.block k hk⟩
theorem Only.below {S : List Nat} {w w' : World} (h : Only S w w') (B : Nat) (hB : B ≤ w.heap.size) (hs : ∀ b, b ∈ S → B ≤ b) : Below B w w' :=
  ⟨h.os, h.tape, h.output, h.size, fun k hk => h.block k (Nat.lt_of_lt_of_le hk hB) fun e => by have := hs k e; omega⟩
theorem Only.nil {w w' : World} (h : Only [] w w') : Below w.heap.size w w' := h.below _ (Nat.le_refl _) (by simp)
theorem Only.cell {S : List Nat} {w w' : World} (h : Only S w w') {p : Addr} {v : Value} (hc : w.cell? p = some v) (hp : p.block ∉ S) : w'.cell? p = some v := by
  rw [World.cell?_of_block (w := w) (h.block p.block (World.block_lt_of_cell? _ _ hc) hp), hc]
theorem Only.frozen {S : List Nat} {w w' : World} (h : Only S w w') {p : Addr} (hlt : p.block < w.heap.size) (hp : p.block ∉ S) : w'.frozen? p = w.frozen? p :=
  World.frozen?_of_block (w := w) (h.block p.block hlt hp)
theorem Only.has {S : List Nat} {w w' : World} (h : Only S w w') {b o n : Nat} {f : Nat → Value} (hc : Has w b o n f) (hp : b ∉ S) : Has w' b o n f :=
  fun i hi => h.cell (hc i hi) hp
theorem Only.loose {S : List Nat} {w w' : World} (h : Only S w w') {b o n : Nat} (hc : Loose w b o n) (hlt : b < w.heap.size) (hp : b ∉ S) : Loose w' b o n :=
  fun i hi => by rw [h.frozen (p := ⟨b, o + i, none⟩) hlt hp]; exact hc i hi
theorem Only.heap {S : List Nat} {w w' : World} (h : Only S w w') {b : Nat} {x : Obj} (hc : w.heap[b]? = some x) (hp : b ∉ S) : w'.heap[b]? = some x := by
  rw [h.block b (by have := Array.getElem?_eq_some_iff.1 hc; exact this.1) hp, hc]

/-- From w to w' the n cells of block b from o on have been put: f. Nothing else of what was there has turned. -/
structure Put (w w' : World) (b o n : Nat) (f : Nat → Value) : Prop where
  only : Only [b] w w'
  has : Has w' b o n f
  rest : ∀ i, (i < o ∨ o + n ≤ i) → w'.cell? ⟨b, i, none⟩ = w.cell? ⟨b, i, none⟩
  frozen : ∀ i, w'.frozen? ⟨b, i, none⟩ = w.frozen? ⟨b, i, none⟩

theorem Put.refl (w : World) (b o : Nat) (f : Nat → Value) : Put w w b o 0 f :=
  ⟨Only.refl _ _, fun i hi => absurd hi (by omega), fun _ _ => rfl, fun _ => rfl⟩
theorem Put.drew {w w' : World} {b o n : Nat} {f : Nat → Value} (h : Put w w' b o n f) : Put w w'.drew b o n f :=
  ⟨h.only.drew, h.has, h.rest, h.frozen⟩
theorem Put.drewN {w w' : World} {b o n : Nat} {f : Nat → Value} (h : Put w w' b o n f) (k : Nat) : Put w (w'.drewN k) b o n f :=
  ⟨h.only.drewN k, h.has, h.rest, h.frozen⟩
theorem Put.step {w w' : World} {b o n : Nat} {f : Nat → Value} (h : Put w w' b o n f) {u : Value} (hu : w'.cell? ⟨b, o + n, none⟩ = some u) {v : Value} (hv : v = f n) : Put w (w'.setCell ⟨b, o + n, none⟩ v) b o (n + 1) f := by
  subst hv
  refine ⟨h.only.setCell (by simp) _, fun i hi => ?_, fun i hi => ?_, fun i => ?_⟩
  · by_cases e : i = n
    · subst e; exact World.cell?_setCell_same _ _ _ hu
    · rw [World.cell?_setCell_other _ _ _ _ (by simp <;> omega)]; exact h.has i (by omega)
  · rw [World.cell?_setCell_other _ _ _ _ (by simp <;> omega)]; exact h.rest i (by omega)
  · rw [World.frozen?_setCell]; exact h.frozen i
theorem Put.step0 {w w' : World} {b n : Nat} {f : Nat → Value} (h : Put w w' b 0 n f) {u : Value} (hu : w'.cell? ⟨b, n, none⟩ = some u) {v : Value} (hv : v = f n) : Put w (w'.setCell ⟨b, n, none⟩ v) b 0 (n + 1) f := by
  have := h.step (u := u) (by simpa using hu) hv
  simpa using this
theorem Put.set {w w' : World} {b o n : Nat} {f : Nat → Value} (h : Put w w' b o n f) (i : Nat) (hi : i < n) (v : Value) : Put w (w'.setCell ⟨b, o + i, none⟩ v) b o n (fun j => if j = i then v else f j) := by
  refine ⟨h.only.setCell (by simp) _, fun j hj => ?_, fun j hj => ?_, fun j => ?_⟩
  · by_cases e : j = i
    · subst e; rw [World.cell?_setCell_same _ _ _ (h.has j hj), if_pos rfl]
    · rw [World.cell?_setCell_other _ _ _ _ (by simp <;> omega), if_neg e]; exact h.has j hj
  · rw [World.cell?_setCell_other _ _ _ _ (by simp <;> omega)]; exact h.rest j hj
  · rw [World.frozen?_setCell]; exact h.frozen j
theorem Put.set0 {w w' : World} {b n : Nat} {f : Nat → Value} (h : Put w w' b 0 n f) (i : Nat) (hi : i < n) (v : Value) : Put w (w'.setCell ⟨b, i, none⟩ v) b 0 n (fun j => if j = i then v else f j) := by
  have := h.set i hi v
  simpa using this
theorem Put.of_has {w : World} {b o n : Nat} {f : Nat → Value} (h : Has w b o n f) : Put w w b o n f :=
  ⟨Only.refl _ _, h, fun _ _ => rfl, fun _ => rfl⟩
theorem Put.put {w w1 w2 : World} {b o n : Nat} {f g : Nat → Value} (h : Put w w1 b o n f) (k : Put w1 w2 b o n g) : Put w w2 b o n g :=
  ⟨h.only.then k.only (by simp), k.has, fun i hi => by rw [k.rest i hi, h.rest i hi], fun i => by rw [k.frozen, h.frozen]⟩
theorem Put.old {w w' : World} {b o n : Nat} {f : Nat → Value} (h : Put w w' b o n f) {i : Nat} {u : Value} (hi : i < o ∨ o + n ≤ i) (hu : w.cell? ⟨b, i, none⟩ = some u) : w'.cell? ⟨b, i, none⟩ = some u := by
  rw [h.rest i hi, hu]
theorem Put.loose {w w' : World} {b o n : Nat} {f : Nat → Value} (h : Put w w' b o n f) {p m : Nat} (hl : Loose w b p m) : Loose w' b p m := fun i hi => by
  rw [h.frozen]; exact hl i hi
theorem Put.congr {w w' : World} {b o n : Nat} {f g : Nat → Value} (h : Put w w' b o n f) (e : ∀ i, i < n → f i = g i) : Put w w' b o n g :=
  ⟨h.only, h.has.congr e, h.rest, h.frozen⟩
/-- A row that is put by one store. -/
theorem Put.of_setCells {w : World} {b o n : Nat} {f : Nat → Value} (ht : w.there b o n) : Put w (w.setCells b o (rowV n f).toList) b o n f := by
  have hlen : (rowV n f).toList.length = n := by simp [rowV]
  refine ⟨(Only.refl _ _).setCells (by simp) _ _, fun i hi => ?_, fun i hi => ?_, fun i => ?_⟩
  · rw [World.cell?_setCells_in b _ o w (fun j hj => (ht j (by omega)).1) i (by omega)]
    simp [rowV]
  · exact World.cell?_setCells_out b _ o w _ (fun _ _ => by simp only; omega)
  · exact World.frozen?_setCells b _ o w _

section
variable {P : Program} {ops : Array Oper} {rest : List Oper} {op : Oper} {a : Act} {w : World} {Q : Exit → Act → World → Prop}
/-- A whole array or struct read. -/
theorem wpList_load_has (hgd : op.guard = none) (ty : TypeId) (x : Operand) (ho : op.op = .load ty x)
    (b o n : Nat) (f : Nat → Value) (hx : a.eval x = .pointer (some ⟨b, o, none⟩)) (hc : Has w b o n f) (d : TypeDesc)
    (hu : P.underlying ty = some d) (hd : d.isRow = true) (hi : (P.info? ty).map (·.size) = some n)
    (h : wpList P ops Q rest (a.put op.dst (.agg (rowV n f))) w) : wpList P ops Q (op :: rest) a w :=
  wpList_load_mid hgd ty x ho b o hx _ d hc.range hu hd (by rw [hi]; simp) h
theorem one_rowV {n : Nat} {f : Nat → Value} (h : ∀ i, i < n → (f i).oneCell' = true) : (rowV n f).all (·.oneCell') = true := by
  unfold rowV
  refine all_oneCell_toArray fun v hv => ?_
  simp at hv
  obtain ⟨i, hi, rfl⟩ := hv
  exact h i hi
/-- A whole array or struct written. -/
theorem wpList_store_has (hgd : op.guard = none) (ty : TypeId) (x y : Operand) (ho : op.op = .store ty x y)
    (b o n : Nat) (f g : Nat → Value) (hx : a.eval x = .pointer (some ⟨b, o, none⟩)) (hy : a.eval y = .agg (rowV n f))
    (hc : Has w b o n g) (hl : Loose w b o n) (hi : (P.info? ty).map (·.size) = some n) (h1 : ∀ i, i < n → (f i).oneCell' = true)
    (h : ∀ w', Put w w' b o n f → wpList P ops Q rest (a.put op.dst undef) w') : wpList P ops Q (op :: rest) a w :=
  have ht : w.there b o n := hc.there hl
  wpList_store_mid hgd ty x y ho b o (rowV n f) hx hy (by rw [rowV_size]; exact ht) (by rw [rowV_size]; exact hi) (one_rowV h1) (h _ (Put.of_setCells ht))
end

/-- A whole array or struct written, in a region that draws. -/
theorem step_store_has {P : Program} {ops : Array Oper} {op : Oper} {a : Act} {w : World} {K : Act → World → Prop} {Q : Exit → Act → World → Prop} {E : Prop} (hgd : op.guard = none) (ty : TypeId) (x y : Operand) (ho : op.op = .store ty x y)
    (b o n : Nat) (f g : Nat → Value) (hx : a.eval x = .pointer (some ⟨b, o, none⟩)) (hy : a.eval y = .agg (rowV n f))
    (hc : Has w b o n g) (hl : Loose w b o n) (hi : (P.info? ty).map (·.size) = some n) (h1 : ∀ i, i < n → (f i).oneCell' = true)
    (h : ∀ w', Put w w' b o n f → K (a.put op.dst undef) w') : if Region.wanted op (yielded ops a.tmps) = true then Oper.wp P op a w K Q else E := by
  have hw : Region.wanted op (yielded ops a.tmps) = true := by simp [Region.wanted, hgd]
  rw [if_pos hw]
  have ht : w.there b o n := hc.there hl
  exact wp_store_mid ty x y ho b o (rowV n f) hx hy (by rw [rowV_size]; exact ht) (by rw [rowV_size]; exact hi) (one_rowV h1) (h _ (Put.of_setCells ht))
theorem Has.of_block {w : World} {b n : Nat} {c : Array Value} {t : TypeId} {fr : Nat × Nat} (hg : w.heap[b]? = some (.cells c t fr)) (hn : c.size = n) : Has w b 0 n (fun i => c[i]?.getD undef) := fun i hi => by
  rw [cell_of_row w b _ c t fr hg]
  simp [hn, hi]
theorem Loose.of_block {w : World} {b n : Nat} {c : Array Value} {t : TypeId} (hg : w.heap[b]? = some (.cells c t (0, 0))) : Loose w b 0 n := fun i _ => frozen_of_row w b _ c t hg
/-- The same, into a block that is known whole. -/
theorem step_store_blk {P : Program} {ops : Array Oper} {op : Oper} {a : Act} {w : World} {K : Act → World → Prop} {Q : Exit → Act → World → Prop} {E : Prop} (hgd : op.guard = none) (ty : TypeId) (x y : Operand) (ho : op.op = .store ty x y)
    (b n : Nat) (f : Nat → Value) (hx : a.eval x = .pointer (some ⟨b, 0, none⟩)) (hy : a.eval y = .agg (rowV n f))
    (c : Array Value) (t : TypeId) (hg : w.heap[b]? = some (.cells c t (0, 0))) (hn : c.size = n) (hi : (P.info? ty).map (·.size) = some n) (h1 : ∀ i, i < n → (f i).oneCell' = true)
    (h : ∀ w', Put w w' b 0 n f → K (a.put op.dst undef) w') : if Region.wanted op (yielded ops a.tmps) = true then Oper.wp P op a w K Q else E :=
  step_store_has hgd ty x y ho b 0 n f _ hx hy (Has.of_block hg hn) (Loose.of_block hg) hi h1 h
/-- A block that is known whole, said so that the walk does not look behind it. -/
def Good (w : World) (b : Nat) (c : Array Value) (t : TypeId) : Prop := w.heap[b]? = some (.cells c t (0, 0))
theorem run_storeCells_good {P : Program} {w : World} {b : Nat} {c : Array Value} {t : TypeId} (hg : Good w b c t) (n : Nat) (f : Nat → Value) (hn : c.size = n) (h1 : ∀ i, i < n → (f i).oneCell' = true) :
    (storeCells ⟨b, 0, none⟩ (rowV n f).toList).run P w = .ok () (w.setCells b 0 (rowV n f).toList) := by
  have h0 := Has.of_block (n := n) hg hn
  have hl := Loose.of_block (n := n) hg
  have hlen : (rowV n f).toList.length = n := by simp [rowV]
  have := run_storeCells_cells (P := P) b 0 (rowV n f).toList 0 w (fun j hj => by have := h0 j (by omega); simp only [Nat.add_zero]; rw [this]; rfl) (fun j hj => by have := hl j (by omega); simpa using this)
    (fun v hv => (Array.all_eq_true_iff_forall_mem.1 (one_rowV h1)) v (by simpa using hv))
  simpa using this
theorem Good.put {w : World} {b : Nat} {c : Array Value} {t : TypeId} (hg : Good w b c t) (n : Nat) (f : Nat → Value) (hn : c.size = n) : Put w (w.setCells b 0 (rowV n f).toList) b 0 n f :=
  Put.of_setCells ((Has.of_block hg hn).there (Loose.of_block hg))
theorem Good.below {w w' : World} {b : Nat} {c : Array Value} {t : TypeId} (hg : Good w b c t) (h : Below w.heap.size w w') : Good w' b c t :=
  (Only.of_below h []).heap hg (by simp)
theorem Good.drew {w : World} {b : Nat} {c : Array Value} {t : TypeId} (hg : Good w b c t) : Good w.drew b c t := hg
theorem Good.new {w : World} {b : Nat} {c : Array Value} {t : TypeId} (hb : b = w.heap.size) : Good (w.alloc (.cells c t)) b c t := by
  subst hb; exact heap_alloc_new w _
theorem heap_at {w : World} {o : Obj} {b : Nat} (hb : b = w.heap.size) : (w.alloc o).heap[b]? = some o := by
  subst hb; exact heap_alloc_new w o
/-- The end of a body whose one result lies in memory, in a block whose cells are known. -/
theorem bodyPost_row {P : Program} {fn : Func} {R : Ending → World → Prop} {a : Act} {w : World} (p : Tmp) (ty : TypeId) (hres : fn.results = #[.cell p ty])
    (b : Nat) (cs : Array Value) (t : TypeId) (fr : Nat × Nat) (hp : a.tmps.getD p undef = .pointer (some ⟨b, 0, none⟩)) (hg : w.heap[b]? = some (.cells cs t fr)) (d : TypeDesc)
    (hu : P.underlying ty = some d) (hd : (match d with | .struct _ | .array _ _ => true | _ => false) = true) (hi : (P.info? ty).map (·.size) = some cs.size) (hdf : a.defers = [])
    (hR : R (.returned (.agg cs)) w) : bodyPost P fn R .ret a w :=
  bodyPost_ret_by (results_cell_row hres _ w b t cs fr d hp hg hu hd hi) hdf hR

theorem rowV4 (f : Nat → Value) : rowV 4 f = #[f 0, f 1, f 2, f 3] := rfl
/-- A slice taken for an array. -/
theorem run_arrayAt {P : Program} {t : TypeId} {n : Nat} {e : TypeId} (hu : P.underlying t = some (.array n e)) (a : Option Addr) (len cap : Nat) (h : n ≤ len) (w : World) :
    (Instr.arrayAt t (.slice a len cap)).run P w = .ok (.pointer a) w := by
  simp [Instr.arrayAt, Sem.run_bind, run_underlying hu w, show ¬ len < n by omega]

/-- A struct built of one part that is told, zero but for that. -/
theorem wpList_build1 {P : Program} {ops : Array Oper} {rest : List Oper} {op : Oper} {a : Act} {w : World} {Q : Exit → Act → World → Prop} (hgd : op.guard = none) (t : TypeId) (k : Nat) (x : Operand) (ho : op.op = .build t #[(k, x)])
    (u v : Value) (hx : a.eval x = u) (hrun : (Instr.build t #[(k, u)]).run P w = .ok v w)
    (h : wpList P ops Q rest (a.put op.dst v) w) : wpList P ops Q (op :: rest) a w :=
  wpList_plain hgd fun _ hK => by
    unfold Oper.wp execOp
    simp only [ho, List.map_toArray, List.map_cons, List.map_nil, hx, Sem.run_bind, hrun, Result.andThen_ok, Sem.run_pure]
    exact hK _ _ h

/-- The end of a body whose one result lies in memory: a whole array or struct. -/
theorem bodyPost_has {P : Program} {fn : Func} {R : Ending → World → Prop} {a : Act} {w : World} (p : Tmp) (ty : TypeId) (hres : fn.results = #[.cell p ty])
    (b o n : Nat) (f : Nat → Value) (hp : a.tmps.getD p undef = .pointer (some ⟨b, o, none⟩)) (hc : Has w b o n f) (d : TypeDesc)
    (hu : P.underlying ty = some d) (hd : d.isRow = true) (hi : (P.info? ty).map (·.size) = some n) (hdf : a.defers = [])
    (hR : R (.returned (.agg (rowV n f))) w) : bodyPost P fn R .ret a w := by
  refine bodyPost_ret_by (v := .agg (rowV n f)) ?_ hdf hR
  have hl := run_loadVar_mid (P := P) w b o ty _ d hc.range hu hd (by rw [hi]; simp)
  have hp' : a.tmps[p]?.getD undef = .pointer (some ⟨b, o, none⟩) := by simpa using hp
  simp [results, hres, hp', asAddr, hl, rowV]

/-- An element of an array that lies in a slot. -/
theorem run_index_row {P : Program} (t e : TypeId) (n : Nat) (f : Nat → Value) (d : TypeDesc) (hu : P.underlying t = some (.array n e)) (he : P.underlying e = some d) (hd : d.isRow = false)
    (hs : (P.info? e).map (·.size) = some 1) (k : IntKind) (i : Nat) (hi : i < n) (w : World) : (Instr.index t (.agg (rowV n f)) (.int k i)).run P w = .ok (f i) w := by
  have hg := rowV_get f hi
  have hagg : (isAgg e).run P w = .ok false w := by
    unfold isAgg
    rw [Sem.run_bind, run_underlying he w]
    cases d <;> simp_all
  cases hq : P.info? e with
  | none => simp [hq] at hs
  | some x =>
    have hx : x.size = 1 := by simpa [hq] using hs
    simp [Instr.index, asIntOf, Sem.run_bind, run_underlying hu w, sizeOf, typeInfo, hq, hx, part, hagg, hg]
    intro hle
    omega

/-- A sum of two small numbers, as the walk spells it. -/
theorem i64w {n : Int} (h0 : 0 ≤ n) (h1 : n < 9223372036854775808) : IntKind.i64.wrap n = n := by
  simp only [IntKind.wrap, IntKind.bits, IntKind.signed]; simp; omega
theorem calls_flip {P : Program} {f : FuncId} {args : Array Value} {w : World} {v : Value} (h : Calls P f args w fun e w' => e = .returned v ∧ w = w') : Calls P f args w fun e w' => e = .returned v ∧ w' = w :=
  h.mono fun _ _ ⟨a, b⟩ => ⟨a, b.symm⟩

end Go.Proofs.YtpkpkfjpnkbkbaaDoor
