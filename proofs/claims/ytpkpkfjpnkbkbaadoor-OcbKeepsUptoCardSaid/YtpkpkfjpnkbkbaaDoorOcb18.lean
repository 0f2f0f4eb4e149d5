/- What the rows' lists and arguments give: the library's table, byte slices. -/
import Derived.Test.YtpkpkfjpnkbkbaaDoorOcb16
import Derived.Test.YtpkpkfjpnkbkbaaDoorCards
import Derived.Test.YtpkpkfjpnkbkbaaDoorTie
import Derived.WalkKit
import Derived.ProofKit
import Derived.OpenShut
import Derived.Deep.DeepHandedRow
import Derived.Lib.LaidTab
namespace Go.Proofs.YtpkpkfjpnkbkbaaDoor
open Go.ChangeShapes Go.WideShapes Go.ChangeAt Go.RowKit

theorem own : ownKnob Tryd.prog.godebug = none := by kernel_rfl
theorem laidOut : laidOutB Tryd.prog = true := by kernel_rfl
theorem g64 : Tryd.prog.globalNamed "math/bits.deBruijn64tab" = some 1 := by kernel_rfl
theorem g64t : (Tryd.prog.globals[1]?).map (·.type) = some 89 := by kernel_rfl
theorem cells64 : Tryd.prog.cellsOf 89 = 64 := by kernel_rfl
theorem cells8 : Tryd.prog.cellsOf 5 = 1 := by kernel_rfl
theorem laidMet_tail {P : Program} {W : World} {x : String × DataW Unit} {rest : List (String × DataW Unit)} (h : laidMet P (x :: rest) W) : laidMet P rest W := by
  obtain ⟨ps, ⟨g', t', cs, fuel, p, q, hg', ht', hvar, hd, hr, e⟩, hn, hc⟩ := h
  subst e
  exact ⟨q, hr, (List.nodup_append.1 hn).2.1, fun b off hm => hc b off (List.mem_append_right _ hm)⟩
theorem table {W : World} (h : laidMetH Tryd.prog Rows.ocbKeepsRow.laid W) : TabIs W := by
  have h0 : laidMet Tryd.prog [("math/bits.deBruijn32tab", Rows.laid_math_bits_deBruijn32tab), ("math/bits.deBruijn64tab", Rows.laid_math_bits_deBruijn64tab)] W := h
  have h1 : laidMet Tryd.prog (("math/bits.deBruijn64tab", Lib.tabData .u8 (Lib.deBruijn64tab.map fun (x : Nat) => (x : Int))) :: []) W := laidMet_tail h0
  have h2 := Lib.tabIs_of_head g64 g64t Tryd.underlying89 Tryd.underlying5 cells8 cells64 h1
  intro i hi
  rw [Nat.zero_add]
  have h3 := h2.cell g64 i (by rw [List.length_map]; exact hi)
  rw [h3]
  show _ = some (Value.int .u8 ((Lib.deBruijn64tab.getD i 0 : Nat) : Int))
  simp [List.getD_eq_getElem?_getD]
  cases Lib.deBruijn64tab[i]? <;> rfl

/-- A byte slice among the arguments. -/
theorem arg_in {H : Type} {enc : TypeId × Value → H} {W : World} {base : Nat} {v : Value} {d : DataW H} {p : List MemPlace} (hval : Value.okWide Tryd.prog W .any base 22 v)
    (h : DataW.Trod enc Tryd.prog W 0 (fun _ => true) true 22 v d p) (hb : Rows.uptoBulk d ≤ 1048576) :
    ∃ (a : Option Addr) (n cap : Nat) (L : List Nat), v = .slice a n cap ∧ By L ∧ SlIn W a n cap L ∧ n < 2 ^ 21 := by
  obtain ⟨a0, len, cap, rfl⟩ := okWide_slice Tryd.underlying22 hval
  obtain ⟨fuel, hf⟩ := h
  rcases open_ints Tryd.underlying22 Tryd.underlying5 cells8 hf with ⟨hcs, hx⟩ | ⟨a, len', cap', zs, hcs, _, hl, hm, hz, hx, hcell, hwf⟩
  · cases hcs
    exact ⟨none, 0, 0, [], rfl, fun x hx => (by cases hx), Or.inl ⟨rfl, rfl, fun _ => rfl⟩, by omega⟩
  · cases hcs
    simp only [if_true] at hz
    have hd : d = .slice (lits .u8 (zs.take len)) (lits .u8 (zs.drop len)) := by simpa using congrArg Prod.fst hx
    have hlen : ∀ l : List (DataW H), l.length ≤ Rows.uptoBulkAll l := by
      intro l
      induction l with
      | nil => simp [Rows.uptoBulkAll]
      | cons x r ih =>
        have : 1 ≤ Rows.uptoBulk x := by
          cases x with
          | lit l => cases l <;> simp [Rows.uptoBulk]
          | _ => simp [Rows.uptoBulk]
        simp only [Rows.uptoBulkAll, List.length_cons]; omega
    have hn : len ≤ 1048576 := by
      rw [hd] at hb
      simp only [Rows.uptoBulk] at hb
      have h1 := hlen (lits .u8 (zs.take len))
      have h2 : (lits (H := H) .u8 (zs.take len)).length = len := by simp [lits]; omega
      omega
    have hrg : ∀ z ∈ zs, 0 ≤ z ∧ z ≤ 255 := fun z hz => bounds_u8 (hwf z hz)
    refine ⟨some a, len, cap, (zs.take len).map Int.toNat, rfl, fun x hx => ?_, ?_, by omega⟩
    · obtain ⟨z, h1, rfl⟩ := List.mem_map.1 hx
      have := hrg z (List.mem_of_mem_take h1)
      omega
    · by_cases h0 : len = 0
      · subst h0
        exact Or.inl ⟨rfl, by simp, fun h => by cases h⟩
      · obtain ⟨b, off, spot⟩ := a
        have hspot : spot = none := by simpa [Addr.add] using World.cell?_spot (hcell 0 (by omega))
        subst hspot
        have hh : Has W b off len (byG ((zs.take len).map Int.toNat)) := fun i hi => by
          have h1 := hcell i (by omega)
          rw [Addr.add_mid] at h1
          rw [h1]
          show some (Value.int .u8 (zs.getD i 0)) = some (Value.int .u8 ((((zs.take len).map Int.toNat).getD i 0 : Nat) : Int))
          have h2 : zs[i]? = some (zs[i]'(by omega)) := List.getElem?_eq_getElem (by omega)
          have h3 := hrg _ (List.getElem_mem (l := zs) (n := i) (by omega))
          simp [List.getD_eq_getElem?_getD, h2, hi]
          omega
        exact Or.inr ⟨b, off, rfl, by simp; omega, hh, hl, hh.lt (by omega)⟩

/-- A world for the witness: the settled one, the two tables holding what their initialisers lay. -/
def lay (cs : Array Value) : Obj → Obj
  | .cells _ t frozen => .cells cs t frozen
  | o => o
def tab32 : Array Value := #[.int .u8 0, .int .u8 1, .int .u8 28, .int .u8 2, .int .u8 29, .int .u8 14, .int .u8 24, .int .u8 3, .int .u8 30, .int .u8 22, .int .u8 20, .int .u8 15, .int .u8 25, .int .u8 17, .int .u8 4, .int .u8 8, .int .u8 31, .int .u8 27, .int .u8 13, .int .u8 23, .int .u8 21, .int .u8 19, .int .u8 16, .int .u8 7, .int .u8 26, .int .u8 12, .int .u8 18, .int .u8 6, .int .u8 11, .int .u8 5, .int .u8 10, .int .u8 9]
def tab64 : Array Value := (Lib.deBruijn64tab.map fun (x : Nat) => Value.int .u8 (x : Int)).toArray
noncomputable def laidWorld (os : Os) : World :=
  { World.holding Tryd.prog os ⟨#[], #[], []⟩ with heap := ((World.holding Tryd.prog os ⟨#[], #[], []⟩).heap.modify 1 (lay tab64)).modify 0 (lay tab32) }
theorem laid_met (os : Os) (args : Array Value) : laidMet Tryd.prog Rows.ocbKeepsRow.laid ((laidWorld os).forCall (fun _ _ => 0) ⟨#[], args, []⟩).memory :=
  laidMet_of_run' 70 (by kernel_rfl) (by kernel_rfl)

end Go.Proofs.YtpkpkfjpnkbkbaaDoor
