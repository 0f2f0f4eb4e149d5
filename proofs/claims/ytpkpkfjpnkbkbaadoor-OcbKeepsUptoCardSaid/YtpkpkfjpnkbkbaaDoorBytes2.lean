/- copy from a byte slice into a row of cells. -/
import Derived.Test.YtpkpkfjpnkbkbaaDoorBytes
import Derived.Laws.CopyOwn
namespace Go.Proofs.YtpkpkfjpnkbkbaaDoor
open Go.RowKit

theorem byL_row (M : List Nat) : byL M = (rowV M.length (byG M)).toList := by
  apply List.ext_getElem
  · simp [rowV]
  · intro i h1 h2
    simp at h1
    simp [rowV, h1]

/-- copy(row, x). -/
theorem wpList_copy_sl {w : World} {ops : Array Oper} {rest : List Oper} {op : Oper} {act : Act} {Q : Exit → Act → World → Prop} (hgd : op.guard = none) (d s : Operand)
    (ho : op.op = .call { callee := .builtin .copy, args := #[d, s], argTypes := #[22, 22] })
    (g off dLen dCap : Nat) (hd : act.eval d = .slice (some ⟨g, off, none⟩) dLen dCap)
    (a : Option Addr) (cap n : Nat) (M : List Nat) (hn : M.length = n) (hs : act.eval s = .slice a n cap) (hM : SlA w a cap M)
    (old : Nat → Value) (hc : Has w g off n old) (hl : Loose w g off n) (hle : n ≤ dLen)
    (h : ∀ w', Put w w' g off n (byG M) → wpList Tryd.prog ops Q rest (act.put op.dst (goInt n)) w') : wpList Tryd.prog ops Q (op :: rest) act w := by
  subst hn
  have hsz : (Tryd.prog.info? 5).map (·.size) = some 1 := by kernel_rfl
  by_cases h0 : M = []
  · subst h0
    refine wpList_copy_nothing hgd d s 22 22 ho 5 Tryd.underlying22 hsz _ a dLen dCap 0 cap hd (by simpa using hs) (by simp) ?_
    have := h w (Put.refl _ _ _ _)
    simpa using this
  · obtain ⟨b, o, rfl, hh⟩ := hM.has h0
    refine wpList_plain hgd fun K hK => ?_
    have hrun := run_copy_cells (P := Tryd.prog) w 22 22 op.type 5 g off dLen dCap ⟨b, o, none⟩ M.length cap (byL M) Tryd.underlying22 hsz (by simp [Nat.min_eq_left hle])
      (fun j v hv => by
        have hj : j < M.length := by have := (List.getElem?_eq_some_iff.1 hv).1; simpa using this
        rw [Addr.add_mid, hh j hj]
        simp at hv
        obtain ⟨y, hy, rfl⟩ := hv
        simp [hy])
      (fun j hj => by rw [hc j (by simpa using hj)]; rfl) (fun j hj => hl j (by simpa using hj)) (fun v hv => by simp at hv; obtain ⟨_, _, rfl⟩ := hv; rfl)
    unfold Oper.wp
    simp only [execOp, ho, resolve, invoke, builtin, Sem.run_bind, Sem.run_pure, Result.andThen_ok, List.map_toArray, List.map_cons, List.map_nil, hd, hs, hrun]
    have hp : Put w (w.setCells g off (byL M)) g off M.length (byG M) := by
      rw [byL_row]; exact Put.of_setCells (hc.there hl)
    have := h _ hp
    simp only [List.length_map]
    exact hK _ _ this

/-- p[x:] of an array. -/
theorem run_sliceAt_low {P : Program} {t : TypeId} {n : Nat} {e : TypeId} (hu : P.underlying t = some (.array n e)) (hs : (P.info? e).map (·.size) = some 1) (b o l : Nat) (hl : l < n) (k : IntKind) (x : Int) (hx : x = (l : Int)) (w : World) :
    (Instr.sliceAt t (.pointer (some ⟨b, o, none⟩)) (some (.int k x)) none none).run P w = .ok (.slice (some ⟨b, o + l, none⟩) (n - l) (n - l)) w := by
  subst hx
  cases hq : P.info? e with
  | none => simp [hq] at hs
  | some i =>
    have hi : i.size = 1 := by simpa [hq] using hs
    simp [Instr.sliceAt, Sem.run_bind, run_underlying hu w, Instr.sureAddr, Instr.sliceBounds, Instr.sliceBound, asIntOf, sizeOf, typeInfo, hq, hi, show ¬ n = l by omega, Addr.add_mid]
    intro h
    omega

end Go.Proofs.YtpkpkfjpnkbkbaaDoor
