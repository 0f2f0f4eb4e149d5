/- OcbKeeps: what is handed in to Seal and to Open stays as it is, its spare room too; for arguments of bulk at most 1048576. -/
import Derived.Test.YtpkpkfjpnkbkbaaDoorOcb17
import Derived.Test.YtpkpkfjpnkbkbaaDoorOcb18
namespace Go.Proofs.YtpkpkfjpnkbkbaaDoor
open Go.ChangeShapes Go.WideShapes Go.ChangeAt Go.RowKit

theorem keeps_reads (os : Os) {H : Type} (enc : TypeId × Value → H) : ∃ places, DataW.whole enc Tryd.prog ((laidWorld os).forCall (fun _ _ => 0) ⟨#[], #[.slice none 0 0, .slice none 0 0, .slice none 0 0, .slice none 0 0], []⟩).memory Tryd.f6.params.toList Rows.ocbKeepsSpec.vars false #[Value.slice none 0 0, Value.slice none 0 0, Value.slice none 0 0, Value.slice none 0 0].toList 8 = some ([.nil, .nil, .nil, .nil], [], places) :=
  ⟨[], by kernel_rfl⟩
set_option maxRecDepth 100000 in
set_option maxHeartbeats 2000000 in
theorem keeps_lifted (os : Os) (started : os.Started) (H : Type) (enc : TypeId × Value → H) (F : Stop.Interp) :
    ReturnsInHanded {} Tryd.checked os 6 .any ((Rows.OpenSpec.upto Rows.ocbKeepsSpec).preRow enc Tryd.prog Tryd.f6 Rows.ocbKeepsUptoRow.domain false Rows.ocbKeepsUptoRow.laid) (((Rows.OpenSpec.upto Rows.ocbKeepsSpec).at F).post enc Tryd.prog Tryd.f6 false true false false) := by
  obtain ⟨places, hx⟩ := keeps_reads os enc
  refine returnsInHanded_of_row (C := Tryd.checked) (s := Rows.OpenSpec.upto Rows.ocbKeepsSpec) own started (by kernel_rfl) Tryd.func6
    (witness_row_at (enc := enc) (C := Tryd.checked) false (laidWorld os) #[.slice none 0 0, .slice none 0 0, .slice none 0 0, .slice none 0 0] rfl (by kernel_rfl) (by kernel_rfl) (by kernel_rfl)
      (OpenSpec.preRow_of_cond 8 hx (by kernel_rfl) (fun k hk => by cases hk; kernel_rfl) (by kernel_rfl) (laid_met os _))) ?_
  intro W base args ds gs before hval0 hW _ hcond0 _ hL _ _
  have hcond : Rows.uptoSmall H (ds ++ gs) = true := hcond0 _ rfl
  have hval : ∀ (j : Nat) t v, Tryd.f6.params[j]? = some t → args[j]? = some v → Value.okWide Tryd.prog W .any base t v := hval0
  clear hcond0
  have hW' := hW
  obtain ⟨p, q, hA0, hV0, rfl, _, _⟩ := hW
  have hA : DataW.TrodAll enc Tryd.prog W 0 (fun _ => true) true Tryd.f6.params.toList args.toList ds p := hA0
  rw [Tryd.params6] at hA hval
  obtain ⟨v0, vs0, d0, ds0, p0, q0, hargs, rfl, rfl, h0, r0⟩ := trodAll_cons hA
  obtain ⟨v1, vs1, d1, ds1, p1, q1, rfl, rfl, rfl, h1, r1⟩ := trodAll_cons r0
  obtain ⟨v2, vs2, d2, ds2, p2, q2, rfl, rfl, rfl, h2, r2⟩ := trodAll_cons r1
  obtain ⟨v3, vs3, d3, ds3, p3, q3, rfl, rfl, rfl, h3, r3⟩ := trodAll_cons r2
  obtain ⟨rfl, rfl, rfl⟩ := trodAll_nil r3
  obtain rfl : args = #[v0, v1, v2, v3] := by cases args; simp_all
  obtain ⟨rfl, rfl⟩ := trodVars_none hV0
  have hbulk : Rows.uptoBulkAll ([d0, d1, d2, d3] ++ []) ≤ 1048576 := of_decide_eq_true hcond
  simp only [Rows.uptoBulkAll, List.append_nil] at hbulk
  obtain ⟨a0, n0, c0, L0, rfl, b0, s0, l0⟩ := arg_in (hval 0 _ v0 rfl rfl) h0 (by omega)
  obtain ⟨a1, n1, c1, L1, rfl, b1, s1, l1⟩ := arg_in (hval 1 _ v1 rfl rfl) h1 (by omega)
  obtain ⟨a2, n2, c2, L2, rfl, b2, s2, l2⟩ := arg_in (hval 2 _ v2 rfl rfl) h2 (by omega)
  obtain ⟨a3, n3, c3, L3, rfl, b3, s3, l3⟩ := arg_in (hval 3 _ v3 rfl rfl) h3 (by omega)
  have hlt : ∀ x ∈ p0 ++ (p1 ++ (p2 ++ (p3 ++ []))) ++ [], x.block < W.heap.size := fun x hx => by simpa using hW'.lt x hx
  have four : ∀ i, i < 4 → i = 0 ∨ i = 1 ∨ i = 2 ∨ i = 3 := fun i hi => by omega
  refine (keeps_fn (fun i => match i with | 0 => a0 | 1 => a1 | 2 => a2 | _ => a3) (fun i => match i with | 0 => n0 | 1 => n1 | 2 => n2 | _ => n3) (fun i => match i with | 0 => c0 | 1 => c1 | 2 => c2 | _ => c3) (fun i => match i with | 0 => L0 | 1 => L1 | 2 => L2 | _ => L3) W (table hL)
    (fun i hi => by rcases four i hi with rfl | rfl | rfl | rfl <;> assumption) (fun i hi => by rcases four i hi with rfl | rfl | rfl | rfl <;> assumption) (fun i hi => by rcases four i hi with rfl | rfl | rfl | rfl <;> simp only <;> omega)).mono ?_
  rintro e W' ⟨rfl, bel⟩
  have e1 : ((Rows.OpenSpec.upto Rows.ocbKeepsSpec).at F).fn H ([d0, d1, d2, d3] ++ []) = { results := [.lit (.bool true)], args := [d0, d1, d2, d3] } := rfl
  have back : ∀ {v d p}, DataW.Trod enc Tryd.prog W 0 (fun _ => true) true 22 v d p → (∀ x ∈ p, x.block < W.heap.size) → DataW.Trod enc Tryd.prog W' 0 (fun b => decide (b < W.heap.size)) true 22 v d p := fun h hp => Below.trod laidOut (by kernel_rfl) (of_decide_eq_true (by kernel_rfl)) h bel hp
  refine ⟨_, rfl, _, _, _, [], p0 ++ (p1 ++ (p2 ++ (p3 ++ []))), [], hW', ?_, ?_, ?_, bel.frame _, fun h => by cases h⟩
  · rw [e1]; exact trodAll_cons_mk (shut_bool Tryd.underlying4 _) trodAll_mk0
  · rw [e1]
    exact trodAll_cons_mk (back h0 (fun x hx => hlt x (by simp [hx]))) (trodAll_cons_mk (back h1 (fun x hx => hlt x (by simp [hx]))) (trodAll_cons_mk (back h2 (fun x hx => hlt x (by simp [hx]))) (trodAll_cons_mk (back h3 (fun x hx => hlt x (by simp [hx]))) trodAll_mk0)))
  · rw [e1]; rfl
theorem keeps_saidUpto : Rows.OcbKeepsUptoSaid :=
  OpenClaim.holds_of_cond 6 Tryd.f6 rfl rfl rfl rfl rfl rfl rfl ⟨rfl, rfl, rfl, rfl, rfl⟩ rfl rfl rfl rfl rfl (by kernel_rfl) Tryd.func6 (by kernel_rfl)
    (of_decide_eq_true (by kernel_rfl)) (by unfold Func.isWrapper; first | (rw [if_pos (by decide +kernel)]; kernel_rfl) | (rw [if_neg (by decide +kernel)]; exact ⟨rfl, rfl⟩))
    (fun os started H enc _ F => by rw [OpenClaim.pre_eq_preRow]; exact keeps_lifted os started H enc F)
theorem keeps_plain (f : FuncId) (fn : Func) (hf : Tryd.pinned.checked.prog.funcNamed "postilion/postilionlaw03.OcbKeeps" = some f) (hfn : Tryd.pinned.checked.prog.funcs[f]? = some fn) :
    false = Tryd.pinned.checked.prog.looks [] ∧ ∀ (j : Nat) t, fn.params[j]? = some t → Tryd.pinned.checked.prog.wantsStandIn t = false := by
  obtain rfl : f = 6 := Option.some.inj ((show Tryd.prog.funcNamed "postilion/postilionlaw03.OcbKeeps" = some 6 by kernel_rfl).symm.trans hf) |>.symm
  obtain rfl : fn = Tryd.f6 := (Option.some.inj (Tryd.func6.symm.trans hfn)).symm
  refine ⟨by kernel_rfl, fun j t ht => ?_⟩
  rw [Tryd.params6] at ht
  obtain rfl : t = 22 := by simpa using Array.mem_of_getElem? ht
  exact (show Tryd.prog.wantsStandIn 22 = false by kernel_rfl)
/-- The card of the second form. -/
theorem keeps_cardUpto : Rows.OcbKeepsUptoCardSaid :=
  Claim7.holds_tied_plain_at .later [] _ _ _ _ keeps_saidUpto (fun _ h => by cases h) (by kernel_rfl) (fun _ h => by cases h) ocbKeepsUpto_row_tie rfl ⟨rfl, rfl⟩ (by kernel_rfl) rfl keeps_plain (by kernel_rfl)

end Go.Proofs.YtpkpkfjpnkbkbaaDoor
