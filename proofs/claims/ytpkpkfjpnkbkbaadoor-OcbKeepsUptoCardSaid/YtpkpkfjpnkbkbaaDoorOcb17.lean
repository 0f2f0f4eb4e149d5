/- The walk of the law OcbKeeps: its two loops. -/
import Derived.Test.YtpkpkfjpnkbkbaaDoorOcb16
namespace Go.Proofs.YtpkpkfjpnkbkbaaDoor
open Go.RowKit
set_option maxHeartbeats 12000000
set_option maxRecDepth 100000
set_option linter.unusedSimpArgs false

section
variable {P : Program} {ops : Array Oper} {Q : Exit → Act → World → Prop} {md : Region.Mode} {S : World → Prop} {z : Nat}
/-- Two may come up. -/
theorem wpAnyE_two (i j : Nat) {o o' : Oper} {fuel : Nat} {listed : Array Bool} {a : Act} {w : World} (hr : Region.ready md ops listed = [i, j]) (ho : ops[i]? = some o) (ho' : ops[j]? = some o')
    (h : ∀ K' : Act → World → Prop, Shut (∀ a w, (i = z ∨ S w) → wpAnyE P md ops Q S z fuel (listed.setIfInBounds i true) a w → K' a w) → if Region.wanted o (yielded ops a.tmps) = true then Oper.wp P o a w K' Q else K' (a.put o.dst undef) w)
    (h' : ∀ K' : Act → World → Prop, Shut (∀ a w, (j = z ∨ S w) → wpAnyE P md ops Q S z fuel (listed.setIfInBounds j true) a w → K' a w) → if Region.wanted o' (yielded ops a.tmps) = true then Oper.wp P o' a w K' Q else K' (a.put o'.dst undef) w) :
    wpAnyE P md ops Q S z (fuel + 1) listed a w :=
  ⟨fun h0 => (by rw [hr] at h0; cases h0), fun k hk => by
    rw [hr] at hk
    rcases List.mem_cons.1 hk with rfl | hk
    · exact wpOp_step ho fun K' hK => h K' (fun a w hS hW => hK a w ⟨hS, hW⟩)
    · obtain rfl := List.mem_singleton.1 hk
      exact wpOp_step ho' fun K' hK => h' K' (fun a w hS hW => hK a w ⟨hS, hW⟩)⟩
end

/-- append(out, x...) on a slice of the call's own, in a region that draws. -/
theorem step_append_sl {ops : Array Oper} {op : Oper} {act : Act} {w : World} {K : Act → World → Prop} {Q : Exit → Act → World → Prop} {E : Prop} (hgd : op.guard = none) (s x : Operand)
    (ho : op.op = .call { callee := .builtin .append, args := #[s, x], argTypes := #[22, 22] })
    (base : Nat) (v : Value) (L : List Nat) (hs : act.eval s = v) (hown : Buf w base v L) (a : Option Addr) (n cap : Nat) (M : List Nat) (hn : M.length = n) (hx : act.eval x = .slice a n cap) (hM : SlA w a cap M)
    (hlen : L.length + M.length ≤ 140737488355328) (hbase : base ≤ w.heap.size)
    (h : ∀ v' w', Buf w' base v' (L ++ M) → Only v.ownBlock.toList w w' → K (act.put op.dst v') w') : if Region.wanted op (yielded ops act.tmps) = true then Oper.wp Tryd.prog op act w K Q else E := by
  have hw : Region.wanted op (yielded ops act.tmps) = true := by simp [Region.wanted, hgd]
  rw [if_pos hw]
  subst hn
  obtain ⟨i0, hi, hz0, hz1, hz2⟩ := info_parts info8o
  cases a with
  | none =>
    have hc : cap = 0 := hM.nil rfl
    have hl := hM.le
    have : M = [] := List.eq_nil_of_length_eq_zero (by omega)
    subst this
    subst hc
    have hrun := run_append_owned_none (P := Tryd.prog) w base 22 op.type 5 i0 1 Tryd.underlying22 hi v L.length (byL L) hown
    unfold Oper.wp execOp
    simp only [ho, resolve, invoke, builtin, Sem.run_bind, Sem.run_pure, Result.andThen_ok, List.map_toArray, List.map_cons, List.map_nil, hs, hx]
    have e0 : (([] : List Nat).length) = 0 := rfl
    rw [e0, hrun]
    exact h v w (by simpa using hown) (Only.refl _ _)
  | some ad =>
    refine wp_append_own w s x 22 ho base 5 i0 (.int .u8 0) 1 1 Tryd.underlying22 hi hz0 hz1 hz2 rfl (by decide) v L.length (byL L) hs hown ad M.length cap (byL M) hx (by simp)
      (fun j u hu => ?_) (fun u hu => by simp at hu; obtain ⟨_, _, rfl⟩ := hu; rfl) (by unfold maxLen; omega) (by omega) hbase (fun v' w' h1 h2 _ => h v' w' ?_ (Only.of_grown h2))
    · have hj : j < M.length := by have := (List.getElem?_eq_some_iff.1 hu).1; simpa using this
      obtain ⟨b, o, e, hh⟩ := hM.has (by intro e; rw [e] at hj; simp at hj)
      cases e
      rw [Addr.add_mid, hh j hj]
      simp at hu
      obtain ⟨y, hy, rfl⟩ := hu
      simp [hy]
    · unfold Buf
      simpa [byL] using h1

theorem Buf.new0 {w : World} {b : Nat} (hb : b = w.heap.size) : Buf (w.alloc (.cells #[] 5)) b (.slice (some ⟨b, 0, none⟩) 0 0) [] := by
  refine ⟨rfl, Or.inr ⟨b, 0, #[], rfl, Nat.le_refl _, heap_at hb, Nat.le_refl _, by unfold maxLen; omega, rfl, rfl⟩⟩

theorem keeps_round (i lb inb gg cc : Nat) (g c sn sc : Nat → Nat) (sa : Nat → Option Addr) (sl : Nat → List Nat) (w wr w8 : World)
    (HR : Only [] w wr ∧ Has wr inb 0 4 (fun i => .slice (sa i) (sn i) (sc i)) ∧ (Has wr lb 0 4 (fun j => if j < i then .slice (some ⟨g j, 0, none⟩) (sn j) (c j) else .slice none 0 0) ∧ Loose wr lb 0 4)
      ∧ ∀ j, j < i → Has wr (g j) 0 (sn j + 3) (byG (sl j ++ [1, 2, 3])) ∧ sn j + 3 ≤ c j ∧ g j ≠ lb)
    (o8 : Only [] wr w8) (hlt : i < 4) (hw : w.heap.size ≤ lb) (hil : inb ≠ lb) (hg1 : wr.heap.size ≤ gg) (hg4 : Has w8 gg 0 (sn i + 3) (byG (sl i ++ [1, 2, 3]))) (hg3 : sn i + 3 ≤ cc) :
    Only [] w (w8.setCell ⟨lb, i, none⟩ (.slice (some ⟨gg, 0, none⟩) (sn i) cc)) ∧ Has (w8.setCell ⟨lb, i, none⟩ (.slice (some ⟨gg, 0, none⟩) (sn i) cc)) inb 0 4 (fun i => .slice (sa i) (sn i) (sc i))
    ∧ (Has (w8.setCell ⟨lb, i, none⟩ (.slice (some ⟨gg, 0, none⟩) (sn i) cc)) lb 0 4 (fun j => if j < i + 1 then .slice (some ⟨(fun j => if j = i then gg else g j) j, 0, none⟩) (sn j) ((fun j => if j = i then cc else c j) j) else .slice none 0 0) ∧ Loose (w8.setCell ⟨lb, i, none⟩ (.slice (some ⟨gg, 0, none⟩) (sn i) cc)) lb 0 4)
    ∧ ∀ j, j < i + 1 → Has (w8.setCell ⟨lb, i, none⟩ (.slice (some ⟨gg, 0, none⟩) (sn i) cc)) ((fun j => if j = i then gg else g j) j) 0 (sn j + 3) (byG (sl j ++ [1, 2, 3])) ∧ sn j + 3 ≤ (fun j => if j = i then cc else c j) j ∧ (fun j => if j = i then gg else g j) j ≠ lb := by
  obtain ⟨r1, r2, ⟨r3, r4⟩, r5⟩ := HR
  have llt := r3.lt (by omega)
  have hP : Put w8 (w8.setCell ⟨lb, i, none⟩ (.slice (some ⟨gg, 0, none⟩) (sn i) cc)) lb 0 4 (fun j => if j = i then .slice (some ⟨gg, 0, none⟩) (sn i) cc else if j < i then .slice (some ⟨g j, 0, none⟩) (sn j) (c j) else .slice none 0 0) := (Put.of_has (o8.has r3 (by simp))).set0 i hlt _
  have hO : Only [lb] wr (w8.setCell ⟨lb, i, none⟩ (.slice (some ⟨gg, 0, none⟩) (sn i) cc)) := o8.trans hP.only
  refine ⟨r1.then hO (fun x hx hl => by simp at hx; omega), hO.has r2 (by simpa using hil), ⟨hP.has.congr fun j hj => ?_, hP.loose (o8.loose r4 llt (by simp))⟩, fun j hj => ?_⟩
  · by_cases e : j = i
    · subst e; simp
    · simp only [e, if_false]
      by_cases h : j < i
      · rw [if_pos h, if_pos (by omega)]
      · rw [if_neg h, if_neg (by omega)]
  · by_cases e : j = i
    · subst e
      simp only [if_true]
      exact ⟨hP.only.has hg4 (by simp; omega), hg3, by omega⟩
    · obtain ⟨h1, h2, h3⟩ := r5 j (by omega)
      simp only [e, if_false]
      exact ⟨hO.has h1 (by simpa using h3), h2, h3⟩

theorem keeps_fn (sa : Nat → Option Addr) (sn sc : Nat → Nat) (sl : Nat → List Nat) (w : World)
    (hT : TabIs w) (hb : ∀ i, i < 4 → By (sl i)) (hs : ∀ i, i < 4 → SlIn w (sa i) (sn i) (sc i) (sl i)) (hn : ∀ i, i < 4 → sn i < 2 ^ 46) :
    Calls Tryd.prog 6 #[.slice (sa 0) (sn 0) (sc 0), .slice (sa 1) (sn 1) (sc 1), .slice (sa 2) (sn 2) (sc 2), .slice (sa 3) (sn 3) (sc 3)] w fun e w' => e = .returned (.bool true) ∧ Below w.heap.size w w' := by
  have HH : Hid (TabIs w ∧ (∀ i, i < 4 → By (sl i)) ∧ (∀ i, i < 4 → SlIn w (sa i) (sn i) (sc i) (sl i)) ∧ (∀ i, i < 4 → sn i < 2 ^ 46)) := ⟨hT, hb, hs, hn⟩
  clear hT hb hs hn
  go_enter Tryd.func6, Tryd.ntmps6
  go_upto_region 5 with (go_at_call 7; refine (awake_any w HH.out.1).mono ?_; rintro e w1 ⟨rfl, h1⟩)
  obtain ⟨W, hW⟩ : ∃ W, W = (w1.alloc (.cells #[.slice (sa 0) (sn 0) (sc 0), .slice (sa 1) (sn 1) (sc 1), .slice (sa 2) (sn 2) (sc 2), .slice (sa 3) (sn 3) (sc 3)] 22)).alloc (.cells #[.slice none 0 0, .slice none 0 0, .slice none 0 0, .slice none 0 0] 31) := ⟨_, rfl⟩
  obtain ⟨inb, hib⟩ : ∃ inb, inb = w1.heap.size := ⟨_, rfl⟩
  obtain ⟨lb, hlb⟩ : ∃ lb, lb = w1.heap.size + 1 := ⟨_, rfl⟩
  have HW : Hid (Only [] w W ∧ Has W inb 0 4 (fun i => .slice (sa i) (sn i) (sc i)) ∧ Has W lb 0 4 (fun _ => .slice none 0 0) ∧ Loose W lb 0 4 ∧ w.heap.size ≤ inb ∧ w.heap.size ≤ lb ∧ inb ≠ lb) := by
    have := h1.size
    rw [hW, hib, hlb]
    exact ⟨((Only.of_below h1 []).alloc _).alloc _, (Has.new_at (f := fun i => .slice (sa i) (sn i) (sc i)) rfl (rowV4 _).symm).alloc _, Has.new_at (by simp) rfl, Loose.new_at (by simp), this, by omega, by omega⟩
  rw [← hW, ← hlb, ← hib]
  clear hW hlb hib h1
  go_wp2
  go_loopw [20] (fun x wr => ∃ i : Nat, i ≤ 4 ∧ x = .int .i64 (i : Int) ∧ ∃ g c : Nat → Nat, Only [] w wr ∧ Has wr inb 0 4 (fun i => .slice (sa i) (sn i) (sc i)) ∧ (Has wr lb 0 4 (fun j => if j < i then .slice (some ⟨g j, 0, none⟩) (sn j) (c j) else .slice none 0 0) ∧ Loose wr lb 0 4)
      ∧ ∀ j, j < i → Has wr (g j) 0 (sn j + 3) (byG (sl j ++ [1, 2, 3])) ∧ sn j + 3 ≤ c j ∧ g j ≠ lb) (fun x _ => 4 - (intOf x).toNat)
  case atStart => exact ⟨0, by omega, rfl, fun _ => 0, fun _ => 0, HW.out.1, HW.out.2.1, ⟨HW.out.2.2.1.congr fun i hi => by simp, HW.out.2.2.2.1⟩, fun j hj => by omega⟩
  case round =>
    obtain ⟨i, hi, rfl, g, c, hrel⟩ := hrel
    have HR : Hid (Only [] w wr ∧ Has wr inb 0 4 (fun i => .slice (sa i) (sn i) (sc i)) ∧ (Has wr lb 0 4 (fun j => if j < i then .slice (some ⟨g j, 0, none⟩) (sn j) (c j) else .slice none 0 0) ∧ Loose wr lb 0 4)
      ∧ ∀ j, j < i → Has wr (g j) 0 (sn j + 3) (byG (sl j ++ [1, 2, 3])) ∧ sn j + 3 ≤ c j ∧ g j ≠ lb) := hrel
    clear hrel
    by_cases hlt : i < 4
    · have i4 : (i : Int) < 4 := by omega
      have d1 : wr.cell? ⟨inb, i, none⟩ = some (.slice (sa i) (sn i) (sc i)) := HR.out.2.1.get0 hlt
      go_upto_region 8 with fail
      refine wp_region_e (fun w' => w'.cell? ⟨inb, i, none⟩ = some (.slice (sa i) (sn i) (sc i))) 16 (by kernel_rfl) d1 (fun hHeld => ?_)
      refine wpAnyE_take 0 _ (v := (.int .i64 i)) rfl rfl (by kernel_rfl) (by kernel_rfl) (by kernel_rfl) (by kernel_rfl) (fun _ _ _ h => h) (Or.inl ⟨by rfl, fun w hS => by (try dsimp only at hS); go_simp⟩) (by assumption) ?_
      simp only [Act.put, List.setIfInBounds_toArray, List.set_cons_zero, List.set_cons_succ]
      refine wpAnyE_take 2 _ (v := (.slice (some ⟨inb, 0, none⟩) 4 4)) rfl rfl (by kernel_rfl) (by kernel_rfl) (by kernel_rfl) (by kernel_rfl) (fun _ _ _ h => h) (Or.inl ⟨by rfl, fun w hS => by (try dsimp only at hS); go_simp⟩) (by assumption) ?_
      simp only [Act.put, List.setIfInBounds_toArray, List.set_cons_zero, List.set_cons_succ]
      refine wpAnyE_take 3 _ (v := (.int .i64 i)) rfl rfl (by kernel_rfl) (by kernel_rfl) (by kernel_rfl) (by kernel_rfl) (fun _ _ _ h => h) (Or.inl ⟨by rfl, fun w hS => by (try dsimp only at hS); go_simp⟩) (by assumption) ?_
      simp only [Act.put, List.setIfInBounds_toArray, List.set_cons_zero, List.set_cons_succ]
      refine wpAnyE_take 4 _ (v := (.pointer (some ⟨inb, i, none⟩))) rfl rfl (by kernel_rfl) (by kernel_rfl) (by kernel_rfl) (by kernel_rfl) (fun _ _ _ h => h) (Or.inl ⟨by rfl, fun w hS => by (try dsimp only at hS); go_simp⟩) (by assumption) ?_
      simp only [Act.put, List.setIfInBounds_toArray, List.set_cons_zero, List.set_cons_succ]
      refine wpAnyE_take 5 _ (v := (.slice (sa i) (sn i) (sc i))) rfl rfl (by kernel_rfl) (by kernel_rfl) (by kernel_rfl) (by kernel_rfl) (fun _ _ _ h => h) (Or.inl ⟨by rfl, fun w hS => by (try dsimp only at hS); go_simp⟩) (by assumption) ?_
      simp only [Act.put, List.setIfInBounds_toArray, List.set_cons_zero, List.set_cons_succ]
      refine wpAnyE_take 9 _ (v := (.slice (some ⟨inb, 0, none⟩) 4 4)) rfl rfl (by kernel_rfl) (by kernel_rfl) (by kernel_rfl) (by kernel_rfl) (fun _ _ _ h => h) (Or.inl ⟨by rfl, fun w hS => by (try dsimp only at hS); go_simp⟩) (by assumption) ?_
      simp only [Act.put, List.setIfInBounds_toArray, List.set_cons_zero, List.set_cons_succ]
      refine wpAnyE_take 10 _ (v := (.int .i64 i)) rfl rfl (by kernel_rfl) (by kernel_rfl) (by kernel_rfl) (by kernel_rfl) (fun _ _ _ h => h) (Or.inl ⟨by rfl, fun w hS => by (try dsimp only at hS); go_simp⟩) (by assumption) ?_
      simp only [Act.put, List.setIfInBounds_toArray, List.set_cons_zero, List.set_cons_succ]
      refine wpAnyE_take 11 _ (v := (.pointer (some ⟨inb, i, none⟩))) rfl rfl (by kernel_rfl) (by kernel_rfl) (by kernel_rfl) (by kernel_rfl) (fun _ _ _ h => h) (Or.inl ⟨by rfl, fun w hS => by (try dsimp only at hS); go_simp⟩) (by assumption) ?_
      simp only [Act.put, List.setIfInBounds_toArray, List.set_cons_zero, List.set_cons_succ]
      refine wpAnyE_take 12 _ (v := (.slice (sa i) (sn i) (sc i))) rfl rfl (by kernel_rfl) (by kernel_rfl) (by kernel_rfl) (by kernel_rfl) (fun _ _ _ h => h) (Or.inl ⟨by rfl, fun w hS => by (try dsimp only at hS); go_simp⟩) (by assumption) ?_
      simp only [Act.put, List.setIfInBounds_toArray, List.set_cons_zero, List.set_cons_succ]
      refine wpAnyE_take 13 _ (v := (.int .i64 (sn i))) rfl rfl (by kernel_rfl) (by kernel_rfl) (by kernel_rfl) (by kernel_rfl) (fun _ _ _ h => h) (Or.inl ⟨by rfl, fun w hS => by (try dsimp only at hS); go_simp⟩) (by assumption) ?_
      simp only [Act.put, List.setIfInBounds_toArray, List.set_cons_zero, List.set_cons_succ]
      have HS : Hid (∀ w', Only [] wr w' → w'.cell? ⟨inb, i, none⟩ = some (.slice (sa i) (sn i) (sc i))) := fun w' ho => ho.cell d1 (by simp)
      refine wpAnyE_two 1 7 (by kernel_rfl) rfl rfl (fun K' hK => ?_) (fun K' hK => ?_)
      · go_simp
        have o1 : Only [] wr (wr.alloc (.cells #[] 5)).drew := ((Only.refl [] wr).alloc _).drew
        refine hK.out _ _ (Or.inr (HS.out _ o1)) ?_
        clear hK K'
        have b1 : Buf (wr.alloc (.cells #[] 5)).drew wr.heap.size (.slice (some ⟨wr.heap.size, 0, none⟩) 0 0) [] := Buf.new0 rfl
        refine wpAnyE_two 6 7 (by kernel_rfl) rfl rfl (fun K' hK => ?_) (fun K' hK => ?_)
        · refine step_append_sl rfl _ _ rfl wr.heap.size (.slice (some ⟨wr.heap.size, 0, none⟩) 0 0) [] rfl b1 (sa i) (sn i) (sc i) (sl i) (HH.out.2.2.1 i hlt).len rfl ((((HH.out.2.2.1 i hlt).only HR.out.1 (by simp)).only o1 (by simp)).slA) (by have := HH.out.2.2.2 i hlt; have := (HH.out.2.2.1 i hlt).len; simp; omega) o1.size ?_
          intro v6 w6 b6 q6
          have o6 : Only [] wr w6 := o1.then q6 (fun x hx hl => by simp [Value.ownBlock] at hx; have := Nat.le_refl wr.heap.size; omega)
          refine hK.out _ _ (Or.inr (HS.out _ o6)) ?_
          clear hK K'
          refine wpAnyE_one 7 (by kernel_rfl) rfl (fun K' hK => ?_)
          go_simp
          have o7 : Only [] wr (w6.alloc (.cells #[.int .u8 1, .int .u8 2, .int .u8 3] 5)) := o6.alloc _
          refine hK.out _ _ (Or.inr (HS.out _ o7)) ?_
          clear hK K'
          refine wpAnyE_one 8 (by kernel_rfl) rfl (fun K' hK => ?_)
          refine step_append_sl rfl _ _ rfl wr.heap.size v6 ([] ++ sl i) rfl (b6.alloc _) (some ⟨w6.heap.size, 0, none⟩) 3 3 [1, 2, 3] rfl rfl (SlA.of_has (Has.new_at rfl rfl) (Nat.le_refl _)) (by have := HH.out.2.2.2 i hlt; have := (HH.out.2.2.1 i hlt).len; simp; omega) o7.size ?_
          intro v8 w8 b8 q8
          have o8 : Only [] wr w8 := o7.then q8 (fun x hx hl => by
            have h0 : v6.ownBlock = some x := by simpa using hx
            have := (b6.lt x h0).1
            omega)
          have hlen : (([] ++ sl i) ++ [1, 2, 3]).length = sn i + 3 := by have := (HH.out.2.2.1 i hlt).len; simp; omega
          obtain ⟨gg, cc, rfl, hg1, hg2, hg3, -, hg4, -⟩ := b8.open (by intro e; rw [e] at hlen; simp at hlen)
          rw [hlen] at hg3 hg4 ⊢
          refine hK.out _ _ (Or.inr (HS.out _ o8)) ?_
          clear hK K'
          have hg5 : sn i ≤ cc := by omega
          have hg6 : (sn i : Int) ≤ (cc : Int) := by omega
          refine wpAnyE_one 14 (by kernel_rfl) rfl (fun K' hK => ?_)
          go_simp
          refine hK.out _ _ (Or.inr (HS.out _ o8)) ?_
          clear hK K'
          refine wpAnyE_one 15 (by kernel_rfl) rfl (fun K' hK => ?_)
          go_simp
          refine hK.out _ _ (Or.inr (HS.out _ o8)) ?_
          clear hK K'
          have e1 : w8.cell? ⟨lb, i, none⟩ = some (.slice none 0 0) := by
            have := o8.cell (HR.out.2.2.1.1.get0 hlt) (by simp)
            rw [if_neg (by omega)] at this
            exact this
          have e2 : w8.frozen? ⟨lb, i, none⟩ = false := by
            have := o8.loose HR.out.2.2.1.2 (HR.out.2.2.1.1.lt (by omega)) (by simp) i hlt
            simpa using this
          refine wpAnyE_one 16 (by kernel_rfl) rfl (fun K' hK => ?_)
          go_simp
          refine hK.out _ _ (Or.inl rfl) ?_
          clear hK K'
          refine wpAnyE_done (by kernel_rfl) ?_ _
          have HV : Hid (Only [] w (w8.setCell ⟨lb, i, none⟩ (.slice (some ⟨gg, 0, none⟩) (sn i) cc)) ∧ Has (w8.setCell ⟨lb, i, none⟩ (.slice (some ⟨gg, 0, none⟩) (sn i) cc)) inb 0 4 (fun i => .slice (sa i) (sn i) (sc i))
              ∧ (Has (w8.setCell ⟨lb, i, none⟩ (.slice (some ⟨gg, 0, none⟩) (sn i) cc)) lb 0 4 (fun j => if j < i + 1 then .slice (some ⟨(fun j => if j = i then gg else g j) j, 0, none⟩) (sn j) ((fun j => if j = i then cc else c j) j) else .slice none 0 0) ∧ Loose (w8.setCell ⟨lb, i, none⟩ (.slice (some ⟨gg, 0, none⟩) (sn i) cc)) lb 0 4)
              ∧ ∀ j, j < i + 1 → Has (w8.setCell ⟨lb, i, none⟩ (.slice (some ⟨gg, 0, none⟩) (sn i) cc)) ((fun j => if j = i then gg else g j) j) 0 (sn j + 3) (byG (sl j ++ [1, 2, 3])) ∧ sn j + 3 ≤ (fun j => if j = i then cc else c j) j ∧ (fun j => if j = i then gg else g j) j ≠ lb) := keeps_round i lb inb gg cc g c sn sc sa sl w wr w8 HR.out o8 hlt HW.out.2.2.2.2.2.1 HW.out.2.2.2.2.2.2 hg1 (by simpa using hg4) hg3
          clear hg1 hg2 hg3 hg4 hg5 hg6 e1 e2 b8 q8 o8 hlen
          have s1 : IntKind.i64.wrap ((i : Int) + 1) = (i : Int) + 1 := i64w (by omega) (by omega)
          go_wp2
          go_roundw
          case rel => exact ⟨i + 1, by omega, by go_num, _, _, HV.out⟩
          case measure => simp [intOf]; omega
        · go_simp
          have o7 : Only [] wr (((wr.alloc (.cells #[] 5)).drew).alloc (.cells #[.int .u8 1, .int .u8 2, .int .u8 3] 5)) := o1.alloc _
          refine hK.out _ _ (Or.inr (HS.out _ o7)) ?_
          clear hK K'
          refine wpAnyE_one 6 (by kernel_rfl) rfl (fun K' hK => ?_)
          refine step_append_sl rfl _ _ rfl wr.heap.size (.slice (some ⟨wr.heap.size, 0, none⟩) 0 0) [] rfl (b1.alloc _) (sa i) (sn i) (sc i) (sl i) (HH.out.2.2.1 i hlt).len rfl ((((HH.out.2.2.1 i hlt).only HR.out.1 (by simp)).only o7 (by simp)).slA) (by have := HH.out.2.2.2 i hlt; have := (HH.out.2.2.1 i hlt).len; simp; omega) o7.size ?_
          intro v6 w6 b6 q6
          have o6 : Only [] wr w6 := o7.then q6 (fun x hx hl => by simp [Value.ownBlock] at hx; have := Nat.le_refl wr.heap.size; omega)
          refine hK.out _ _ (Or.inr (HS.out _ o6)) ?_
          clear hK K'
          refine wpAnyE_one 8 (by kernel_rfl) rfl (fun K' hK => ?_)
          refine step_append_sl rfl _ _ rfl wr.heap.size v6 ([] ++ sl i) rfl b6 (some ⟨(wr.heap.size + 1), 0, none⟩) 3 3 [1, 2, 3] rfl rfl (SlA.of_has (q6.has (Has.new_at (by simp) rfl) (by simp [Value.ownBlock])) (Nat.le_refl _)) (by have := HH.out.2.2.2 i hlt; have := (HH.out.2.2.1 i hlt).len; simp; omega) o6.size ?_
          intro v8 w8 b8 q8
          have o8 : Only [] wr w8 := o6.then q8 (fun x hx hl => by
            have h0 : v6.ownBlock = some x := by simpa using hx
            have := (b6.lt x h0).1
            omega)
          have hlen : (([] ++ sl i) ++ [1, 2, 3]).length = sn i + 3 := by have := (HH.out.2.2.1 i hlt).len; simp; omega
          obtain ⟨gg, cc, rfl, hg1, hg2, hg3, -, hg4, -⟩ := b8.open (by intro e; rw [e] at hlen; simp at hlen)
          rw [hlen] at hg3 hg4 ⊢
          refine hK.out _ _ (Or.inr (HS.out _ o8)) ?_
          clear hK K'
          have hg5 : sn i ≤ cc := by omega
          have hg6 : (sn i : Int) ≤ (cc : Int) := by omega
          refine wpAnyE_one 14 (by kernel_rfl) rfl (fun K' hK => ?_)
          go_simp
          refine hK.out _ _ (Or.inr (HS.out _ o8)) ?_
          clear hK K'
          refine wpAnyE_one 15 (by kernel_rfl) rfl (fun K' hK => ?_)
          go_simp
          refine hK.out _ _ (Or.inr (HS.out _ o8)) ?_
          clear hK K'
          have e1 : w8.cell? ⟨lb, i, none⟩ = some (.slice none 0 0) := by
            have := o8.cell (HR.out.2.2.1.1.get0 hlt) (by simp)
            rw [if_neg (by omega)] at this
            exact this
          have e2 : w8.frozen? ⟨lb, i, none⟩ = false := by
            have := o8.loose HR.out.2.2.1.2 (HR.out.2.2.1.1.lt (by omega)) (by simp) i hlt
            simpa using this
          refine wpAnyE_one 16 (by kernel_rfl) rfl (fun K' hK => ?_)
          go_simp
          refine hK.out _ _ (Or.inl rfl) ?_
          clear hK K'
          refine wpAnyE_done (by kernel_rfl) ?_ _
          have HV : Hid (Only [] w (w8.setCell ⟨lb, i, none⟩ (.slice (some ⟨gg, 0, none⟩) (sn i) cc)) ∧ Has (w8.setCell ⟨lb, i, none⟩ (.slice (some ⟨gg, 0, none⟩) (sn i) cc)) inb 0 4 (fun i => .slice (sa i) (sn i) (sc i))
              ∧ (Has (w8.setCell ⟨lb, i, none⟩ (.slice (some ⟨gg, 0, none⟩) (sn i) cc)) lb 0 4 (fun j => if j < i + 1 then .slice (some ⟨(fun j => if j = i then gg else g j) j, 0, none⟩) (sn j) ((fun j => if j = i then cc else c j) j) else .slice none 0 0) ∧ Loose (w8.setCell ⟨lb, i, none⟩ (.slice (some ⟨gg, 0, none⟩) (sn i) cc)) lb 0 4)
              ∧ ∀ j, j < i + 1 → Has (w8.setCell ⟨lb, i, none⟩ (.slice (some ⟨gg, 0, none⟩) (sn i) cc)) ((fun j => if j = i then gg else g j) j) 0 (sn j + 3) (byG (sl j ++ [1, 2, 3])) ∧ sn j + 3 ≤ (fun j => if j = i then cc else c j) j ∧ (fun j => if j = i then gg else g j) j ≠ lb) := keeps_round i lb inb gg cc g c sn sc sa sl w wr w8 HR.out o8 hlt HW.out.2.2.2.2.2.1 HW.out.2.2.2.2.2.2 hg1 (by simpa using hg4) hg3
          clear hg1 hg2 hg3 hg4 hg5 hg6 e1 e2 b8 q8 o8 hlen
          have s1 : IntKind.i64.wrap ((i : Int) + 1) = (i : Int) + 1 := i64w (by omega) (by omega)
          go_wp2
          go_roundw
          case rel => exact ⟨i + 1, by omega, by go_num, _, _, HV.out⟩
          case measure => simp [intOf]; omega
      · go_simp
        have o7 : Only [] wr ((wr.alloc (.cells #[.int .u8 1, .int .u8 2, .int .u8 3] 5)).drew) := ((Only.refl [] wr).alloc _).drew
        refine hK.out _ _ (Or.inr (HS.out _ o7)) ?_
        clear hK K'
        refine wpAnyE_one 1 (by kernel_rfl) rfl (fun K' hK => ?_)
        go_simp
        have o1 : Only [] wr (((wr.alloc (.cells #[.int .u8 1, .int .u8 2, .int .u8 3] 5)).drew).alloc (.cells #[] 5)) := o7.alloc _
        refine hK.out _ _ (Or.inr (HS.out _ o1)) ?_
        clear hK K'
        have b1 : Buf (((wr.alloc (.cells #[.int .u8 1, .int .u8 2, .int .u8 3] 5)).drew).alloc (.cells #[] 5)) wr.heap.size (.slice (some ⟨wr.heap.size + 1, 0, none⟩) 0 0) [] := (Buf.new0 (by simp)).base_le (Nat.le_succ _)
        refine wpAnyE_one 6 (by kernel_rfl) rfl (fun K' hK => ?_)
        refine step_append_sl rfl _ _ rfl wr.heap.size (.slice (some ⟨(wr.heap.size + 1), 0, none⟩) 0 0) [] rfl b1 (sa i) (sn i) (sc i) (sl i) (HH.out.2.2.1 i hlt).len rfl ((((HH.out.2.2.1 i hlt).only HR.out.1 (by simp)).only o1 (by simp)).slA) (by have := HH.out.2.2.2 i hlt; have := (HH.out.2.2.1 i hlt).len; simp; omega) o1.size ?_
        intro v6 w6 b6 q6
        have o6 : Only [] wr w6 := o1.then q6 (fun x hx hl => by simp [Value.ownBlock] at hx; have := Nat.le_refl wr.heap.size; omega)
        refine hK.out _ _ (Or.inr (HS.out _ o6)) ?_
        clear hK K'
        refine wpAnyE_one 8 (by kernel_rfl) rfl (fun K' hK => ?_)
        refine step_append_sl rfl _ _ rfl wr.heap.size v6 ([] ++ sl i) rfl b6 (some ⟨wr.heap.size, 0, none⟩) 3 3 [1, 2, 3] rfl rfl (SlA.of_has (q6.has (((Has.new_at (w := wr) (f := byG [1, 2, 3]) rfl rfl).drew).alloc _) (by simp [Value.ownBlock])) (Nat.le_refl _)) (by have := HH.out.2.2.2 i hlt; have := (HH.out.2.2.1 i hlt).len; simp; omega) o6.size ?_
        intro v8 w8 b8 q8
        have o8 : Only [] wr w8 := o6.then q8 (fun x hx hl => by
          have h0 : v6.ownBlock = some x := by simpa using hx
          have := (b6.lt x h0).1
          omega)
        have hlen : (([] ++ sl i) ++ [1, 2, 3]).length = sn i + 3 := by have := (HH.out.2.2.1 i hlt).len; simp; omega
        obtain ⟨gg, cc, rfl, hg1, hg2, hg3, -, hg4, -⟩ := b8.open (by intro e; rw [e] at hlen; simp at hlen)
        rw [hlen] at hg3 hg4 ⊢
        refine hK.out _ _ (Or.inr (HS.out _ o8)) ?_
        clear hK K'
        have hg5 : sn i ≤ cc := by omega
        have hg6 : (sn i : Int) ≤ (cc : Int) := by omega
        refine wpAnyE_one 14 (by kernel_rfl) rfl (fun K' hK => ?_)
        go_simp
        refine hK.out _ _ (Or.inr (HS.out _ o8)) ?_
        clear hK K'
        refine wpAnyE_one 15 (by kernel_rfl) rfl (fun K' hK => ?_)
        go_simp
        refine hK.out _ _ (Or.inr (HS.out _ o8)) ?_
        clear hK K'
        have e1 : w8.cell? ⟨lb, i, none⟩ = some (.slice none 0 0) := by
          have := o8.cell (HR.out.2.2.1.1.get0 hlt) (by simp)
          rw [if_neg (by omega)] at this
          exact this
        have e2 : w8.frozen? ⟨lb, i, none⟩ = false := by
          have := o8.loose HR.out.2.2.1.2 (HR.out.2.2.1.1.lt (by omega)) (by simp) i hlt
          simpa using this
        refine wpAnyE_one 16 (by kernel_rfl) rfl (fun K' hK => ?_)
        go_simp
        refine hK.out _ _ (Or.inl rfl) ?_
        clear hK K'
        refine wpAnyE_done (by kernel_rfl) ?_ _
        have HV : Hid (Only [] w (w8.setCell ⟨lb, i, none⟩ (.slice (some ⟨gg, 0, none⟩) (sn i) cc)) ∧ Has (w8.setCell ⟨lb, i, none⟩ (.slice (some ⟨gg, 0, none⟩) (sn i) cc)) inb 0 4 (fun i => .slice (sa i) (sn i) (sc i))
            ∧ (Has (w8.setCell ⟨lb, i, none⟩ (.slice (some ⟨gg, 0, none⟩) (sn i) cc)) lb 0 4 (fun j => if j < i + 1 then .slice (some ⟨(fun j => if j = i then gg else g j) j, 0, none⟩) (sn j) ((fun j => if j = i then cc else c j) j) else .slice none 0 0) ∧ Loose (w8.setCell ⟨lb, i, none⟩ (.slice (some ⟨gg, 0, none⟩) (sn i) cc)) lb 0 4)
            ∧ ∀ j, j < i + 1 → Has (w8.setCell ⟨lb, i, none⟩ (.slice (some ⟨gg, 0, none⟩) (sn i) cc)) ((fun j => if j = i then gg else g j) j) 0 (sn j + 3) (byG (sl j ++ [1, 2, 3])) ∧ sn j + 3 ≤ (fun j => if j = i then cc else c j) j ∧ (fun j => if j = i then gg else g j) j ≠ lb) := keeps_round i lb inb gg cc g c sn sc sa sl w wr w8 HR.out o8 hlt HW.out.2.2.2.2.2.1 HW.out.2.2.2.2.2.2 hg1 (by simpa using hg4) hg3
        clear hg1 hg2 hg3 hg4 hg5 hg6 e1 e2 b8 q8 o8 hlen
        have s1 : IntKind.i64.wrap ((i : Int) + 1) = (i : Int) + 1 := i64w (by omega) (by omega)
        go_wp2
        go_roundw
        case rel => exact ⟨i + 1, by omega, by go_num, _, _, HV.out⟩
        case measure => simp [intOf]; omega
    · obtain rfl : i = 4 := by omega
      have c0 : wr.cell? ⟨lb, 0, none⟩ = some (.slice (some ⟨g 0, 0, none⟩) (sn 0) (c 0)) := HR.out.2.2.1.1.get0 (i := 0) (by omega)
      have c1 : wr.cell? ⟨lb, 1, none⟩ = some (.slice (some ⟨g 1, 0, none⟩) (sn 1) (c 1)) := HR.out.2.2.1.1.get0 (i := 1) (by omega)
      have c2 : wr.cell? ⟨lb, 2, none⟩ = some (.slice (some ⟨g 2, 0, none⟩) (sn 2) (c 2)) := HR.out.2.2.1.1.get0 (i := 2) (by omega)
      have c3 : wr.cell? ⟨lb, 3, none⟩ = some (.slice (some ⟨g 3, 0, none⟩) (sn 3) (c 3)) := HR.out.2.2.1.1.get0 (i := 3) (by omega)
      have HC : Hid (∀ w', Only [] wr w' → w'.cell? ⟨lb, 0, none⟩ = some (.slice (some ⟨g 0, 0, none⟩) (sn 0) (c 0)) ∧ w'.cell? ⟨lb, 1, none⟩ = some (.slice (some ⟨g 1, 0, none⟩) (sn 1) (c 1)) ∧ w'.cell? ⟨lb, 2, none⟩ = some (.slice (some ⟨g 2, 0, none⟩) (sn 2) (c 2)) ∧ w'.cell? ⟨lb, 3, none⟩ = some (.slice (some ⟨g 3, 0, none⟩) (sn 3) (c 3))) :=
        fun w' ho => ⟨ho.cell c0 (by simp), ho.cell c1 (by simp), ho.cell c2 (by simp), ho.cell c3 (by simp)⟩
      have HI : Hid (∀ w', Only [] wr w' → ∀ j, j < 4 → SlIn w' (some ⟨g j, 0, none⟩) (sn j) (c j) (sl j)) := fun w' ho j hj => by
        obtain ⟨h1, h2, h3⟩ := HR.out.2.2.2 j hj
        have hl := (HH.out.2.2.1 j hj).len
        have h4 := ho.has h1 (by simp)
        refine Or.inr ⟨g j, 0, rfl, hl, fun k hk => ?_, by omega, h4.lt (by omega)⟩
        rw [h4 k (by omega)]
        show some (Value.int .u8 (((sl j ++ [1, 2, 3]).getD k 0 : Nat) : Int)) = some (Value.int .u8 (((sl j).getD k 0 : Nat) : Int))
        rw [List.getD_eq_getElem?_getD, List.getD_eq_getElem?_getD, List.getElem?_append_left (by omega)]
      have hc := Seal_ok2 (some ⟨g 0, 0, none⟩) (sn 0) (c 0) (sl 0) (some ⟨g 1, 0, none⟩) (sn 1) (c 1) (sl 1) (some ⟨g 2, 0, none⟩) (sn 2) (c 2) (sl 2) (some ⟨g 3, 0, none⟩) (sn 3) (c 3) (sl 3) wr (HR.out.1.has HH.out.1 (by simp)) (HH.out.2.1 0 (by omega)) (HH.out.2.1 1 (by omega)) (HH.out.2.1 2 (by omega)) (HH.out.2.1 3 (by omega)) (HI.out wr (Only.refl _ _) 0 (by omega)) (HI.out wr (Only.refl _ _) 1 (by omega)) (HI.out wr (Only.refl _ _) 2 (by omega)) (HI.out wr (Only.refl _ _) 3 (by omega)) (HH.out.2.2.2 2 (by omega)) (HH.out.2.2.2 3 (by omega))
      go_upto_region 11 with (go_at_call 8; refine Calls.mono hc ?_; rintro e w2 ⟨v, rfl, -, h2⟩)
      have o2 : Only [] wr w2 := Only.of_below h2 []
      clear c0 c1 c2 c3
      obtain ⟨c0, c1, c2, c3⟩ := HC.out w2 o2
      have O2 : Hid (Only [] wr w2) := o2
      clear h2 o2
      clear hc
      have hc := Open_ok2 (some ⟨g 0, 0, none⟩) (sn 0) (c 0) (sl 0) (some ⟨g 1, 0, none⟩) (sn 1) (c 1) (sl 1) (some ⟨g 2, 0, none⟩) (sn 2) (c 2) (sl 2) (some ⟨g 3, 0, none⟩) (sn 3) (c 3) (sl 3) w2 ((HR.out.1.then O2.out (by simp)).has HH.out.1 (by simp)) (HH.out.2.1 0 (by omega)) (HH.out.2.1 1 (by omega)) (HH.out.2.1 2 (by omega)) (HH.out.2.1 3 (by omega)) (HI.out w2 O2.out 0 (by omega)) (HI.out w2 O2.out 1 (by omega)) (HI.out w2 O2.out 2 (by omega)) (HI.out w2 O2.out 3 (by omega)) (HH.out.2.2.2 2 (by omega)) (HH.out.2.2.2 3 (by omega))
      go_upto_region 12 with (go_at_call 10; refine Calls.mono hc ?_; rintro e w3 ⟨v', rfl, -, h3⟩)
      clear hc
      have O3 : Hid (Only [] wr w3) := O2.out.then (Only.of_below h3 []) (by simp)
      clear h3 c0 c1 c2 c3
      go_wp2
      obtain ⟨wo, rfl⟩ : ∃ wo : World, wo = w3 := ⟨_, rfl⟩
      obtain ⟨wq, hwq⟩ : ∃ wq : World, wq = wr := ⟨_, rfl⟩
      rw [← hwq] at HR HC HI O3
      clear hwq O2
      go_loopw [58] (fun x wr => ∃ i : Nat, i ≤ 4 ∧ x = .int .i64 (i : Int) ∧ Only [] wq wr) (fun x _ => 4 - (intOf x).toNat)
      case atStart => exact ⟨0, by omega, rfl, O3.out⟩
      case round =>
        obtain ⟨i, hi, rfl, hO⟩ := hrel
        have HO : Hid (Only [] wq wr) := hO
        clear hO
        by_cases hlt : i < 4
        · have i4 : (i : Int) < 4 := by omega
          have hl4 := (HH.out.2.2.1 i hlt).len
          have hn4 := HH.out.2.2.2 i hlt
          have hb4 := HH.out.2.1 i hlt
          obtain ⟨h1, h2, h3⟩ := HR.out.2.2.2 i hlt
          have hb5 : By (sl i ++ [1, 2, 3]) := by_app hb4 (fun x hx => by simp at hx; omega)
          have HS : Hid (∀ w', Only [] wq w' → w'.cell? ⟨lb, i, none⟩ = some (.slice (some ⟨g i, 0, none⟩) (sn i) (c i)) ∧ w'.cell? ⟨inb, i, none⟩ = some (.slice (sa i) (sn i) (sc i))
              ∧ Sem.run Tryd.prog (convert 22 9 (.slice (some ⟨g i, 0, none⟩) (sn i + 3) (c i))) w' = .ok (.string (strB (sl i ++ [1, 2, 3]))) w'
              ∧ Sem.run Tryd.prog (convert 22 9 (.slice (sa i) (sn i) (sc i))) w' = .ok (.string (strB (sl i))) w') := fun w' ho => by
            refine ⟨?_, ho.cell (HR.out.2.1.get0 hlt) (by simp), ?_, ?_⟩
            · have := ho.cell (HR.out.2.2.1.1.get0 hlt) (by simp)
              rw [if_pos hlt] at this
              exact this
            · exact run_str hb5 (by simp; omega) (SlA.of_has (by rw [List.length_append, hl4]; exact ho.has h1 (by simp)) (by simp; omega))
            · exact run_str hb4 hl4 ((((HH.out.2.2.1 i hlt).only HR.out.1 (by simp)).only ho (by simp))).slA
          have f3 : strB (sl i) ++ ({ data := #[1, 2, 3] } : ByteArray) = strB (sl i ++ [1, 2, 3]) := by rw [strB_append]; rfl
          have s7 : ¬ 9223372036854775807 < (strB (sl i)).size + ByteArray.size { data := #[1, 2, 3] } := by rw [strB_size]; show ¬ _ < _ + 3; omega
          have s8 : ¬ 9223372036854775807 < (strB (sl i)).size + 3 := by rw [strB_size]; omega
          have s1 : IntKind.i64.wrap ((sn i : Int) + 3) = (sn i : Int) + 3 := i64w (by omega) (by omega)
          have s2 : (sn i : Int) + 3 ≤ (c i : Int) := by omega
          have s3 : 0 ≤ (sn i : Int) + 3 := by omega
          have s4 : ((sn i : Int) + 3).toNat = sn i + 3 := by omega
          have HD : Hid (Only [] wq wr.drew) := HO.out.drew
          clear h1 h2 h3 hb5 hl4 hn4 hb4
          go_upto_region 15 with fail
          obtain ⟨d1, d2, d3, d4⟩ := HS.out _ HD.out
          go_region_held3 (fun w' => w'.cell? ⟨lb, i, none⟩ = some (.slice (some ⟨g i, 0, none⟩) (sn i) (c i)) ∧ w'.cell? ⟨inb, i, none⟩ = some (.slice (sa i) (sn i) (sc i))
              ∧ Sem.run Tryd.prog (convert 22 9 (.slice (some ⟨g i, 0, none⟩) (sn i + 3) (c i))) w' = .ok (.string (strB (sl i ++ [1, 2, 3]))) w'
              ∧ Sem.run Tryd.prog (convert 22 9 (.slice (sa i) (sn i) (sc i))) w' = .ok (.string (strB (sl i))) w') (exact HS.out _ HD.out) (fail)
          have s9 : IntKind.i64.wrap ((i : Int) + 1) = (i : Int) + 1 := i64w (by omega) (by omega)
          clear d1 d2 d3 d4 f3 s1 s2 s3 s4 s7 s8
          go_wp2
          go_roundw
          case rel => exact ⟨i + 1, by omega, by go_num, HD.out⟩
          case measure => simp [intOf]; omega
        · obtain rfl : i = 4 := by omega
          go_wp2
          go_ret
          exact ⟨rfl, (HR.out.1.then HO.out (by simp)).nil⟩


end Go.Proofs.YtpkpkfjpnkbkbaaDoor
