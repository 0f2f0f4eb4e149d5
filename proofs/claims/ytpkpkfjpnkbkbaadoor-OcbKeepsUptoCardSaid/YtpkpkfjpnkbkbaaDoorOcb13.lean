/- The walks of the sealer's through of a nil slice, of its tag, of slices.Clip. -/
import Derived.Test.YtpkpkfjpnkbkbaaDoorOcb10
namespace Go.Proofs.YtpkpkfjpnkbkbaaDoor
open Go.RowKit
set_option maxHeartbeats 12000000
set_option maxRecDepth 100000
set_option linter.unusedSimpArgs false
attribute [local irreducible] hi lo

/-- A byte slice that comes in. -/
def SlIn (w : World) (a : Option Addr) (n cap : Nat) (L : List Nat) : Prop :=
  (n = 0 ∧ L = [] ∧ (a = none → cap = 0)) ∨ ∃ b o, a = some ⟨b, o, none⟩ ∧ L.length = n ∧ Has w b o n (byG L) ∧ n ≤ cap ∧ b < w.heap.size
theorem SlIn.len {w : World} {a : Option Addr} {n cap : Nat} {L : List Nat} (h : SlIn w a n cap L) : L.length = n := by
  rcases h with ⟨rfl, rfl, -⟩ | ⟨b, o, -, h, -⟩
  · rfl
  · exact h
theorem SlIn.only {w w' : World} {a : Option Addr} {n cap : Nat} {L : List Nat} (h : SlIn w a n cap L) {S : List Nat} (ho : Only S w w') (hS : ∀ x, a = some x → x.block ∉ S) : SlIn w' a n cap L := by
  rcases h with h | ⟨b, o, h1, h2, h3, h4, h5⟩
  · exact Or.inl h
  · exact Or.inr ⟨b, o, h1, h2, ho.has h3 (hS _ h1), h4, Nat.lt_of_lt_of_le h5 ho.size⟩

theorem SlIn.slA {w : World} {a : Option Addr} {n cap : Nat} {L : List Nat} (h : SlIn w a n cap L) : SlA w a cap L := by
  rcases h with ⟨rfl, rfl, h⟩ | ⟨b, o, rfl, rfl, h3, h4, h5⟩
  · exact ⟨Nat.zero_le _, h, fun h0 => absurd rfl h0⟩
  · exact SlA.of_has h3 h4

theorem hash_any (s c : Nat) (K : Nat → Nat) (R : Nat) (star dollar : Nat → Nat) (ls : Nat → Nat → Nat) (off sum : Nat → Nat) (a : Option Addr) (n cap : Nat) (L : List Nat) (w : World)
    (hT : TabIs w) (hS : SealerAt w s c K R star dollar ls off sum) (hK : Keyed K R star dollar ls) (hL : By L) (hA : SlIn w a n cap L) (hn : n < 2 ^ 60) :
    Calls Tryd.prog 29 #[.pointer (some ⟨s, 0, none⟩), .slice a n cap] w fun e w' => e = .returned (blk (hashF K R star ls L)) ∧ Below w.heap.size w w' := by
  rcases hA with ⟨rfl, rfl, -⟩ | ⟨b, o, rfl, h2, h3, h4, h5⟩
  · exact hash_none s K R star ls a cap w
  · exact hash_some s c K R star dollar ls off sum b o n cap L w hT hS hK hL h2 h3 h4 hn h5

/-- The tag. -/
def tagF (K : Nat → Nat) (R : Nat) (star dollar : Nat → Nat) (ls : Nat → Nat → Nat) (off sum : Nat → Nat) (A : List Nat) : Nat → Nat :=
  x2 (encAt sBox K R (x2 (x2 sum off) dollar) R) (hashF K R star ls A)
theorem hashF_b {K : Nat → Nat} {R : Nat} {star dollar : Nat → Nat} {ls : Nat → Nat → Nat} (h : Keyed K R star dollar ls) {L : List Nat} (hL : By L) : B16 (hashF K R star ls L) := by
  unfold hashF
  split
  · exact hSum_b h hL _
  · exact x2_b (hSum_b h hL _) (h.enc (x2_b (padF_b (fun x hx => hL x (List.mem_of_mem_drop hx))) (x2_b (hOff_b h.ls zB_b _) h.star)))
theorem tagF_b {K : Nat → Nat} {R : Nat} {star dollar : Nat → Nat} {ls : Nat → Nat → Nat} (h : Keyed K R star dollar ls) {off sum : Nat → Nat} (ho : B16 off) (hs : B16 sum) {L : List Nat} (hL : By L) : B16 (tagF K R star dollar ls off sum L) :=
  x2_b (h.enc (x2_b (x2_b hs ho) h.dollar)) (hashF_b h hL)

theorem tag_any (s c : Nat) (K : Nat → Nat) (R : Nat) (star dollar : Nat → Nat) (ls : Nat → Nat → Nat) (off sum : Nat → Nat) (a : Option Addr) (n cap : Nat) (L : List Nat) (w : World)
    (hT : TabIs w) (hS : SealerAt w s c K R star dollar ls off sum) (hK : Keyed K R star dollar ls) (hoff : B16 off) (hsum : B16 sum) (hL : By L) (hA : SlIn w a n cap L) (hn : n < 2 ^ 60) :
    Calls Tryd.prog 14 #[.pointer (some ⟨s, 0, none⟩), .slice a n cap] w fun e w' => e = .returned (.agg (rowV 16 (by8 (tagF K R star dollar ls off sum L)))) ∧ Below w.heap.size w w' := by
  obtain ⟨f1, hf1⟩ : ∃ f, f = x2 sum off := ⟨_, rfl⟩
  obtain ⟨f2, hf2⟩ : ∃ f, f = x2 f1 dollar := ⟨_, rfl⟩
  obtain ⟨f3, hf3⟩ : ∃ f, f = encAt sBox K R f2 R := ⟨_, rfl⟩
  obtain ⟨f4, hf4⟩ : ∃ f, f = hashF K R star ls L := ⟨_, rfl⟩
  obtain ⟨f5, hf5⟩ : ∃ f, f = x2 f3 f4 := ⟨_, rfl⟩
  have b1 : B16 f1 := by rw [hf1]; exact x2_b hsum hoff
  have b2 : B16 f2 := by rw [hf2]; exact x2_b b1 hK.dollar
  have b3 : B16 f3 := by rw [hf3]; exact hK.enc b2
  have b4 : B16 f4 := by rw [hf4]; exact hashF_b hK hL
  have b5 : B16 f5 := by rw [hf5]; exact x2_b b3 b4
  have HN : Hid (f1 = x2 sum off ∧ f2 = x2 f1 dollar ∧ f3 = encAt sBox K R f2 R ∧ f4 = hashF K R star ls L ∧ f5 = x2 f3 f4) := ⟨hf1, hf2, hf3, hf4, hf5⟩
  rw [show tagF K R star dollar ls off sum L = f5 by rw [hf5, hf4, hf3, hf2, hf1]; rfl]
  have HB : Hid ((B16 off ∧ B16 sum) ∧ B16 f1 ∧ B16 f2 ∧ B16 f3 ∧ B16 f4 ∧ B16 f5) := ⟨⟨hoff, hsum⟩, b1, b2, b3, b4, b5⟩
  have HH : Hid (TabIs w ∧ SealerAt w s c K R star dollar ls off sum ∧ Keyed K R star dollar ls ∧ By L ∧ SlIn w a n cap L ∧ n < 2 ^ 60) := ⟨hT, hS, hK, hL, hA, hn⟩
  clear hf1 hf2 hf3 hf4 hf5 b1 b2 b3 b4 b5 hT hS hK hL hA hn hoff hsum
  go_enter Tryd.func14, Tryd.ntmps14
  go_upto_region 1 with fail
  rw [zero16]
  obtain ⟨W, hW⟩ : ∃ W, W = w.alloc (.cells (rowV 16 (by8 fun _ => 0)) 35) := ⟨_, rfl⟩
  have HW : Hid (Only [] w W ∧ Has W w.heap.size 0 16 (by8 fun _ => 0) ∧ Loose W w.heap.size 0 16) := by
    rw [hW]; exact ⟨(Only.refl _ _).alloc _, Has.new_at rfl rfl, Loose.new_at rfl⟩
  rw [← hW]
  clear hW
  have HE : Hid (∀ w', Only [] W w' → SealerAt w' s c K R star dollar ls off sum) := fun w' ho => HH.out.2.1.only (HW.out.1.then ho (by simp)) (by simp) (by simp)
  have HS : Hid (∀ w', Only [] W w' → w'.cell? ⟨s, 3, none⟩ = some (.int .u64 (hi dollar : Nat)) ∧ w'.cell? ⟨s, 4, none⟩ = some (.int .u64 (lo dollar : Nat)) ∧ w'.cell? ⟨s, 133, none⟩ = some (.int .u64 (hi off : Nat)) ∧ w'.cell? ⟨s, 134, none⟩ = some (.int .u64 (lo off : Nat))
      ∧ w'.cell? ⟨s, 135, none⟩ = some (.int .u64 (hi sum : Nat)) ∧ w'.cell? ⟨s, 136, none⟩ = some (.int .u64 (lo sum : Nat))) := fun w' ho => by
    have r5 := HE.out w' ho
    exact ⟨r5.dollar 0 (by omega), r5.dollar 1 (by omega), r5.off 0 (by omega), r5.off 1 (by omega), r5.sum 0 (by omega), r5.sum 1 (by omega)⟩
  obtain ⟨d1, d2, d3, d4, d5, d6⟩ := HS.out _ (Only.refl [] W)
  try simp only [Act.put]
  refine wp_region_e (fun w' => w'.cell? ⟨s, 3, none⟩ = some (.int .u64 (hi dollar : Nat)) ∧ w'.cell? ⟨s, 4, none⟩ = some (.int .u64 (lo dollar : Nat)) ∧ w'.cell? ⟨s, 133, none⟩ = some (.int .u64 (hi off : Nat)) ∧ w'.cell? ⟨s, 134, none⟩ = some (.int .u64 (lo off : Nat))
      ∧ w'.cell? ⟨s, 135, none⟩ = some (.int .u64 (hi sum : Nat)) ∧ w'.cell? ⟨s, 136, none⟩ = some (.int .u64 (lo sum : Nat))) 21 (by kernel_rfl) ⟨d1, d2, d3, d4, d5, d6⟩ (fun hHeld => ?_)
  refine wpAnyE_take 0 _ (v := (.pointer (some ⟨s, 0, none⟩))) rfl rfl (by kernel_rfl) (by kernel_rfl) (by kernel_rfl) (by kernel_rfl) (fun _ _ _ h => h) (Or.inl ⟨by rfl, fun w hS => by (try dsimp only at hS); go_simp⟩) (by assumption) ?_
  simp only [Act.put, List.setIfInBounds_toArray, List.set_cons_zero, List.set_cons_succ]
  refine wpAnyE_take 1 _ (v := (.pointer (some ⟨s, 0, none⟩))) rfl rfl (by kernel_rfl) (by kernel_rfl) (by kernel_rfl) (by kernel_rfl) (fun _ _ _ h => h) (Or.inl ⟨by rfl, fun w hS => by (try dsimp only at hS); go_simp⟩) (by assumption) ?_
  simp only [Act.put, List.setIfInBounds_toArray, List.set_cons_zero, List.set_cons_succ]
  refine wpAnyE_take 2 _ (v := (.pointer (some ⟨s, 0, none⟩))) rfl rfl (by kernel_rfl) (by kernel_rfl) (by kernel_rfl) (by kernel_rfl) (fun _ _ _ h => h) (Or.inl ⟨by rfl, fun w hS => by (try dsimp only at hS); go_simp⟩) (by assumption) ?_
  simp only [Act.put, List.setIfInBounds_toArray, List.set_cons_zero, List.set_cons_succ]
  refine wpAnyE_take 3 _ (v := (.pointer (some ⟨s, 135, none⟩))) rfl rfl (by kernel_rfl) (by kernel_rfl) (by kernel_rfl) (by kernel_rfl) (fun _ _ _ h => h) (Or.inl ⟨by rfl, fun w hS => by (try dsimp only at hS); go_simp⟩) (by assumption) ?_
  simp only [Act.put, List.setIfInBounds_toArray, List.set_cons_zero, List.set_cons_succ]
  refine wpAnyE_take 4 _ (v := (blk sum)) rfl rfl (by kernel_rfl) (by kernel_rfl) (by kernel_rfl) (by kernel_rfl) (fun _ _ _ h => h) (Or.inl ⟨by rfl, fun w hS => by (try dsimp only at hS); go_simp⟩) (by assumption) ?_
  simp only [Act.put, List.setIfInBounds_toArray, List.set_cons_zero, List.set_cons_succ]
  refine wpAnyE_take 5 _ (v := (.pointer (some ⟨s, 0, none⟩))) rfl rfl (by kernel_rfl) (by kernel_rfl) (by kernel_rfl) (by kernel_rfl) (fun _ _ _ h => h) (Or.inl ⟨by rfl, fun w hS => by (try dsimp only at hS); go_simp⟩) (by assumption) ?_
  simp only [Act.put, List.setIfInBounds_toArray, List.set_cons_zero, List.set_cons_succ]
  refine wpAnyE_take 6 _ (v := (.pointer (some ⟨s, 0, none⟩))) rfl rfl (by kernel_rfl) (by kernel_rfl) (by kernel_rfl) (by kernel_rfl) (fun _ _ _ h => h) (Or.inl ⟨by rfl, fun w hS => by (try dsimp only at hS); go_simp⟩) (by assumption) ?_
  simp only [Act.put, List.setIfInBounds_toArray, List.set_cons_zero, List.set_cons_succ]
  refine wpAnyE_take 7 _ (v := (.pointer (some ⟨s, 133, none⟩))) rfl rfl (by kernel_rfl) (by kernel_rfl) (by kernel_rfl) (by kernel_rfl) (fun _ _ _ h => h) (Or.inl ⟨by rfl, fun w hS => by (try dsimp only at hS); go_simp⟩) (by assumption) ?_
  simp only [Act.put, List.setIfInBounds_toArray, List.set_cons_zero, List.set_cons_succ]
  refine wpAnyE_take 8 _ (v := (blk off)) rfl rfl (by kernel_rfl) (by kernel_rfl) (by kernel_rfl) (by kernel_rfl) (fun _ _ _ h => h) (Or.inl ⟨by rfl, fun w hS => by (try dsimp only at hS); go_simp⟩) (by assumption) ?_
  simp only [Act.put, List.setIfInBounds_toArray, List.set_cons_zero, List.set_cons_succ]
  refine wpAnyE_take 10 _ (v := (.pointer (some ⟨s, 0, none⟩))) rfl rfl (by kernel_rfl) (by kernel_rfl) (by kernel_rfl) (by kernel_rfl) (fun _ _ _ h => h) (Or.inl ⟨by rfl, fun w hS => by (try dsimp only at hS); go_simp⟩) (by assumption) ?_
  simp only [Act.put, List.setIfInBounds_toArray, List.set_cons_zero, List.set_cons_succ]
  refine wpAnyE_take 11 _ (v := (.pointer (some ⟨s, 0, none⟩))) rfl rfl (by kernel_rfl) (by kernel_rfl) (by kernel_rfl) (by kernel_rfl) (fun _ _ _ h => h) (Or.inl ⟨by rfl, fun w hS => by (try dsimp only at hS); go_simp⟩) (by assumption) ?_
  simp only [Act.put, List.setIfInBounds_toArray, List.set_cons_zero, List.set_cons_succ]
  refine wpAnyE_take 12 _ (v := (.pointer (some ⟨s, 3, none⟩))) rfl rfl (by kernel_rfl) (by kernel_rfl) (by kernel_rfl) (by kernel_rfl) (fun _ _ _ h => h) (Or.inl ⟨by rfl, fun w hS => by (try dsimp only at hS); go_simp⟩) (by assumption) ?_
  simp only [Act.put, List.setIfInBounds_toArray, List.set_cons_zero, List.set_cons_succ]
  refine wpAnyE_take 13 _ (v := (blk dollar)) rfl rfl (by kernel_rfl) (by kernel_rfl) (by kernel_rfl) (by kernel_rfl) (fun _ _ _ h => h) (Or.inl ⟨by rfl, fun w hS => by (try dsimp only at hS); go_simp⟩) (by assumption) ?_
  simp only [Act.put, List.setIfInBounds_toArray, List.set_cons_zero, List.set_cons_succ]
  refine wpAnyE_take 16 _ (v := (.pointer (some ⟨s, 0, none⟩))) rfl rfl (by kernel_rfl) (by kernel_rfl) (by kernel_rfl) (by kernel_rfl) (fun _ _ _ h => h) (Or.inl ⟨by rfl, fun w hS => by (try dsimp only at hS); go_simp⟩) (by assumption) ?_
  simp only [Act.put, List.setIfInBounds_toArray, List.set_cons_zero, List.set_cons_succ]
  refine wpAnyE_take 17 _ (v := (.slice a n cap)) rfl rfl (by kernel_rfl) (by kernel_rfl) (by kernel_rfl) (by kernel_rfl) (fun _ _ _ h => h) (Or.inl ⟨by rfl, fun w hS => by (try dsimp only at hS); go_simp⟩) (by assumption) ?_
  simp only [Act.put, List.setIfInBounds_toArray, List.set_cons_zero, List.set_cons_succ]
  have o : Only [] W W.drew := (Only.refl [] W).drew
  refine wpAnyE_one 9 (by kernel_rfl) rfl (fun K' hK => ?_)
  go_simp
  go_at_call 26
  refine (bxor_any sum off HB.out.1.2 HB.out.1.1 _).mono ?_
  rw [← HN.out.1]
  rintro e' w1 ⟨rfl, hb⟩
  have o : Only [] W w1 := o.then (Only.of_below hb []) (by simp)
  obtain ⟨p1, p2, p3, p4, p5, p6⟩ := HS.out _ o
  clear hb
  go_simp
  refine hK.out _ _ (Or.inr ⟨p1, p2, p3, p4, p5, p6⟩) ?_
  clear hK K' p1 p2 p3 p4 p5 p6
  refine wpAnyE_one 14 (by kernel_rfl) rfl (fun K' hK => ?_)
  go_simp
  go_at_call 26
  refine (bxor_any f1 dollar HB.out.2.1 HH.out.2.2.1.dollar _).mono ?_
  rw [← HN.out.2.1]
  rintro e' w2 ⟨rfl, hb⟩
  have o : Only [] W w2 := o.then (Only.of_below hb []) (by simp)
  obtain ⟨p1, p2, p3, p4, p5, p6⟩ := HS.out _ o
  clear hb
  go_simp
  refine hK.out _ _ (Or.inr ⟨p1, p2, p3, p4, p5, p6⟩) ?_
  clear hK K' p1 p2 p3 p4 p5 p6
  refine wpAnyE_one 15 (by kernel_rfl) rfl (fun K' hK => ?_)
  go_simp
  go_at_call 21
  refine (sencrypt_any s c K R f2 _ (HE.out _ o).ptr (HE.out _ o).cip HH.out.2.2.1.le HH.out.2.2.1.ge HH.out.2.2.1.key HB.out.2.2.1).mono ?_
  rw [← HN.out.2.2.1]
  rintro e' w3 ⟨rfl, hb⟩
  have o : Only [] W w3 := o.then (Only.of_below hb []) (by simp)
  obtain ⟨p1, p2, p3, p4, p5, p6⟩ := HS.out _ o
  clear hb
  go_simp
  refine hK.out _ _ (Or.inr ⟨p1, p2, p3, p4, p5, p6⟩) ?_
  clear hK K' p1 p2 p3 p4 p5 p6
  refine wpAnyE_one 18 (by kernel_rfl) rfl (fun K' hK => ?_)
  go_simp
  go_at_call 29
  refine (hash_any s c K R star dollar ls off sum a n cap L _ (o.has (HW.out.1.has HH.out.1 (by simp)) (by simp)) (HE.out _ o) HH.out.2.2.1 HH.out.2.2.2.1 ((HH.out.2.2.2.2.1.only HW.out.1 (by simp)).only o (by simp)) HH.out.2.2.2.2.2).mono ?_
  rw [← HN.out.2.2.2.1]
  rintro e' w4 ⟨rfl, hb⟩
  have o : Only [] W w4 := o.then (Only.of_below hb []) (by simp)
  obtain ⟨p1, p2, p3, p4, p5, p6⟩ := HS.out _ o
  clear hb
  go_simp
  refine hK.out _ _ (Or.inr ⟨p1, p2, p3, p4, p5, p6⟩) ?_
  clear hK K' p1 p2 p3 p4 p5 p6
  refine wpAnyE_one 19 (by kernel_rfl) rfl (fun K' hK => ?_)
  go_simp
  go_at_call 26
  refine (bxor_any f3 f4 HB.out.2.2.2.1 HB.out.2.2.2.2.1 _).mono ?_
  rw [← HN.out.2.2.2.2]
  rintro e' w5 ⟨rfl, hb⟩
  have o : Only [] W w5 := o.then (Only.of_below hb []) (by simp)
  obtain ⟨p1, p2, p3, p4, p5, p6⟩ := HS.out _ o
  clear hb
  go_simp
  refine hK.out _ _ (Or.inr ⟨p1, p2, p3, p4, p5, p6⟩) ?_
  clear hK K' p1 p2 p3 p4 p5 p6
  refine wpAnyE_one 20 (by kernel_rfl) rfl (fun K' hK => ?_)
  go_simp
  go_at_call 27
  refine (bytes_b f5 HB.out.2.2.2.2.2 _).mono ?_
  rintro e' w6 ⟨rfl, hb⟩
  have o : Only [] W w6 := o.then (Only.of_below hb []) (by simp)
  obtain ⟨p1, p2, p3, p4, p5, p6⟩ := HS.out _ o
  clear hb
  go_simp
  refine hK.out _ _ (Or.inr ⟨p1, p2, p3, p4, p5, p6⟩) ?_
  clear hK K' p1 p2 p3 p4 p5 p6
  clear d1 d2 d3 d4 d5 d6 hHeld
  refine wpAnyE_one 21 (by kernel_rfl) rfl (fun K' hK => ?_)
  refine step_store_has rfl 35 _ _ rfl w.heap.size 0 16 (by8 f5) (by8 fun _ => 0) rfl rfl (o.has HW.out.2.1 (by simp)) (o.loose HW.out.2.2 (HW.out.2.1.lt (by omega)) (by simp)) (by kernel_rfl) (fun _ _ => rfl) ?_
  intro w7 h7
  refine hK.out _ _ (Or.inl rfl) ?_
  clear hK K'
  refine wpAnyE_done (by kernel_rfl) ?_ _
  have HV : Hid (Has w7 w.heap.size 0 16 (by8 f5) ∧ Below w.heap.size w w7) := ⟨h7.has, ((HW.out.1.then o (by simp)).then h7.only (by simp)).nil⟩
  clear h7 o
  go_wp2
  exact bodyPost_has 4 35 rfl _ _ 16 _ rfl HV.out.1 _ Tryd.underlying35 rfl (by kernel_rfl) rfl ⟨rfl, HV.out.2⟩

theorem clip_any (g n cap : Nat) (w : World) (hle : n ≤ cap) :
    Calls Tryd.prog 15 #[.slice (some ⟨g, 0, none⟩) n cap] w fun e w' => e = .returned (.slice (some ⟨g, 0, none⟩) n n) ∧ w' = w := by
  have h0 : (n : Int) ≤ (cap : Int) := by omega
  go_enter Tryd.func15, Tryd.ntmps15
  go_wp2
  go_ret
  exact ⟨rfl, rfl⟩

theorem clip_none (w : World) :
    Calls Tryd.prog 15 #[.slice none 0 0] w fun e w' => e = .returned (.slice none 0 0) ∧ w' = w := by
  go_enter Tryd.func15, Tryd.ntmps15
  go_wp2
  go_ret
  exact ⟨rfl, rfl⟩

end Go.Proofs.YtpkpkfjpnkbkbaaDoor
