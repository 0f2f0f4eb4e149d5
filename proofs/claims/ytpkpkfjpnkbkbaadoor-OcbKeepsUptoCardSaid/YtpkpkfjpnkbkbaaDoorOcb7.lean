/- The walk of the sealer's hash. -/
import Derived.Test.YtpkpkfjpnkbkbaaDoorOcb6
import Derived.Test.YtpkpkfjpnkbkbaaDoorHeld
namespace Go.Proofs.YtpkpkfjpnkbkbaaDoor
open Go.RowKit
set_option maxHeartbeats 6000000
set_option maxRecDepth 100000

/-- The r-th block of some bytes. -/
def adB (L : List Nat) (r j : Nat) : Nat := L.getD (16 * r + j) 0
theorem adB_b {L : List Nat} (h : By L) (r : Nat) : B16 (adB L r) := fun _ _ => h.getD _
/-- The offset behind r whole blocks, from a first one on. -/
def hOff (ls : Nat → Nat → Nat) (z : Nat → Nat) : Nat → Nat → Nat
  | 0 => z
  | r + 1 => x2 (hOff ls z r) (ls (Lib.ctz 64 (r + 1)))
theorem hOff_b {ls : Nat → Nat → Nat} (hl : ∀ i, B16 (ls i)) {z : Nat → Nat} (hz : B16 z) : ∀ r, B16 (hOff ls z r)
  | 0 => hz
  | r + 1 => x2_b (hOff_b hl hz r) (hl _)
/-- The hash's sum behind r whole blocks. -/
def hSum (K : Nat → Nat) (R : Nat) (ls : Nat → Nat → Nat) (L : List Nat) : Nat → Nat → Nat
  | 0 => zB
  | r + 1 => x2 (hSum K R ls L r) (encAt sBox K R (x2 (adB L r) (hOff ls zB (r + 1))) R)
/-- The hash. -/
def hashF (K : Nat → Nat) (R : Nat) (star : Nat → Nat) (ls : Nat → Nat → Nat) (L : List Nat) : Nat → Nat :=
  if L.length % 16 = 0 then hSum K R ls L (L.length / 16)
  else x2 (hSum K R ls L (L.length / 16)) (encAt sBox K R (x2 (padF (L.drop (16 * (L.length / 16)))) (x2 (hOff ls zB (L.length / 16)) star)) R)

/-- What a sealer's numbers are. -/
structure Keyed (K : Nat → Nat) (R : Nat) (star dollar : Nat → Nat) (ls : Nat → Nat → Nat) : Prop where
  le : R ≤ 14
  ge : 1 ≤ R
  key : ∀ i, i < 240 → K i < 256
  star : B16 star
  dollar : B16 dollar
  ls : ∀ i, B16 (ls i)
theorem Keyed.enc {K : Nat → Nat} {R : Nat} {star dollar : Nat → Nat} {ls : Nat → Nat → Nat} (h : Keyed K R star dollar ls) {f : Nat → Nat} (hf : B16 f) : B16 (encAt sBox K R f R) :=
  fun i hi => encAt_lt (fun i _ => sBox_lt i) h.key hf h.le R (Nat.le_refl _) i hi
theorem hSum_b {K : Nat → Nat} {R : Nat} {star dollar : Nat → Nat} {ls : Nat → Nat → Nat} (h : Keyed K R star dollar ls) {L : List Nat} (hL : By L) : ∀ r, B16 (hSum K R ls L r)
  | 0 => zB_b
  | r + 1 => x2_b (hSum_b h hL r) (h.enc (x2_b (adB_b hL r) (hOff_b h.ls zB_b _)))

theorem zz2 : rowV 2 (blkV zB) = #[.int .u64 0, .int .u64 0] := rfl
attribute [local irreducible] hi lo

theorem hash_some (s c : Nat) (K : Nat → Nat) (R : Nat) (star dollar : Nat → Nat) (ls : Nat → Nat → Nat) (off sum : Nat → Nat) (b o n cap : Nat) (L : List Nat) (w : World)
    (hT : TabIs w) (hS : SealerAt w s c K R star dollar ls off sum) (hK : Keyed K R star dollar ls) (hL : By L) (hN : L.length = n) (hh : Has w b o n (byG L)) (hle : n ≤ cap) (hn : n < 2 ^ 60) (hb : b < w.heap.size) :
    Calls Tryd.prog 29 #[.pointer (some ⟨s, 0, none⟩), .slice (some ⟨b, o, none⟩) n cap] w fun e w' => e = .returned (blk (hashF K R star ls L)) ∧ Below w.heap.size w w' := by
  have HH : Hid (TabIs w ∧ SealerAt w s c K R star dollar ls off sum ∧ Keyed K R star dollar ls ∧ By L ∧ L.length = n ∧ Has w b o n (byG L) ∧ n ≤ cap ∧ n < 2 ^ 60 ∧ b < w.heap.size) := ⟨hT, hS, hK, hL, hN, hh, hle, hn, hb⟩
  clear hT hS hK hL hN hh hle hn hb
  go_enter Tryd.func29, Tryd.ntmps29
  go_upto_region 2 with fail
  obtain ⟨W, hW⟩ : ∃ W, W = ((w.alloc (.cells #[.int .u64 0, .int .u64 0] 50)).alloc (.cells #[.int .u64 0, .int .u64 0] 50)).alloc (.cells #[.int .u64 0, .int .u64 0] 50) := ⟨_, rfl⟩
  obtain ⟨rb, hrb⟩ : ∃ rb, rb = w.heap.size := ⟨_, rfl⟩
  obtain ⟨sb, hsb⟩ : ∃ sb, sb = w.heap.size + 1 := ⟨_, rfl⟩
  obtain ⟨ob, hob⟩ : ∃ ob, ob = w.heap.size + 1 + 1 := ⟨_, rfl⟩
  have zz := zz2
  have HW : Hid (Only [] w W ∧ (Has W rb 0 2 (blkV zB) ∧ Loose W rb 0 2) ∧ (Has W sb 0 2 (blkV zB) ∧ Loose W sb 0 2) ∧ (Has W ob 0 2 (blkV zB) ∧ Loose W ob 0 2)) := by
    rw [hW, hrb, hsb, hob]
    refine ⟨(((Only.refl _ _).alloc _).alloc _).alloc _, ⟨((Has.new_at rfl zz.symm).alloc _).alloc _, ?_⟩, ⟨(Has.new_at (by simp) zz.symm).alloc _, ?_⟩, ⟨Has.new_at (by simp) zz.symm, Loose.new_at (by simp)⟩⟩
    · exact ((Loose.new_at rfl).alloc (by simp) _).alloc (by simp; omega) _
    · exact (Loose.new_at (by simp)).alloc (by simp) _
  rw [← hW, ← hob, ← hsb, ← hrb]
  have HD : Hid (rb = w.heap.size ∧ sb = w.heap.size + 1 ∧ ob = w.heap.size + 1 + 1) := ⟨hrb, hsb, hob⟩
  have n1 : rb ≠ sb := by omega
  have n2 : rb ≠ ob := by omega
  have n3 : sb ≠ ob := by omega
  clear hW zz hrb hsb hob
  go_wp2
  go_loopw [1, 7] (fun x y wr => ∃ r p m q : Nat, (m = 0 ∨ p = o + 16 * r) ∧ m + 16 * r = n ∧ q + 16 * r = cap ∧ x = .slice (some ⟨b, p, none⟩) m q ∧ y = .int .i64 ((r : Int) + 1)
      ∧ Only [] w wr ∧ (Has wr rb 0 2 (blkV zB) ∧ Loose wr rb 0 2) ∧ (Has wr sb 0 2 (blkV (hSum K R ls L r)) ∧ Loose wr sb 0 2) ∧ (Has wr ob 0 2 (blkV (hOff ls zB r)) ∧ Loose wr ob 0 2)) (fun _ y _ => n + 2 - (intOf y).toNat)
  case atStart => exact ⟨0, o, n, cap, Or.inr (by omega), by omega, by omega, rfl, rfl, HW.out⟩
  case round =>
    clear HW
    obtain ⟨r, p, m, q, hp, hm, hq, rfl, rfl, hrel⟩ := hrel
    have HR : Hid _ := hrel
    have HP : Hid ((m = 0 ∨ p = o + 16 * r) ∧ m + 16 * r = n ∧ q + 16 * r = cap) := ⟨hp, hm, hq⟩
    have hnn := HH.out.2.2.2.2.2.2
    have mq : m ≤ q := by omega
    have r60 : r < 2 ^ 60 := by omega
    clear hp hm hq hrel
    clear hnn
    by_cases hm : 16 ≤ m
    · have q0 : (16 : Int) ≤ (m : Int) := by omega
      obtain ⟨k, hk⟩ : ∃ k, k = Lib.ctz 64 (r + 1) := ⟨_, rfl⟩
      have hk64 : k < 64 := by rw [hk]; exact (Lib.lowest_bit 64 (r + 1) (by omega) (by omega)).2
      have HK : Hid (k = Lib.ctz 64 (r + 1)) := hk
      clear hk
      have d1 : wr.cell? ⟨ob, 0, none⟩ = some (.int .u64 (hi (hOff ls zB r) : Nat)) := HR.out.2.2.2.1 0 (by omega)
      have d2 : wr.cell? ⟨ob, 1, none⟩ = some (.int .u64 (lo (hOff ls zB r) : Nat)) := HR.out.2.2.2.1 1 (by omega)
      go_upto_region 6 with (first
        | (go_at_call 24
           have hc := step_any s (r + 1) k (hOff ls zB r) (ls k) wr (HR.out.1.has HH.out.1 (by simp)) (by omega) (by omega) HK.out (by have := HH.out.2.1.ls k hk64; rw [Nat.mul_comm 2] at this; exact HR.out.1.has this (by simp)) (hOff_b HH.out.2.2.1.ls zB_b r) (HH.out.2.2.1.ls k)
           refine Calls.mono hc ?_; rw [show x2 (hOff ls zB r) (ls k) = hOff ls zB (r + 1) by rw [HK.out]; rfl]; rintro e w1 ⟨rfl, h1⟩
           have H1 : Hid (Below wr.heap.size wr w1) := h1
           clear h1 hc)
        | (refine wpList_store_has rfl 50 _ _ rfl ob 0 2 (blkV (hOff ls zB (r + 1))) _ rfl rfl ((Only.of_below H1.out []).has HR.out.2.2.2.1 (by simp)) ((Only.of_below H1.out []).loose HR.out.2.2.2.2 (HR.out.2.2.2.1.lt (by omega)) (by simp)) (by kernel_rfl) (fun i _ => blkV_one _ i) ?_; intro w3 h3
           have H3 : Hid (Put w1 w3 ob 0 2 (blkV (hOff ls zB (r + 1)))) := h3
           clear h3))
      have q1 : 16 ≤ m := hm
      obtain ⟨g, hg⟩ : ∃ g, g = hOff ls zB (r + 1) := ⟨_, rfl⟩
      obtain ⟨a, ha⟩ : ∃ a, a = adB L r := ⟨_, rfl⟩
      obtain ⟨u, hu⟩ : ∃ u, u = hSum K R ls L r := ⟨_, rfl⟩
      obtain ⟨y, hy⟩ : ∃ y, y = x2 a g := ⟨_, rfl⟩
      obtain ⟨e, he⟩ : ∃ e, e = encAt sBox K R y R := ⟨_, rfl⟩
      obtain ⟨z, hz⟩ : ∃ z, z = x2 u e := ⟨_, rfl⟩
      have hgb : B16 g := by rw [hg]; exact hOff_b HH.out.2.2.1.ls zB_b _
      have hab : B16 a := by rw [ha]; exact adB_b HH.out.2.2.2.1 _
      have hub : B16 u := by rw [hu]; exact hSum_b HH.out.2.2.1 HH.out.2.2.2.1 _
      have hyb : B16 y := by rw [hy]; exact x2_b hab hgb
      have heb : B16 e := by rw [he]; exact HH.out.2.2.1.enc hyb
      have HN : Hid (y = x2 a g ∧ e = encAt sBox K R y R ∧ z = x2 u e ∧ z = hSum K R ls L (r + 1)) := ⟨hy, he, hz, by rw [hz, hu, he, hy, ha, hg]; rfl⟩
      have HB : Hid (B16 g ∧ B16 a ∧ B16 u ∧ B16 y ∧ B16 e) := ⟨hgb, hab, hub, hyb, heb⟩
      have HQ : Hid (Only [] w w3 ∧ (Has w3 rb 0 2 (blkV zB) ∧ Loose w3 rb 0 2) ∧ (Has w3 sb 0 2 (blkV u) ∧ Loose w3 sb 0 2) ∧ (Has w3 ob 0 2 (blkV g) ∧ Loose w3 ob 0 2)) := by
        have o1 : Only [] wr w1 := Only.of_below H1.out []
        have o3 : Only [ob] wr w3 := (o1.trans H3.out.only)
        obtain ⟨r1, ⟨r2, r3⟩, ⟨r4, r5⟩, r6, r7⟩ := HR.out
        have hrs := r2.lt (by omega)
        have hss := r4.lt (by omega)
        refine ⟨r1.then o3 (by have := HD.out.2.2; simp; omega), ⟨o3.has r2 (by simp; omega), o3.loose r3 hrs (by simp; omega)⟩, ⟨by rw [hu]; exact o3.has r4 (by simp; omega), o3.loose r5 hss (by simp; omega)⟩, by rw [hg]; exact H3.out.has, H3.out.loose (o1.loose r7 (r6.lt (by omega)) (by simp))⟩
      have HA : Hid (∀ w', Only [] w3 w' → Has w' b p 16 (by8 a)) := fun w' ho i hi => by
        have h1 := HH.out.2.2.2.2.2.1 (16 * r + i) (by have := HP.out.2.1; omega)
        rw [show o + (16 * r + i) = p + i by have := HP.out.1.resolve_left (by omega); omega] at h1
        have h2 := ho.cell (HQ.out.1.cell h1 (by simp)) (by simp)
        rw [h2, ha]; rfl
      have HE : Hid (∀ w', Only [] w3 w' → SealerAt w' s c K R star dollar ls off sum) := fun w' ho => HH.out.2.1.only (HQ.out.1.then ho (by simp)) (by simp) (by simp)
      have HS : Hid (∀ w', Only [] w3 w' → w'.cell? ⟨sb, 0, none⟩ = some (.int .u64 (hi u : Nat)) ∧ w'.cell? ⟨sb, 1, none⟩ = some (.int .u64 (lo u : Nat)) ∧ w'.cell? ⟨ob, 0, none⟩ = some (.int .u64 (hi g : Nat)) ∧ w'.cell? ⟨ob, 1, none⟩ = some (.int .u64 (lo g : Nat))
          ∧ w'.frozen? ⟨sb, 0, none⟩ = false ∧ w'.frozen? ⟨sb, 1, none⟩ = false) := fun w' ho => by
        obtain ⟨r1, ⟨r2, r3⟩, ⟨r4, r5⟩, r6, r7⟩ := HQ.out
        have l5 := ho.loose r5 (r4.lt (by omega)) (by simp)
        exact ⟨ho.cell (r4 0 (by omega)) (by simp), ho.cell (r4 1 (by omega)) (by simp), ho.cell (r6 0 (by omega)) (by simp), ho.cell (r6 1 (by omega)) (by simp), by simpa using l5 0 (by omega), by simpa using l5 1 (by omega)⟩
      have HG : Hid (g = hOff ls zB (r + 1)) := hg
      clear hg ha hu hy he hz hgb hab hub hyb heb d1 d2 H3 H1
      obtain ⟨d1, d2, d3, d4, -, -⟩ := HS.out _ (Only.refl [] w3)
      go_wp2
      simp only [Act.put]
      refine wp_region_e (fun w' => w'.cell? ⟨sb, 0, none⟩ = some (.int .u64 (hi u : Nat)) ∧ w'.cell? ⟨sb, 1, none⟩ = some (.int .u64 (lo u : Nat)) ∧ w'.cell? ⟨ob, 0, none⟩ = some (.int .u64 (hi g : Nat)) ∧ w'.cell? ⟨ob, 1, none⟩ = some (.int .u64 (lo g : Nat))) 8 (by kernel_rfl) ⟨d1, d2, d3, d4⟩ (fun hHeld => ?_)
      refine wpAnyE_take 1 _ (v := (.pointer (some ⟨s, 0, none⟩))) rfl rfl (by kernel_rfl) (by kernel_rfl) (by kernel_rfl) (by kernel_rfl) (fun _ _ _ h => h) (Or.inl ⟨by rfl, fun w hS => by (try dsimp only at hS); go_simp⟩) (by assumption) ?_
      simp only [Act.put, List.setIfInBounds_toArray, List.set_cons_zero, List.set_cons_succ]
      refine wpAnyE_take 2 _ (v := (.slice (some ⟨b, p, none⟩) m q)) rfl rfl (by kernel_rfl) (by kernel_rfl) (by kernel_rfl) (by kernel_rfl) (fun _ _ _ h => h) (Or.inl ⟨by rfl, fun w hS => by (try dsimp only at hS); go_simp⟩) (by assumption) ?_
      simp only [Act.put, List.setIfInBounds_toArray, List.set_cons_zero, List.set_cons_succ]
      refine wpAnyE_take 0 _ (v := (blk u)) rfl rfl (by kernel_rfl) (by kernel_rfl) (by kernel_rfl) (by kernel_rfl) (fun _ _ _ h => h) (Or.inl ⟨by rfl, fun w hS => by (try dsimp only at hS); go_simp⟩) (by assumption) ?_
      simp only [Act.put, List.setIfInBounds_toArray, List.set_cons_zero, List.set_cons_succ]
      refine wpAnyE_take 4 _ (v := (blk g)) rfl rfl (by kernel_rfl) (by kernel_rfl) (by kernel_rfl) (by kernel_rfl) (fun _ _ _ h => h) (Or.inl ⟨by rfl, fun w hS => by (try dsimp only at hS); go_simp⟩) (by assumption) ?_
      simp only [Act.put, List.setIfInBounds_toArray, List.set_cons_zero, List.set_cons_succ]
      refine wpAnyE_one 3 (by kernel_rfl) rfl (fun K' hK => ?_)
      go_simp
      go_at_call 23
      refine (of_any b p q m a _ (HA.out _ (Only.refl [] w3).drew) HB.out.2.1 q1 mq).mono ?_
      rintro e' w4 ⟨rfl, h4⟩
      have o4 : Only [] w3 w4 := (Only.refl [] w3).drew.then (Only.of_below h4 []) (by simp)
      obtain ⟨p1, p2, p3, p4, p5, p6⟩ := HS.out _ o4
      clear h4
      go_simp
      refine hK.out _ _ (Or.inr ⟨p1, p2, p3, p4⟩) ?_
      clear hK K' p1 p2 p3 p4 p5 p6
      refine wpAnyE_one 5 (by kernel_rfl) rfl (fun K' hK => ?_)
      go_simp
      go_at_call 26
      refine (bxor_any a g HB.out.2.1 HB.out.1 _).mono ?_
      rw [← HN.out.1]
      rintro e' w5 ⟨rfl, h5⟩
      have o5 : Only [] w3 w5 := o4.then (Only.of_below h5 []) (by simp)
      obtain ⟨p1, p2, p3, p4, p5, p6⟩ := HS.out _ o5
      clear h5 o4
      go_simp
      refine hK.out _ _ (Or.inr ⟨p1, p2, p3, p4⟩) ?_
      clear hK K' p1 p2 p3 p4 p5 p6
      refine wpAnyE_one 6 (by kernel_rfl) rfl (fun K' hK => ?_)
      go_simp
      go_at_call 21
      refine (sencrypt_any s c K R y _ (HE.out _ o5).ptr (HE.out _ o5).cip HH.out.2.2.1.le HH.out.2.2.1.ge HH.out.2.2.1.key HB.out.2.2.2.1).mono ?_
      rw [← HN.out.2.1]
      rintro e' w6 ⟨rfl, h6⟩
      have o6 : Only [] w3 w6 := o5.then (Only.of_below h6 []) (by simp)
      obtain ⟨p1, p2, p3, p4, p5, p6⟩ := HS.out _ o6
      clear h6 o5
      go_simp
      refine hK.out _ _ (Or.inr ⟨p1, p2, p3, p4⟩) ?_
      clear hK K' p1 p2 p3 p4 p5 p6
      refine wpAnyE_one 7 (by kernel_rfl) rfl (fun K' hK => ?_)
      go_simp
      go_at_call 26
      refine (bxor_any u e HB.out.2.2.1 HB.out.2.2.2.2 _).mono ?_
      rw [← HN.out.2.2.1]
      rintro e' w7 ⟨rfl, h7⟩
      have o7 : Only [] w3 w7 := o6.then (Only.of_below h7 []) (by simp)
      obtain ⟨p1, p2, p3, p4, p5, p6⟩ := HS.out _ o7
      clear h7 o6
      go_simp
      refine hK.out _ _ (Or.inr ⟨p1, p2, p3, p4⟩) ?_
      clear hK K' d1 d2 d3 d4
      refine wpAnyE_one 8 (by kernel_rfl) rfl (fun K' hK => ?_)
      go_simp
      refine hK.out _ _ (Or.inl rfl) ?_
      clear hK K'
      refine wpAnyE_done (by kernel_rfl) ?_ _
      have hP := Put.two (f := blkV z) rfl p1 p2
      obtain ⟨w8, hw8⟩ : ∃ w8, w8 = (w7.setCell ⟨sb, 0, none⟩ (.int .u64 (hi z : Nat))).setCell ⟨sb, 1, none⟩ (.int .u64 (lo z : Nat)) := ⟨_, rfl⟩
      have hP : Put w7 w8 sb 0 2 (blkV z) := by rw [hw8]; exact hP
      rw [← hw8]
      have HR8 : Hid (Only [] w w8 ∧ (Has w8 rb 0 2 (blkV zB) ∧ Loose w8 rb 0 2) ∧ (Has w8 sb 0 2 (blkV (hSum K R ls L (r + 1))) ∧ Loose w8 sb 0 2) ∧ (Has w8 ob 0 2 (blkV (hOff ls zB (r + 1))) ∧ Loose w8 ob 0 2)) := by
        obtain ⟨r1, ⟨r2, r3⟩, ⟨r4, r5⟩, r6, r7⟩ := HQ.out
        have ho : Only [sb] w3 w8 := o7.trans hP.only
        rw [← HN.out.2.2.2, ← HG.out]
        exact ⟨r1.then ho (by have := HD.out.2.1; simp; omega), ⟨ho.has r2 (by simp; omega), ho.loose r3 (r2.lt (by omega)) (by simp; omega)⟩, ⟨hP.has, hP.loose (o7.loose r5 (r4.lt (by omega)) (by simp))⟩, ho.has r6 (by simp; omega), ho.loose r7 (r6.lt (by omega)) (by simp; omega)⟩
      clear hP hw8 p1 p2 p3 p4 p5 p6 o7
      have s1 : IntKind.i64.wrap ((r : Int) + 1 + 1) = (r : Int) + 1 + 1 := i64w (by omega) (by omega)
      have q2 : 16 ≤ q := by omega
      go_wp2
      go_roundw
      case rel =>
        obtain ⟨h1, h2, h3⟩ := HP.out
        have hle := HH.out.2.2.2.2.2.2.1
        by_cases e16 : q = 16
        · exact ⟨r + 1, p, m - 16, q - 16, Or.inl (by omega), by omega, by omega, by rw [if_pos e16], by go_num, HR8.out⟩
        · exact ⟨r + 1, p + 16, m - 16, q - 16, Or.inr (by have := h1.resolve_left (by omega); omega), by omega, by omega, by rw [if_neg e16], by go_num, HR8.out⟩
      case measure => have := HP.out.2.1; simp [intOf]; omega
    · have q0 : ¬ (16 : Int) ≤ (m : Int) := by omega
      by_cases hm0 : m = 0
      · subst hm0
        have hF : hSum K R ls L r = hashF K R star ls L := by
          have h1 := HP.out.2.1
          have h2 := HH.out.2.2.2.2.1
          unfold hashF
          rw [if_pos (by omega), show L.length / 16 = r by omega]
        have HF : Hid (hSum K R ls L r = hashF K R star ls L) := hF
        clear hF
        obtain ⟨u, hu⟩ : ∃ u, u = hSum K R ls L r := ⟨_, rfl⟩
        rw [← hu] at HF HR
        clear hu
        have d1 : wr.cell? ⟨sb, 0, none⟩ = some (.int .u64 (hi u : Nat)) := HR.out.2.2.1.1 0 (by omega)
        have d2 : wr.cell? ⟨sb, 1, none⟩ = some (.int .u64 (lo u : Nat)) := HR.out.2.2.1.1 1 (by omega)
        go_wp2_with (refine wpList_store_has rfl 50 _ _ rfl rb 0 2 (blkV u) _ rfl rfl HR.out.2.1.1 HR.out.2.1.2 (by kernel_rfl) (fun i _ => blkV_one _ i) ?_; intro w9 h9)
        exact bodyPost_has 4 50 rfl rb 0 2 (blkV u) rfl h9.has _ Tryd.underlying50 rfl (by kernel_rfl) rfl ⟨by rw [← HF.out]; rfl, (HR.out.1.then h9.only (by have := HD.out.1; simp; omega)).nil⟩
      · have q1 : 0 < (m : Int) := by omega
        have q2 : m < 16 := by omega
        obtain ⟨M, hM⟩ : ∃ M, M = L.drop (16 * r) := ⟨_, rfl⟩
        have hml : M.length = m := by rw [hM, List.length_drop, HH.out.2.2.2.2.1]; have := HP.out.2.1; omega
        have hMb : By M := by rw [hM]; exact fun x hx => HH.out.2.2.2.1 x (List.mem_of_mem_drop hx)
        obtain ⟨g, hg⟩ : ∃ g, g = hOff ls zB r := ⟨_, rfl⟩
        obtain ⟨a, ha⟩ : ∃ a, a = padF M := ⟨_, rfl⟩
        obtain ⟨u, hu⟩ : ∃ u, u = hSum K R ls L r := ⟨_, rfl⟩
        obtain ⟨t, ht⟩ : ∃ t, t = x2 g star := ⟨_, rfl⟩
        obtain ⟨y, hy⟩ : ∃ y, y = x2 a t := ⟨_, rfl⟩
        obtain ⟨e, he⟩ : ∃ e, e = encAt sBox K R y R := ⟨_, rfl⟩
        obtain ⟨z, hz⟩ : ∃ z, z = x2 u e := ⟨_, rfl⟩
        have hgb : B16 g := by rw [hg]; exact hOff_b HH.out.2.2.1.ls zB_b _
        have hab : B16 a := by rw [ha]; exact padF_b hMb
        have hub : B16 u := by rw [hu]; exact hSum_b HH.out.2.2.1 HH.out.2.2.2.1 _
        have htb : B16 t := by rw [ht]; exact x2_b hgb HH.out.2.2.1.star
        have hyb : B16 y := by rw [hy]; exact x2_b hab htb
        have heb : B16 e := by rw [he]; exact HH.out.2.2.1.enc hyb
        have HN : Hid (t = x2 g star ∧ y = x2 a t ∧ e = encAt sBox K R y R ∧ z = x2 u e ∧ a = padF M) := ⟨ht, hy, he, hz, ha⟩
        have HF : Hid (z = hashF K R star ls L) := by
          have h1 := HP.out.2.1
          have h2 := HH.out.2.2.2.2.1
          show z = _
          unfold hashF
          rw [if_neg (by omega), show L.length / 16 = r by omega, hz, hu, he, hy, ht, ha, hM, hg]
        rw [← hu, ← hg] at HR
        have HB : Hid (B16 g ∧ B16 a ∧ B16 u ∧ B16 t ∧ B16 y ∧ B16 e) := ⟨hgb, hab, hub, htb, hyb, heb⟩
        have HM : Hid (By M ∧ M.length = m ∧ ∀ w', Only [] wr w' → SlA w' (some ⟨b, p, none⟩) q M ∧ b < w'.heap.size) := by
          refine ⟨hMb, hml, fun w' ho => ⟨SlA.of_has (fun i hi => ?_) (by omega), ?_⟩⟩
          · rw [hml] at hi
            have h1 := HH.out.2.2.2.2.2.1 (16 * r + i) (by have := HP.out.2.1; omega)
            rw [show o + (16 * r + i) = p + i by have := HP.out.1.resolve_left (by omega); omega] at h1
            have h2 := ho.cell (HR.out.1.cell h1 (by simp)) (by simp)
            rw [h2, hM]
            show some (Value.int .u8 ((L.getD (16 * r + i) 0 : Nat) : Int)) = some (Value.int .u8 (((L.drop (16 * r)).getD i 0 : Nat) : Int))
            simp [List.getD_eq_getElem?_getD]
          · have := HR.out.1.size; have := ho.size; have := HH.out.2.2.2.2.2.2.2.2; omega
        have HE : Hid (∀ w', Only [] wr w' → SealerAt w' s c K R star dollar ls off sum) := fun w' ho => HH.out.2.1.only (HR.out.1.then ho (by simp)) (by simp) (by simp)
        have HS : Hid (∀ w', Only [] wr w' → w'.cell? ⟨sb, 0, none⟩ = some (.int .u64 (hi u : Nat)) ∧ w'.cell? ⟨sb, 1, none⟩ = some (.int .u64 (lo u : Nat)) ∧ w'.cell? ⟨ob, 0, none⟩ = some (.int .u64 (hi g : Nat)) ∧ w'.cell? ⟨ob, 1, none⟩ = some (.int .u64 (lo g : Nat))
            ∧ w'.cell? ⟨s, 1, none⟩ = some (.int .u64 (hi star : Nat)) ∧ w'.cell? ⟨s, 2, none⟩ = some (.int .u64 (lo star : Nat)) ∧ w'.frozen? ⟨sb, 0, none⟩ = false ∧ w'.frozen? ⟨sb, 1, none⟩ = false) := fun w' ho => by
          obtain ⟨r1, ⟨r2, r3⟩, ⟨r4, r5⟩, r6, r7⟩ := HR.out
          have l5 := ho.loose r5 (r4.lt (by omega)) (by simp)
          have hs := (HE.out w' ho).star
          exact ⟨ho.cell (r4 0 (by omega)) (by simp), ho.cell (r4 1 (by omega)) (by simp), ho.cell (r6 0 (by omega)) (by simp), ho.cell (r6 1 (by omega)) (by simp), hs 0 (by omega), hs 1 (by omega), by simpa using l5 0 (by omega), by simpa using l5 1 (by omega)⟩
        clear hM hml hMb hg ha hu ht hy he hz hgb hab hub htb hyb heb
        obtain ⟨d1, d2, d3, d4, d5, d6, -, -⟩ := HS.out _ (Only.refl [] wr)
        go_upto_region 9 with fail
        refine wp_region_e (fun w' => w'.cell? ⟨sb, 0, none⟩ = some (.int .u64 (hi u : Nat)) ∧ w'.cell? ⟨sb, 1, none⟩ = some (.int .u64 (lo u : Nat)) ∧ w'.cell? ⟨ob, 0, none⟩ = some (.int .u64 (hi g : Nat)) ∧ w'.cell? ⟨ob, 1, none⟩ = some (.int .u64 (lo g : Nat))
          ∧ w'.cell? ⟨s, 1, none⟩ = some (.int .u64 (hi star : Nat)) ∧ w'.cell? ⟨s, 2, none⟩ = some (.int .u64 (lo star : Nat))) 13 (by kernel_rfl) ⟨d1, d2, d3, d4, d5, d6⟩ (fun hHeld => ?_)
        refine wpAnyE_take 1 _ (v := (.pointer (some ⟨s, 0, none⟩))) rfl rfl (by kernel_rfl) (by kernel_rfl) (by kernel_rfl) (by kernel_rfl) (fun _ _ _ h => h) (Or.inl ⟨by rfl, fun w hS => by (try dsimp only at hS); go_simp⟩) (by assumption) ?_
        simp only [Act.put, List.setIfInBounds_toArray, List.set_cons_zero, List.set_cons_succ]
        refine wpAnyE_take 2 _ (v := (.slice (some ⟨b, p, none⟩) m q)) rfl rfl (by kernel_rfl) (by kernel_rfl) (by kernel_rfl) (by kernel_rfl) (fun _ _ _ h => h) (Or.inl ⟨by rfl, fun w hS => by (try dsimp only at hS); go_simp⟩) (by assumption) ?_
        simp only [Act.put, List.setIfInBounds_toArray, List.set_cons_zero, List.set_cons_succ]
        refine wpAnyE_take 5 _ (v := (.pointer (some ⟨s, 0, none⟩))) rfl rfl (by kernel_rfl) (by kernel_rfl) (by kernel_rfl) (by kernel_rfl) (fun _ _ _ h => h) (Or.inl ⟨by rfl, fun w hS => by (try dsimp only at hS); go_simp⟩) (by assumption) ?_
        simp only [Act.put, List.setIfInBounds_toArray, List.set_cons_zero, List.set_cons_succ]
        refine wpAnyE_take 6 _ (v := (.pointer (some ⟨s, 0, none⟩))) rfl rfl (by kernel_rfl) (by kernel_rfl) (by kernel_rfl) (by kernel_rfl) (fun _ _ _ h => h) (Or.inl ⟨by rfl, fun w hS => by (try dsimp only at hS); go_simp⟩) (by assumption) ?_
        simp only [Act.put, List.setIfInBounds_toArray, List.set_cons_zero, List.set_cons_succ]
        refine wpAnyE_take 7 _ (v := (.pointer (some ⟨s, 1, none⟩))) rfl rfl (by kernel_rfl) (by kernel_rfl) (by kernel_rfl) (by kernel_rfl) (fun _ _ _ h => h) (Or.inl ⟨by rfl, fun w hS => by (try dsimp only at hS); go_simp⟩) (by assumption) ?_
        simp only [Act.put, List.setIfInBounds_toArray, List.set_cons_zero, List.set_cons_succ]
        refine wpAnyE_take 0 _ (v := (blk u)) rfl rfl (by kernel_rfl) (by kernel_rfl) (by kernel_rfl) (by kernel_rfl) (fun _ _ _ h => h) (Or.inl ⟨by rfl, fun w hS => by (try dsimp only at hS); go_simp⟩) (by assumption) ?_
        simp only [Act.put, List.setIfInBounds_toArray, List.set_cons_zero, List.set_cons_succ]
        refine wpAnyE_take 4 _ (v := (blk g)) rfl rfl (by kernel_rfl) (by kernel_rfl) (by kernel_rfl) (by kernel_rfl) (fun _ _ _ h => h) (Or.inl ⟨by rfl, fun w hS => by (try dsimp only at hS); go_simp⟩) (by assumption) ?_
        simp only [Act.put, List.setIfInBounds_toArray, List.set_cons_zero, List.set_cons_succ]
        refine wpAnyE_take 8 _ (v := (blk star)) rfl rfl (by kernel_rfl) (by kernel_rfl) (by kernel_rfl) (by kernel_rfl) (fun _ _ _ h => h) (Or.inl ⟨by rfl, fun w hS => by (try dsimp only at hS); go_simp⟩) (by assumption) ?_
        simp only [Act.put, List.setIfInBounds_toArray, List.set_cons_zero, List.set_cons_succ]
        refine wpAnyE_one 3 (by kernel_rfl) rfl (fun K' hK => ?_)
        go_simp
        go_at_call 28
        refine (padded_any (some ⟨b, p, none⟩) q m M _ HM.out.1 HM.out.2.1 q2 (HM.out.2.2 _ (Only.refl [] wr).drew).1 (fun x hx => by cases hx; exact (HM.out.2.2 _ (Only.refl [] wr).drew).2)).mono ?_
        rw [← HN.out.2.2.2.2]
        rintro e' w4 ⟨rfl, hb⟩
        have o4 : Only [] wr w4 := (Only.refl [] wr).drew.then (Only.of_below hb []) (by simp)
        obtain ⟨p1, p2, p3, p4, p5, p6, p7, p8⟩ := HS.out _ o4
        clear hb
        go_simp
        refine hK.out _ _ (Or.inr ⟨p1, p2, p3, p4, p5, p6⟩) ?_
        clear hK K'
        refine wpAnyE_one 9 (by kernel_rfl) rfl (fun K' hK => ?_)
        go_simp
        go_at_call 26
        refine (bxor_any g star HB.out.1 HH.out.2.2.1.star _).mono ?_
        rw [← HN.out.1]
        rintro e' w5 ⟨rfl, hb⟩
        have o5 : Only [] wr w5 := o4.then (Only.of_below hb []) (by simp)
        obtain ⟨p1, p2, p3, p4, p5, p6, p7, p8⟩ := HS.out _ o5
        clear hb
        go_simp
        refine hK.out _ _ (Or.inr ⟨p1, p2, p3, p4, p5, p6⟩) ?_
        clear hK K'
        refine wpAnyE_one 10 (by kernel_rfl) rfl (fun K' hK => ?_)
        go_simp
        go_at_call 26
        refine (bxor_any a t HB.out.2.1 HB.out.2.2.2.1 _).mono ?_
        rw [← HN.out.2.1]
        rintro e' w6 ⟨rfl, hb⟩
        have o6 : Only [] wr w6 := o5.then (Only.of_below hb []) (by simp)
        obtain ⟨p1, p2, p3, p4, p5, p6, p7, p8⟩ := HS.out _ o6
        clear hb
        go_simp
        refine hK.out _ _ (Or.inr ⟨p1, p2, p3, p4, p5, p6⟩) ?_
        clear hK K'
        refine wpAnyE_one 11 (by kernel_rfl) rfl (fun K' hK => ?_)
        go_simp
        go_at_call 21
        refine (sencrypt_any s c K R y _ (HE.out _ o6).ptr (HE.out _ o6).cip HH.out.2.2.1.le HH.out.2.2.1.ge HH.out.2.2.1.key HB.out.2.2.2.2.1).mono ?_
        rw [← HN.out.2.2.1]
        rintro e' w7 ⟨rfl, hb⟩
        have o7 : Only [] wr w7 := o6.then (Only.of_below hb []) (by simp)
        obtain ⟨p1, p2, p3, p4, p5, p6, p7, p8⟩ := HS.out _ o7
        clear hb
        go_simp
        refine hK.out _ _ (Or.inr ⟨p1, p2, p3, p4, p5, p6⟩) ?_
        clear hK K'
        refine wpAnyE_one 12 (by kernel_rfl) rfl (fun K' hK => ?_)
        go_simp
        go_at_call 26
        refine (bxor_any u e HB.out.2.2.1 HB.out.2.2.2.2.2 _).mono ?_
        rw [← HN.out.2.2.2.1]
        rintro e' w8 ⟨rfl, hb⟩
        have o8 : Only [] wr w8 := o7.then (Only.of_below hb []) (by simp)
        obtain ⟨p1, p2, p3, p4, p5, p6, p7, p8⟩ := HS.out _ o8
        clear hb
        go_simp
        refine hK.out _ _ (Or.inr ⟨p1, p2, p3, p4, p5, p6⟩) ?_
        clear hK K'
        clear d1 d2 d3 d4 d5 d6
        refine wpAnyE_one 13 (by kernel_rfl) rfl (fun K' hK => ?_)
        go_simp
        refine hK.out _ _ (Or.inl rfl) ?_
        clear hK K'
        refine wpAnyE_done (by kernel_rfl) ?_ _
        have hP := Put.two (f := blkV z) rfl p1 p2
        obtain ⟨w9, hw9⟩ : ∃ w9, w9 = (w8.setCell ⟨sb, 0, none⟩ (.int .u64 (hi z : Nat))).setCell ⟨sb, 1, none⟩ (.int .u64 (lo z : Nat)) := ⟨_, rfl⟩
        have hP : Put w8 w9 sb 0 2 (blkV z) := by rw [hw9]; exact hP
        rw [← hw9]
        have HR9 : Hid (Only [] w w9 ∧ Has w9 rb 0 2 (blkV zB) ∧ Loose w9 rb 0 2) := by
          obtain ⟨r1, ⟨r2, r3⟩, ⟨r4, r5⟩, r6, r7⟩ := HR.out
          have ho : Only [sb] wr w9 := o8.trans hP.only
          exact ⟨r1.then ho (by have := HD.out.2.1; simp; omega), ho.has r2 (by simp; omega), ho.loose r3 (r2.lt (by omega)) (by simp; omega)⟩
        have e1 : w9.cell? ⟨sb, 0, none⟩ = some (.int .u64 (hi z : Nat)) := hP.has 0 (by omega)
        have e2 : w9.cell? ⟨sb, 1, none⟩ = some (.int .u64 (lo z : Nat)) := hP.has 1 (by omega)
        clear hP hw9 p1 p2 p3 p4 p5 p6 p7 p8 o4 o5 o6 o7 o8
        go_wp2_with (refine wpList_store_has rfl 50 _ _ rfl rb 0 2 (blkV z) _ rfl rfl HR9.out.2.1 HR9.out.2.2 (by kernel_rfl) (fun i _ => blkV_one _ i) ?_; intro w10 h10)
        exact bodyPost_has 4 50 rfl rb 0 2 (blkV z) rfl h10.has _ Tryd.underlying50 rfl (by kernel_rfl) rfl ⟨by rw [← HF.out]; rfl, (HR9.out.1.then h10.only (by have := HD.out.1; simp; omega)).nil⟩

end Go.Proofs.YtpkpkfjpnkbkbaaDoor
