/- The walk of the sealer's through, sealing. -/
import Derived.Test.YtpkpkfjpnkbkbaaDoorOcb10
namespace Go.Proofs.YtpkpkfjpnkbkbaaDoor
open Go.RowKit
set_option maxHeartbeats 12000000
set_option maxRecDepth 100000
set_option linter.unusedSimpArgs false
attribute [local irreducible] hi lo

theorem info8o : (Tryd.prog.info? 5).map (fun i => (i.zero, i.size, i.bytes)) = some (some (.int .u8 0), 1, 1) := by kernel_rfl

theorem through_seal (s c : Nat) (K : Nat → Nat) (R : Nat) (star dollar : Nat → Nat) (ls : Nat → Nat → Nat) (off sum : Nat → Nat) (b o n cap : Nat) (L : List Nat) (w : World)
    (hT : TabIs w) (hS : SealerAt w s c K R star dollar ls off sum) (hK : Keyed K R star dollar ls) (hoff : B16 off) (hsum : B16 sum) (hsc : s ≠ c) (hst : 1 ≠ s)
    (hL : By L) (hN : L.length = n) (hh : Has w b o n (byG L)) (hle : n ≤ cap) (hn : n < 2 ^ 46) (hb : b < w.heap.size) (hbs : b ≠ s) :
    Calls Tryd.prog 13 #[.pointer (some ⟨s, 0, none⟩), .slice (some ⟨b, o, none⟩) n cap, .bool false] w fun e w' => ∃ v, e = .returned v ∧ Buf w' w.heap.size v (thrOutF false K R star ls off L)
      ∧ SealerAt w' s c K R star dollar ls (thrOffF star ls off L) (thrSumF false K R star ls off sum L) ∧ Only [s] w w' := by
  have HH : Hid ((TabIs w ∧ SealerAt w s c K R star dollar ls off sum ∧ Keyed K R star dollar ls) ∧ (B16 off ∧ B16 sum ∧ s ≠ c ∧ 1 ≠ s) ∧ (By L ∧ L.length = n ∧ Has w b o n (byG L) ∧ n ≤ cap ∧ n < 2 ^ 46 ∧ b < w.heap.size ∧ b ≠ s)) := ⟨⟨hT, hS, hK⟩, ⟨hoff, hsum, hsc, hst⟩, hL, hN, hh, hle, hn, hb, hbs⟩
  have s0 : s < w.heap.size := World.block_lt_of_cell? _ _ hS.ptr
  obtain ⟨ti, hti, ht0, ht1, ht2⟩ := info_parts info8o
  have n16 : IntKind.i64.wrap ((n : Int) + 16) = ((n + 16 : Nat) : Int) := by rw [i64w (by omega) (by omega)]; simp
  clear hT hS hK hoff hsum hsc hst hL hN hh hle hn hb hbs
  go_enter Tryd.func13, Tryd.ntmps13
  go_wp2_with (at_make; go_loud (refine wpList_make_own _ rfl _ _ 22 rfl w.heap.size 5 ti (.int .u8 0) 1 Tryd.underlying22 hti ht0 ht1 _ _ _ (n + 16) rfl rfl (by first | rfl | exact n16 | omega | push_cast; omega) (by rw [ht2]; have := HH.out.2.2.2.2.2.2.1; omega) (by have := HH.out.2.2.2.2.2.2.1; unfold maxLen; omega) (Nat.le_refl _) ?_; intro w1 h1 h2))
  have HM : Hid (Buf w1 w.heap.size (.slice (some ⟨w.heap.size, 0, none⟩) 0 (n + 16)) [] ∧ Only [] w w1) := ⟨h1, Only.of_grown h2⟩
  clear h1 h2 hti ht0 ht1 ht2 n16
  go_loopw [1, 7, 8] (fun x vv y wr => ∃ r p m q : Nat, vv = (.slice (some ⟨w.heap.size, 0, none⟩) (16 * r) (n + 16)) ∧ (m = 0 ∨ p = o + 16 * r) ∧ m + 16 * r = n ∧ q + 16 * r = cap ∧ x = .slice (some ⟨b, p, none⟩) m q ∧ y = .int .i64 ((r : Int) + 1)
      ∧ Buf wr w.heap.size (.slice (some ⟨w.heap.size, 0, none⟩) (16 * r) (n + 16)) (thrOut false K R ls off L r) ∧ Only [s] w wr ∧ SealerAt wr s c K R star dollar ls (hOff ls off r) (thrSum false K R ls off sum L r)) (fun _ _ y _ => n + 2 - (intOf y).toNat)
  case atStart => exact ⟨0, o, n, cap, rfl, Or.inr (by omega), by omega, by omega, rfl, rfl, HM.out.1, HM.out.2.drop (by simp), HH.out.1.2.1.only HM.out.2 (by simp) (by simp)⟩
  case round =>
    clear HM
    obtain ⟨r, p, m, q, rfl, hp, hm, hq, rfl, rfl, hB, hO, hE⟩ := hrel
    have HR : Hid (Buf wr w.heap.size (.slice (some ⟨w.heap.size, 0, none⟩) (16 * r) (n + 16)) (thrOut false K R ls off L r) ∧ Only [s] w wr ∧ SealerAt wr s c K R star dollar ls (hOff ls off r) (thrSum false K R ls off sum L r)) := ⟨hB, hO, hE⟩
    have HP : Hid ((m = 0 ∨ p = o + 16 * r) ∧ m + 16 * r = n ∧ q + 16 * r = cap) := ⟨hp, hm, hq⟩
    have hnn := HH.out.2.2
    have mq : m ≤ q := by omega
    have r46 : r < 2 ^ 46 := by omega
    clear hp hm hq hB hO hE hnn
    by_cases hm : 16 ≤ m
    · have q0 : (16 : Int) ≤ (m : Int) := by omega
      obtain ⟨k, hk⟩ : ∃ k, k = Lib.ctz 64 (r + 1) := ⟨_, rfl⟩
      have hk64 : k < 64 := by rw [hk]; exact (Lib.lowest_bit 64 (r + 1) (by omega) (by omega)).2
      have HK : Hid (k = Lib.ctz 64 (r + 1)) := hk
      have q1 : 16 ≤ m := hm
      obtain ⟨g0, hg0⟩ : ∃ g0, g0 = hOff ls off r := ⟨_, rfl⟩
      obtain ⟨g, hg⟩ : ∃ g, g = hOff ls off (r + 1) := ⟨_, rfl⟩
      obtain ⟨a, ha⟩ : ∃ a, a = adB L r := ⟨_, rfl⟩
      obtain ⟨u, hu⟩ : ∃ u, u = thrSum false K R ls off sum L r := ⟨_, rfl⟩
      obtain ⟨y, hy⟩ : ∃ y, y = x2 a g := ⟨_, rfl⟩
      obtain ⟨e, he⟩ : ∃ e, e = encAt sBox K R y R := ⟨_, rfl⟩
      obtain ⟨z, hz⟩ : ∃ z, z = x2 e g := ⟨_, rfl⟩
      obtain ⟨t, ht⟩ : ∃ t, t = x2 u a := ⟨_, rfl⟩
      have hg0b : B16 g0 := by rw [hg0]; exact hOff_b HH.out.1.2.2.ls HH.out.2.1.1 _
      have hgb : B16 g := by rw [hg]; exact hOff_b HH.out.1.2.2.ls HH.out.2.1.1 _
      have hab : B16 a := by rw [ha]; exact adB_b HH.out.2.2.1 _
      have hub : B16 u := by rw [hu]; exact thrSum_b HH.out.1.2.2 HH.out.2.1.1 HH.out.2.1.2.1 HH.out.2.2.1 _
      have hyb : B16 y := by rw [hy]; exact x2_b hab hgb
      have heb : B16 e := by rw [he]; exact HH.out.1.2.2.enc hyb
      have hzb : B16 z := by rw [hz]; exact x2_b heb hgb
      have HB : Hid ((B16 g0 ∧ B16 g ∧ B16 a ∧ B16 u) ∧ B16 y ∧ B16 e ∧ B16 z) := ⟨⟨hg0b, hgb, hab, hub⟩, hyb, heb, hzb⟩
      have HN : Hid (y = x2 a g ∧ e = encAt sBox K R y R ∧ z = x2 e g ∧ t = x2 u a ∧ g = x2 g0 (ls k)) := ⟨hy, he, hz, ht, by rw [hg, hg0, hk]; rfl⟩
      have HF : Hid (g = hOff ls off (r + 1) ∧ t = thrSum false K R ls off sum L (r + 1) ∧ thrOut false K R ls off L (r + 1) = thrOut false K R ls off L r ++ blkL z) := by
        have hz' : z = thrB false K R ls off L r := by rw [hz, he, hy, hg, ha]; rfl
        exact ⟨hg, by rw [ht, hu]; rw [ha]; rfl, by rw [hz']; rfl⟩
      rw [← hg0, ← hu] at HR
      have HA : Hid (∀ w', Only [s] w w' → Has w' b p 16 (by8 a)) := fun w' ho i hi => by
        have h1 := HH.out.2.2.2.2.1 (16 * r + i) (by have := HP.out.2.1; omega)
        rw [show o + (16 * r + i) = p + i by have := HP.out.1.resolve_left (by omega); omega] at h1
        have h2 := ho.cell h1 (by have := HH.out.2.2.2.2.2.2.2.2; simpa using this)
        rw [h2, ha]; rfl
      clear hk hg0 hg ha hu hy he hz ht hg0b hgb hab hub hyb heb hzb
      have d1 : wr.cell? ⟨s, 133, none⟩ = some (.int .u64 (hi g0 : Nat)) := HR.out.2.2.off 0 (by omega)
      have d2 : wr.cell? ⟨s, 134, none⟩ = some (.int .u64 (lo g0 : Nat)) := HR.out.2.2.off 1 (by omega)
      go_upto_region 11 with (first
        | (go_at_call 24
           have hc := step_any s (r + 1) k g0 (ls k) wr (HR.out.2.1.has HH.out.1.1 (by simpa using HH.out.2.1.2.2.2)) (by omega) (by omega) HK.out (by have := HR.out.2.2.ls k hk64; rw [Nat.mul_comm 2] at this; exact this) HB.out.1.1 (HH.out.1.2.2.ls k)
           refine Calls.mono hc ?_; rw [← HN.out.2.2.2.2]; rintro e' w1 ⟨rfl, h1⟩
           have H1 : Hid (Below wr.heap.size wr w1) := h1
           clear h1 hc)
        | (refine wpList_store_has rfl 50 _ _ rfl s 133 2 (blkV g) _ rfl rfl (HR.out.2.2.below H1.out).off ((HR.out.2.2.below H1.out).loose.sub 133 2 (by omega)) (by kernel_rfl) (fun i _ => blkV_one _ i) ?_; intro w3 h3
           have H3 : Hid (Put w1 w3 s 133 2 (blkV g)) := h3
           clear h3)
        | (go_at_call 23
           have ho3 : Only [s] wr w3 := (Only.of_below H1.out [s]).then H3.out.only (by simp)
           have HQ : Hid (Only [s] wr w3) := ho3
           refine (of_any b p q m a _ (HA.out _ (HR.out.2.1.then ho3 (by simp))) HB.out.1.2.2.1 q1 mq).mono ?_
           rintro e' w4 ⟨rfl, h4⟩
           have H4 : Hid (Below w3.heap.size w3 w4) := h4
           clear h4 ho3))
      obtain ⟨W, hW⟩ : ∃ W, W = (w4.alloc (.cells #[.int .u64 (hi a : Nat), .int .u64 (lo a : Nat)] 50)).alloc (.cells #[.int .u64 0, .int .u64 0] 50) := ⟨_, rfl⟩
      obtain ⟨ab, hab⟩ : ∃ ab, ab = w4.heap.size := ⟨_, rfl⟩
      obtain ⟨bb, hbb⟩ : ∃ bb, bb = w4.heap.size + 1 := ⟨_, rfl⟩
      have HW : Hid (Only [s] wr W ∧ Has W ab 0 2 (blkV a) ∧ (Has W bb 0 2 (fun _ => .int .u64 0) ∧ Loose W bb 0 2) ∧ SealerAt W s c K R star dollar ls g u ∧ Buf W w.heap.size (.slice (some ⟨w.heap.size, 0, none⟩) (16 * r) (n + 16)) (thrOut false K R ls off L r) ∧ w.heap.size ≤ ab ∧ w.heap.size ≤ bb ∧ ab ≠ bb ∧ s < w.heap.size ∧ wr.heap.size ≤ bb) := by
        have o4 : Only [s] wr w4 := HQ.out.then (Only.of_below H4.out []) (by simp)
        have oW : Only [s] wr W := by rw [hW]; exact (o4.alloc _).alloc _
        have e1 : SealerAt w3 s c K R star dollar ls g u := (HR.out.2.2.below H1.out).put_off HH.out.2.1.2.2.1 H3.out
        have e2 : Only [] w3 W := by rw [hW]; exact ((Only.of_below H4.out []).alloc _).alloc _
        have l1 := HR.out.2.1.size
        have l2 := o4.size
        refine ⟨oW, ?_, ⟨?_, ?_⟩, e1.only e2 (by simp) (by simp), HR.out.1.fix oW (by simp; omega), by omega, by omega, by omega, s0, by omega⟩
        · rw [hW, hab]; exact (Has.new_at rfl (blk_row a).symm).alloc _
        · rw [hW, hbb]; exact Has.new_at (by simp) zero2
        · rw [hW, hbb]; exact Loose.new_at (by simp)
      rw [← hW, ← hbb, ← hab]
      have HS : Hid (∀ w', Only [] W w' → w'.cell? ⟨ab, 0, none⟩ = some (.int .u64 (hi a : Nat)) ∧ w'.cell? ⟨ab, 1, none⟩ = some (.int .u64 (lo a : Nat)) ∧ w'.cell? ⟨s, 133, none⟩ = some (.int .u64 (hi g : Nat)) ∧ w'.cell? ⟨s, 134, none⟩ = some (.int .u64 (lo g : Nat))
          ∧ w'.cell? ⟨bb, 0, none⟩ = some (.int .u64 0) ∧ w'.cell? ⟨bb, 1, none⟩ = some (.int .u64 0) ∧ w'.frozen? ⟨bb, 0, none⟩ = false ∧ w'.frozen? ⟨bb, 1, none⟩ = false) := fun w' ho => by
        obtain ⟨-, r2, ⟨r3, r4⟩, r5, -⟩ := HW.out
        have l := ho.loose r4 (r3.lt (by omega)) (by simp)
        exact ⟨ho.cell (r2 0 (by omega)) (by simp), ho.cell (r2 1 (by omega)) (by simp), ho.cell (r5.off 0 (by omega)) (by simp), ho.cell (r5.off 1 (by omega)) (by simp), ho.cell (r3 0 (by omega)) (by simp), ho.cell (r3 1 (by omega)) (by simp), by simpa using l 0 (by omega), by simpa using l 1 (by omega)⟩
      clear hW hab hbb d1 d2 H3 H1 HQ H4
      obtain ⟨d1, d2, d3, d4, -, -, -, -⟩ := HS.out _ (Only.refl [] W)
      try simp only [Act.put]
      refine wp_region_e (fun w' => w'.cell? ⟨ab, 0, none⟩ = some (.int .u64 (hi a : Nat)) ∧ w'.cell? ⟨ab, 1, none⟩ = some (.int .u64 (lo a : Nat)) ∧ w'.cell? ⟨s, 133, none⟩ = some (.int .u64 (hi g : Nat)) ∧ w'.cell? ⟨s, 134, none⟩ = some (.int .u64 (lo g : Nat))) 13 (by kernel_rfl) ⟨d1, d2, d3, d4⟩ (fun hHeld => ?_)
      refine wpAnyE_take 0 _ (v := (.pointer (some ⟨s, 0, none⟩))) rfl rfl (by kernel_rfl) (by kernel_rfl) (by kernel_rfl) (by kernel_rfl) (fun _ _ _ h => h) (Or.inl ⟨by rfl, fun w hS => by (try dsimp only at hS); go_simp⟩) (by assumption) ?_
      simp only [Act.put, List.setIfInBounds_toArray, List.set_cons_zero, List.set_cons_succ]
      refine wpAnyE_take 2 _ (v := (.pointer (some ⟨s, 0, none⟩))) rfl rfl (by kernel_rfl) (by kernel_rfl) (by kernel_rfl) (by kernel_rfl) (fun _ _ _ h => h) (Or.inl ⟨by rfl, fun w hS => by (try dsimp only at hS); go_simp⟩) (by assumption) ?_
      simp only [Act.put, List.setIfInBounds_toArray, List.set_cons_zero, List.set_cons_succ]
      refine wpAnyE_take 3 _ (v := (.pointer (some ⟨s, 0, none⟩))) rfl rfl (by kernel_rfl) (by kernel_rfl) (by kernel_rfl) (by kernel_rfl) (fun _ _ _ h => h) (Or.inl ⟨by rfl, fun w hS => by (try dsimp only at hS); go_simp⟩) (by assumption) ?_
      simp only [Act.put, List.setIfInBounds_toArray, List.set_cons_zero, List.set_cons_succ]
      refine wpAnyE_take 4 _ (v := (.pointer (some ⟨s, 133, none⟩))) rfl rfl (by kernel_rfl) (by kernel_rfl) (by kernel_rfl) (by kernel_rfl) (fun _ _ _ h => h) (Or.inl ⟨by rfl, fun w hS => by (try dsimp only at hS); go_simp⟩) (by assumption) ?_
      simp only [Act.put, List.setIfInBounds_toArray, List.set_cons_zero, List.set_cons_succ]
      refine wpAnyE_take 8 _ (v := (.pointer (some ⟨s, 0, none⟩))) rfl rfl (by kernel_rfl) (by kernel_rfl) (by kernel_rfl) (by kernel_rfl) (fun _ _ _ h => h) (Or.inl ⟨by rfl, fun w hS => by (try dsimp only at hS); go_simp⟩) (by assumption) ?_
      simp only [Act.put, List.setIfInBounds_toArray, List.set_cons_zero, List.set_cons_succ]
      refine wpAnyE_take 9 _ (v := (.pointer (some ⟨s, 0, none⟩))) rfl rfl (by kernel_rfl) (by kernel_rfl) (by kernel_rfl) (by kernel_rfl) (fun _ _ _ h => h) (Or.inl ⟨by rfl, fun w hS => by (try dsimp only at hS); go_simp⟩) (by assumption) ?_
      simp only [Act.put, List.setIfInBounds_toArray, List.set_cons_zero, List.set_cons_succ]
      refine wpAnyE_take 10 _ (v := (.pointer (some ⟨s, 133, none⟩))) rfl rfl (by kernel_rfl) (by kernel_rfl) (by kernel_rfl) (by kernel_rfl) (fun _ _ _ h => h) (Or.inl ⟨by rfl, fun w hS => by (try dsimp only at hS); go_simp⟩) (by assumption) ?_
      simp only [Act.put, List.setIfInBounds_toArray, List.set_cons_zero, List.set_cons_succ]
      refine wpAnyE_take 1 _ (v := (blk a)) rfl rfl (by kernel_rfl) (by kernel_rfl) (by kernel_rfl) (by kernel_rfl) (fun _ _ _ h => h) (Or.inl ⟨by rfl, fun w hS => by (try dsimp only at hS); go_simp⟩) (by assumption) ?_
      simp only [Act.put, List.setIfInBounds_toArray, List.set_cons_zero, List.set_cons_succ]
      refine wpAnyE_take 5 _ (v := (blk g)) rfl rfl (by kernel_rfl) (by kernel_rfl) (by kernel_rfl) (by kernel_rfl) (fun _ _ _ h => h) (Or.inl ⟨by rfl, fun w hS => by (try dsimp only at hS); go_simp⟩) (by assumption) ?_
      simp only [Act.put, List.setIfInBounds_toArray, List.set_cons_zero, List.set_cons_succ]
      refine wpAnyE_take 11 _ (v := (blk g)) rfl rfl (by kernel_rfl) (by kernel_rfl) (by kernel_rfl) (by kernel_rfl) (fun _ _ _ h => h) (Or.inl ⟨by rfl, fun w hS => by (try dsimp only at hS); go_simp⟩) (by assumption) ?_
      simp only [Act.put, List.setIfInBounds_toArray, List.set_cons_zero, List.set_cons_succ]
      refine wpAnyE_one 6 (by kernel_rfl) rfl (fun K' hK => ?_)
      go_simp
      go_at_call 26
      refine (bxor_any a g HB.out.1.2.2.1 HB.out.1.2.1 _).mono ?_
      rw [← HN.out.1]
      rintro e' w5 ⟨rfl, h5⟩
      have o5 : Only [] W w5 := (Only.refl [] W).drew.then (Only.of_below h5 []) (by simp)
      obtain ⟨p1, p2, p3, p4, p5, p6, p7, p8⟩ := HS.out _ o5
      clear h5
      go_simp
      refine hK.out _ _ (Or.inr ⟨p1, p2, p3, p4⟩) ?_
      clear hK K' p1 p2 p3 p4 p5 p6 p7 p8
      refine wpAnyE_one 7 (by kernel_rfl) rfl (fun K' hK => ?_)
      go_simp
      go_at_call 21
      refine (sencrypt_any s c K R y _ (HW.out.2.2.2.1.only o5 (by simp) (by simp)).ptr (HW.out.2.2.2.1.only o5 (by simp) (by simp)).cip HH.out.1.2.2.le HH.out.1.2.2.ge HH.out.1.2.2.key HB.out.2.1).mono ?_
      rw [← HN.out.2.1]
      rintro e' w6 ⟨rfl, h6⟩
      have o6 : Only [] W w6 := o5.then (Only.of_below h6 []) (by simp)
      obtain ⟨p1, p2, p3, p4, p5, p6, p7, p8⟩ := HS.out _ o6
      clear h6 o5
      go_simp
      refine hK.out _ _ (Or.inr ⟨p1, p2, p3, p4⟩) ?_
      clear hK K' p1 p2 p3 p4 p5 p6 p7 p8
      refine wpAnyE_one 12 (by kernel_rfl) rfl (fun K' hK => ?_)
      go_simp
      go_at_call 26
      refine (bxor_any e g HB.out.2.2.1 HB.out.1.2.1 _).mono ?_
      rw [← HN.out.2.2.1]
      rintro e' w7 ⟨rfl, h7⟩
      have o7 : Only [] W w7 := o6.then (Only.of_below h7 []) (by simp)
      obtain ⟨p1, p2, p3, p4, p5, p6, p7, p8⟩ := HS.out _ o7
      clear h7 o6
      go_simp
      refine hK.out _ _ (Or.inr ⟨p1, p2, p3, p4⟩) ?_
      clear hK K' d1 d2 d3 d4
      refine wpAnyE_one 13 (by kernel_rfl) rfl (fun K' hK => ?_)
      go_simp
      refine hK.out _ _ (Or.inl rfl) ?_
      clear hK K'
      refine wpAnyE_done (by kernel_rfl) ?_ _
      have hP := Put.two (f := blkV z) rfl p5 p6
      obtain ⟨w8, hw8⟩ : ∃ w8, w8 = (w7.setCell ⟨bb, 0, none⟩ (.int .u64 (hi z : Nat))).setCell ⟨bb, 1, none⟩ (.int .u64 (lo z : Nat)) := ⟨_, rfl⟩
      have hP : Put w7 w8 bb 0 2 (blkV z) := by rw [hw8]; exact hP
      rw [← hw8]
      have H8 : Hid (Only [s] wr w8 ∧ Has w8 ab 0 2 (blkV a) ∧ Has w8 bb 0 2 (blkV z) ∧ SealerAt w8 s c K R star dollar ls g u ∧ Buf w8 w.heap.size (.slice (some ⟨w.heap.size, 0, none⟩) (16 * r) (n + 16)) (thrOut false K R ls off L r) ∧ s < w.heap.size) := by
        obtain ⟨r1, r2, ⟨r3, r4⟩, r5, r6, r7, r8, r9, r10⟩ := HW.out
        have oW : Only [bb] W w8 := o7.trans hP.only
        have l1 := HR.out.2.1.size
        have l2 := r1.size
        have lt0 : w.heap.size < wr.heap.size := (HR.out.1.lt _ rfl).2
        have nbs : bb ≠ s := by omega
        have nbc : c ≠ bb := by have := HH.out.1.2.1.cip.lt; omega
        have hbw : wr.heap.size ≤ bb := r10.2
        refine ⟨r1.then oW (fun x hx hlt => by simp at hx; omega), oW.has r2 (by simpa using r9), hP.has, r5.only oW (by simpa using fun e => nbs e.symm) (by simpa using nbc), r6.fix oW (by simp; omega), r10.1⟩
      clear hP hw8 p1 p2 p3 p4 p5 p6 p7 p8 o7 HS
      have HS : Hid (∀ w', Only [] w8 w' → w'.cell? ⟨ab, 0, none⟩ = some (.int .u64 (hi a : Nat)) ∧ w'.cell? ⟨ab, 1, none⟩ = some (.int .u64 (lo a : Nat)) ∧ w'.cell? ⟨s, 135, none⟩ = some (.int .u64 (hi u : Nat)) ∧ w'.cell? ⟨s, 136, none⟩ = some (.int .u64 (lo u : Nat))
          ∧ w'.frozen? ⟨s, 135, none⟩ = false ∧ w'.frozen? ⟨s, 136, none⟩ = false) := fun w' ho => by
        obtain ⟨-, r2, r3, r5, -⟩ := H8.out
        have l := ho.loose r5.loose (World.block_lt_of_cell? _ _ r5.ptr) (by simp)
        exact ⟨ho.cell (r2 0 (by omega)) (by simp), ho.cell (r2 1 (by omega)) (by simp), ho.cell (r5.sum 0 (by omega)) (by simp), ho.cell (r5.sum 1 (by omega)) (by simp), by simpa using l 135 (by omega), by simpa using l 136 (by omega)⟩
      obtain ⟨d1, d2, d3, d4, -, -⟩ := HS.out _ (Only.refl [] w8)
      go_upto_region 12 with fail
      try simp only [Act.put]
      refine wp_region_e (fun w' => w'.cell? ⟨ab, 0, none⟩ = some (.int .u64 (hi a : Nat)) ∧ w'.cell? ⟨ab, 1, none⟩ = some (.int .u64 (lo a : Nat)) ∧ w'.cell? ⟨s, 135, none⟩ = some (.int .u64 (hi u : Nat)) ∧ w'.cell? ⟨s, 136, none⟩ = some (.int .u64 (lo u : Nat))) 9 (by kernel_rfl) ⟨d1, d2, d3, d4⟩ (fun hHeld => ?_)
      refine wpAnyE_take 0 _ (v := (.pointer (some ⟨s, 0, none⟩))) rfl rfl (by kernel_rfl) (by kernel_rfl) (by kernel_rfl) (by kernel_rfl) (fun _ _ _ h => h) (Or.inl ⟨by rfl, fun w hS => by (try dsimp only at hS); go_simp⟩) (by assumption) ?_
      simp only [Act.put, List.setIfInBounds_toArray, List.set_cons_zero, List.set_cons_succ]
      refine wpAnyE_take 1 _ (v := (.pointer (some ⟨s, 0, none⟩))) rfl rfl (by kernel_rfl) (by kernel_rfl) (by kernel_rfl) (by kernel_rfl) (fun _ _ _ h => h) (Or.inl ⟨by rfl, fun w hS => by (try dsimp only at hS); go_simp⟩) (by assumption) ?_
      simp only [Act.put, List.setIfInBounds_toArray, List.set_cons_zero, List.set_cons_succ]
      refine wpAnyE_take 2 _ (v := (.pointer (some ⟨s, 0, none⟩))) rfl rfl (by kernel_rfl) (by kernel_rfl) (by kernel_rfl) (by kernel_rfl) (fun _ _ _ h => h) (Or.inl ⟨by rfl, fun w hS => by (try dsimp only at hS); go_simp⟩) (by assumption) ?_
      simp only [Act.put, List.setIfInBounds_toArray, List.set_cons_zero, List.set_cons_succ]
      refine wpAnyE_take 3 _ (v := (.pointer (some ⟨s, 135, none⟩))) rfl rfl (by kernel_rfl) (by kernel_rfl) (by kernel_rfl) (by kernel_rfl) (fun _ _ _ h => h) (Or.inl ⟨by rfl, fun w hS => by (try dsimp only at hS); go_simp⟩) (by assumption) ?_
      simp only [Act.put, List.setIfInBounds_toArray, List.set_cons_zero, List.set_cons_succ]
      refine wpAnyE_take 4 _ (v := (blk u)) rfl rfl (by kernel_rfl) (by kernel_rfl) (by kernel_rfl) (by kernel_rfl) (fun _ _ _ h => h) (Or.inl ⟨by rfl, fun w hS => by (try dsimp only at hS); go_simp⟩) (by assumption) ?_
      simp only [Act.put, List.setIfInBounds_toArray, List.set_cons_zero, List.set_cons_succ]
      refine wpAnyE_take 5 _ (v := (blk a)) rfl rfl (by kernel_rfl) (by kernel_rfl) (by kernel_rfl) (by kernel_rfl) (fun _ _ _ h => h) (Or.inl ⟨by rfl, fun w hS => by (try dsimp only at hS); go_simp⟩) (by assumption) ?_
      simp only [Act.put, List.setIfInBounds_toArray, List.set_cons_zero, List.set_cons_succ]
      refine wpAnyE_one 6 (by kernel_rfl) rfl (fun K' hK => ?_)
      go_simp
      go_at_call 26
      refine (bxor_any u a HB.out.1.2.2.2 HB.out.1.2.2.1 _).mono ?_
      rw [← HN.out.2.2.2.1]
      rintro e' w9 ⟨rfl, h9⟩
      have o9 : Only [] w8 w9 := (Only.refl [] w8).drew.then (Only.of_below h9 []) (by simp)
      obtain ⟨p1, p2, p3, p4, p5, p6⟩ := HS.out _ o9
      clear h9
      go_simp
      refine hK.out _ _ (Or.inr ⟨p1, p2, p3, p4⟩) ?_
      clear hK K' d1 d2 d3 d4
      refine wpAnyE_one 7 (by kernel_rfl) rfl (fun K' hK => ?_)
      go_simp
      refine hK.out _ _ (Or.inr ⟨p1, p2, p3, p4⟩) ?_
      clear hK K'
      refine wpAnyE_one 8 (by kernel_rfl) rfl (fun K' hK => ?_)
      go_simp
      refine hK.out _ _ (Or.inr ⟨p1, p2, p3, p4⟩) ?_
      clear hK K'
      refine wpAnyE_one 9 (by kernel_rfl) rfl (fun K' hK => ?_)
      go_simp
      refine hK.out _ _ (Or.inl rfl) ?_
      clear hK K'
      refine wpAnyE_done (by kernel_rfl) ?_ _
      have hP := Put.two (f := blkV t) rfl p3 p4
      obtain ⟨w10, hw10⟩ : ∃ w10, w10 = (w9.setCell ⟨s, 135, none⟩ (.int .u64 (hi t : Nat))).setCell ⟨s, 136, none⟩ (.int .u64 (lo t : Nat)) := ⟨_, rfl⟩
      have hP : Put w9 w10 s 135 2 (blkV t) := by rw [hw10]; exact hP
      rw [← hw10]
      have H10 : Hid (Only [s] wr w10 ∧ Has w10 bb 0 2 (blkV z) ∧ SealerAt w10 s c K R star dollar ls g t ∧ Buf w10 w.heap.size (.slice (some ⟨w.heap.size, 0, none⟩) (16 * r) (n + 16)) (thrOut false K R ls off L r) ∧ s < w.heap.size) := by
        obtain ⟨r1, r2, r3, r5, r6, r7⟩ := H8.out
        have hbs : bb ≠ s := by have := HW.out.2.2.2.2.2.2.1; omega
        have oW : Only [s] w8 w10 := o9.trans hP.only
        refine ⟨r1.then oW (by simp), oW.has r3 (by simpa using hbs), (r5.only o9 (by simp) (by simp)).put_sum HH.out.2.1.2.2.1 hP, r6.fix oW (by simp; omega), r7⟩
      clear hP hw10 p1 p2 p3 p4 p5 p6 o9 HS hHeld H8 HW
      have d1 : w10.cell? ⟨bb, 0, none⟩ = some (.int .u64 (hi z : Nat)) := H10.out.2.1 0 (by omega)
      have d2 : w10.cell? ⟨bb, 1, none⟩ = some (.int .u64 (lo z : Nat)) := H10.out.2.1 1 (by omega)
      go_upto_region 14 with (first
        | (go_at_call 27; refine (bytes_b z HB.out.2.2.2 _).mono ?_; rintro e' w11 ⟨rfl, h11⟩
           have H11 : Hid (Below w10.heap.size w10 w11) := h11
           clear h11)
        | (refine wpList_store_has rfl 35 _ _ rfl w11.heap.size 0 16 (by8 z) (by8 fun _ => 0) rfl rfl (Has.new_at rfl zero16) (Loose.new_at rfl) (by kernel_rfl) (fun _ _ => rfl) ?_; intro w12 h12))
      have HT : Hid (Has w12 w11.heap.size 0 16 (by8 z) ∧ Only [] w10 w12) := ⟨h12.has, ((Only.of_below H11.out []).alloc _).then h12.only (fun x hx hlt => by have := H11.out.size; simp at hx; omega)⟩
      clear h12
      try simp only [Act.put]
      go_upto_region 15 with (at_builtin; refine wpList_append_fit rfl _ _ rfl w.heap.size w.heap.size (16 * r) (n + 16) (thrOut false K R ls off L r) rfl (H10.out.2.2.2.1.only HT.out.2 (by simp)) (thrOut_len r) (some ⟨w11.heap.size, 0, none⟩) 16 16 (blkL z) (blkL_len z) rfl (SlA.of_has (by rw [blkL_len]; exact HT.out.1.congr fun i hi => byG_blkL z hi) (Nat.le_of_eq (blkL_len z))) (by have := HP.out.2.1; omega) ?_; intro w13 hb' ho')
      have HV : Hid (Buf w13 w.heap.size (.slice (some ⟨w.heap.size, 0, none⟩) (16 * (r + 1)) (n + 16)) (thrOut false K R ls off L (r + 1)) ∧ Only [s] w w13 ∧ SealerAt w13 s c K R star dollar ls (hOff ls off (r + 1)) (thrSum false K R ls off sum L (r + 1))) := by
        obtain ⟨r1, r3, r5, r6, r7⟩ := H10.out
        have cl := HH.out.1.2.1.cip.lt
        refine ⟨by rw [HF.out.2.2]; exact hb', ((HR.out.2.1.then r1 (by simp)).then HT.out.2 (by simp)).then ho' (fun x hx hlt => by simp at hx; omega), ?_⟩
        rw [← HF.out.1, ← HF.out.2.1]
        exact (r5.only HT.out.2 (by simp) (by simp)).only ho' (by simp; omega) (by simp; omega)
      clear hb' ho'
      have s1 : IntKind.i64.wrap ((r : Int) + 1 + 1) = (r : Int) + 1 + 1 := i64w (by omega) (by omega)
      have q2 : 16 ≤ q := by omega
      go_wp2
      go_roundw
      case rel =>
        obtain ⟨h1, h2, h3⟩ := HP.out
        by_cases e16 : q = 16
        · exact ⟨r + 1, p, m - 16, q - 16, rfl, Or.inl (by omega), by omega, by omega, by rw [if_pos e16], by go_num, HV.out⟩
        · exact ⟨r + 1, p + 16, m - 16, q - 16, rfl, Or.inr (by have := h1.resolve_left (by omega); omega), by omega, by omega, by rw [if_neg e16], by go_num, HV.out⟩
      case measure => have := HP.out.2.1; simp [intOf]; omega
    · have q0 : ¬ (16 : Int) ≤ (m : Int) := by omega
      by_cases hm0 : m = 0
      · subst hm0
        have HV : Hid (Buf wr w.heap.size (.slice (some ⟨w.heap.size, 0, none⟩) (16 * r) (n + 16)) (thrOutF false K R star ls off L) ∧ SealerAt wr s c K R star dollar ls (thrOffF star ls off L) (thrSumF false K R star ls off sum L) ∧ Only [s] w wr) := by
          have h1 := HP.out.2.1
          have h2 := HH.out.2.2.2.1
          unfold thrOutF thrOffF thrSumF
          rw [if_pos (by omega), if_pos (by omega), if_pos (by omega), show L.length / 16 = r by omega]
          exact ⟨HR.out.1, HR.out.2.2, HR.out.2.1⟩
        go_wp2
        go_ret
        exact ⟨_, rfl, HV.out⟩
      · have q1 : 0 < (m : Int) := by omega
        have q2 : m < 16 := by omega
        obtain ⟨g0, hg0⟩ : ∃ g0, g0 = hOff ls off r := ⟨_, rfl⟩
        obtain ⟨g, hg⟩ : ∃ g, g = x2 g0 star := ⟨_, rfl⟩
        obtain ⟨u, hu⟩ : ∃ u, u = thrSum false K R ls off sum L r := ⟨_, rfl⟩
        obtain ⟨e, he⟩ : ∃ e, e = encAt sBox K R g R := ⟨_, rfl⟩
        obtain ⟨M, hM⟩ : ∃ M, M = L.drop (16 * r) := ⟨_, rfl⟩
        obtain ⟨t, ht⟩ : ∃ t, t = x2 u (padF M) := ⟨_, rfl⟩
        have hg0b : B16 g0 := by rw [hg0]; exact hOff_b HH.out.1.2.2.ls HH.out.2.1.1 _
        have hgb : B16 g := by rw [hg]; exact x2_b hg0b HH.out.1.2.2.star
        have hub : B16 u := by rw [hu]; exact thrSum_b HH.out.1.2.2 HH.out.2.1.1 HH.out.2.1.2.1 HH.out.2.2.1 _
        have heb : B16 e := by rw [he]; exact HH.out.1.2.2.enc hgb
        have hMl : M.length = m := by
          have h1 := HP.out.2.1
          have h2 := HH.out.2.2.2.1
          rw [hM]; first | exact restN_len _ _ _ _ | (rw [List.length_drop]; omega)
        have hMb : By M := by
          rw [hM]; first | exact by_restN HH.out.2.2.1 heb _ _ (by omega) | exact fun x hx => HH.out.2.2.1 x (List.mem_of_mem_drop hx)
        have HB : Hid (B16 g0 ∧ B16 g ∧ B16 u ∧ B16 e ∧ By M ∧ M.length = m) := ⟨hg0b, hgb, hub, heb, hMb, hMl⟩
        have HN : Hid (g = x2 g0 star ∧ e = encAt sBox K R g R ∧ t = x2 u (padF M)) := ⟨hg, he, ht⟩
        have HF : Hid (thrOutF false K R star ls off L = thrOut false K R ls off L r ++ restN L r e m ∧ thrOffF star ls off L = g ∧ thrSumF false K R star ls off sum L = t) := by
          have h1 := HP.out.2.1
          have h2 := HH.out.2.2.2.1
          have h3 : L.length - 16 * r = m := by omega
          unfold thrOutF thrOffF thrSumF restL
          rw [if_neg (by omega), if_neg (by omega), if_neg (by omega), show L.length / 16 = r by omega, h3, ht, hM, hu, he, hg, hg0]
          exact ⟨rfl, rfl, rfl⟩
        rw [← hg0, ← hu] at HR
        have HI : Hid (∀ w', Only [s] w w' → Has w' b p m (by8 (adB L r))) := fun w' ho i hi => by
          have h1 := HH.out.2.2.2.2.1 (16 * r + i) (by have := HP.out.2.1; omega)
          rw [show o + (16 * r + i) = p + i by have := HP.out.1.resolve_left (by omega); omega] at h1
          have h2 := ho.cell h1 (by have := HH.out.2.2.2.2.2.2.2.2; simpa using this)
          rw [h2]; rfl
        have HJ : Hid (M = L.drop (16 * r)) := hM
        clear hg0 hg hu he hM ht hg0b hgb hub heb hMl hMb
        have HS : Hid (∀ w', Only [] wr w' → w'.cell? ⟨s, 1, none⟩ = some (.int .u64 (hi star : Nat)) ∧ w'.cell? ⟨s, 2, none⟩ = some (.int .u64 (lo star : Nat)) ∧ w'.cell? ⟨s, 133, none⟩ = some (.int .u64 (hi g0 : Nat)) ∧ w'.cell? ⟨s, 134, none⟩ = some (.int .u64 (lo g0 : Nat))
            ∧ w'.frozen? ⟨s, 133, none⟩ = false ∧ w'.frozen? ⟨s, 134, none⟩ = false) := fun w' ho => by
          have r5 := HR.out.2.2
          have l := ho.loose r5.loose (World.block_lt_of_cell? _ _ r5.ptr) (by simp)
          exact ⟨ho.cell (r5.star 0 (by omega)) (by simp), ho.cell (r5.star 1 (by omega)) (by simp), ho.cell (r5.off 0 (by omega)) (by simp), ho.cell (r5.off 1 (by omega)) (by simp), by simpa using l 133 (by omega), by simpa using l 134 (by omega)⟩
        obtain ⟨d1, d2, d3, d4, -, -⟩ := HS.out _ (Only.refl [] wr)
        go_upto_region 17 with fail
        try simp only [Act.put]
        refine wp_region_e (fun w' => w'.cell? ⟨s, 1, none⟩ = some (.int .u64 (hi star : Nat)) ∧ w'.cell? ⟨s, 2, none⟩ = some (.int .u64 (lo star : Nat)) ∧ w'.cell? ⟨s, 133, none⟩ = some (.int .u64 (hi g0 : Nat)) ∧ w'.cell? ⟨s, 134, none⟩ = some (.int .u64 (lo g0 : Nat))) 12 (by kernel_rfl) ⟨d1, d2, d3, d4⟩ (fun hHeld => ?_)
        refine wpAnyE_take 0 _ (v := (.pointer (some ⟨s, 0, none⟩))) rfl rfl (by kernel_rfl) (by kernel_rfl) (by kernel_rfl) (by kernel_rfl) (fun _ _ _ h => h) (Or.inl ⟨by rfl, fun w hS => by (try dsimp only at hS); go_simp⟩) (by assumption) ?_
        simp only [Act.put, List.setIfInBounds_toArray, List.set_cons_zero, List.set_cons_succ]
        refine wpAnyE_take 1 _ (v := (.pointer (some ⟨s, 0, none⟩))) rfl rfl (by kernel_rfl) (by kernel_rfl) (by kernel_rfl) (by kernel_rfl) (fun _ _ _ h => h) (Or.inl ⟨by rfl, fun w hS => by (try dsimp only at hS); go_simp⟩) (by assumption) ?_
        simp only [Act.put, List.setIfInBounds_toArray, List.set_cons_zero, List.set_cons_succ]
        refine wpAnyE_take 2 _ (v := (.pointer (some ⟨s, 0, none⟩))) rfl rfl (by kernel_rfl) (by kernel_rfl) (by kernel_rfl) (by kernel_rfl) (fun _ _ _ h => h) (Or.inl ⟨by rfl, fun w hS => by (try dsimp only at hS); go_simp⟩) (by assumption) ?_
        simp only [Act.put, List.setIfInBounds_toArray, List.set_cons_zero, List.set_cons_succ]
        refine wpAnyE_take 3 _ (v := (.pointer (some ⟨s, 133, none⟩))) rfl rfl (by kernel_rfl) (by kernel_rfl) (by kernel_rfl) (by kernel_rfl) (fun _ _ _ h => h) (Or.inl ⟨by rfl, fun w hS => by (try dsimp only at hS); go_simp⟩) (by assumption) ?_
        simp only [Act.put, List.setIfInBounds_toArray, List.set_cons_zero, List.set_cons_succ]
        refine wpAnyE_take 5 _ (v := (.pointer (some ⟨s, 0, none⟩))) rfl rfl (by kernel_rfl) (by kernel_rfl) (by kernel_rfl) (by kernel_rfl) (fun _ _ _ h => h) (Or.inl ⟨by rfl, fun w hS => by (try dsimp only at hS); go_simp⟩) (by assumption) ?_
        simp only [Act.put, List.setIfInBounds_toArray, List.set_cons_zero, List.set_cons_succ]
        refine wpAnyE_take 6 _ (v := (.pointer (some ⟨s, 0, none⟩))) rfl rfl (by kernel_rfl) (by kernel_rfl) (by kernel_rfl) (by kernel_rfl) (fun _ _ _ h => h) (Or.inl ⟨by rfl, fun w hS => by (try dsimp only at hS); go_simp⟩) (by assumption) ?_
        simp only [Act.put, List.setIfInBounds_toArray, List.set_cons_zero, List.set_cons_succ]
        refine wpAnyE_take 7 _ (v := (.pointer (some ⟨s, 1, none⟩))) rfl rfl (by kernel_rfl) (by kernel_rfl) (by kernel_rfl) (by kernel_rfl) (fun _ _ _ h => h) (Or.inl ⟨by rfl, fun w hS => by (try dsimp only at hS); go_simp⟩) (by assumption) ?_
        simp only [Act.put, List.setIfInBounds_toArray, List.set_cons_zero, List.set_cons_succ]
        refine wpAnyE_take 4 _ (v := (blk g0)) rfl rfl (by kernel_rfl) (by kernel_rfl) (by kernel_rfl) (by kernel_rfl) (fun _ _ _ h => h) (Or.inl ⟨by rfl, fun w hS => by (try dsimp only at hS); go_simp⟩) (by assumption) ?_
        simp only [Act.put, List.setIfInBounds_toArray, List.set_cons_zero, List.set_cons_succ]
        refine wpAnyE_take 8 _ (v := (blk star)) rfl rfl (by kernel_rfl) (by kernel_rfl) (by kernel_rfl) (by kernel_rfl) (fun _ _ _ h => h) (Or.inl ⟨by rfl, fun w hS => by (try dsimp only at hS); go_simp⟩) (by assumption) ?_
        simp only [Act.put, List.setIfInBounds_toArray, List.set_cons_zero, List.set_cons_succ]
        refine wpAnyE_one 9 (by kernel_rfl) rfl (fun K' hK => ?_)
        go_simp
        go_at_call 26
        refine (bxor_any g0 star HB.out.1 HH.out.1.2.2.star _).mono ?_
        rw [← HN.out.1]
        rintro e' w1 ⟨rfl, h1⟩
        have o1 : Only [] wr w1 := (Only.refl [] wr).drew.then (Only.of_below h1 []) (by simp)
        obtain ⟨p1, p2, p3, p4, p5, p6⟩ := HS.out _ o1
        clear h1
        go_simp
        refine hK.out _ _ (Or.inr ⟨p1, p2, p3, p4⟩) ?_
        clear hK K' d1 d2 d3 d4
        refine wpAnyE_one 10 (by kernel_rfl) rfl (fun K' hK => ?_)
        go_simp
        refine hK.out _ _ (Or.inr ⟨p1, p2, p3, p4⟩) ?_
        clear hK K'
        refine wpAnyE_one 11 (by kernel_rfl) rfl (fun K' hK => ?_)
        go_simp
        refine hK.out _ _ (Or.inr ⟨p1, p2, p3, p4⟩) ?_
        clear hK K'
        refine wpAnyE_one 12 (by kernel_rfl) rfl (fun K' hK => ?_)
        go_simp
        refine hK.out _ _ (Or.inl rfl) ?_
        clear hK K'
        refine wpAnyE_done (by kernel_rfl) ?_ _
        have hP := Put.two (f := blkV g) rfl p3 p4
        obtain ⟨w2, hw2⟩ : ∃ w2, w2 = (w1.setCell ⟨s, 133, none⟩ (.int .u64 (hi g : Nat))).setCell ⟨s, 134, none⟩ (.int .u64 (lo g : Nat)) := ⟨_, rfl⟩
        have hP : Put w1 w2 s 133 2 (blkV g) := by rw [hw2]; exact hP
        rw [← hw2]
        have H2 : Hid (Only [s] w w2 ∧ SealerAt w2 s c K R star dollar ls g u ∧ Buf w2 w.heap.size (.slice (some ⟨w.heap.size, 0, none⟩) (16 * r) (n + 16)) (thrOut false K R ls off L r) ∧ s < w.heap.size) := by
          have oW : Only [s] wr w2 := o1.trans hP.only
          refine ⟨HR.out.2.1.then oW (by simp), (HR.out.2.2.only o1 (by simp) (by simp)).put_off HH.out.2.1.2.2.1 hP, HR.out.1.fix oW (by simp; omega), s0⟩
        clear hP hw2 p1 p2 p3 p4 p5 p6 o1 HS hHeld HR
        have d1 : w2.cell? ⟨s, 133, none⟩ = some (.int .u64 (hi g : Nat)) := H2.out.2.1.off 0 (by omega)
        have d2 : w2.cell? ⟨s, 134, none⟩ = some (.int .u64 (lo g : Nat)) := H2.out.2.1.off 1 (by omega)
        go_upto_region 19 with (first
          | (go_at_call 21
             refine (sencrypt_any s c K R g _ H2.out.2.1.ptr H2.out.2.1.cip HH.out.1.2.2.le HH.out.1.2.2.ge HH.out.1.2.2.key HB.out.2.1).mono ?_
             rw [← HN.out.2.1]; rintro e' w3 ⟨rfl, h3⟩
             have H3 : Hid (Below w2.heap.size w2 w3) := h3
             clear h3)
          | (go_at_call 27; refine (bytes_b e HB.out.2.2.2.1 _).mono ?_; rintro e' w4 ⟨rfl, h4⟩
             have H4 : Hid (Below w3.heap.size w3 w4) := h4
             clear h4)
          | (refine wpList_store_has rfl 35 _ _ rfl w4.heap.size 0 16 (by8 e) (by8 fun _ => 0) rfl rfl (Has.new_at rfl zero16) (Loose.new_at rfl) (by kernel_rfl) (fun _ _ => rfl) ?_; intro w5 h5))
        obtain ⟨tb, htb⟩ : ∃ tb, tb = w4.heap.size := ⟨_, rfl⟩
        have HT : Hid (Has w5 tb 0 16 (by8 e) ∧ Only [s] w w5 ∧ SealerAt w5 s c K R star dollar ls g u ∧ Buf w5 w.heap.size (.slice (some ⟨w.heap.size, 0, none⟩) (16 * r) (n + 16)) (thrOut false K R ls off L r) ∧ w.heap.size < tb ∧ s < w.heap.size) := by
          have l3 := H3.out.size
          have l4 := H4.out.size
          have l2 : w.heap.size < w2.heap.size := (H2.out.2.2.1.lt _ rfl).2
          have o4 : Only [] w2 w4 := (Only.of_below H3.out []).then (Only.of_below H4.out []) (by simp)
          have o5 : Only [] w2 w5 := (o4.alloc _).then h5.only (fun x hx hlt => by simp at hx; omega)
          refine ⟨by rw [htb]; exact h5.has, H2.out.1.then o5 (by simp), H2.out.2.1.only o5 (by simp) (by simp), H2.out.2.2.1.only o5 (by simp), by omega, s0⟩
        rw [← htb]
        clear h5 htb H3 H4 H2 d1 d2
        try simp only [Act.put]
        go_wp2
        obtain ⟨wo, rfl⟩ : ∃ wo : World, wo = w5 := ⟨_, rfl⟩
        go_loopw [7, 116] (fun vv ii wr => ∃ j : Nat, vv = .slice (some ⟨w.heap.size, 0, none⟩) (16 * r + j) (n + 16) ∧ j ≤ m ∧ ii = .int .i64 (j : Int) ∧ Buf wr w.heap.size (.slice (some ⟨w.heap.size, 0, none⟩) (16 * r + j) (n + 16)) (thrOut false K R ls off L r ++ restN L r e j) ∧ Only [s] w wr ∧ SealerAt wr s c K R star dollar ls g u ∧ Has wr tb 0 16 (by8 e)) (fun _ ii _ => m - (intOf ii).toNat)
        case atStart => exact ⟨0, rfl, by omega, rfl, by simpa [restN] using HT.out.2.2.2.1, HT.out.2.1, HT.out.2.2.1, HT.out.1⟩
        case round =>
          obtain ⟨j, rfl, hj, rfl, h1, h2, h3, h4⟩ := hrel
          have HR : Hid (Buf wr w.heap.size (.slice (some ⟨w.heap.size, 0, none⟩) (16 * r + j) (n + 16)) (thrOut false K R ls off L r ++ restN L r e j) ∧ Only [s] w wr ∧ SealerAt wr s c K R star dollar ls g u ∧ Has wr tb 0 16 (by8 e)) := ⟨h1, h2, h3, h4⟩
          clear h1 h2 h3 h4
          by_cases hlt : j < m
          · have j0 : (j : Int) < (m : Int) := by omega
            have c1 : wr.cell? ⟨b, p + j, none⟩ = some (.int .u8 (adB L r j : Nat)) := HI.out wr HR.out.2.1 j hlt
            have c2 : wr.cell? ⟨tb, j, none⟩ = some (.int .u8 (e j : Nat)) := HR.out.2.2.2.get0 (by omega)
            have x1 := x8 (adB_b HH.out.2.2.1 r j (by omega)) (HB.out.2.2.2.1 j (by omega))
            have b16 : (j : Int) < 16 := by omega
            go_upto_region 24 with (at_builtin; refine wpList_append_fit rfl _ _ rfl w.heap.size w.heap.size (16 * r + j) (n + 16) (thrOut false K R ls off L r ++ restN L r e j) rfl (HR.out.1.alloc _) (by rw [List.length_append, thrOut_len, restN_len]) (some ⟨wr.heap.size, 0, none⟩) 1 1 [adB L r j ^^^ e j] rfl rfl (SlA.of_has (Has.new_at rfl rfl) (Nat.le_refl _)) (by have := HP.out.2.1; omega) ?_; intro w6 hb' ho')
            have HV : Hid (Buf w6 w.heap.size (.slice (some ⟨w.heap.size, 0, none⟩) (16 * r + (j + 1)) (n + 16)) (thrOut false K R ls off L r ++ restN L r e (j + 1)) ∧ Only [s] w w6 ∧ SealerAt w6 s c K R star dollar ls g u ∧ Has w6 tb 0 16 (by8 e)) := by
              obtain ⟨r1, r2, r3, r4⟩ := HR.out
              have cl := HH.out.1.2.1.cip.lt
              have nt : w.heap.size ≠ tb := by have := HT.out.2.2.2.2.1; omega
              have o6 : Only [w.heap.size] wr w6 := ((Only.refl [] wr).alloc _).trans ho'
              exact ⟨by rw [restN_succ, ← List.append_assoc]; exact hb', r2.then o6 (fun x hx hlt => by simp at hx; omega), r3.only o6 (by simp; omega) (by simp; omega), o6.has r4 (by simp; omega)⟩
            clear hb' ho' c1 c2 x1
            try simp only [Act.put]
            have s1 : IntKind.i64.wrap ((j : Int) + 1) = (j : Int) + 1 := i64w (by omega) (by omega)
            go_wp2
            go_roundw
            case rel => exact ⟨j + 1, rfl, by omega, by go_num, HV.out⟩
            case measure => simp [intOf]; omega
          · obtain rfl : j = m := by omega
            rw [← HF.out.1] at HR
            have j0 : ¬ (j : Int) < (j : Int) := by omega
            clear HT
            have HM : Hid (∀ w', Only [] wr w' → SlA w' (some ⟨b, p, none⟩) q M ∧ ∀ x, (some ⟨b, p, none⟩ : Option Addr) = some x → x.block < w'.heap.size) := by
              refine fun w' ho => ⟨SlA.of_has (fun i hi => ?_) (by rw [HB.out.2.2.2.2.2]; exact mq), fun x hx => ?_⟩
              · rw [HB.out.2.2.2.2.2] at hi
                have h1 := HI.out w' (HR.out.2.1.then ho (by simp)) i hi
                rw [h1, HJ.out]
                show some (Value.int .u8 ((L.getD (16 * r + i) 0 : Nat) : Int)) = some (Value.int .u8 (((L.drop (16 * r)).getD i 0 : Nat) : Int))
                simp [List.getD_eq_getElem?_getD]
              · cases hx
                have := HR.out.2.1.size; have := ho.size; have := HH.out.2.2.2.2.2.2.2.1
                show b < _
                omega
            have HS : Hid (∀ w', Only [] wr w' → w'.cell? ⟨s, 135, none⟩ = some (.int .u64 (hi u : Nat)) ∧ w'.cell? ⟨s, 136, none⟩ = some (.int .u64 (lo u : Nat))
                ∧ w'.frozen? ⟨s, 135, none⟩ = false ∧ w'.frozen? ⟨s, 136, none⟩ = false) := fun w' ho => by
              have r5 := HR.out.2.2.1
              have l := ho.loose r5.loose (World.block_lt_of_cell? _ _ r5.ptr) (by simp)
              exact ⟨ho.cell (r5.sum 0 (by omega)) (by simp), ho.cell (r5.sum 1 (by omega)) (by simp), by simpa using l 135 (by omega), by simpa using l 136 (by omega)⟩
            obtain ⟨d1, d2, -, -⟩ := HS.out _ (Only.refl [] wr)
            go_upto_region 28 with fail
            try simp only [Act.put]
            trace_state
            refine wp_region_e (fun w' => w'.cell? ⟨s, 135, none⟩ = some (.int .u64 (hi u : Nat)) ∧ w'.cell? ⟨s, 136, none⟩ = some (.int .u64 (lo u : Nat))) 10 (by kernel_rfl) ⟨d1, d2⟩ (fun hHeld => ?_)
            refine wpAnyE_take 0 _ (v := (.pointer (some ⟨s, 0, none⟩))) rfl rfl (by kernel_rfl) (by kernel_rfl) (by kernel_rfl) (by kernel_rfl) (fun _ _ _ h => h) (Or.inl ⟨by rfl, fun w hS => by (try dsimp only at hS); go_simp⟩) (by assumption) ?_
            simp only [Act.put, List.setIfInBounds_toArray, List.set_cons_zero, List.set_cons_succ]
            refine wpAnyE_take 1 _ (v := (.pointer (some ⟨s, 0, none⟩))) rfl rfl (by kernel_rfl) (by kernel_rfl) (by kernel_rfl) (by kernel_rfl) (fun _ _ _ h => h) (Or.inl ⟨by rfl, fun w hS => by (try dsimp only at hS); go_simp⟩) (by assumption) ?_
            simp only [Act.put, List.setIfInBounds_toArray, List.set_cons_zero, List.set_cons_succ]
            refine wpAnyE_take 2 _ (v := (.pointer (some ⟨s, 0, none⟩))) rfl rfl (by kernel_rfl) (by kernel_rfl) (by kernel_rfl) (by kernel_rfl) (fun _ _ _ h => h) (Or.inl ⟨by rfl, fun w hS => by (try dsimp only at hS); go_simp⟩) (by assumption) ?_
            simp only [Act.put, List.setIfInBounds_toArray, List.set_cons_zero, List.set_cons_succ]
            refine wpAnyE_take 3 _ (v := (.pointer (some ⟨s, 135, none⟩))) rfl rfl (by kernel_rfl) (by kernel_rfl) (by kernel_rfl) (by kernel_rfl) (fun _ _ _ h => h) (Or.inl ⟨by rfl, fun w hS => by (try dsimp only at hS); go_simp⟩) (by assumption) ?_
            simp only [Act.put, List.setIfInBounds_toArray, List.set_cons_zero, List.set_cons_succ]
            refine wpAnyE_take 4 _ (v := (blk u)) rfl rfl (by kernel_rfl) (by kernel_rfl) (by kernel_rfl) (by kernel_rfl) (fun _ _ _ h => h) (Or.inl ⟨by rfl, fun w hS => by (try dsimp only at hS); go_simp⟩) (by assumption) ?_
            simp only [Act.put, List.setIfInBounds_toArray, List.set_cons_zero, List.set_cons_succ]
            refine wpAnyE_take 5 _ (v := (.slice (some ⟨b, p, none⟩) j q)) rfl rfl (by kernel_rfl) (by kernel_rfl) (by kernel_rfl) (by kernel_rfl) (fun _ _ _ h => h) (Or.inl ⟨by rfl, fun w hS => by (try dsimp only at hS); go_simp⟩) (by assumption) ?_
            simp only [Act.put, List.setIfInBounds_toArray, List.set_cons_zero, List.set_cons_succ]
            refine wpAnyE_one 6 (by kernel_rfl) rfl (fun K' hK => ?_)
            go_simp
            go_at_call 28
            refine (padded_any (some ⟨b, p, none⟩) q j M _ HB.out.2.2.2.2.1 HB.out.2.2.2.2.2 q2 (HM.out _ (Only.refl [] wr).drew).1 (HM.out _ (Only.refl [] wr).drew).2).mono ?_
            rintro e' w7 ⟨rfl, h7⟩
            have o7 : Only [] wr w7 := (Only.refl [] wr).drew.then (Only.of_below h7 []) (by simp)
            obtain ⟨p1, p2, p3, p4⟩ := HS.out _ o7
            clear h7
            go_simp
            refine hK.out _ _ (Or.inr ⟨p1, p2⟩) ?_
            clear hK K' d1 d2 p1 p2 p3 p4
            refine wpAnyE_one 7 (by kernel_rfl) rfl (fun K' hK => ?_)
            go_simp
            go_at_call 26
            refine (bxor_any u (padF M) HB.out.2.2.1 (padF_b HB.out.2.2.2.2.1) _).mono ?_
            rw [← HN.out.2.2]
            rintro e' w8 ⟨rfl, h8⟩
            have o8 : Only [] wr w8 := o7.then (Only.of_below h8 []) (by simp)
            obtain ⟨p1, p2, p3, p4⟩ := HS.out _ o8
            clear h8
            go_simp
            refine hK.out _ _ (Or.inr ⟨p1, p2⟩) ?_
            clear hK K'
            refine wpAnyE_one 8 (by kernel_rfl) rfl (fun K' hK => ?_)
            go_simp
            refine hK.out _ _ (Or.inr ⟨p1, p2⟩) ?_
            clear hK K'
            refine wpAnyE_one 9 (by kernel_rfl) rfl (fun K' hK => ?_)
            go_simp
            refine hK.out _ _ (Or.inr ⟨p1, p2⟩) ?_
            clear hK K'
            refine wpAnyE_one 10 (by kernel_rfl) rfl (fun K' hK => ?_)
            go_simp
            refine hK.out _ _ (Or.inl rfl) ?_
            clear hK K'
            refine wpAnyE_done (by kernel_rfl) ?_ _
            have hP := Put.two (f := blkV t) rfl p1 p2
            obtain ⟨w9, hw9⟩ : ∃ w9, w9 = (w8.setCell ⟨s, 135, none⟩ (.int .u64 (hi t : Nat))).setCell ⟨s, 136, none⟩ (.int .u64 (lo t : Nat)) := ⟨_, rfl⟩
            have hP : Put w8 w9 s 135 2 (blkV t) := by rw [hw9]; exact hP
            rw [← hw9]
            have HV : Hid (Buf w9 w.heap.size (.slice (some ⟨w.heap.size, 0, none⟩) (16 * r + j) (n + 16)) (thrOutF false K R star ls off L) ∧ SealerAt w9 s c K R star dollar ls (thrOffF star ls off L) (thrSumF false K R star ls off sum L) ∧ Only [s] w w9) := by
              obtain ⟨r1, r2, r3, r4⟩ := HR.out
              have oW : Only [s] wr w9 := o8.trans hP.only
              rw [HF.out.2.1, HF.out.2.2]
              exact ⟨r1.fix oW (by simp; omega), (r3.only o8 (by simp) (by simp)).put_sum HH.out.2.1.2.2.1 hP, r2.then oW (by simp)⟩
            clear hP hw9 p1 p2 p3 p4 o7 o8 HS hHeld
            go_wp2
            go_ret
            exact ⟨_, rfl, HV.out⟩

end Go.Proofs.YtpkpkfjpnkbkbaaDoor
