/- The walk of ocb's begin. -/
import Derived.Test.YtpkpkfjpnkbkbaaDoorOcb4
import Derived.Test.YtpkpkfjpnkbkbaaDoorOcb5
import Derived.Test.YtpkpkfjpnkbkbaaDoorAes6
namespace Go.Proofs.YtpkpkfjpnkbkbaaDoor
open Go.RowKit
set_option maxHeartbeats 8000000
set_option maxRecDepth 100000

/-- A new sealer's cells. -/
def sz (c : Nat) (i : Nat) : Value := if i = 0 then .pointer (some ⟨c, 0, none⟩) else .int .u64 0
theorem build_sealer (c : Nat) (w : World) : (Instr.build 53 #[(0, .pointer (some ⟨c, 0, none⟩))]).run Tryd.prog w = .ok (.agg (rowV 137 (sz c))) w := by kernel_rfl
def zB : Nat → Nat := fun _ => 0
theorem zB_b : B16 zB := fun _ _ => by simp [zB]
theorem zB_blk (i : Nat) : blkV zB i = .int .u64 0 := by unfold blkV; split <;> rfl

theorem SealerAt.of_new {w : World} {s c : Nat} {K : Nat → Nat} {R : Nat} (h : Has w s 0 137 (sz c)) (hl : Loose w s 0 137) (hC : CipherAt w c sBox sBack K R) : SealerAt w s c K R zB zB (fun _ => zB) zB zB := by
  have hz : ∀ o, 1 ≤ o → o + 2 ≤ 137 → Has w s o 2 (blkV zB) := fun o h1 h2 i hi => by
    have := h (o + i) (by omega)
    rw [Nat.zero_add] at this
    rw [this, zB_blk]
    unfold sz; rw [if_neg (by omega)]
  exact ⟨by have := h 0 (by omega); simpa [sz] using this, hC, hz 1 (by omega) (by omega), hz 3 (by omega) (by omega), fun i hi => hz _ (by omega) (by omega), hz 133 (by omega) (by omega), hz 135 (by omega) (by omega), hl⟩

section
variable {w w' : World} {s c : Nat} {K : Nat → Nat} {R : Nat} {star dollar : Nat → Nat} {ls : Nat → Nat → Nat} {off sum : Nat → Nat}
theorem SealerAt.only (h : SealerAt w s c K R star dollar ls off sum) {S : List Nat} (ho : Only S w w') (hs : s ∉ S) (hc : c ∉ S) : SealerAt w' s c K R star dollar ls off sum :=
  ⟨ho.cell h.ptr hs, h.cip.only ho hc, ho.has h.star hs, ho.has h.dollar hs, fun i hi => ho.has (h.ls i hi) hs, ho.has h.off hs, ho.has h.sum hs, ho.loose h.loose (World.block_lt_of_cell? _ _ h.ptr) hs⟩
theorem SealerAt.below (h : SealerAt w s c K R star dollar ls off sum) (ho : Below w.heap.size w w') : SealerAt w' s c K R star dollar ls off sum := h.only (Only.of_below ho []) (by simp) (by simp)
theorem Put.has_old {b o n p m : Nat} {f g : Nat → Value} (h : Put w w' b o n f) (hg : Has w b p m g) (hd : p + m ≤ o ∨ o + n ≤ p) : Has w' b p m g := fun i hi => h.old (by omega) (hg i hi)
theorem SealerAt.put_star (h : SealerAt w s c K R star dollar ls off sum) (hsc : s ≠ c) {f : Nat → Nat} (hp : Put w w' s 1 2 (blkV f)) : SealerAt w' s c K R f dollar ls off sum :=
  ⟨hp.old (by omega) h.ptr, h.cip.only hp.only (by simpa using fun e => hsc e.symm), hp.has, hp.has_old h.dollar (by omega), fun i hi => hp.has_old (h.ls i hi) (by omega), hp.has_old h.off (by omega), hp.has_old h.sum (by omega), hp.loose h.loose⟩
theorem SealerAt.put_dollar (h : SealerAt w s c K R star dollar ls off sum) (hsc : s ≠ c) {f : Nat → Nat} (hp : Put w w' s 3 2 (blkV f)) : SealerAt w' s c K R star f ls off sum :=
  ⟨hp.old (by omega) h.ptr, h.cip.only hp.only (by simpa using fun e => hsc e.symm), hp.has_old h.star (by omega), hp.has, fun i hi => hp.has_old (h.ls i hi) (by omega), hp.has_old h.off (by omega), hp.has_old h.sum (by omega), hp.loose h.loose⟩
theorem SealerAt.put_l (h : SealerAt w s c K R star dollar ls off sum) (hsc : s ≠ c) {f : Nat → Nat} {k : Nat} (hk : k < 64) (hp : Put w w' s (5 + 2 * k) 2 (blkV f)) : SealerAt w' s c K R star dollar (fun i => if i = k then f else ls i) off sum :=
  ⟨hp.old (by omega) h.ptr, h.cip.only hp.only (by simpa using fun e => hsc e.symm), hp.has_old h.star (by omega), hp.has_old h.dollar (by omega), fun i hi => by
    by_cases e : i = k
    · subst e; rw [if_pos rfl]; exact hp.has
    · rw [if_neg e]; exact hp.has_old (h.ls i hi) (by omega), hp.has_old h.off (by omega), hp.has_old h.sum (by omega), hp.loose h.loose⟩
theorem SealerAt.put_off (h : SealerAt w s c K R star dollar ls off sum) (hsc : s ≠ c) {f : Nat → Nat} (hp : Put w w' s 133 2 (blkV f)) : SealerAt w' s c K R star dollar ls f sum :=
  ⟨hp.old (by omega) h.ptr, h.cip.only hp.only (by simpa using fun e => hsc e.symm), hp.has_old h.star (by omega), hp.has_old h.dollar (by omega), fun i hi => hp.has_old (h.ls i hi) (by omega), hp.has, hp.has_old h.sum (by omega), hp.loose h.loose⟩
theorem SealerAt.put_sum (h : SealerAt w s c K R star dollar ls off sum) (hsc : s ≠ c) {f : Nat → Nat} (hp : Put w w' s 135 2 (blkV f)) : SealerAt w' s c K R star dollar ls off f :=
  ⟨hp.old (by omega) h.ptr, h.cip.only hp.only (by simpa using fun e => hsc e.symm), hp.has_old h.star (by omega), hp.has_old h.dollar (by omega), fun i hi => hp.has_old (h.ls i hi) (by omega), hp.has_old h.off (by omega), hp.has, hp.loose h.loose⟩
theorem SealerAt.congr_ls (h : SealerAt w s c K R star dollar ls off sum) {ls' : Nat → Nat → Nat} (e : ∀ i, i < 64 → ls i = ls' i) : SealerAt w s c K R star dollar ls' off sum :=
  ⟨h.ptr, h.cip, h.star, h.dollar, fun i hi => by rw [← e i hi]; exact h.ls i hi, h.off, h.sum, h.loose⟩
end

/-- Two cells put, one behind the other. -/
theorem Put.two {w : World} {b o o' : Nat} {f : Nat → Value} {u0 u1 : Value} (ho : o' = o + 1) (h0 : w.cell? ⟨b, o, none⟩ = some u0) (h1 : w.cell? ⟨b, o', none⟩ = some u1) : Put w ((w.setCell ⟨b, o, none⟩ (f 0)).setCell ⟨b, o', none⟩ (f 1)) b o 2 f := by
  subst ho
  have a := (Put.refl w b o f).step (u := u0) (by simpa using h0) (v := f 0) rfl
  have a2 := a.step (u := u1) (by rw [Nat.add_zero, World.cell?_setCell_other _ _ _ _ (by simp)]; simpa using h1) (v := f 1) rfl
  simpa using a2

/-- The L's as far as they are made. -/
def lsK (d : Nat → Nat) (k i : Nat) : Nat → Nat := if i ≤ k then lsF d i else zB

theorem nbF_lt {N : List Nat} (h : By N) (i : Nat) : nbF N i < 256 := by
  unfold nbF
  split
  · decide
  · split
    · decide
    · exact h.getD _
theorem nbG_b {N : List Nat} (h : By N) : B16 (nbG N) := fun i _ => by
  have a := nbF_lt h i
  have b := nbF_lt h 15
  unfold nbG; split <;> omega

theorem off_hi {k : Nat → Nat} (h : B16 k) {b : Nat} : bits .or .u64 (IntKind.u64.wrap ((hi k : Int) * 2 ^ b)) ((lo k : Int) / 2 ^ (64 - b)) = ((hi (offF k b) : Nat) : Int) := by
  have e : IntKind.u64.wrap ((hi k : Int) * 2 ^ b) = ((hi k * 2 ^ b % 18446744073709551616 : Nat) : Int) := by rw [← wrap_u64]; simp
  have e2 : (lo k : Int) / 2 ^ (64 - b) = ((lo k / 2 ^ (64 - b) : Nat) : Int) := by simp
  have l2 := lo_lt h
  have l3 : lo k / 2 ^ (64 - b) < 2 ^ 64 := Nat.lt_of_le_of_lt (Nat.div_le_self _ _) l2
  rw [e, e2, or_u64 (by omega) (by omega)]
  have hl : offH k b < 18446744073709551616 := Nat.or_lt_two_pow (n := 64) (by omega) l3
  unfold offF
  rw [pair_hi hl]
  rfl
theorem off_lo {k : Nat → Nat} (h : B16 k) {b : Nat} : bits .or .u64 (IntKind.u64.wrap ((lo k : Int) * 2 ^ b)) ((moreF k : Int) / 2 ^ (64 - b)) = ((lo (offF k b) : Nat) : Int) := by
  have e : IntKind.u64.wrap ((lo k : Int) * 2 ^ b) = ((lo k * 2 ^ b % 18446744073709551616 : Nat) : Int) := by rw [← wrap_u64]; simp
  have e2 : (moreF k : Int) / 2 ^ (64 - b) = ((moreF k / 2 ^ (64 - b) : Nat) : Int) := by simp
  have l1 := hi_lt h
  have l2 := lo_lt h
  have lm : moreF k < 2 ^ 64 := Nat.xor_lt_two_pow l1 (Nat.or_lt_two_pow (n := 64) (by omega) (by omega))
  have l3 : moreF k / 2 ^ (64 - b) < 2 ^ 64 := Nat.lt_of_le_of_lt (Nat.div_le_self _ _) lm
  rw [e, e2, or_u64 (by omega) (by omega)]
  have hl : offL k b < 18446744073709551616 := Nat.or_lt_two_pow (n := 64) (by omega) l3
  unfold offF
  rw [pair_lo hl]
  rfl

theorem begin_ok (b o cap n : Nat) (L : List Nat) (na : Option Addr) (nn ncap : Nat) (N : List Nat) (w : World) (hN : L.length = n) (hn : n = 16 ∨ n = 32) (hL : By L) (hh : Has w b o n (byG L)) (hle : n ≤ cap)
    (hNn : N.length = nn) (h1 : 1 ≤ nn) (h15 : nn ≤ 15) (hNb : By N) (hNs : SlA w na ncap N) :
    Calls Tryd.prog 12 #[.slice (some ⟨b, o, none⟩) n cap, .slice na nn ncap] w fun e w' => ∃ s c, e = .returned (.pointer (some ⟨s, 0, none⟩)) ∧ w.heap.size ≤ s ∧ w.heap.size ≤ c ∧ s ≠ c
      ∧ SealerAt w' s c (keyF sBox L) (n / 4 + 6) (encAt sBox (keyF sBox L) (n / 4 + 6) zB (n / 4 + 6)) (dblB (encAt sBox (keyF sBox L) (n / 4 + 6) zB (n / 4 + 6))) (lsF (dblB (encAt sBox (keyF sBox L) (n / 4 + 6) zB (n / 4 + 6))))
          (offF (encAt sBox (keyF sBox L) (n / 4 + 6) (nbG N) (n / 4 + 6)) (nbF N 15 % 64)) zB
      ∧ Below w.heap.size w w' := by
  obtain ⟨K, hK⟩ : ∃ K, K = keyF sBox L := ⟨_, rfl⟩
  obtain ⟨R, hR⟩ : ∃ R, R = n / 4 + 6 := ⟨_, rfl⟩
  have hKb : ∀ i, i < 240 → K i < 256 := fun i _ => by rw [hK]; exact keyF_lt (fun i _ => sBox_lt i) hL i
  have hR14 : R ≤ 14 := by omega
  have hR1 : 1 ≤ R := by omega
  rw [← hK, ← hR]
  obtain ⟨star, hst⟩ : ∃ st, st = encAt sBox K R zB R := ⟨_, rfl⟩
  have hsb : B16 star := fun i hi => by rw [hst]; exact encAt_lt (fun i _ => sBox_lt i) hKb zB_b hR14 R (Nat.le_refl _) i hi
  rw [← hst]
  obtain ⟨dl, hdl⟩ : ∃ dl, dl = dblB star := ⟨_, rfl⟩
  have hdb : B16 dl := by rw [hdl]; exact dblB_b hsb
  have Hdl : Hid (dl = dblB star ∧ B16 dl) := ⟨hdl, hdb⟩
  rw [← hdl]
  clear hdl hdb
  have HH : Hid (L.length = n ∧ (n = 16 ∨ n = 32) ∧ By L ∧ Has w b o n (byG L) ∧ K = keyF sBox L ∧ R = n / 4 + 6 ∧ (∀ i, i < 240 → K i < 256) ∧ R ≤ 14 ∧ 1 ≤ R) := ⟨hN, hn, hL, hh, hK, hR, hKb, hR14, hR1⟩
  have HN : Hid (N.length = nn ∧ By N ∧ SlA w na ncap N) := ⟨hNn, hNb, hNs⟩
  have Hst : Hid (star = encAt sBox K R zB R ∧ B16 star) := ⟨hst, hsb⟩
  have i1 : ¬ (nn : Int) < 1 := by omega
  have i2 : ¬ 15 < (nn : Int) := by omega
  clear hN hn hL hh hK hR hKb hR14 hR1 hNn hNb hNs hst hsb
  go_enter Tryd.func12, Tryd.ntmps12
  go_upto_region 4 with (go_at_call 20; refine (new_any b o cap n L w HH.out.1 HH.out.2.1 HH.out.2.2.1 HH.out.2.2.2.1 hle).mono ?_; rintro e w1 ⟨c, rfl, hc, hC, hb1⟩
                         have H1 : Hid (w.heap.size ≤ c ∧ CipherAt w1 c sBox sBack K R ∧ Below w.heap.size w w1) := ⟨hc, by rw [HH.out.2.2.2.2.1, HH.out.2.2.2.2.2.1]; exact hC, hb1⟩
                         clear hc hC hb1)
  clear i1 i2
  obtain ⟨C, hC⟩ : ∃ C, C = rowV 137 (sz c) := ⟨_, rfl⟩
  have HC : Hid (C = rowV 137 (sz c)) := hC
  clear hC
  go_upto_region 5 with (refine wpList_build1 rfl 53 0 _ rfl (.pointer (some ⟨c, 0, none⟩)) (.agg C) rfl (by rw [HC.out]; exact build_sealer c _) ?_)
  obtain ⟨W, hW⟩ : ∃ W, W = w1.alloc (.cells C 53) := ⟨_, rfl⟩
  obtain ⟨s, hs⟩ : ∃ s, s = w1.heap.size := ⟨_, rfl⟩
  have hcl : c < w1.heap.size := H1.out.2.1.lt
  have HS : Hid (SealerAt W s c K R zB zB (fun _ => zB) zB zB ∧ Only [] w W ∧ w.heap.size ≤ s ∧ w.heap.size ≤ c ∧ s ≠ c) := by
    have hb1 := H1.out.2.2.size
    refine ⟨SealerAt.of_new (by rw [hW, hs]; exact Has.new_at rfl HC.out) (by rw [hW, hs]; exact Loose.new_at rfl) ?_, ?_, by omega, H1.out.1, by omega⟩
    · rw [hW]; exact H1.out.2.1.only ((Only.refl [] _).alloc _) (by simp)
    · rw [hW]; exact (Only.of_below H1.out.2.2 []).alloc _
  rw [← hW, ← hs]
  clear hW hs hcl HC H1
  have E0 : Hid (∀ w, SealerAt w s c K R zB zB (fun _ => zB) zB zB → Calls Tryd.prog 21 #[.pointer (some ⟨s, 0, none⟩), .agg #[.int .u64 0, .int .u64 0]] w fun e w' => e = .returned (blk star) ∧ Below w.heap.size w w') := fun w hw => by
    have := sencrypt_any s c K R zB w hw.ptr hw.cip HH.out.2.2.2.2.2.2.2.1 HH.out.2.2.2.2.2.2.2.2 HH.out.2.2.2.2.2.2.1 zB_b
    rw [Hst.out.1]; exact this
  go_upto_region 6 with (first
    | (go_at_call 21; refine (E0.out _ HS.out.1).mono ?_; rintro e w2 ⟨rfl, h2⟩
       have H2 : Hid (SealerAt w2 s c K R zB zB (fun _ => zB) zB zB ∧ Only [] w w2) := ⟨HS.out.1.below h2, HS.out.2.1.then (Only.of_below h2 []) (by simp)⟩
       clear h2)
    | (refine wpList_store_has rfl 50 _ _ rfl s 1 2 (blkV star) _ rfl rfl H2.out.1.star (fun i hi => H2.out.1.loose.sub 1 2 (by omega) i hi) (by kernel_rfl) (fun i _ => blkV_one _ i) ?_; intro w3 h3
       have H3 : Hid (SealerAt w3 s c K R star zB (fun _ => zB) zB zB ∧ Only [] w w3) := ⟨H2.out.1.put_star HS.out.2.2.2.2 h3, H2.out.2.then h3.only (by have := HS.out.2.2.1; simp; omega)⟩
       clear h3 H2))
  clear E0
  have d1 : w3.cell? ⟨s, 1, none⟩ = some (.int .u64 (hi star : Nat)) := H3.out.1.star 0 (by omega)
  have d2 : w3.cell? ⟨s, 2, none⟩ = some (.int .u64 (lo star : Nat)) := H3.out.1.star 1 (by omega)
  go_upto_region 7 with (first
    | (go_at_call 22; refine (bdouble_any star Hst.out.2 _).mono ?_; rw [← Hdl.out.1]; rintro e w4 ⟨rfl, h4⟩
       have H4 : Hid (SealerAt w4 s c K R star zB (fun _ => zB) zB zB ∧ Only [] w w4) := ⟨H3.out.1.below h4, H3.out.2.then (Only.of_below h4 []) (by simp)⟩
       clear h4)
    | (refine wpList_store_has rfl 50 _ _ rfl s 3 2 (blkV dl) _ rfl rfl H4.out.1.dollar (fun i hi => H4.out.1.loose.sub 3 2 (by omega) i hi) (by kernel_rfl) (fun i _ => blkV_one _ i) ?_; intro w5 h5
       have H5 : Hid (SealerAt w5 s c K R star dl (fun _ => zB) zB zB ∧ Only [] w w5) := ⟨H4.out.1.put_dollar HS.out.2.2.2.2 h5, H4.out.2.then h5.only (by have := HS.out.2.2.1; simp; omega)⟩
       clear h5 H4))
  clear d1 d2 H3
  have d1 : w5.cell? ⟨s, 3, none⟩ = some (.int .u64 (hi dl : Nat)) := H5.out.1.dollar 0 (by omega)
  have d2 : w5.cell? ⟨s, 4, none⟩ = some (.int .u64 (lo dl : Nat)) := H5.out.1.dollar 1 (by omega)
  go_region_held3 (fun w' => w'.cell? ⟨s, 3, none⟩ = some (.int .u64 (hi dl : Nat)) ∧ w'.cell? ⟨s, 4, none⟩ = some (.int .u64 (lo dl : Nat)))
    (first
      | exact ⟨p1, p2⟩
      | exact ⟨d1, d2⟩
      | (refine ⟨?_, ?_⟩ <;> (rw [World.cell?_setCell_other _ _ _ _ (by simp <;> omega), World.cell?_setCell_other _ _ _ _ (by simp <;> omega)]; assumption)))
    (first
      | (go_at_call 22; refine (bdouble_any dl Hdl.out.2 _).mono ?_; rintro e w6 ⟨rfl, h6⟩
         have H6 : Hid (SealerAt w6 s c K R star dl (fun _ => zB) zB zB ∧ Only [] w w6) := ⟨(H5.out.1.only (Only.refl [] w5).drew (by simp) (by simp)).below h6, H5.out.2.drew.then (Only.of_below h6 []) (by simp)⟩
         have p1 : w6.cell? ⟨s, 3, none⟩ = some (.int .u64 (hi dl : Nat)) := H6.out.1.dollar 0 (by omega)
         have p2 : w6.cell? ⟨s, 4, none⟩ = some (.int .u64 (lo dl : Nat)) := H6.out.1.dollar 1 (by omega)
         have p3 : w6.cell? ⟨s, 5, none⟩ = some (.int .u64 (hi zB : Nat)) := H6.out.1.ls 0 (by omega) 0 (by omega)
         have p4 : w6.cell? ⟨s, 6, none⟩ = some (.int .u64 (lo zB : Nat)) := H6.out.1.ls 0 (by omega) 1 (by omega)
         have p5 : w6.frozen? ⟨s, 5, none⟩ = false := by have := H6.out.1.loose 5 (by omega); simpa using this
         have p6 : w6.frozen? ⟨s, 6, none⟩ = false := by have := H6.out.1.loose 6 (by omega); simpa using this
         clear h6))
  go_upto_region 8 with fail
  have hP := Put.two (f := blkV (dblB dl)) rfl p3 p4
  obtain ⟨V, hV⟩ : ∃ V, V = (w6.setCell ⟨s, 5, none⟩ (.int .u64 (hi (dblB dl) : Nat))).setCell ⟨s, 6, none⟩ (.int .u64 (lo (dblB dl) : Nat)) := ⟨_, rfl⟩
  have hP : Put w6 V s 5 2 (blkV (dblB dl)) := by rw [hV]; exact hP
  rw [← hV]
  have HV : Hid (SealerAt V s c K R star dl (lsK dl 0) zB zB ∧ Only [] w V) := by
    refine ⟨(H6.out.1.put_l HS.out.2.2.2.2 (k := 0) (by omega) hP).congr_ls fun i _ => ?_, H6.out.2.then hP.only (by have := HS.out.2.2.1; simp; omega)⟩
    unfold lsK
    by_cases e : i = 0
    · subst e; rw [if_pos rfl, if_pos (Nat.le_refl _)]; rfl
    · rw [if_neg e, if_neg (by omega)]
  clear hV hP p1 p2 p3 p4 p5 p6 d1 d2 H5 H6
  go_wp2
  go_loopw [57] (fun x wr => ∃ k : Nat, k ≤ 63 ∧ x = .int .i64 k ∧ SealerAt wr s c K R star dl (lsK dl k) zB zB ∧ Only [] w wr) (fun x _ => 63 - (intOf x).toNat)
  case atStart => exact ⟨0, by omega, rfl, HV.out.1, HV.out.2⟩
  case round =>
    clear HV
    obtain ⟨k, hk, rfl, hA, hO⟩ := hrel
    have HA : Hid (SealerAt wr s c K R star dl (lsK dl k) zB zB ∧ Only [] w wr) := ⟨hA, hO⟩
    clear hA hO
    by_cases hk63 : k < 63
    · obtain ⟨f, hf⟩ : ∃ f, f = lsF dl k := ⟨_, rfl⟩
      have hfb : B16 f := by rw [hf]; exact lsF_b Hdl.out.2 k
      have hfk : lsK dl k k = f := by rw [hf]; unfold lsK; rw [if_pos (Nat.le_refl _)]
      have hz : lsK dl k (k + 1) = zB := by unfold lsK; rw [if_neg (by omega)]
      have HF : Hid (f = lsF dl k ∧ B16 f ∧ lsK dl k k = f ∧ lsK dl k (k + 1) = zB) := ⟨hf, hfb, hfk, hz⟩
      clear hf hfb hfk hz
      have hL : ∀ w', SealerAt w' s c K R star dl (lsK dl k) zB zB → w'.cell? ⟨s, 5 + k * 2, none⟩ = some (.int .u64 (hi f : Nat)) ∧ w'.cell? ⟨s, 5 + k * 2 + 1, none⟩ = some (.int .u64 (lo f : Nat))
          ∧ w'.cell? ⟨s, 5 + (k + 1) * 2, none⟩ = some (.int .u64 (hi zB : Nat)) ∧ w'.cell? ⟨s, 5 + (k + 1) * 2 + 1, none⟩ = some (.int .u64 (lo zB : Nat))
          ∧ w'.frozen? ⟨s, 5 + (k + 1) * 2, none⟩ = false ∧ w'.frozen? ⟨s, 5 + (k + 1) * 2 + 1, none⟩ = false := fun w' h => by
        have a := h.ls k (by omega)
        have b := h.ls (k + 1) (by omega)
        rw [HF.out.2.2.1] at a
        rw [HF.out.2.2.2] at b
        rw [Nat.mul_comm 2] at a b
        have e1 := h.loose (5 + (k + 1) * 2) (by omega)
        have e2 := h.loose (5 + (k + 1) * 2 + 1) (by omega)
        rw [Nat.zero_add] at e1 e2
        exact ⟨a 0 (by omega), a 1 (by omega), b 0 (by omega), b 1 (by omega), e1, e2⟩
      have HL : Hid _ := hL
      clear hL
      obtain ⟨d1, d2, -⟩ := HL.out wr HA.out.1
      have q0 : (k : Int) < 63 := by omega
      have q1 : (k : Int) < 64 := by omega
      have s1 : IntKind.i64.wrap ((k : Int) + 1) = (k : Int) + 1 := i64w (by omega) (by omega)
      have n1 : 0 ≤ (k : Int) + 1 := by omega
      have b1 : (k : Int) + 1 < 64 := by omega
      have t1 : ((k : Int) + 1).toNat = k + 1 := by omega
      go_wp2
      go_region_held3 (fun w' => w'.cell? ⟨s, 5 + k * 2, none⟩ = some (.int .u64 (hi f : Nat)) ∧ w'.cell? ⟨s, 5 + k * 2 + 1, none⟩ = some (.int .u64 (lo f : Nat)))
        (first
          | exact ⟨p1, p2⟩
          | exact ⟨d1, d2⟩
          | (refine ⟨?_, ?_⟩ <;> (rw [World.cell?_setCell_other _ _ _ _ (by simp <;> omega), World.cell?_setCell_other _ _ _ _ (by simp <;> omega)]; assumption)))
        (first
          | (go_at_call 22; refine (bdouble_any f HF.out.2.1 _).mono ?_; rintro e w6 ⟨rfl, h6⟩
             have H6 : Hid (SealerAt w6 s c K R star dl (lsK dl k) zB zB ∧ Only [] w w6) := ⟨(HA.out.1.only (Only.refl [] wr).drew (by simp) (by simp)).below h6, HA.out.2.drew.then (Only.of_below h6 []) (by simp)⟩
             obtain ⟨p1, p2, p3, p4, p5, p6⟩ := HL.out w6 H6.out.1
             clear h6))
      go_wp2
      have hP := Put.two (f := blkV (dblB f)) rfl p3 p4
      have hS := (H6.out.1.put_l HS.out.2.2.2.2 (f := dblB f) (k := k + 1) (by omega) (by rw [Nat.mul_comm 2]; exact hP)).congr_ls (ls' := lsK dl (k + 1)) fun i _ => by
        unfold lsK
        by_cases e : i = k + 1
        · subst e; rw [if_pos rfl, if_pos (Nat.le_refl _), HF.out.1]; rfl
        · rw [if_neg e]
          by_cases e2 : i ≤ k
          · rw [if_pos e2, if_pos (by omega)]
          · rw [if_neg e2, if_neg (by omega)]
      have hO := H6.out.2.then hP.only (by have := HS.out.2.2.1; simp; omega)
      go_roundw
      case rel => exact ⟨k + 1, by omega, by go_num, hS, hO⟩
      case measure => simp [intOf]; omega
    · obtain rfl : k = 63 := by omega
      have HB : Hid (SealerAt wr s c K R star dl (lsF dl) zB zB ∧ Only [] w wr) := ⟨HA.out.1.congr_ls fun i _ => by unfold lsK; rw [if_pos (by omega)], HA.out.2⟩
      clear HA
      go_upto_region 14 with fail
      rw [zero16]
      obtain ⟨T, hT⟩ : ∃ T, T = wr.alloc (.cells (rowV 16 (by8 fun _ => 0)) 35) := ⟨_, rfl⟩
      obtain ⟨tb, htb⟩ : ∃ tb, tb = wr.heap.size := ⟨_, rfl⟩
      have HT : Hid (Only [] wr T ∧ Has T tb 0 16 (by8 fun _ => 0) ∧ Loose T tb 0 16 ∧ tb = wr.heap.size ∧ w.heap.size ≤ tb) := by
        rw [hT, htb]; exact ⟨(Only.refl _ _).alloc _, Has.new_at rfl rfl, Loose.new_at rfl, rfl, HB.out.2.size⟩
      rw [← hT, ← htb]
      clear hT htb
      have q1 : ((16 : Int) - nn).toNat = 16 - nn := by omega
      have q2 : 16 - (16 - nn) = nn := by omega
      have q4 : (Tryd.prog.info? 5).map (·.size) = some 1 := by kernel_rfl
      have q5 := fun w => run_sliceAt_low (P := Tryd.prog) Tryd.underlying35 q4 tb 0 (16 - nn) (by omega) .i64 ((16 : Int) - nn) (by omega) w
      rw [q2, Nat.zero_add] at q5
      clear q4
      have q3 : ¬ 16 = 16 - nn := by omega
      go_upto_region 15 with (refine wpList_copy_sl rfl _ _ rfl tb (16 - nn) nn nn rfl na ncap nn N HN.out.1 rfl (HN.out.2.2.only (HB.out.2.then HT.out.1 (by simp)) (by simp)) (by8 fun _ => 0) (fun i hi => by have := HT.out.2.1 (16 - nn + i) (by omega); rwa [Nat.zero_add] at this) (fun i hi => by have := HT.out.2.2.1 (16 - nn + i) (by omega); rwa [Nat.zero_add] at this) (Nat.le_refl _) ?_; intro w8 h8
                              have H8 : Hid (Put T w8 tb (16 - nn) nn (byG N)) := h8
                              clear h8)
      clear q1 q2 q3 q5
      have hN2 := HN.out.1
      have hc8 : Has w8 tb 0 16 (by8 fun i => if 16 - nn ≤ i then N.getD (i - (16 - nn)) 0 else 0) := fun i hi => by
        rw [Nat.zero_add]
        show _ = some (Value.int .u8 ((if 16 - nn ≤ i then N.getD (i - (16 - nn)) 0 else 0 : Nat) : Int))
        by_cases e : 16 - nn ≤ i
        · rw [if_pos e]
          have := H8.out.has (i - (16 - nn)) (by omega)
          rwa [show 16 - nn + (i - (16 - nn)) = i by omega] at this
        · rw [if_neg e]; exact H8.out.old (by omega) (HT.out.2.1.get0 hi)
      have d1 : w8.cell? ⟨tb, 15 - nn, none⟩ = some (.int .u8 0) := by
        have := hc8.get0 (i := 15 - nn) (by omega)
        rw [this]
        show some (Value.int .u8 ((if 16 - nn ≤ 15 - nn then N.getD (15 - nn - (16 - nn)) 0 else 0 : Nat) : Int)) = _
        rw [if_neg (by omega)]; rfl
      have d2 : w8.frozen? ⟨tb, 15 - nn, none⟩ = false := by have := H8.out.loose HT.out.2.2.1 (15 - nn) (by omega); simpa using this
      have q1 : ((15 : Int) - nn).toNat = 15 - nn := by omega
      have q2 : bits BinOp.or IntKind.u8 0 1 = 1 := by decide
      have hP9 := (Put.of_has hc8).set0 (15 - nn) (by omega) (.int .u8 1)
      have HP9 : Hid (Put w8 (w8.setCell ⟨tb, 15 - nn, none⟩ (.int .u8 1)) tb 0 16 (by8 (nbF N))) := hP9.congr fun i hi => by
        show (if i = 15 - nn then Value.int .u8 1 else Value.int .u8 ((if 16 - nn ≤ i then N.getD (i - (16 - nn)) 0 else 0 : Nat) : Int)) = Value.int .u8 ((nbF N i : Nat) : Int)
        unfold nbF
        rw [hN2]
        by_cases e1 : i < 15 - nn
        · rw [if_neg (by omega), if_neg (by omega), if_pos e1]
        · rw [if_neg e1]
          by_cases e2 : i = 15 - nn
          · rw [if_pos e2, if_pos e2]; rfl
          · rw [if_neg e2, if_neg e2, if_pos (by omega)]
      clear hP9 hc8 hN2
      go_upto_region 16 with fail
      obtain ⟨w9, hw9⟩ : ∃ w9, w9 = w8.setCell ⟨tb, 15 - nn, none⟩ (.int .u8 1) := ⟨_, rfl⟩
      rw [← hw9] at HP9
      rw [← hw9]
      have H9 : Hid (Only [] wr w9 ∧ Has w9 tb 0 16 (by8 (nbF N)) ∧ Loose w9 tb 0 16) := by
        refine ⟨((HT.out.1.then H8.out.only (by have := HT.out.2.2.2.1; simp; omega)).then HP9.out.only (by have := HT.out.2.2.2.1; simp; omega)), HP9.out.has, HP9.out.loose (H8.out.loose HT.out.2.2.1)⟩
      clear hw9 HP9 H8 d1 d2 q1 q2
      obtain ⟨x, hx⟩ : ∃ x, x = nbF N 15 := ⟨_, rfl⟩
      have hxl : x < 256 := by
        rw [hx]; unfold nbF
        split
        · decide
        · split
          · decide
          · exact HN.out.2.1.getD _
      have d1 : w9.cell? ⟨tb, 15, none⟩ = some (.int .u8 x) := by rw [hx]; exact H9.out.2.1.get0 (by omega)
      have d2 : w9.frozen? ⟨tb, 15, none⟩ = false := by have := H9.out.2.2 15 (by omega); simpa using this
      have x1 := and63 hxl
      have x2 := andNot63 hxl
      obtain ⟨bt, hbt⟩ : ∃ bt, bt = x % 64 := ⟨_, rfl⟩
      have hbl : bt < 64 := by omega
      rw [← hbt] at x1
      have HX : Hid (x = nbF N 15 ∧ bt = x % 64) := ⟨hx, hbt⟩
      have HPX : Hid (Put w9 (w9.setCell ⟨tb, 15, none⟩ (.int .u8 ((x / 64 * 64 : Nat) : Int))) tb 0 16 (by8 (nbG N))) := ((Put.of_has H9.out.2.1).set0 15 (by omega) _).congr fun i _ => by
        show (if i = 15 then _ else Value.int .u8 ((nbF N i : Nat) : Int)) = Value.int .u8 ((nbG N i : Nat) : Int)
        unfold nbG
        by_cases e : i = 15
        · rw [if_pos e, if_pos e, hx]
        · rw [if_neg e, if_neg e]
      clear hx hbt
      go_upto_region 18 with fail
      obtain ⟨w10, hw10⟩ : ∃ w10, w10 = w9.setCell ⟨tb, 15, none⟩ (.int .u8 (((x / 64 * 64 : Nat)) : Int)) := ⟨_, rfl⟩
      have hw10' : w10 = w9.setCell ⟨tb, 15, none⟩ (.int .u8 ((x : Int) / 64 * 64)) := by rw [hw10]; simp
      rw [← hw10] at HPX
      rw [← hw10']
      have hsb : s < wr.heap.size := World.block_lt_of_cell? _ _ HB.out.1.ptr
      have hcb : c < wr.heap.size := HB.out.1.cip.lt
      have htb := HT.out.2.2.2.1
      have HW : Hid (SealerAt w10 s c K R star dl (lsF dl) zB zB ∧ Only [] w w10 ∧ Has w10 tb 0 16 (by8 (nbG N))) := by
        have ho : Only [] wr w10 := H9.out.1.then HPX.out.only (by simp; omega)
        exact ⟨HB.out.1.only ho (by simp) (by simp), HB.out.2.then ho (by simp), HPX.out.has⟩
      clear hw10 hw10' hsb hcb htb HPX H9 HB d1 d2 x1 x2 hxl
      obtain ⟨g, hg⟩ : ∃ g, g = nbG N := ⟨_, rfl⟩
      obtain ⟨kb, hkb⟩ : ∃ kb, kb = encAt sBox K R g R := ⟨_, rfl⟩
      have hgb : B16 g := by rw [hg]; exact nbG_b HN.out.2.1
      have hkbb : B16 kb := fun i hi => by rw [hkb]; exact encAt_lt (fun i _ => sBox_lt i) HH.out.2.2.2.2.2.2.1 hgb HH.out.2.2.2.2.2.2.2.1 R (Nat.le_refl _) i hi
      have HG : Hid (g = nbG N ∧ B16 g ∧ kb = encAt sBox K R g R ∧ B16 kb) := ⟨hg, hgb, hkb, hkbb⟩
      rw [← hg] at HW
      clear hg hgb hkb hkbb
      go_upto_region 19 with (first
        | (go_at_call 23; refine (of_any tb 0 16 16 g _ HW.out.2.2 HG.out.2.1 (by omega) (by omega)).mono ?_; rintro e w11 ⟨rfl, h11⟩
           have H11 : Hid (SealerAt w11 s c K R star dl (lsF dl) zB zB ∧ Only [] w w11) := ⟨HW.out.1.below h11, HW.out.2.1.then (Only.of_below h11 []) (by simp)⟩
           clear h11)
        | (go_at_call 21; refine (sencrypt_any s c K R g _ H11.out.1.ptr H11.out.1.cip HH.out.2.2.2.2.2.2.2.1 HH.out.2.2.2.2.2.2.2.2 HH.out.2.2.2.2.2.2.1 HG.out.2.1).mono ?_; rw [← HG.out.2.2.1]; rintro e w12 ⟨rfl, h12⟩
           have H12 : Hid (SealerAt w12 s c K R star dl (lsF dl) zB zB ∧ Only [] w w12) := ⟨H11.out.1.below h12, H11.out.2.then (Only.of_below h12 []) (by simp)⟩
           clear h12 H11))
      obtain ⟨V, hV⟩ : ∃ V, V = w12.alloc (.cells #[.int .u64 (hi kb : Nat), .int .u64 (lo kb : Nat)] 50) := ⟨_, rfl⟩
      obtain ⟨kp, hkp⟩ : ∃ kp, kp = w12.heap.size := ⟨_, rfl⟩
      have HV : Hid (SealerAt V s c K R star dl (lsF dl) zB zB ∧ Only [] w V) := by
        rw [hV]; exact ⟨H12.out.1.only ((Only.refl [] _).alloc _) (by simp) (by simp), H12.out.2.alloc _⟩
      have hVh : Has V kp 0 2 (blkV kb) := by rw [hV, hkp]; exact Has.new_at rfl (blk_row kb).symm
      have d1 : V.cell? ⟨kp, 0, none⟩ = some (.int .u64 (hi kb : Nat)) := hVh 0 (by omega)
      have d2 : V.cell? ⟨kp, 1, none⟩ = some (.int .u64 (lo kb : Nat)) := hVh 1 (by omega)
      rw [← hV, ← hkp]
      clear hV hkp hVh H12
      have x1 := more_bits HG.out.2.2.2
      go_upto_region 20 with fail
      clear x1
      have y0 : (bt : Int) < 64 := by omega
      have y1 : IntKind.u64.wrap (64 - (bt : Int)) = ((64 - bt : Nat) : Int) := by
        rw [show (64 - (bt : Int)) = ((64 - bt : Nat) : Int) by omega, IntKind.wrap_u64]; omega
      have x1 : bits .or .u64 (IntKind.u64.wrap ((hi kb : Int) * 2 ^ bt)) ((lo kb : Int) / 2 ^ (64 - bt)) = ((hi (offF kb bt) : Nat) : Int) := off_hi HG.out.2.2.2
      have x2 : bits .or .u64 (IntKind.u64.wrap ((lo kb : Int) * 2 ^ bt)) ((moreF kb : Int) / 2 ^ (64 - bt)) = ((lo (offF kb bt) : Nat) : Int) := off_lo HG.out.2.2.2
      go_upto_region 21 with (refine wpList_store_has rfl 50 _ _ rfl s 133 2 (blkV (offF kb bt)) _ rfl rfl HV.out.1.off (fun i hi => HV.out.1.loose.sub 133 2 (by omega) i hi) (by kernel_rfl) (fun i _ => blkV_one _ i) ?_; intro w13 h13
                              have H13 : Hid (SealerAt w13 s c K R star dl (lsF dl) (offF kb bt) zB ∧ Only [] w w13) := ⟨HV.out.1.put_off HS.out.2.2.2.2 h13, HV.out.2.then h13.only (by have := HS.out.2.2.1; simp; omega)⟩
                              clear h13)
      clear x1 x2 y0 y1 d1 d2
      have HE : Hid (w.heap.size ≤ s ∧ w.heap.size ≤ c ∧ s ≠ c
          ∧ SealerAt w13 s c K R star dl (lsF dl) (offF (encAt sBox K R (nbG N) R) (nbF N 15 % 64)) zB ∧ Below w.heap.size w w13) := by
        refine ⟨HS.out.2.2.1, HS.out.2.2.2.1, HS.out.2.2.2.2, ?_, H13.out.2.nil⟩
        rw [← HG.out.1, ← HG.out.2.2.1, ← HX.out.1, ← HX.out.2]
        exact H13.out.1
      go_wp2
      go_ret
      exact ⟨s, c, rfl, HE.out⟩

end Go.Proofs.YtpkpkfjpnkbkbaaDoor
