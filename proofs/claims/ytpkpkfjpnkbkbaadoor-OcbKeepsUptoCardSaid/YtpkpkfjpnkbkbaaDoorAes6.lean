/- The walks of slices.Clone (of bytes), aes.New. -/
import Derived.Test.YtpkpkfjpnkbkbaaDoorAes5
import Derived.Test.YtpkpkfjpnkbkbaaDoorAes3
import Derived.Test.YtpkpkfjpnkbkbaaDoorBytes
namespace Go.Proofs.YtpkpkfjpnkbkbaaDoor
open Go.RowKit
set_option maxHeartbeats 8000000
set_option maxRecDepth 100000

theorem clone_any (b o cap n : Nat) (L : List Nat) (w : World) (hN : L.length = n) (hh : Has w b o n (byG L)) (hle : n ≤ cap) (hlen : n ≤ 140737488355328) :
    Calls Tryd.prog 37 #[.slice (some ⟨b, o, none⟩) n cap] w fun e w' => ∃ v, e = .returned v ∧ Buf w' w.heap.size v L ∧ Below w.heap.size w w' := by
  subst hN
  have hne := Lib.run_eql_slice_nil (P := Tryd.prog) w 22 _ (some ⟨b, o, none⟩) L.length cap 0 0 Tryd.underlying22
  simp only [Option.isNone_some] at hne
  go_enter Tryd.func37, Tryd.ntmps37
  go_wp2_with (at_builtin; refine wpList_append_sl rfl _ _ rfl w.heap.size (.slice (some ⟨w.heap.size, 0, none⟩) 0 0) [] rfl (World.ownsRow_made w _ 0 (Nat.le_refl _) (by unfold maxLen; omega) (by simp)) _ _ L rfl ((SlA.of_has hh hle).only ((Only.refl [] w).alloc _) (by simp)) (by simpa using hlen) (by simp) ?_; intro v' w1 h1 h2)
  go_ret
  refine ⟨v', rfl, by simpa using h1, ?_⟩
  exact (((Only.refl [] w).alloc _).then h2 (by simp [Value.ownBlock])).nil

/-- A new cipher's cells. -/
def cz (r : Int) (i : Nat) : Value := if i = 752 then .int .i64 r else .int .u8 0
theorem cz_zero (r : Int) {i : Nat} (h : i ≠ 752) : cz r i = .int .u8 ((0 : Nat) : Int) := by unfold cz; rw [if_neg h]; rfl
theorem cz_rounds (r : Int) : cz r 752 = .int .i64 r := rfl
theorem build_cipher (r : Int) (w : World) : (Instr.build 72 #[(3, .int .i64 r)]).run Tryd.prog w = .ok (.agg (rowV 753 (cz r))) w := by kernel_rfl

/-- What New holds while it makes the round keys. -/
structure New0 (w wr : World) (cb n : Nat) : Prop where
  only : Only [] w wr
  le : w.heap.size ≤ cb
  lt : cb < wr.heap.size
  s : Has wr cb 0 256 (by8 sBox)
  back : Has wr cb 256 256 (by8 sBack)
  keys : Has wr cb 512 240 (by8 fun _ => 0)
  rounds : wr.cell? ⟨cb, 752, none⟩ = some (.int .i64 ((n : Int) / 4 + 6))
  loose : Loose wr cb 512 240
theorem New0.step {w wr w2 : World} {cb n : Nat} (h : New0 w wr cb n) {S : List Nat} (ho : Only S wr w2) (hS : ∀ x, x ∈ S → cb < x) : New0 w w2 cb n :=
  have hn : cb ∉ S := fun e => Nat.lt_irrefl _ (hS _ e)
  ⟨h.only.then ho (fun x hx hlt => by have := hS x hx; have := h.le; omega), h.le, Nat.lt_of_lt_of_le h.lt ho.size, ho.has h.s hn, ho.has h.back hn, ho.has h.keys hn, ho.cell h.rounds hn, ho.loose h.loose h.lt hn⟩

theorem new_any (b o cap n : Nat) (L : List Nat) (w : World) (hN : L.length = n) (hn : n = 16 ∨ n = 32) (hL : By L) (hh : Has w b o n (byG L)) (hle : n ≤ cap) :
    Calls Tryd.prog 20 #[.slice (some ⟨b, o, none⟩) n cap] w fun e w' => ∃ c, e = .returned (.pointer (some ⟨c, 0, none⟩)) ∧ w.heap.size ≤ c ∧ CipherAt w' c sBox sBack (keyF sBox L) (n / 4 + 6) ∧ Below w.heap.size w w' := by
  have hn0 : 16 ≤ n := by omega
  have hn1 : n ≤ 32 := by omega
  have HN : Hid (L.length = n) := hN
  have Hn : Hid (n = 16 ∨ n = 32) := hn
  have hb : b < w.heap.size := hh.lt (by omega)
  clear hN
  go_enter Tryd.func20, Tryd.ntmps20
  go_upto_region 1 with fail
  go_cut [18] from 11 to 17 (fun s18 wx => s18 = .bool false ∧ w = wx)
  case first =>
    by_cases e : n = 16
    · have t16 : ((n : Int) != 16) = false := by rw [e]; rfl
      clear e hn
      go_wp2
      go_meet
      case rel => exact ⟨rfl, rfl⟩
    · have t16 : ((n : Int) != 16) = true := by simp; omega
      have t32 : ((n : Int) != 32) = false := by simp; omega
      clear e hn
      go_wp2
      go_meet
      case rel => exact ⟨rfl, rfl⟩
  case rest =>
    obtain ⟨rfl, rfl⟩ := hcut
    clear hn
    obtain ⟨C, hC⟩ : ∃ C, C = rowV 753 (cz ((n : Int) / 4 + 6)) := ⟨_, rfl⟩
    have HC : Hid (C = rowV 753 (cz ((n : Int) / 4 + 6))) := hC
    clear hC
    go_upto_region 4 with (refine wpList_build1 rfl 72 3 _ rfl (.int .i64 ((n : Int) / 4 + 6)) (.agg C) rfl (by rw [HC.out]; exact build_cipher ((n : Int) / 4 + 6) _) ?_)
    obtain ⟨cb, hcb⟩ : ∃ cb, cb = w.heap.size := ⟨_, rfl⟩
    obtain ⟨W, hW⟩ : ∃ W, W = w.alloc (.cells C 72) := ⟨_, rfl⟩
    have hC0 : Has W cb 0 753 (cz ((n : Int) / 4 + 6)) := by rw [hW]; exact Has.new_at hcb HC.out
    have hC1 : Loose W cb 0 753 := by rw [hW]; exact Loose.new_at hcb
    have hWo : Only [] w W := by rw [hW]; exact (Only.refl _ _).alloc _
    have hWs : W.heap.size = cb + 1 := by rw [hW, hcb]; simp
    rw [← hW, ← hcb]
    clear hW
    have HW : Hid (Has W cb 0 753 (cz ((n : Int) / 4 + 6)) ∧ Loose W cb 0 753 ∧ Only [] w W) := ⟨hC0, hC1, hWo⟩
    have HH : Hid (Has w b o n (byG L)) := hh
    have hbc : b ≠ cb := by omega
    have Hcb : Hid (cb = w.heap.size) := hcb
    have HWs : Hid (W.heap.size = cb + 1) := hWs
    clear hC0 hC1 hWo hh hcb hWs
    have z0 : Has W cb 0 256 (by8 fun _ => 0) := fun i hi => by rw [HW.out.1 i (by omega), cz_zero _ (by omega)]
    have z1 : Has W cb 256 256 (by8 fun _ => 0) := fun i hi => by
      have := HW.out.1 (256 + i) (by omega)
      rw [cz_zero _ (by omega)] at this
      rwa [show 0 + (256 + i) = 256 + i by omega] at this
    have z2 : ∀ i, i < 240 → W.cell? ⟨cb, 512 + i, none⟩ = some (.int .u8 ((0 : Nat) : Int)) := fun i hi => by
      have := HW.out.1 (512 + i) (by omega)
      rw [cz_zero _ (by omega)] at this
      rwa [show 0 + (512 + i) = 512 + i by omega] at this
    have z3 : W.cell? ⟨cb, 752, none⟩ = some (.int .i64 ((n : Int) / 4 + 6)) := by
      have := HW.out.1 752 (by omega)
      rw [cz_rounds] at this
      exact this
    have HZ : Hid (Has W cb 0 256 (by8 fun _ => 0) ∧ Has W cb 256 256 (by8 fun _ => 0) ∧ Loose W cb 0 512) := ⟨z0, z1, fun i hi => HW.out.2.1 i (by omega)⟩
    have HZ2 : Hid ((∀ i, i < 240 → W.cell? ⟨cb, 512 + i, none⟩ = some (.int .u8 ((0 : Nat) : Int))) ∧ W.cell? ⟨cb, 752, none⟩ = some (.int .i64 ((n : Int) / 4 + 6))) := ⟨z2, z3⟩
    clear z0 z1 z2 z3
    go_wp2_with (first
      | (go_at_call 36; refine (boxes_any cb W HZ.out.1 HZ.out.2.1 HZ.out.2.2).mono ?_; rintro e w2 ⟨rfl, ho, hs, hbk, hrest, hfz⟩
         have HB : Hid (Only [cb] W w2 ∧ Has w2 cb 0 256 (by8 sBox) ∧ Has w2 cb 256 256 (by8 sBack)) := ⟨ho, hs, hbk⟩
         have HB2 : Hid (Has w2 cb 512 240 (by8 fun _ => 0) ∧ w2.cell? ⟨cb, 752, none⟩ = some (.int .i64 ((n : Int) / 4 + 6))) := ⟨fun i hi => by rw [hrest _ (by omega)]; exact HZ2.out.1 i hi, by rw [hrest _ (by omega)]; exact HZ2.out.2⟩
         have HB3 : Hid (Loose w2 cb 512 240) := fun i hi => by
           rw [hfz]
           have := HW.out.2.1 (512 + i) (by omega)
           rwa [show 0 + (512 + i) = 512 + i by omega] at this
         clear ho hs hbk hrest hfz)
      | (go_at_call 37; refine (clone_any b o cap n L _ HN.out (HB.out.1.has (HW.out.2.2.has HH.out (by simp)) (by simpa using hbc)) hle (by omega)).mono ?_; rintro e w3 ⟨v, rfl, hv, hb3⟩
         have HV : Hid (Buf w3 (cb + 1) v L) := hv.base_le (by have := HB.out.1.size; have := HWs.out; omega)
         have HO3 : Hid (Only [] w2 w3) := Only.of_below hb3 []
         clear hv hb3))
    have HNW : Hid (New0 w w3 cb n) := by
      have o3 := HO3.out
      have hlt : cb < w2.heap.size := by have := HB.out.1.size; have := HWs.out; omega
      have ho2 : Only [] w w2 := HW.out.2.2.then HB.out.1 (by have := Hcb.out; simp; omega)
      exact New0.step (w2 := w3) ⟨ho2, by have := Hcb.out; omega, hlt, HB.out.2.1, HB.out.2.2, HB2.out.1, HB2.out.2, HB3.out⟩ o3 (by simp)
    clear HB HB2 HB3 HZ HZ2 HW HC HO3 HWs hbc
    obtain ⟨M, hM⟩ : ∃ M, M = (16 * (n / 4 + 7) - n) / 4 := ⟨_, rfl⟩
    have HM : Hid (M = (16 * (n / 4 + 7) - n) / 4) := hM
    have HL : Hid (By L) := hL
    clear hM hL
    go_loopg [4, 5, 6] M (fun g s4 s5 s6 wr => ∃ m i : Nat, Hid (g + m = M) ∧ Hid (i = n + 4 * m) ∧ s6 = .int .i64 i ∧ s5 = .int .u8 (kst sBox L m).2 ∧ Buf wr (cb + 1) s4 (kst sBox L m).1 ∧ New0 w wr cb n)
    case atStart => exact ⟨0, n, by show _ + _ = _; omega, by show _ = _; omega, rfl, rfl, HV.out, HNW.out⟩
    case round =>
      clear HV HNW
      obtain ⟨m, i, hg, hi, rfl, rfl, hB, hN0⟩ := hrel
      obtain ⟨ws, hws⟩ : ∃ ws, ws = (kst sBox L m).1 := ⟨_, rfl⟩
      obtain ⟨rc, hrc⟩ : ∃ rc, rc = (kst sBox L m).2 := ⟨_, rfl⟩
      rw [← hws] at hB
      rw [← hrc]
      have hlen : ws.length = i := by rw [hws, kst_len, HN.out, hi.out]
      have hwb : By ws := by rw [hws]; exact (kst_by (fun i _ => sBox_lt i) HL.out m).1
      have hrb : rc < 256 := by rw [hrc]; exact (kst_by (fun i _ => sBox_lt i) HL.out m).2
      have Hws : Hid (ws = (kst sBox L m).1 ∧ rc = (kst sBox L m).2 ∧ ws.length = i ∧ By ws) := ⟨hws, hrc, hlen, hwb⟩
      clear hws hrc hwb
      have hM2 := HM.out
      have hg2 := hg.out
      have hi2 := hi.out
      have hnn := Hn.out
      obtain ⟨bg, cp, rfl, hbg, hbl, hcp, hcm, hbh, hbf⟩ := hB.open (by intro e; rw [e] at hlen; simp at hlen; omega)
      have c752 : wr.cell? ⟨cb, 752, none⟩ = some (.int .i64 ((n : Int) / 4 + 6)) := hN0.rounds
      rw [hlen] at hcp hbh hbf ⊢
      by_cases hlt : 0 < gk
      · have t1 : (i : Int) < 16 * ((n : Int) / 4 + 6 + 1) := by omega
        have hi16 : 16 ≤ i := by omega
        have hi240 : i + 4 ≤ 240 := by omega
        have hld : Has wr bg (i - 4) 4 (by8 fun j => ws.getD (i - 4 + j) 0) := fun j hj => by
          have := hbh (i - 4 + j) (by omega)
          rwa [show 0 + (i - 4 + j) = i - 4 + j by omega] at this
        have HLD : Hid (Has wr bg (i - 4) 4 (by8 fun j => ws.getD (i - 4 + j) 0)) := hld
        have HB : Hid (Buf wr (cb + 1) (.slice (some ⟨bg, 0, none⟩) i cp) ws) := by rw [hlen] at hB; exact hB
        have HN0 : Hid (New0 w wr cb n) := hN0
        have q1 : ((i : Int) - 4).toNat = i - 4 := by omega
        have q2 : i - (i - 4) = 4 := by omega
        have q3 : ¬ cp = i - 4 := by omega
        clear hM2 hg2 hi2 hnn hlen hbh hbf hld hB hN0
        have hap := fun (a : Option Addr) (c : Nat) (w : World) => run_arrayAt (P := Tryd.prog) Tryd.underlying73 a 4 c (Nat.le_refl _) w
        go_upto_block 2 with (first
          | refine wpList_load_has rfl 73 _ rfl _ _ 4 _ rfl HLD.out _ Tryd.underlying73 rfl (by kernel_rfl) ?_
          | (refine wpList_store_has rfl 73 _ _ rfl wr.heap.size 0 4 _ (by8 fun _ => 0) rfl rfl (Has.new_at rfl rfl) (Loose.new_at rfl) (by kernel_rfl) (fun _ _ => rfl) ?_; intro w4 h4))
        clear hap q1 q2 q3 c752 t1
        obtain ⟨tb, htb⟩ : ∃ tb, tb = wr.heap.size := ⟨_, rfl⟩
        rw [← htb]
        have h40 : Has w4 tb 0 4 (by8 fun j => ws.getD (i - 4 + j) 0) := by rw [htb]; exact h4.has.congr fun j _ => by simp
        have h41 : Loose w4 tb 0 4 := by rw [htb]; exact h4.loose (Loose.new_at rfl)
        have h42 : New0 w w4 cb n := by
          have o1 : Only [tb] wr w4 := by rw [htb]; exact (((Only.refl [] wr).alloc _).trans h4.only).drop (by simp)
          exact HN0.out.step o1 (by have := HN0.out.lt; simp; omega)
        have h43 : Buf w4 (cb + 1) (.slice (some ⟨bg, 0, none⟩) i cp) ws := by
          have o1 : Only [tb] wr w4 := by rw [htb]; exact (((Only.refl [] wr).alloc _).trans h4.only).drop (by simp)
          exact HB.out.only o1 (by simp [Value.ownBlock]; omega)
        have H4 : Hid (Has w4 tb 0 4 (by8 fun j => ws.getD (i - 4 + j) 0) ∧ Loose w4 tb 0 4 ∧ New0 w w4 cb n ∧ Buf w4 (cb + 1) (.slice (some ⟨bg, 0, none⟩) i cp) ws) := ⟨h40, h41, h42, h43⟩
        have hct : cb < tb := by have := HN0.out.lt; omega
        have hbt : bg ≠ tb := by omega
        have hbb : cb < bg := by omega
        clear h40 h41 h42 h43 h4 htb HLD HB HN0 hbl hbg
        obtain ⟨t0, ht0⟩ : ∃ t0, t0 = ws.getD (i - 4) 0 := ⟨_, rfl⟩
        obtain ⟨t1, ht1⟩ : ∃ t1, t1 = ws.getD (i - 4 + 1) 0 := ⟨_, rfl⟩
        obtain ⟨t2, ht2⟩ : ∃ t2, t2 = ws.getD (i - 4 + 2) 0 := ⟨_, rfl⟩
        obtain ⟨t3, ht3⟩ : ∃ t3, t3 = ws.getD (i - 4 + 3) 0 := ⟨_, rfl⟩
        have l0 : t0 < 256 := by rw [ht0]; exact Hws.out.2.2.2.getD _
        have l1 : t1 < 256 := by rw [ht1]; exact Hws.out.2.2.2.getD _
        have l2 : t2 < 256 := by rw [ht2]; exact Hws.out.2.2.2.getD _
        have l3 : t3 < 256 := by rw [ht3]; exact Hws.out.2.2.2.getD _
        have d0 : w4.cell? ⟨tb, 0, none⟩ = some (.int .u8 t0) := by rw [ht0]; exact H4.out.1.get0 (by omega)
        have d1 : w4.cell? ⟨tb, 1, none⟩ = some (.int .u8 t1) := by rw [ht1]; exact H4.out.1.get0 (by omega)
        have d2 : w4.cell? ⟨tb, 2, none⟩ = some (.int .u8 t2) := by rw [ht2]; exact H4.out.1.get0 (by omega)
        have d3 : w4.cell? ⟨tb, 3, none⟩ = some (.int .u8 t3) := by rw [ht3]; exact H4.out.1.get0 (by omega)
        have f0 : w4.cell? ⟨cb, t0, none⟩ = some (.int .u8 (sBox t0)) := H4.out.2.2.1.s.get0 l0
        have f1 : w4.cell? ⟨cb, t1, none⟩ = some (.int .u8 (sBox t1)) := H4.out.2.2.1.s.get0 l1
        have f2 : w4.cell? ⟨cb, t2, none⟩ = some (.int .u8 (sBox t2)) := H4.out.2.2.1.s.get0 l2
        have f3 : w4.cell? ⟨cb, t3, none⟩ = some (.int .u8 (sBox t3)) := H4.out.2.2.1.s.get0 l3
        have g0 : (t0 : Int) < 256 := by omega
        have g1 : (t1 : Int) < 256 := by omega
        have g2 : (t2 : Int) < 256 := by omega
        have g3 : (t3 : Int) < 256 := by omega
        have HT : Hid (t0 = ws.getD (ws.length - 4) 0 ∧ t1 = ws.getD (ws.length - 4 + 1) 0 ∧ t2 = ws.getD (ws.length - 4 + 2) 0 ∧ t3 = ws.getD (ws.length - 4 + 3) 0) := by rw [Hws.out.2.2.1]; exact ⟨ht0, ht1, ht2, ht3⟩
        clear ht0 ht1 ht2 ht3
        have x1 := x8 (sBox_lt t1) hrb
        go_cut [5] from 31 to 136 (fun s5 wx => s5 = .int .u8 (krc n ws rc) ∧ Has wx tb 0 4 (by8 (kmid sBox n ws rc)) ∧ Only [tb] w4 wx)
        case first =>
          by_cases hA : i % n = 0
          · have e1 : ((i : Int) % (n : Int) == 0) = true := by
              have : ((i % n : Nat) : Int) = (i : Int) % n := Int.natCast_emod i n
              rw [← this, hA]; rfl
            have HA : Hid (kmid sBox n ws rc 0 = sBox t1 ^^^ rc ∧ kmid sBox n ws rc 1 = sBox t2 ∧ kmid sBox n ws rc 2 = sBox t3 ∧ kmid sBox n ws rc 3 = sBox t0) := kmid_a (by rw [Hws.out.2.2.1]; exact hA) HT.out.1 HT.out.2.1 HT.out.2.2.1 HT.out.2.2.2
            have HR : Hid (krc n ws rc = dbl rc) := by show krc n ws rc = _; unfold krc; rw [Hws.out.2.2.1, if_pos hA]
            have HROW : Hid (rowV 4 (by8 (kmid sBox n ws rc)) = #[.int .u8 ((sBox t1 ^^^ rc : Nat) : Int), .int .u8 ((sBox t2 : Nat) : Int), .int .u8 ((sBox t3 : Nat) : Int), .int .u8 ((sBox t0 : Nat) : Int)]) := by
              show rowV 4 _ = _
              rw [rowV4]
              simp only [by8, HA.out.1, HA.out.2.1, HA.out.2.2.1, HA.out.2.2.2]
            clear hA
            go_wp2
            go_still_tail 31, (by kernel_rfl)
            change wpList _ _ _ _ _ w4.drew
            go_wp2_with (first
              | (refine wpList_store_has rfl 73 _ _ rfl tb 0 4 (by8 (kmid sBox n ws rc)) _ rfl (by rw [HROW.out]; rfl) H4.out.1 H4.out.2.1 (by kernel_rfl) (fun _ _ => rfl) ?_; intro w5 h5
                 have H5 : Hid (Put w4.drew w5 tb 0 4 (by8 (kmid sBox n ws rc))) := h5
                 clear h5)
              | (go_at_call 38; refine (double_any _ hrb _).mono ?_; rintro e w' ⟨rfl, rfl⟩))
            go_meet
            case rel => exact ⟨by rw [HR.out], H5.out.has, (Only.refl _ _).drew.then H5.out.only (by simp)⟩
          · have e1 : ((i : Int) % (n : Int) == 0) = false := by
              have : ((i % n : Nat) : Int) = (i : Int) % n := Int.natCast_emod i n
              rw [← this]; simp; omega
            have HR : Hid (krc n ws rc = rc) := by show krc n ws rc = _; unfold krc; rw [Hws.out.2.2.1, if_neg hA]
            by_cases hB : i % n = 16
            · have e2 : ((i : Int) % (n : Int) == 16) = true := by
                have : ((i % n : Nat) : Int) = (i : Int) % n := Int.natCast_emod i n
                rw [← this, hB]; rfl
              have HA : Hid (kmid sBox n ws rc 0 = sBox t0 ∧ kmid sBox n ws rc 1 = sBox t1 ∧ kmid sBox n ws rc 2 = sBox t2 ∧ kmid sBox n ws rc 3 = sBox t3) := kmid_b (by rw [Hws.out.2.2.1]; exact hA) (by rw [Hws.out.2.2.1]; exact hB) HT.out.1 HT.out.2.1 HT.out.2.2.1 HT.out.2.2.2
              have HROW : Hid (rowV 4 (by8 (kmid sBox n ws rc)) = #[.int .u8 ((sBox t0 : Nat) : Int), .int .u8 ((sBox t1 : Nat) : Int), .int .u8 ((sBox t2 : Nat) : Int), .int .u8 ((sBox t3 : Nat) : Int)]) := by
                show rowV 4 _ = _
                rw [rowV4]
                simp only [by8, HA.out.1, HA.out.2.1, HA.out.2.2.1, HA.out.2.2.2]
              clear hA hB
              go_wp2
              go_still_tail 29, (by kernel_rfl)
              change wpList _ _ _ _ _ w4.drew
              go_wp2_with (first
                | (refine wpList_store_has rfl 73 _ _ rfl tb 0 4 (by8 (kmid sBox n ws rc)) _ rfl (by rw [HROW.out]; rfl) H4.out.1 H4.out.2.1 (by kernel_rfl) (fun _ _ => rfl) ?_; intro w5 h5
                   have H5 : Hid (Put w4.drew w5 tb 0 4 (by8 (kmid sBox n ws rc))) := h5
                   clear h5))
              go_meet
              case rel => exact ⟨by rw [HR.out], H5.out.has, (Only.refl _ _).drew.then H5.out.only (by simp)⟩
            · have e2 : ((i : Int) % (n : Int) == 16) = false := by
                have : ((i % n : Nat) : Int) = (i : Int) % n := Int.natCast_emod i n
                rw [← this]; simp; omega
              have HK : Hid (Has w4 tb 0 4 (by8 (kmid sBox n ws rc))) := H4.out.1.congr fun j _ => by
                show Value.int .u8 _ = Value.int .u8 _
                rw [kmid_c (by rw [Hws.out.2.2.1]; exact hA) (by rw [Hws.out.2.2.1]; exact hB), Hws.out.2.2.1]
              clear hA hB
              go_wp2
              go_meet
              case rel => exact ⟨by rw [HR.out], HK.out, Only.refl _ _⟩
        case rest =>
          obtain ⟨rfl, h5, o5⟩ := hcut
          obtain ⟨gO, hgO⟩ : ∃ gO, gO = gk := ⟨_, rfl⟩
          subst hgO
          have HN5 : Hid (New0 w wc cb n) := H4.out.2.2.1.step o5 (by simp; omega)
          have HB5 : Hid (Buf wc (cb + 1) (.slice (some ⟨bg, 0, none⟩) i cp) ws) := H4.out.2.2.2.only o5 (by simp [Value.ownBlock]; omega)
          have H5 : Hid (Has wc tb 0 4 (by8 (kmid sBox n ws rc))) := h5
          have hin : n ≤ i := by have := hi.out; omega
          clear h5 o5 H4 d0 d1 d2 d3 f0 f1 f2 f3 g0 g1 g2 g3 HT l0 l1 l2 l3 x1
          go_wp2_with (refine wpList_load_has rfl 73 _ rfl _ _ 4 _ rfl H5.out _ Tryd.underlying73 rfl (by kernel_rfl) ?_)
          go_loopg [4, 118] 4 (fun g s4 s118 wi => ∃ k : Nat, Hid (g + k = 4) ∧ s118 = .int .i64 k ∧ Buf wi (cb + 1) s4 (kpart sBox n ws rc k) ∧ New0 w wi cb n)
          case atStart => exact ⟨0, rfl, rfl, HB5.out, HN5.out⟩
          case round =>
            clear HB5 HN5 H5
            obtain ⟨k, hk, rfl, hBk, hNk⟩ := hrel
            obtain ⟨P, hP⟩ : ∃ P, P = kpart sBox n ws rc k := ⟨_, rfl⟩
            rw [← hP] at hBk
            have hPl : P.length = i + k := by rw [hP, kpart_len, Hws.out.2.2.1]
            have hPb : By P := by rw [hP]; exact kpart_by (fun i _ => sBox_lt i) Hws.out.2.2.2 hrb k
            have hkk := hk.out
            obtain ⟨bh, ch, rfl, hbg2, hbl2, hcp2, hcm2, hbh2, _⟩ := hBk.open (by intro e; rw [e] at hPl; simp at hPl; omega)
            have HP : Hid (P = kpart sBox n ws rc k ∧ P.length = i + k) := ⟨hP, hPl⟩
            have HBk : Hid (Buf wr (cb + 1) (.slice (some ⟨bh, 0, none⟩) (i + k) ch) P) := by rw [hPl] at hBk; exact hBk
            have HNk : Hid (New0 w wr cb n) := hNk
            rw [hPl] at hcp2 hbh2
            rw [hPl]
            by_cases hk4 : k < 4
            · obtain ⟨x, hx⟩ : ∃ x, x = P.getD (i + k - n) 0 := ⟨_, rfl⟩
              obtain ⟨y, hy⟩ : ∃ y, y = kmid sBox n ws rc k := ⟨_, rfl⟩
              have hxl : x < 256 := by rw [hx]; exact hPb.getD _
              have hyl : y < 256 := by rw [hy]; exact kmid_lt (fun i _ => sBox_lt i) Hws.out.2.2.2 hrb k
              have c1 : wr.cell? ⟨bh, i + k - n, none⟩ = some (.int .u8 x) := by
                rw [hx]; exact hbh2.get0 (by omega)
              have c2 : ∀ w, (Instr.index 73 (.agg (rowV 4 (by8 (kmid sBox n ws rc)))) (.int .i64 k)).run Tryd.prog w = .ok (.int .u8 y) w := fun w => by
                rw [hy]; exact run_index_row _ 5 4 _ _ Tryd.underlying73 Tryd.underlying5 rfl (by kernel_rfl) _ _ hk4 w
              have hx8 := x8 hxl hyl
              have q0 : (k : Int) < 4 := by omega
              have q1 : ((i : Int) + (k : Int) - (n : Int)).toNat = i + k - n := by omega
              have HX : Hid (x = P.getD (i + k - n) 0 ∧ y = kmid sBox n ws rc k) := ⟨hx, hy⟩
              clear hx hy hP hPl hPb hkk hBk hNk hbh2
              go_wp2_with (at_builtin; refine wpList_append_sl rfl _ _ rfl (cb + 1) (.slice (some ⟨bh, 0, none⟩) (i + k) ch) P rfl (HBk.out.alloc _) (some ⟨wr.heap.size, 0, none⟩) 1 [x ^^^ y] rfl (SlA.of_has (Has.new_at rfl rfl) (Nat.le_refl _)) (by rw [HP.out.2]; simp; omega) (by simp; omega) ?_; intro v' w6 hb6 ho6; have H6 : Hid (Buf w6 (cb + 1) v' (P ++ [x ^^^ y]) ∧ Only [bh] (wr.alloc (.cells #[.int .u8 ((x ^^^ y : Nat) : Int)] 5)) w6) := ⟨hb6, ho6⟩; clear hb6 ho6)
              have hN6 : New0 w w6 cb n := HNk.out.step (((Only.refl [bh] wr).alloc _).then H6.out.2 (by simp)) (by simp; omega)
              have hB6 : Buf w6 (cb + 1) v' (kpart sBox n ws rc (k + 1)) := by
                have := H6.out.1
                rw [HX.out.1, HX.out.2, HP.out.1] at this
                rw [show i + k - n = ws.length + k - n by rw [Hws.out.2.2.1]] at this
                exact this
              go_roundg (gk - 1)
              case rel => exact ⟨k + 1, by have := hk.out; show _ + _ = _; omega, by go_num, hB6, hN6⟩
              case measure => have := hk.out; omega
            · have hk44 : k = 4 := by omega
              have HE : Hid (Buf wr (cb + 1) (.slice (some ⟨bh, 0, none⟩) (i + 4) ch) (kst sBox L (m + 1)).1 ∧ krc n ws rc = (kst sBox L (m + 1)).2 ∧ New0 w wr cb n) := by
                subst hk44
                refine ⟨?_, ?_, HNk.out⟩
                · have := HBk.out
                  rw [HP.out.1, Hws.out.1, Hws.out.2.1, ← HN.out] at this
                  exact this
                · rw [Hws.out.1, Hws.out.2.1, ← HN.out]; rfl
              have q0 : ¬ (k : Int) < 4 := by omega
              have hk0 : i + k = i + 4 := by omega
              rw [hk0]
              clear hk44 hk0 hP hPl hPb hkk hBk hNk hbh2 HP HBk HNk
              go_wp2
              have hg1 := hg.out
              have hi1 := hi.out
              go_roundg (gO - 1)
              case rel => exact ⟨m + 1, i + 4, by show _ + _ = _; omega, by show _ = _; omega, by go_num, by rw [HE.out.2.1], HE.out.1, HE.out.2.2⟩
              case measure => omega
      · have t1 : ¬ (i : Int) < 16 * ((n : Int) / 4 + 6 + 1) := by omega
        have hmM : m = M := by omega
        obtain ⟨wo, hwo⟩ : ∃ wo : World, wo = wr := ⟨_, rfl⟩
        subst hwo
        have HB : Hid (Buf wo (cb + 1) (.slice (some ⟨bg, 0, none⟩) i cp) ws ∧ Has wo bg 0 i (byG ws)) := by rw [hlen] at hB; exact ⟨hB, hbh⟩
        have HN0 : Hid (New0 w wo cb n) := hN0
        have HF : Hid (∀ j, ws.getD j 0 = keyF sBox L j) := fun j => by
          unfold keyF; rw [HN.out, ← HM.out, Hws.out.1, hmM]
        have hi240 : i ≤ 240 := by omega
        have hbb : bg ≠ cb := by omega
        clear hM2 hg2 hi2 hnn hlen hbh hbf hB hN0 hmM
        go_wp2
        clear t1 c752
        go_loopg [139] i (fun g s wi => ∃ j : Nat, Hid (g + j = i) ∧ s = .int .i64 j ∧ Put wo wi cb 512 j (by8 fun x => ws.getD x 0))
        case atStart => exact ⟨0, rfl, rfl, Put.refl _ _ _ _⟩
        case round =>
          obtain ⟨j, hj, rfl, hP⟩ := hrel
          have hj2 := hj.out
          by_cases hji : j < i
          · obtain ⟨x, hx⟩ : ∃ x, x = ws.getD j 0 := ⟨_, rfl⟩
            have c1 : wr.cell? ⟨bg, j, none⟩ = some (.int .u8 x) := by rw [hx]; exact hP.only.cell (HB.out.2.get0 hji) (by simpa using hbb)
            have ha : 512 + j / 16 * 16 + j % 16 = 512 + j := by omega
            have c2 : wr.cell? ⟨cb, 512 + j / 16 * 16 + j % 16, none⟩ = some (.int .u8 ((0 : Nat) : Int)) := by rw [ha]; exact hP.old (by omega) (HN0.out.keys j (by omega))
            have c3 : wr.frozen? ⟨cb, 512 + j / 16 * 16 + j % 16, none⟩ = false := by rw [ha]; exact hP.loose HN0.out.loose j (by omega)
            have q0 : (j : Int) < i := by omega
            have q1 : (j : Int).tdiv 16 = (j : Int) / 16 := Int.tdiv_eq_ediv_of_nonneg (by omega)
            have q2 : (j : Int).tmod 16 = (j : Int) % 16 := Int.tmod_eq_emod_of_nonneg (by omega)
            have q9 : IntKind.i64.wrap ((j : Int) / 16) = (j : Int) / 16 := i64w (by omega) (by omega)
            have q3 : (j : Int) / 16 < 15 := by omega
            have q4 : 0 ≤ (j : Int) / 16 := by omega
            have q5 : (j : Int) % 16 < 16 := by omega
            have q6 : 0 ≤ (j : Int) % 16 := by omega
            have q7 : ((j : Int) / 16).toNat = j / 16 := by omega
            have q8 : ((j : Int) % 16).toNat = j % 16 := by omega
            have HX : Hid (x = ws.getD j 0 ∧ 512 + j / 16 * 16 + j % 16 = 512 + j) := ⟨hx, ha⟩
            have HP : Hid (Put wo wr cb 512 j (by8 fun x => ws.getD x 0)) := hP
            clear hx ha hj2 hP
            go_wp2
            go_still_tail 13, (by kernel_rfl)
            change wpList _ _ _ _ _ wr.drew
            go_wp2
            have hst := (HP.out.step (v := .int .u8 x) (by rw [← HX.out.2]; exact c2) (by rw [HX.out.1])).drew
            rw [← HX.out.2] at hst
            go_roundg (gk - 1)
            case rel => exact ⟨j + 1, by have := hj.out; show _ + _ = _; omega, by go_num, hst⟩
            case measure => have := hj.out; omega
          · obtain rfl : j = i := by omega
            have q0 : ¬ (j : Int) < j := by omega
            have HC : Hid (CipherAt wr cb sBox sBack (keyF sBox L) (n / 4 + 6) ∧ Below w.heap.size w wr) := by
              have hN2 := HN0.out
              refine ⟨⟨fun k hk => hP.old (by omega) (hN2.s k hk), fun k hk => hP.old (by omega) (hN2.back k hk), fun k hk => ?_, ?_⟩, (hN2.only.then hP.only (by have := hN2.le; simp; omega)).nil⟩
              · by_cases hkj : k < j
                · have := hP.has k hkj
                  rw [this]
                  show some (Value.int .u8 ((ws.getD k 0 : Nat) : Int)) = some (Value.int .u8 _)
                  rw [HF.out]
                · rw [hP.old (by omega) (hN2.keys k hk)]
                  show some (Value.int .u8 _) = some (Value.int .u8 _)
                  rw [← HF.out, List.getD_eq_getElem?_getD, List.getElem?_eq_none (by have := Hws.out.2.2.1; omega)]
                  rfl
              · rw [hP.old (by omega) hN2.rounds]
                congr 2
            have hle2 : w.heap.size ≤ cb := HN0.out.le
            clear hP hj2
            go_wp2
            go_ret
            exact ⟨cb, rfl, hle2, HC.out.1, HC.out.2⟩

end Go.Proofs.YtpkpkfjpnkbkbaaDoor
