/- The walk of aes.Decrypt. -/
import Derived.Test.YtpkpkfjpnkbkbaaDoorAes3
namespace Go.Proofs.YtpkpkfjpnkbkbaaDoor
open Go.RowKit
set_option maxHeartbeats 4000000
set_option maxRecDepth 100000

theorem decrypt_any (c : Nat) (S S' K B : Nat → Nat) (R : Nat) (w : World) (hC : CipherAt w c S S' K R) (hR : R ≤ 14)
    (hS : ∀ i, i < 256 → S' i < 256) (hK : ∀ i, i < 240 → K i < 256) (hB : ∀ i, i < 16 → B i < 256) :
    Calls Tryd.prog 42 #[.pointer (some ⟨c, 0, none⟩), .agg (rowV 16 (by8 B))] w fun e w' => e = .returned (.agg (rowV 16 (by8 (decF S' K R B)))) ∧ Below w.heap.size w w' := by
  have hR' : w.cell? ⟨c, 752, none⟩ = some (.int .i64 R) := hC.rounds
  have hcl := hC.lt
  go_enter Tryd.func42, Tryd.ntmps42
  go_wp2
  rw [zero16]
  obtain ⟨W0, hW0⟩ : ∃ W0, W0 = (w.alloc (.cells (rowV 16 (by8 B)) 35)).alloc (.cells (rowV 16 (by8 fun _ => 0)) 35) := ⟨_, rfl⟩
  have hO : Only [] w W0 := by rw [hW0]; exact ((Only.refl [] w).alloc _).alloc _
  have hsz : w.heap.size + 2 ≤ W0.heap.size := by rw [hW0]; simp
  have hb1 : Has W0 w.heap.size 0 16 (by8 B) := by rw [hW0]; exact (Has.new_at rfl rfl).alloc _
  have hr1 : Has W0 (w.heap.size + 1) 0 16 (by8 fun _ => 0) := by rw [hW0]; exact Has.new_at (by simp) rfl
  have hl1 : Loose W0 w.heap.size 0 16 := by rw [hW0]; exact (Loose.new_at rfl).alloc (by simp) _
  have hl2 : Loose W0 (w.heap.size + 1) 0 16 := by rw [hW0]; exact Loose.new_at (by simp)
  rw [← hW0]
  clear hW0
  go_loopw [5] (fun i wr => ∃ r : Nat, r ≤ R ∧ i = .int .i64 r ∧ Only [] w wr ∧ w.heap.size + 2 ≤ wr.heap.size ∧ Has wr w.heap.size 0 16 (by8 (decSt S' K R B (R - r))) ∧ Loose wr w.heap.size 0 16
     ∧ Has wr (w.heap.size + 1) 0 16 (by8 fun _ => 0) ∧ Loose wr (w.heap.size + 1) 0 16) (fun i _ => (intOf i).toNat)
  case atStart => exact ⟨R, by omega, rfl, hO, hsz, by rw [Nat.sub_self]; exact hb1, hl1, hr1, hl2⟩
  case round =>
    clear hO hsz hb1 hl1 hr1 hl2 hR'
    obtain ⟨wo, rfl⟩ : ∃ wo : World, wo = wr := ⟨_, rfl⟩
    obtain ⟨r, hr, rfl, hO, hsz, hb1, hl1, hr1, hl2⟩ := hrel
    have hC1 := hC.only hO (by simp)
    have hR' : wo.cell? ⟨c, 752, none⟩ = some (.int .i64 R) := hC1.rounds
    have hB1 := decSt_lt (R := R) hS hK hB hR (R - r)
    by_cases h0 : 0 < r
    · have hrk : (0 : Int) < (r : Int) := by omega
      have H1 : Hid (Only [] w wo ∧ Has wo w.heap.size 0 16 (by8 (decSt S' K R B (R - r))) ∧ Loose wo w.heap.size 0 16 ∧ Has wo (w.heap.size + 1) 0 16 (by8 fun _ => 0) ∧ Loose wo (w.heap.size + 1) 0 16 ∧ CipherAt wo c S S' K R) := ⟨hO, hb1, hl1, hr1, hl2, hC1⟩
      have H2 : Hid ((∀ i, i < 256 → S' i < 256) ∧ (∀ i, i < 240 → K i < 256) ∧ (∀ i, i < 16 → B i < 256) ∧ ∀ i, i < 16 → decSt S' K R B (R - r) i < 256) := ⟨hS, hK, hB, hB1⟩
      have HY : Hid (∀ i, i < 16 → decY K R (decSt S' K R B (R - r)) r i < 256) := decY_lt hK hB1 (by omega)
      have HX : Hid (∀ i, i < 16 → x2 (decSt S' K R B (R - r)) (fun i => K (16 * r + i)) i < 256) := fun i hi => xor_lt8 (hB1 i hi) (hK _ (by omega))
      clear hO hb1 hl1 hr1 hl2 hC1 hC hS hK hB hB1
      by_cases hl : r < R
      case' pos =>
        have hrl : (r : Int) < (R : Int) := by omega
        have HD : Hid (decY K R (decSt S' K R B (R - r)) r = mix3 (x2 (decSt S' K R B (R - r)) (fun i => K (16 * r + i))) 3) := if_pos hl
        go_wp2_with (first
          | (go_at_call 47; refine (xor_any _ _ _ _ (decSt S' K R B (R - r)) (fun i => K (16 * r + i)) _ H1.out.2.1 H1.out.2.2.1 (H1.out.2.2.2.2.2.key r (by omega)) H2.out.2.2.2 (fun i hi => H2.out.2.1 _ (by omega)) (by omega)).mono ?_; rintro e w2 ⟨rfl, h2⟩
             have hR2 : w2.cell? ⟨c, 752, none⟩ = some (.int .i64 R) := h2.only.cell hR' (by simp; omega))
          | (go_at_call 51; refine (unmix_any _ _ _ _ h2.has (h2.loose H1.out.2.2.1) HX.out).mono ?_; rintro e w3 ⟨rfl, h3⟩
             have HP : Hid (Put wo w3 w.heap.size 0 16 (by8 (decY K R (decSt S' K R B (R - r)) r))) := by have := h2.put h3; rwa [← HD.out] at this
             clear h2 h3))
      case' neg =>
        have hrl : ¬ (r : Int) < (R : Int) := by omega
        have HD : Hid (decY K R (decSt S' K R B (R - r)) r = x2 (decSt S' K R B (R - r)) (fun i => K (16 * r + i))) := if_neg hl
        go_wp2_with (first
          | (go_at_call 47; refine (xor_any _ _ _ _ (decSt S' K R B (R - r)) (fun i => K (16 * r + i)) _ H1.out.2.1 H1.out.2.2.1 (H1.out.2.2.2.2.2.key r (by omega)) H2.out.2.2.2 (fun i hi => H2.out.2.1 _ (by omega)) (by omega)).mono ?_; rintro e w3 ⟨rfl, h2⟩
             have hR2 : w3.cell? ⟨c, 752, none⟩ = some (.int .i64 R) := h2.only.cell hR' (by simp; omega)
             have HP : Hid (Put wo w3 w.heap.size 0 16 (by8 (decY K R (decSt S' K R B (R - r)) r))) := by rwa [← HD.out] at h2
             clear h2))
      all_goals
        clear hrl hR2 hR' HX
        rw [zero16]
        have HD' := HD
        clear HD HD'
        have hT0 : Has (w3.alloc (.cells (rowV 16 (by8 fun _ => 0)) 35)) w3.heap.size 0 16 (by8 fun _ => 0) := Has.new_at rfl rfl
        have hL0 : Loose (w3.alloc (.cells (rowV 16 (by8 fun _ => 0)) 35)) w3.heap.size 0 16 := Loose.new_at rfl
        obtain ⟨W, hW⟩ : ∃ W, W = w3.alloc (.cells (rowV 16 (by8 fun _ => 0)) 35) := ⟨_, rfl⟩
        obtain ⟨tb, htb⟩ : ∃ tb, tb = w3.heap.size := ⟨_, rfl⟩
        have hWr : Only [w.heap.size] wo W := by rw [hW]; exact HP.out.only.alloc _
        have hbb : Has W w.heap.size 0 16 (by8 (decY K R (decSt S' K R B (R - r)) r)) := by rw [hW]; exact HP.out.has.alloc _
        have hbl : Loose W w.heap.size 0 16 := by rw [hW]; exact (HP.out.loose H1.out.2.2.1).alloc (by have := HP.out.only.size; omega) _
        have hts : wo.heap.size ≤ tb := by have := HP.out.only.size; omega
        rw [← hW, ← htb] at hT0 hL0
        rw [← hW, ← htb]
        clear hW htb HP
        have hcW : c ≠ tb := by omega
        have hbt : w.heap.size ≠ tb := by omega
        have hcb : c ≠ w.heap.size := by omega
        have H3 : Hid (Has W tb 0 16 (by8 fun _ => 0) ∧ Loose W tb 0 16 ∧ Only [w.heap.size] wo W ∧ Has W w.heap.size 0 16 (by8 (decY K R (decSt S' K R B (R - r)) r)) ∧ Loose W w.heap.size 0 16) := ⟨hT0, hL0, hWr, hbb, hbl⟩
        clear hT0 hL0 hWr hbb hbl
        go_loopw [29] (fun s wi => ∃ k : Nat, k ≤ 16 ∧ s = .int .i64 k ∧ Put W wi tb 0 16 (by8 (scat S' (decY K R (decSt S' K R B (R - r)) r) k))) (fun s _ => 16 - (intOf s).toNat)
        case atStart => exact ⟨0, by omega, rfl, Put.of_has H3.out.1⟩
        case round =>
          obtain ⟨k, hk, rfl, hP⟩ := hrel
          by_cases hk16 : k < 16
          · obtain ⟨x, hx⟩ : ∃ x, x = decY K R (decSt S' K R B (R - r)) r k := ⟨_, rfl⟩
            have hxl : x < 256 := by rw [hx]; exact HY.out k hk16
            have hWi : Only [w.heap.size, tb] wo wr := (H3.out.2.2.1.trans hP.only).drop (by simp)
            have f1 : wr.cell? ⟨w.heap.size, k, none⟩ = some (.int .u8 x) := by
              rw [hx]; exact hP.only.cell (H3.out.2.2.2.1.get0 hk16) (by simpa using hbt)
            have f2 : wr.cell? ⟨c, 256 + x, none⟩ = some (.int .u8 (S' x)) := hWi.cell (H1.out.2.2.2.2.2.back x hxl) (by simp; omega)
            have f3 : wr.cell? ⟨tb, (k + 4 * (k % 4)) % 16, none⟩ = some (.int .u8 (scat S' (decY K R (decSt S' K R B (R - r)) r) k ((k + 4 * (k % 4)) % 16))) := hP.has.get0 (by omega)
            have f4 : wr.frozen? ⟨tb, (k + 4 * (k % 4)) % 16, none⟩ = false := by have := hP.loose H3.out.2.1 ((k + 4 * (k % 4)) % 16) (by omega); simpa using this
            have e0 : (k : Int) < 16 := by omega
            have e1 : (k : Int).tmod 4 = (k : Int) % 4 := Int.tmod_eq_emod_of_nonneg (by omega)
            have e2 : IntKind.i64.wrap (4 * ((k : Int) % 4)) = 4 * ((k : Int) % 4) := i64w (by omega) (by omega)
            have e3 : IntKind.i64.wrap ((k : Int) + 4 * ((k : Int) % 4)) = (k : Int) + 4 * ((k : Int) % 4) := i64w (by omega) (by omega)
            have e4 : ((k : Int) + 4 * ((k : Int) % 4)).tmod 16 = ((k : Int) + 4 * ((k : Int) % 4)) % 16 := Int.tmod_eq_emod_of_nonneg (by omega)
            have e5 : 0 ≤ ((k : Int) + 4 * ((k : Int) % 4)) % 16 := by omega
            have e6 : ((k : Int) + 4 * ((k : Int) % 4)) % 16 < 16 := by omega
            have e7 : (((k : Int) + 4 * ((k : Int) % 4)) % 16).toNat = (k + 4 * (k % 4)) % 16 := by omega
            have e8 : (x : Int) < 256 := by omega
            have HX : Hid (x = decY K R (decSt S' K R B (R - r)) r k) := hx
            have HQ : Hid (Put W wr tb 0 16 (by8 (scat S' (decY K R (decSt S' K R B (R - r)) r) k))) := hP
            clear hx hP hWi
            go_wp2
            go_still_tail 15, (by kernel_rfl)
            change wpList _ _ _ _ _ wr.drew
            go_wp2
            go_roundw
            case rel => exact ⟨k + 1, by omega, by go_num, ((HQ.out.set0 ((k + 4 * (k % 4)) % 16) (by omega) _).drew).congr fun i _ => by
              show _ = Value.int .u8 ((scat S' _ (k + 1) i : Nat) : Int)
              simp only [scat]
              split
              · rw [HX.out]
              · rfl⟩
            case measure => simp [intOf]; omega
          · obtain rfl : k = 16 := by omega
            have HG : Hid (Only [w.heap.size, tb] wo wr) := (H3.out.2.2.1.trans hP.only).drop (by simp)
            have HV : Hid (Has wr tb 0 16 (by8 (decSt S' K R B (R - (r - 1))))) := hP.has.congr fun i hi => by
              show Value.int .u8 _ = Value.int .u8 _
              rw [scat_all _ _ i hi, show R - (r - 1) = R - r + 1 by omega]
              simp only [decSt]
              rw [show R - (R - r) = r by omega]
            have HB : Hid (Has wr w.heap.size 0 16 (by8 (decY K R (decSt S' K R B (R - r)) r)) ∧ Loose wr w.heap.size 0 16) := ⟨hP.only.has H3.out.2.2.2.1 (by simpa using hbt), hP.only.loose H3.out.2.2.2.2 (by have := H3.out.2.2.1.size; omega) (by simpa using hbt)⟩
            clear hP
            go_wp2_with (first
              | refine wpList_load_has rfl 35 _ rfl _ _ 16 _ rfl HV.out _ Tryd.underlying35 rfl (by kernel_rfl) ?_
              | (refine wpList_store_has rfl 35 _ _ rfl _ _ 16 _ _ rfl rfl HB.out.1 HB.out.2 (by kernel_rfl) (fun _ _ => rfl) ?_; intro w4 h4))
            have o2 : Only [w.heap.size, tb] wo w4 := (HG.out.trans h4.only).drop (by simp)
            go_roundw
            case rel => exact ⟨r - 1, by omega, by congr 1; omega, H1.out.1.then o2 (by simp; omega), by have := o2.size; omega, h4.has, h4.loose HB.out.2,
              o2.has H1.out.2.2.2.1 (by simp; omega), o2.loose H1.out.2.2.2.2.1 (by omega) (by simp; omega)⟩
            case measure => simp [intOf]; omega
    · obtain rfl : r = 0 := by omega
      have H1 : Hid (Only [] w wo ∧ Has wo w.heap.size 0 16 (by8 (decSt S' K R B R)) ∧ Loose wo w.heap.size 0 16 ∧ Has wo (w.heap.size + 1) 0 16 (by8 fun _ => 0) ∧ Loose wo (w.heap.size + 1) 0 16 ∧ CipherAt wo c S S' K R) := ⟨hO, hb1, hl1, hr1, hl2, hC1⟩
      have H2 : Hid ((∀ i, i < 240 → K i < 256) ∧ ∀ i, i < 16 → decSt S' K R B R i < 256) := ⟨hK, hB1⟩
      clear hO hb1 hl1 hr1 hl2 hC1 hC hS hK hB hB1
      go_wp2_with (first
        | (go_at_call 47; refine (xor_any _ _ _ _ (decSt S' K R B R) K _ H1.out.2.1 H1.out.2.2.1 H1.out.2.2.2.2.2.key0 H2.out.2 (fun i hi => H2.out.1 _ (by omega)) (by omega)).mono ?_; rintro e w3 ⟨rfl, h3⟩
           have HV : Hid (Put wo w3 w.heap.size 0 16 (by8 (decF S' K R B))) := h3
           clear h3)
        | refine wpList_load_has rfl 35 _ rfl _ _ 16 _ rfl HV.out.has _ Tryd.underlying35 rfl (by kernel_rfl) ?_
        | (refine wpList_store_has rfl 35 _ _ rfl _ _ 16 _ _ rfl rfl (HV.out.only.has H1.out.2.2.2.1 (by simp)) (HV.out.only.loose H1.out.2.2.2.2.1 (by omega) (by simp)) (by kernel_rfl) (fun _ _ => rfl) ?_; intro w4 h4))
      exact bodyPost_has 4 35 rfl _ _ 16 _ rfl h4.has _ Tryd.underlying35 rfl (by kernel_rfl) rfl ⟨rfl, ((H1.out.1.then HV.out.only (by simp)).then h4.only (by simp)).nil⟩
end Go.Proofs.YtpkpkfjpnkbkbaaDoor
