/- The walks of aes.mix, unmix. -/
import Derived.Test.YtpkpkfjpnkbkbaaDoorAes1
namespace Go.Proofs.YtpkpkfjpnkbkbaaDoor
open Go.RowKit
set_option maxHeartbeats 4000000
set_option maxRecDepth 100000

theorem mix_any (p o : Nat) (T : Nat → Nat) (w : World) (ht : Has w p o 16 (by8 T)) (hf : Loose w p o 16) (hT : ∀ i, i < 16 → T i < 256) :
    Calls Tryd.prog 48 #[.pointer (some ⟨p, o, none⟩)] w fun e w' => e = .returned (.tuple #[]) ∧ Put w w' p o 16 (by8 (mixF T)) := by
  go_enter Tryd.func48, Tryd.ntmps48
  go_wp2
  go_loopw [2] (fun i wr => ∃ k : Nat, k ≤ 16 ∧ Hid (k % 4 = 0) ∧ i = .int .i64 k ∧ Put w wr p o k (by8 (mixF T))) (fun i _ => 16 - (intOf i).toNat)
  case atStart => exact ⟨0, by omega, rfl, rfl, Put.refl _ _ _ _⟩
  case round =>
    obtain ⟨k, hk, hk4, rfl, hP⟩ := hrel
    have HT : Hid (∀ i, i < 16 → T i < 256) := hT
    have HH : Hid (Has w p o 16 (by8 T)) := ht
    have HF : Hid (Loose w p o 16) := hf
    by_cases hlt : k < 16
    · have hkk : k + 3 < 16 := by have := hk4.out; omega
      have c0 : wr.cell? ⟨p, o + k, none⟩ = some (.int .u8 (T k)) := hP.old (by omega) (ht _ (by omega))
      have c1 : wr.cell? ⟨p, o + (k + 1), none⟩ = some (.int .u8 (T (k + 1))) := hP.old (by omega) (ht _ (by omega))
      have c2 : wr.cell? ⟨p, o + (k + 2), none⟩ = some (.int .u8 (T (k + 2))) := hP.old (by omega) (ht _ (by omega))
      have c3 : wr.cell? ⟨p, o + (k + 3), none⟩ = some (.int .u8 (T (k + 3))) := hP.old (by omega) (ht _ (by omega))
      have hk' : (k : Int) < 16 := by omega
      have x1 := x8 (hT k (by omega)) (hT (k + 1) (by omega))
      have l1 := xor_lt8 (hT k (by omega)) (hT (k + 1) (by omega))
      have x2 := x8 l1 (hT (k + 2) (by omega))
      have l2 := xor_lt8 l1 (hT (k + 2) (by omega))
      have x3 := x8 l2 (hT (k + 3) (by omega))
      have HP : Hid (Put w wr p o k (by8 (mixF T))) := hP
      clear l1 l2 ht hf hP hT
      go_wp2
      go_quiet (fail)
      go_wp2
      go_loopw [41] (fun s wi => ∃ j : Nat, j ≤ 3 ∧ s = .int .i64 j ∧ Put w wi p o (k + j) (by8 (mixF T))) (fun s _ => 3 - (intOf s).toNat)
      case atStart => exact ⟨0, by omega, rfl, HP.out.drewN nq⟩
      case round =>
        obtain ⟨j, hj, rfl, hP⟩ := hrel
        clear c0 c1 c2 c3 x1 x2 x3
        by_cases hj3 : j < 3
        · have c1 : wr.cell? ⟨p, o + (k + j), none⟩ = some (.int .u8 (T (k + j))) := hP.old (by omega) (HH.out _ (by omega))
          have c2 : wr.cell? ⟨p, o + (k + j + 1), none⟩ = some (.int .u8 (T (k + j + 1))) := hP.old (by omega) (HH.out _ (by omega))
          have c3 : wr.frozen? ⟨p, o + (k + j), none⟩ = false := hP.loose HF.out _ (by omega)
          have hj' : (j : Int) < 3 := by omega
          have x1 := x8 (HT.out (k + j) (by omega)) (HT.out (k + j + 1) (by omega))
          have l1 := xor_lt8 (HT.out (k + j) (by omega)) (HT.out (k + j + 1) (by omega))
          have l2 := xor_lt8 (xor_lt8 (xor_lt8 (HT.out k (by omega)) (HT.out (k + 1) (by omega))) (HT.out (k + 2) (by omega))) (HT.out (k + 3) (by omega))
          have x2 := x8 l2 (dbl_lt l1)
          have x3 := x8 (HT.out (k + j) (by omega)) (xor_lt8 l2 (dbl_lt l1))
          have L1 : Hid (T (k + j) ^^^ T (k + j + 1) < 256) := l1
          have HP' : Hid (Put w wr p o (k + j) (by8 (mixF T))) := hP
          clear l1 l2 hP HP
          go_wp2
          have s1 : IntKind.i64.wrap ((k : Int) + (j : Int)) = k + j := i64w (by omega) (by omega)
          have s2 : IntKind.i64.wrap ((k : Int) + (j : Int) + 1) = k + j + 1 := i64w (by omega) (by omega)
          have n1 : (0 : Int) ≤ k + j := by omega
          have n2 : (0 : Int) ≤ k + j + 1 := by omega
          have b1 : (k : Int) + j < 16 := by omega
          have b2 : (k : Int) + j + 1 < 16 := by omega
          have t1 : ((k : Int) + j).toNat = k + j := by omega
          have t2 : ((k : Int) + j + 1).toNat = k + j + 1 := by omega
          go_still_tail 29, (by kernel_rfl)
          still_call (calls_flip (double_any _ L1.out _))
          repeat still_step
          refine wpStill_nil ?_
          change wpList _ _ _ _ _ wr.drew
          go_wp2
          go_roundw
          case rel => exact ⟨j + 1, by omega, by go_num, (HP'.out.step c1 (by show Value.int .u8 _ = Value.int .u8 ((mixF T (k + j) : Nat) : Int); rw [mixF_lo T hk4.out hj3])).drew⟩
          case measure => simp [intOf]; omega
        · obtain rfl : j = 3 := by omega
          have c1 : wr.cell? ⟨p, o + (k + 3), none⟩ = some (.int .u8 (T (k + 3))) := hP.old (by omega) (HH.out _ (by omega))
          have c3 : wr.frozen? ⟨p, o + (k + 3), none⟩ = false := hP.loose HF.out _ (by omega)
          have x1 := x8 (HT.out (k + 3) (by omega)) (HT.out k (by omega))
          have l1 := xor_lt8 (HT.out (k + 3) (by omega)) (HT.out k (by omega))
          have l2 := xor_lt8 (xor_lt8 (xor_lt8 (HT.out k (by omega)) (HT.out (k + 1) (by omega))) (HT.out (k + 2) (by omega))) (HT.out (k + 3) (by omega))
          have x2 := x8 l2 (dbl_lt l1)
          have x3 := x8 (HT.out (k + 3) (by omega)) (xor_lt8 l2 (dbl_lt l1))
          have L1 : Hid (T (k + 3) ^^^ T k < 256) := l1
          have HP' : Hid (Put w wr p o (k + 3) (by8 (mixF T))) := hP
          have s1 : IntKind.i64.wrap ((k : Int) + 3) = k + 3 := i64w (by omega) (by omega)
          have n1 : (0 : Int) ≤ k + 3 := by omega
          have b1 : (k : Int) + 3 < 16 := by omega
          have t1 : ((k : Int) + 3).toNat = k + 3 := by omega
          clear l1 l2 hP HP
          go_wp2
          go_still_tail 20, (by kernel_rfl)
          still_call (calls_flip (double_any _ L1.out _))
          repeat still_step
          refine wpStill_nil ?_
          change wpList _ _ _ _ _ wr.drew
          go_wp2
          go_roundw
          case rel => exact ⟨k + 4, by omega, by have := hk4.out; show _ % _ = _; omega, by go_num, (HP'.out.step c1 (by show Value.int .u8 _ = Value.int .u8 ((mixF T (k + 3) : Nat) : Int); rw [mixF_hi T hk4.out])).drew⟩
          case measure => simp [intOf]; omega
    · obtain rfl : k = 16 := by omega
      clear ht hf hT
      go_wp2
      go_end0
      exact ⟨rfl, hP⟩
end Go.Proofs.YtpkpkfjpnkbkbaaDoor
