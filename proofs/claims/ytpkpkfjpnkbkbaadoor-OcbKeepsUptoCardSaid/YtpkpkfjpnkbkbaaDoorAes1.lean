/- The walks of aes.double, xor, mix, unmix. -/
import Derived.Test.YtpkpkfjpnkbkbaaDoorBase
import Derived.Test.YtpkpkfjpnkbkbaaDoorPlainA
namespace Go.Proofs.YtpkpkfjpnkbkbaaDoor
open Go.RowKit
set_option maxHeartbeats 1000000

theorem double_any (b : Nat) (h1 : b < 256) (w : World) :
    Calls Tryd.prog 38 #[.int .u8 b] w fun e w' => e = .returned (.int .u8 (dbl b)) ∧ w = w' := by
  have hx := x8 (a := b * 2 % 256) (b := b / 128 * 27) (by omega) (by omega)
  simp only [Int.natCast_emod, Int.natCast_ediv, Int.natCast_mul, Int.cast_ofNat_Int] at hx
  go_enter Tryd.func38, Tryd.ntmps38
  go_wp2
  go_ret
  exact ⟨rfl, rfl⟩

theorem xor_any (pa pb oa ob : Nat) (A B : Nat → Nat) (w : World) (ha : Has w pa oa 16 (by8 A)) (hf : Loose w pa oa 16) (hb : Has w pb ob 16 (by8 B)) (hA : ∀ i, i < 16 → A i < 256) (hB : ∀ i, i < 16 → B i < 256) (hne : pa ≠ pb) :
    Calls Tryd.prog 47 #[.pointer (some ⟨pa, oa, none⟩), .pointer (some ⟨pb, ob, none⟩)] w fun e w' => e = .returned (.tuple #[]) ∧ Put w w' pa oa 16 (by8 (x2 A B)) := by
  go_enter Tryd.func47, Tryd.ntmps47
  go_wp2
  go_loopw [5] (fun i wr => ∃ k : Nat, k ≤ 16 ∧ i = .int .i64 k ∧ Put w wr pa oa k (by8 (x2 A B))) (fun i _ => 16 - (intOf i).toNat)
  case atStart => exact ⟨0, by omega, rfl, Put.refl _ _ _ _⟩
  case round =>
    obtain ⟨k, hk, rfl, hP⟩ := hrel
    by_cases hlt : k < 16
    · have c1 : wr.cell? ⟨pa, oa + k, none⟩ = some (.int .u8 (A k)) := hP.old (by omega) (ha k hlt)
      have c2 : wr.cell? ⟨pb, ob + k, none⟩ = some (.int .u8 (B k)) := hP.only.cell (hb k hlt) (by simpa using fun e => hne e.symm)
      have c3 : wr.frozen? ⟨pa, oa + k, none⟩ = false := hP.loose hf k hlt
      have c4 := x8 (hA k hlt) (hB k hlt)
      have hk' : (k : Int) < 16 := by omega
      have HP : Hid (Put w wr pa oa k (by8 (x2 A B))) := hP
      clear ha hb hf hP hA hB
      go_wp2
      go_region
      go_wp2
      go_roundw
      case rel => exact ⟨k + 1, by omega, by go_num, (HP.out.step c1 rfl).drew⟩
      case measure => simp [intOf]; omega
    · obtain rfl : k = 16 := by omega
      clear ha hb hf hA hB
      go_wp2
      go_end0
      exact ⟨rfl, hP⟩
end Go.Proofs.YtpkpkfjpnkbkbaaDoor
