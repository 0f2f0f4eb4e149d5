/- The walks of ocb's step, padded. -/
import Derived.Test.YtpkpkfjpnkbkbaaDoorOcb2
namespace Go.Proofs.YtpkpkfjpnkbkbaaDoor
open Go.RowKit
set_option maxHeartbeats 4000000

theorem step_any (s i k : Nat) (off lk : Nat → Nat) (w : World) (hT : TabIs w) (hi0 : i ≠ 0) (hi1 : i < 9223372036854775808) (hk : k = Lib.ctz 64 i) (hl : Has w s (5 + k * 2) 2 (blkV lk)) (hoff : B16 off) (hlk : B16 lk) :
    Calls Tryd.prog 24 #[blk off, .pointer (some ⟨s, 0, none⟩), .int .i64 i] w fun e w' => e = .returned (blk (x2 off lk)) ∧ Below w.heap.size w w' := by
  have hk64 : k < 64 := by rw [hk]; exact (Lib.lowest_bit 64 i hi0 (by omega)).2
  have HH : Hid (TabIs w ∧ i ≠ 0 ∧ i < 18446744073709551616 ∧ k = Lib.ctz 64 i ∧ B16 off ∧ B16 lk) := ⟨hT, hi0, by omega, hk, hoff, hlk⟩
  have hs : s < w.heap.size := hl.lt (by omega)
  have hg : 1 < w.heap.size := hT.lt (by omega)
  have ec : IntKind.u64.wrap (i : Int) = (i : Int) := by simp only [IntKind.wrap, IntKind.bits, IntKind.signed]; simp; omega
  clear hT hi0 hi1 hk hoff hlk
  go_enter Tryd.func24, Tryd.ntmps24
  go_wp2_with fail
  obtain ⟨W, hW⟩ : ∃ W, W = (w.alloc (.cells #[.int .u64 (hi off : Nat), .int .u64 (lo off : Nat)] 50)).alloc (.cells #[.int .u64 0, .int .u64 0] 50) := ⟨_, rfl⟩
  have HW : Hid (Only [] w W ∧ Has W w.heap.size 0 2 (blkV off) ∧ Has W (w.heap.size + 1) 0 2 (fun _ => .int .u64 0) ∧ Loose W (w.heap.size + 1) 0 2) := by
    rw [hW]; exact ⟨((Only.refl _ _).alloc _).alloc _, (Has.new_at rfl (blk_row off).symm).alloc _, Has.new_at (by simp) zero2, Loose.new_at (by simp)⟩
  rw [← hW]
  clear hW
  have c1 : W.cell? ⟨w.heap.size, 0, none⟩ = some (.int .u64 (hi off : Nat)) := HW.out.2.1.get0 (by omega)
  have c2 : W.cell? ⟨w.heap.size, 1, none⟩ = some (.int .u64 (lo off : Nat)) := HW.out.2.1.get0 (by omega)
  have c3 : W.cell? ⟨s, 5 + k * 2, none⟩ = some (.int .u64 (hi lk : Nat)) := HW.out.1.cell (hl 0 (by omega)) (by simp)
  have c4 : W.cell? ⟨s, 5 + k * 2 + 1, none⟩ = some (.int .u64 (lo lk : Nat)) := HW.out.1.cell (hl 1 (by omega)) (by simp)
  have HS : Hid (∀ w', Only [] W w' → w'.cell? ⟨w.heap.size, 0, none⟩ = some (.int .u64 (hi off : Nat)) ∧ w'.cell? ⟨w.heap.size, 1, none⟩ = some (.int .u64 (lo off : Nat)) ∧ w'.cell? ⟨s, 5 + k * 2, none⟩ = some (.int .u64 (hi lk : Nat)) ∧ w'.cell? ⟨s, 5 + k * 2 + 1, none⟩ = some (.int .u64 (lo lk : Nat))) :=
    fun w' ho => ⟨ho.cell c1 (by simp), ho.cell c2 (by simp), ho.cell c3 (by simp), ho.cell c4 (by simp)⟩
  have HT : Hid (TabIs W.drew) := HW.out.1.has HH.out.1 (by simp)
  have k0 : (k : Int) < 64 := by omega
  have k1 : s ≠ w.heap.size + 1 := by omega
  clear hl
  go_region_held3 (fun w' => w'.cell? ⟨w.heap.size, 0, none⟩ = some (.int .u64 (hi off : Nat)) ∧ w'.cell? ⟨w.heap.size, 1, none⟩ = some (.int .u64 (lo off : Nat)) ∧ w'.cell? ⟨s, 5 + k * 2, none⟩ = some (.int .u64 (hi lk : Nat)) ∧ w'.cell? ⟨s, 5 + k * 2 + 1, none⟩ = some (.int .u64 (lo lk : Nat)))
    (first
      | exact HS.out _ ((Only.refl [] W).drew.then (Only.of_below h3 []) (by simp))
      | exact HS.out _ (Only.refl [] W).drew
      | (obtain ⟨z0, z1, z2, z3⟩ := HS.out _ ow3
         refine ⟨?_, ?_, ?_, ?_⟩ <;> (rw [World.cell?_setCell_other _ _ _ _ (by simp <;> omega), World.cell?_setCell_other _ _ _ _ (by simp <;> omega)]; assumption)))
    (first
      | (go_at_call 41; refine (tz_any i _ HT.out HH.out.2.1 HH.out.2.2.1).mono ?_; rw [← HH.out.2.2.2.1]; rintro e w2 ⟨rfl, rfl⟩)
      | (go_at_call 26; refine (bxor_any off lk HH.out.2.2.2.2.1 HH.out.2.2.2.2.2 _).mono ?_; rintro e w3 ⟨rfl, h3⟩
         have ow3 : Only [] W w3 := (Only.refl [] W).drew.then (Only.of_below h3 []) (by simp)
         have e0 : w3.cell? ⟨w.heap.size + 1, 0, none⟩ = some (.int .u64 0) := ow3.cell (HW.out.2.2.1.get0 (i := 0) (by omega)) (by simp)
         have e1 : w3.cell? ⟨w.heap.size + 1, 1, none⟩ = some (.int .u64 0) := ow3.cell (HW.out.2.2.1.get0 (i := 1) (by omega)) (by simp)
         have e2 : w3.frozen? ⟨w.heap.size + 1, 0, none⟩ = false := ow3.loose HW.out.2.2.2 (HW.out.2.2.1.lt (by omega)) (by simp) 0 (by omega)
         have e3 : w3.frozen? ⟨w.heap.size + 1, 1, none⟩ = false := ow3.loose HW.out.2.2.2 (HW.out.2.2.1.lt (by omega)) (by simp) 1 (by omega)))
  go_wp2
  refine bodyPost_has 6 50 rfl (w.heap.size + 1) 0 2 (blkV (x2 off lk)) rfl (fun i hi => ?_) _ Tryd.underlying50 rfl (by kernel_rfl) rfl ⟨rfl, (((HW.out.1.then ow3 (by simp)).setCell (by simp) _).setCell (by simp) _).nil⟩
  have : i = 0 ∨ i = 1 := by omega
  rcases this with rfl | rfl
  · rw [World.cell?_setCell_other _ _ _ _ (by simp)]; exact World.cell?_setCell_same _ _ _ e0
  · exact World.cell?_setCell_same _ _ _ (by rw [World.cell?_setCell_other _ _ _ _ (by simp)]; exact e1)

end Go.Proofs.YtpkpkfjpnkbkbaaDoor
