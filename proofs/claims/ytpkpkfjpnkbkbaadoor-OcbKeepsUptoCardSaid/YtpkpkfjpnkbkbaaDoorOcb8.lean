/- The sealer's hash of a nil slice. -/
import Derived.Test.YtpkpkfjpnkbkbaaDoorOcb7
namespace Go.Proofs.YtpkpkfjpnkbkbaaDoor
open Go.RowKit
set_option maxHeartbeats 4000000

theorem hash_none (s : Nat) (K : Nat → Nat) (R : Nat) (star : Nat → Nat) (ls : Nat → Nat → Nat) (a : Option Addr) (cap : Nat) (w : World) :
    Calls Tryd.prog 29 #[.pointer (some ⟨s, 0, none⟩), .slice a 0 cap] w fun e w' => e = .returned (blk (hashF K R star ls [])) ∧ Below w.heap.size w w' := by
  go_enter Tryd.func29, Tryd.ntmps29
  go_upto_region 2 with fail
  obtain ⟨W, hW⟩ : ∃ W, W = ((w.alloc (.cells #[.int .u64 0, .int .u64 0] 50)).alloc (.cells #[.int .u64 0, .int .u64 0] 50)).alloc (.cells #[.int .u64 0, .int .u64 0] 50) := ⟨_, rfl⟩
  obtain ⟨rb, hrb⟩ : ∃ rb, rb = w.heap.size := ⟨_, rfl⟩
  obtain ⟨sb, hsb⟩ : ∃ sb, sb = w.heap.size + 1 := ⟨_, rfl⟩
  obtain ⟨ob, hob⟩ : ∃ ob, ob = w.heap.size + 1 + 1 := ⟨_, rfl⟩
  have zz := zz2
  have HW : Hid (Only [] w W ∧ (Has W rb 0 2 (blkV zB) ∧ Loose W rb 0 2) ∧ Has W sb 0 2 (blkV zB)) := by
    rw [hW, hrb, hsb]
    exact ⟨(((Only.refl _ _).alloc _).alloc _).alloc _, ⟨((Has.new_at rfl zz.symm).alloc _).alloc _, ((Loose.new_at rfl).alloc (by simp) _).alloc (by simp; omega) _⟩, (Has.new_at (by simp) zz.symm).alloc _⟩
  rw [← hW, ← hob, ← hsb, ← hrb]
  have d1 : W.cell? ⟨sb, 0, none⟩ = some (.int .u64 0) := HW.out.2.2 0 (by omega)
  have d2 : W.cell? ⟨sb, 1, none⟩ = some (.int .u64 0) := HW.out.2.2 1 (by omega)
  have HD : Hid (rb = w.heap.size) := hrb
  clear hW hsb hob hrb zz
  go_wp2
  go_loopw [1, 7] (fun x y wr => x = .slice a 0 cap ∧ y = .int .i64 1 ∧ wr = W) (fun _ _ _ => 0)
  case atStart => exact ⟨rfl, rfl, rfl⟩
  case round =>
    obtain ⟨rfl, rfl, rfl⟩ := hrel
    go_wp2_with (refine wpList_store_has rfl 50 _ _ rfl rb 0 2 (blkV zB) _ rfl rfl HW.out.2.1.1 HW.out.2.1.2 (by kernel_rfl) (fun i _ => blkV_one _ i) ?_; intro w9 h9)
    exact bodyPost_has 4 50 rfl rb 0 2 (blkV zB) rfl h9.has _ Tryd.underlying50 rfl (by kernel_rfl) rfl ⟨rfl, (HW.out.1.then h9.only (by have := HD.out; simp; omega)).nil⟩

end Go.Proofs.YtpkpkfjpnkbkbaaDoor
