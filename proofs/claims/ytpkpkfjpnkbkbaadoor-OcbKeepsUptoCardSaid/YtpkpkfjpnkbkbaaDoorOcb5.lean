/- The walk of ocb's padded. -/
import Derived.Test.YtpkpkfjpnkbkbaaDoorOcb1
import Derived.Test.YtpkpkfjpnkbkbaaDoorBytes2
namespace Go.Proofs.YtpkpkfjpnkbkbaaDoor
open Go.RowKit
set_option maxHeartbeats 2000000

/-- A short block's bytes and 128 behind them. -/
def padF (L : List Nat) (i : Nat) : Nat := if i < L.length then L.getD i 0 else if i = L.length then 128 else 0
theorem padF_b {L : List Nat} (hL : By L) : B16 (padF L) := fun i _ => by
  unfold padF
  split
  · exact hL.getD i
  · split <;> decide

theorem padded_any (a : Option Addr) (cap n : Nat) (L : List Nat) (w : World) (hL : By L) (hN : L.length = n) (hn : n < 16) (hs : SlA w a cap L) (ha : ∀ x, a = some x → x.block < w.heap.size) :
    Calls Tryd.prog 28 #[.slice a n cap] w fun e w' => e = .returned (blk (padF L)) ∧ Below w.heap.size w w' := by
  have HH : Hid (By L ∧ L.length = n ∧ SlA w a cap L ∧ ∀ x, a = some x → x.block < w.heap.size) := ⟨hL, hN, hs, ha⟩
  clear hL hN hs ha
  go_enter Tryd.func28, Tryd.ntmps28
  go_upto_region 2 with fail
  rw [zero16]
  obtain ⟨W, hW⟩ : ∃ W, W = (w.alloc (.cells #[.int .u64 0, .int .u64 0] 50)).alloc (.cells (rowV 16 (by8 fun _ => 0)) 35) := ⟨_, rfl⟩
  have HW : Hid (Only [] w W ∧ Has W w.heap.size 0 2 (fun _ => .int .u64 0) ∧ Loose W w.heap.size 0 2 ∧ Has W (w.heap.size + 1) 0 16 (by8 fun _ => 0) ∧ Loose W (w.heap.size + 1) 0 16) := by
    rw [hW]; exact ⟨((Only.refl _ _).alloc _).alloc _, (Has.new_at rfl zero2).alloc _, (Loose.new_at rfl).alloc (by simp) _, Has.new_at (by simp) rfl, Loose.new_at (by simp)⟩
  rw [← hW]
  clear hW
  have n16 : (n : Int) < 16 := by omega
  go_upto_region 3 with (refine wpList_copy_sl rfl _ _ rfl (w.heap.size + 1) 0 16 16 rfl a cap n L HH.out.2.1 rfl (HH.out.2.2.1.only HW.out.1 (by simp)) (by8 fun _ => 0) (fun i hi => HW.out.2.2.2.1 i (by omega)) (fun i hi => HW.out.2.2.2.2 i (by omega)) (by omega) ?_; intro w2 h2)
  have c1 : w2.cell? ⟨w.heap.size + 1, n, none⟩ = some (.int .u8 ((0 : Nat) : Int)) := h2.old (by omega) (HW.out.2.2.2.1.get0 hn)
  have c2 : w2.frozen? ⟨w.heap.size + 1, n, none⟩ = false := by have := h2.loose HW.out.2.2.2.2 n hn; simpa using this
  have hP : Put w2 (w2.setCell ⟨w.heap.size + 1, n, none⟩ (.int .u8 128)) (w.heap.size + 1) n 1 (fun _ => .int .u8 128) := by
    have := (Put.refl w2 (w.heap.size + 1) n (fun _ => .int .u8 128)).step (u := .int .u8 ((0 : Nat) : Int)) (by simpa using c1) (v := .int .u8 128) rfl
    simpa using this
  obtain ⟨W3, hW3⟩ : ∃ W3, W3 = w2.setCell ⟨w.heap.size + 1, n, none⟩ (.int .u8 128) := ⟨_, rfl⟩
  rw [← hW3] at hP
  have HP : Hid (Put W w2 (w.heap.size + 1) 0 n (byG L) ∧ Put w2 W3 (w.heap.size + 1) n 1 (fun _ => .int .u8 128)) := ⟨h2, hP⟩
  have HQ : Hid (Has W3 (w.heap.size + 1) 0 16 (by8 (padF L))) := fun i hi => by
    rw [Nat.zero_add]
    show _ = some (Value.int .u8 ((padF L i : Nat) : Int))
    unfold padF
    rw [HH.out.2.1]
    by_cases e1 : i < n
    · rw [if_pos e1]; exact hP.old (by omega) (h2.has.get0 e1)
    · rw [if_neg e1]
      by_cases e2 : i = n
      · rw [if_pos e2, e2]; exact hP.has 0 (by omega)
      · rw [if_neg e2]; exact hP.old (by omega) (h2.old (by omega) (HW.out.2.2.2.1.get0 hi))
  have HO : Hid (Only [w.heap.size + 1] W W3) := h2.only.then hP.only (by simp)
  have hstep : Hid (W3 = w2.setCell ⟨w.heap.size + 1, n, none⟩ (.int .u8 128)) := hW3
  clear h2 hP hW3
  go_upto_region 4 with fail
  rw [← hstep.out]
  clear c1 c2 hstep
  go_wp2_with (first
    | (go_at_call 23; refine (of_any (w.heap.size + 1) 0 16 16 (padF L) _ HQ.out (padF_b HH.out.1) (Nat.le_refl _) (Nat.le_refl _)).mono ?_; rintro e w6 ⟨rfl, h6⟩
       have HG : Hid (Only [] w w6 ∧ Has w6 w.heap.size 0 2 (fun _ => .int .u64 0) ∧ Loose w6 w.heap.size 0 2) := by
         have ho : Only [w.heap.size + 1] W w6 := HO.out.then (Only.of_below h6 []) (by simp)
         exact ⟨HW.out.1.then ho (by simp), ho.has HW.out.2.1 (by simp), ho.loose HW.out.2.2.1 (HW.out.2.1.lt (by omega)) (by simp)⟩
       clear h6)
    | (refine wpList_store_has rfl 50 _ _ rfl w.heap.size 0 2 (blkV (padF L)) _ rfl rfl HG.out.2.1 HG.out.2.2 (by kernel_rfl) (fun i _ => blkV_one _ i) ?_; intro w7 h7))
  exact bodyPost_has 2 50 rfl _ _ 2 _ rfl h7.has _ Tryd.underlying50 rfl (by kernel_rfl) rfl ⟨rfl, (HG.out.1.then h7.only (by simp)).nil⟩

end Go.Proofs.YtpkpkfjpnkbkbaaDoor
