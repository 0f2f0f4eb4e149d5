/- The walks of ocb's block: number, of, xor, double, bytes. -/
import Derived.Test.YtpkpkfjpnkbkbaaDoorBase
import Derived.Test.YtpkpkfjpnkbkbaaDoorPlainB
import Derived.Test.YtpkpkfjpnkbkbaaDoorAes3
namespace Go.Proofs.YtpkpkfjpnkbkbaaDoor
open Go.RowKit
set_option maxHeartbeats 2000000

theorem number_any (b o cap n : Nat) (f : Nat → Nat) (w : World) (hh : Has w b o 8 (by8 f)) (hf : ∀ i, i < 8 → f i < 256) (hn : 8 ≤ n) (hc : n ≤ cap) :
    Calls Tryd.prog 40 #[.slice (some ⟨b, o, none⟩) n cap] w fun e w' => e = .returned (.int .u64 (wn f 0 8 : Nat)) ∧ w = w' := by
  go_enter Tryd.func40, Tryd.ntmps40
  go_wp2
  go_loop [2, 8] (fun n i => ∃ k : Nat, k ≤ 8 ∧ i = .int .i64 k ∧ n = .int .u64 (wn f 0 k : Nat)) (fun _ i => 8 - (intOf i).toNat)
  case atStart => exact ⟨0, by omega, rfl, rfl⟩
  case round =>
    obtain ⟨k, hk, rfl, rfl⟩ := hrel
    by_cases hlt : k < 8
    · have c1 : w.cell? ⟨b, o + k, none⟩ = some (.int .u8 (f k)) := hh k hlt
      have h1 : (k : Int) < 8 := by omega
      have h2 := hf k hlt
      have hw : wn f 0 k < 2 ^ 56 := Nat.lt_of_lt_of_le (wn_lt (f := f) (o := 0) k (fun i hi => hf _ (by omega))) (Nat.pow_le_pow_right (by decide) (by omega))
      have hs := num_step hw h2
      have HS : Hid (wn f 0 (k + 1) = wn f 0 k * 256 + f k) := by show wn f 0 k * 256 + f (0 + k) = _; rw [Nat.zero_add]
      clear hh hf hw
      go_wp2
      go_round
      case rel => exact ⟨k + 1, by omega, by go_num, by rw [HS.out]; go_num⟩
      case measure => simp [intOf]; omega
    · obtain rfl : k = 8 := by omega
      clear hh hf
      go_wp2
      go_ret
      exact ⟨rfl, rfl⟩

/-- A block's two cells. -/
def blkV (f : Nat → Nat) (i : Nat) : Value := if i = 0 then .int .u64 (hi f : Nat) else .int .u64 (lo f : Nat)
theorem blk_row (f : Nat → Nat) : rowV 2 (blkV f) = #[.int .u64 (hi f : Nat), .int .u64 (lo f : Nat)] := rfl
theorem blkV_one (f : Nat → Nat) (i : Nat) : (blkV f i).oneCell' = true := by unfold blkV; split <;> rfl
theorem zero2 : #[Value.int IntKind.u64 0, .int .u64 0] = rowV 2 (fun _ => .int .u64 0) := rfl

theorem of_any (b o cap n : Nat) (f : Nat → Nat) (w : World) (hh : Has w b o 16 (by8 f)) (hf : B16 f) (hn : 16 ≤ n) (hc : n ≤ cap) :
    Calls Tryd.prog 23 #[.slice (some ⟨b, o, none⟩) n cap] w fun e w' => e = .returned (blk f) ∧ Below w.heap.size w w' := by
  have HH : Hid (Has w b o 16 (by8 f) ∧ B16 f) := ⟨hh, hf⟩
  have q : ¬ cap = 8 := by omega
  have q8 : (8 : Int) ≤ (n : Int) := by omega
  clear hh hf
  go_enter Tryd.func23, Tryd.ntmps23
  go_wp2_with fail
  obtain ⟨W, hW⟩ : ∃ W, W = w.alloc (.cells #[.int .u64 0, .int .u64 0] 50) := ⟨_, rfl⟩
  have HW : Hid (Only [] w W ∧ Has W w.heap.size 0 2 (fun _ => .int .u64 0) ∧ Loose W w.heap.size 0 2) := by
    rw [hW]; exact ⟨(Only.refl _ _).alloc _, Has.new_at rfl zero2, Loose.new_at rfl⟩
  rw [← hW]
  clear hW
  have N1 : Hid (Calls Tryd.prog 40 #[.slice (some ⟨b, o, none⟩) n cap] W.drew fun e w' => e = .returned (.int .u64 (hi f : Nat)) ∧ W.drew = w') :=
    number_any b o cap n f _ (fun i hi => HW.out.1.cell (HH.out.1 i (by omega)) (by simp)) (fun i hi => HH.out.2 i (by omega)) (by omega) hc
  have N2 : Hid (Calls Tryd.prog 40 #[.slice (some ⟨b, o + 8, none⟩) (n - 8) (cap - 8)] W.drew fun e w' => e = .returned (.int .u64 (lo f : Nat)) ∧ W.drew = w') := by
    have := number_any b (o + 8) (cap - 8) (n - 8) (fun i => f (8 + i)) W.drew (fun i hi => by
      have := HW.out.1.cell (HH.out.1 (8 + i) (by omega)) (by simp)
      rw [show o + (8 + i) = o + 8 + i by omega] at this; exact this) (fun i hi => HH.out.2 _ (by omega)) (by omega) (by omega)
    rw [lo_is_wn] at this; exact this
  go_still_tail 6, (by kernel_rfl)
  still_call (calls_flip N1.out)
  repeat still_step
  still_call (calls_flip N2.out)
  repeat still_step
  refine wpStill_nil ?_
  change wpList _ _ _ _ _ W.drew
  go_wp2_with (refine wpList_store_has rfl 50 _ _ rfl w.heap.size 0 2 (blkV f) _ rfl rfl HW.out.2.1 HW.out.2.2 (by kernel_rfl) (fun i _ => blkV_one f i) ?_; intro w2 h2)
  exact bodyPost_has 2 50 rfl _ _ 2 _ rfl h2.has _ Tryd.underlying50 rfl (by kernel_rfl) rfl ⟨rfl, ((HW.out.1.drew).then h2.only (by simp)).nil⟩

theorem bxor_any (f g : Nat → Nat) (hf : B16 f) (hg : B16 g) (w : World) :
    Calls Tryd.prog 26 #[blk f, blk g] w fun e w' => e = .returned (blk (x2 f g)) ∧ Below w.heap.size w w' := by
  have x1 := xor_u64 (hi_lt hf) (hi_lt hg)
  have x2 := xor_u64 (lo_lt hf) (lo_lt hg)
  rw [← hi_xor hf hg] at x1
  rw [← lo_xor hf hg] at x2
  clear hf hg
  go_enter Tryd.func26, Tryd.ntmps26
  go_wp2
  exact bodyPost_row 4 50 rfl _ _ _ _ rfl (heap_at (by simp)) _ Tryd.underlying50 rfl (by kernel_rfl) rfl ⟨rfl, (((Only.refl [] w).alloc _).alloc _ |>.alloc _).nil⟩

theorem bdouble_any (f : Nat → Nat) (hf : B16 f) (w : World) :
    Calls Tryd.prog 22 #[blk f] w fun e w' => e = .returned (blk (dblB f)) ∧ Below w.heap.size w w' := by
  have x1 := dbl_hi hf
  have x2 := dbl_lo hf
  clear hf
  go_enter Tryd.func22, Tryd.ntmps22
  go_wp2
  exact bodyPost_row 2 50 rfl _ _ _ _ rfl (heap_at (by simp)) _ Tryd.underlying50 rfl (by kernel_rfl) rfl ⟨rfl, (((Only.refl [] w).alloc _).alloc _).nil⟩

theorem bytes_b (f : Nat → Nat) (hf : B16 f) (w : World) :
    Calls Tryd.prog 27 #[blk f] w fun e w' => e = .returned (.agg (rowV 16 (by8 f))) ∧ Below w.heap.size w w' := by
  go_enter Tryd.func27, Tryd.ntmps27
  go_wp2
  obtain ⟨W, hW⟩ : ∃ W, W = (w.alloc (.cells #[.int .u64 (hi f : Nat), .int .u64 (lo f : Nat)] 50)).alloc (.cells (rowV 16 (by8 fun _ => 0)) 35) := ⟨_, rfl⟩
  have HW : Hid (Only [] w W ∧ Has W w.heap.size 0 2 (blkV f) ∧ Has W (w.heap.size + 1) 0 16 (by8 fun _ => 0) ∧ Loose W (w.heap.size + 1) 0 16) := by
    rw [hW]; exact ⟨((Only.refl _ _).alloc _).alloc _, (Has.new_at rfl (blk_row f).symm).alloc _, Has.new_at (by simp) rfl, Loose.new_at (by simp)⟩
  rw [zero16, ← hW]
  clear hW
  go_loopw [4] (fun s wi => ∃ k : Nat, k ≤ 8 ∧ s = .int .i64 k ∧ Put W wi (w.heap.size + 1) 0 16 (by8 fun i => if i < k ∨ 8 ≤ i ∧ i < 8 + k then f i else 0)) (fun s _ => 8 - (intOf s).toNat)
  case atStart => exact ⟨0, by omega, rfl, (Put.of_has HW.out.2.2.1).congr fun i _ => by show Value.int .u8 _ = Value.int .u8 ((if i < 0 ∨ 8 ≤ i ∧ i < 8 + 0 then f i else 0 : Nat) : Int); rw [if_neg (by omega)]⟩
  case round =>
    obtain ⟨k, hk, rfl, hP⟩ := hrel
    by_cases hlt : k < 8
    · have c0 : wr.cell? ⟨w.heap.size, 0, none⟩ = some (.int .u64 (hi f : Nat)) := hP.only.cell (HW.out.2.1.get0 (by omega)) (by simp)
      have c1 : wr.cell? ⟨w.heap.size, 1, none⟩ = some (.int .u64 (lo f : Nat)) := hP.only.cell (HW.out.2.1.get0 (by omega)) (by simp)
      have h1 : (k : Int) < 8 := by omega
      go_wp2
      have c2 : wr.cell? ⟨w.heap.size + 1, k, none⟩ = some (.int .u8 (if k < k ∨ 8 ≤ k ∧ k < 8 + k then f k else 0 : Nat)) := hP.has.get0 (by omega)
      have c3 : wr.cell? ⟨w.heap.size + 1, 8 + k, none⟩ = some (.int .u8 (if 8 + k < k ∨ 8 ≤ 8 + k ∧ 8 + k < 8 + k then f (8 + k) else 0 : Nat)) := hP.has.get0 (by omega)
      rw [if_neg (by omega)] at c2 c3
      have c4 : wr.frozen? ⟨w.heap.size + 1, k, none⟩ = false := by have := hP.loose HW.out.2.2.2 k (by omega); simpa using this
      have c5 : wr.frozen? ⟨w.heap.size + 1, 8 + k, none⟩ = false := by have := hP.loose HW.out.2.2.2 (8 + k) (by omega); simpa using this
      have s1 : IntKind.i64.wrap (8 + (k : Int)) = 8 + (k : Int) := i64w (by omega) (by omega)
      have n1 : 0 ≤ 8 + (k : Int) := by omega
      have b1 : 8 + (k : Int) < 16 := by omega
      have t1 : (8 + (k : Int)).toNat = 8 + k := by omega
      have s2 : IntKind.i64.wrap (8 * (k : Int)) = 8 * (k : Int) := i64w (by omega) (by omega)
      have s3 : IntKind.i64.wrap (56 - 8 * (k : Int)) = 56 - 8 * (k : Int) := i64w (by omega) (by omega)
      have s4 : IntKind.u64.wrap (56 - 8 * (k : Int)) = 56 - 8 * (k : Int) := by simp only [IntKind.wrap, IntKind.bits, IntKind.signed]; simp; omega
      have n4 : 0 ≤ 56 - 8 * (k : Int) := by omega
      have t4 : (56 - 8 * (k : Int)).toNat = 56 - 8 * k := by omega
      have m4 : min (56 - 8 * k) 64 = 56 - 8 * k := by omega
      have HP : Hid (Put W wr (w.heap.size + 1) 0 16 (by8 fun i => if i < k ∨ 8 ≤ i ∧ i < 8 + k then f i else 0)) := hP
      clear hP
      go_region
      go_wp2
      go_roundw
      case rel =>
        rw [hi_byte hf hlt, lo_byte hf hlt]
        refine ⟨k + 1, by omega, by go_num, (((HP.out.set0 k (by omega) _).set0 (8 + k) (by omega) _).drew).congr fun i hi => ?_⟩
        by_cases e1 : i = 8 + k
        · subst e1
          show (if 8 + k = 8 + k then _ else _) = Value.int .u8 ((if 8 + k < k + 1 ∨ 8 ≤ 8 + k ∧ 8 + k < 8 + (k + 1) then f (8 + k) else 0 : Nat) : Int)
          rw [if_pos rfl, if_pos (by omega)]
        · by_cases e2 : i = k
          · subst e2
            show (if i = 8 + i then _ else if i = i then _ else _) = Value.int .u8 ((if i < i + 1 ∨ 8 ≤ i ∧ i < 8 + (i + 1) then f i else 0 : Nat) : Int)
            rw [if_neg e1, if_pos rfl, if_pos (by omega)]
          · show (if i = 8 + k then _ else if i = k then _ else Value.int .u8 ((if i < k ∨ 8 ≤ i ∧ i < 8 + k then f i else 0 : Nat) : Int)) = Value.int .u8 ((if i < k + 1 ∨ 8 ≤ i ∧ i < 8 + (k + 1) then f i else 0 : Nat) : Int)
            rw [if_neg e1, if_neg e2]
            by_cases e3 : i < k ∨ 8 ≤ i ∧ i < 8 + k
            · rw [if_pos e3, if_pos (by omega)]
            · rw [if_neg e3, if_neg (by omega)]
      case measure => simp [intOf]; omega
    · obtain rfl : k = 8 := by omega
      have HP : Hid (Put W wr (w.heap.size + 1) 0 16 (by8 f)) := hP.congr fun i hi => by
        show Value.int .u8 ((if i < 8 ∨ 8 ≤ i ∧ i < 8 + 8 then f i else 0 : Nat) : Int) = _
        rw [if_pos (by omega)]
      clear hP
      go_wp2_with (first
        | refine wpList_load_has rfl 35 _ rfl _ _ 16 _ rfl HP.out.has _ Tryd.underlying35 rfl (by kernel_rfl) ?_
        | (refine wpList_store_has rfl 35 _ _ rfl _ _ 16 _ _ rfl rfl HP.out.has (HP.out.loose HW.out.2.2.2) (by kernel_rfl) (fun _ _ => rfl) ?_; intro w4 h4))
      exact bodyPost_has 2 35 rfl _ _ 16 _ rfl h4.has _ Tryd.underlying35 rfl (by kernel_rfl) rfl ⟨rfl, ((HW.out.1.then HP.out.only (by simp)).then h4.only (by simp)).nil⟩

end Go.Proofs.YtpkpkfjpnkbkbaaDoor
