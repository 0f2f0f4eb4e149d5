/- The walks of math/bits.TrailingZeros, ocb's padded, encrypt, decrypt, step. -/
import Derived.Test.YtpkpkfjpnkbkbaaDoorOcb1
import Derived.Test.YtpkpkfjpnkbkbaaDoorBytes
import Derived.Test.YtpkpkfjpnkbkbaaDoorAes4
import Derived.Lib.TrailingZeros
import Derived.Deep.WholeRow
import Derived.Deep.RegionHeld3
namespace Go.Proofs.YtpkpkfjpnkbkbaaDoor
open Go.RowKit
set_option maxHeartbeats 8000000

/-- The library's table, as it lies. -/
def TabIs (w : World) : Prop := Has w 1 0 64 (by8 fun j => Lib.deBruijn64tab.getD j 0)

theorem tz64_any (x : Nat) (w : World) (hT : TabIs w) (hx : x ≠ 0) (hl : x < 18446744073709551616) :
    Calls Tryd.prog 50 #[.int .u64 x] w fun e w' => e = .returned (.int .i64 (Lib.ctz 64 x : Nat)) ∧ w = w' := by
  obtain ⟨h1, h2⟩ := Lib.lowest_bit 64 x hx hl
  obtain ⟨k, hk⟩ : ∃ k, k = Lib.ctz 64 x := ⟨_, rfl⟩
  rw [← hk] at h1 h2 ⊢
  obtain ⟨j1, j2⟩ := Lib.deBruijn64_at k h2
  obtain ⟨p, hp⟩ : ∃ p, p = 2 ^ k := ⟨_, rfl⟩
  have hpl : p < 18446744073709551616 := by rw [hp, show (18446744073709551616 : Nat) = 2 ^ 64 by decide]; exact Nat.pow_lt_pow_right (by decide) h2
  rw [← hp] at h1 j1 j2
  obtain ⟨y, hy⟩ : ∃ y, y = p * 285870213051353865 % 18446744073709551616 := ⟨_, rfl⟩
  rw [← hy] at j1 j2
  obtain ⟨j, hj⟩ : ∃ j, j = y / 288230376151711744 := ⟨_, rfl⟩
  rw [← hj] at j1 j2
  have f0 : IntKind.u64.wrap (-(x : Int)) = ((18446744073709551616 - x : Nat) : Int) := by
    simp only [IntKind.wrap, IntKind.bits, IntKind.signed]; simp; omega
  have f1 : bits .and .u64 (x : Int) (IntKind.u64.wrap (-(x : Int))) = (p : Int) := by
    rw [f0, u64_and_nat _ _ hl (by omega)]; exact congrArg Nat.cast h1
  have f2 : IntKind.u64.wrap ((p : Int) * 285870213051353865) = (y : Int) := by
    have := wrap_u64 (p * 285870213051353865)
    rw [← hy] at this
    rw [← this]; simp
  have f3 : (y : Int) / 288230376151711744 = (j : Int) := by rw [hj]; simp
  have f4 : w.cell? ⟨1, j, none⟩ = some (.int .u8 k) := by
    have := hT.get0 j1
    rw [this]; show some (Value.int .u8 ((Lib.deBruijn64tab.getD j 0 : Nat) : Int)) = _; rw [j2]
  have f5 : (j : Int) < 64 := by omega
  have f6 : ((x : Int) == 0) = false := by simp; omega
  clear h1 hk j2 hp hpl hy hj f0 hT hl
  go_enter Tryd.func50, Tryd.ntmps50
  go_wp2
  go_ret
  exact ⟨rfl, rfl⟩

theorem tz_any (x : Nat) (w : World) (hT : TabIs w) (hx : x ≠ 0) (hl : x < 18446744073709551616) :
    Calls Tryd.prog 41 #[.int .u64 x] w fun e w' => e = .returned (.int .i64 (Lib.ctz 64 x : Nat)) ∧ w = w' := by
  have HX : Hid (TabIs w ∧ x ≠ 0 ∧ x < 18446744073709551616) := ⟨hT, hx, hl⟩
  clear hT hx hl
  go_enter Tryd.func41, Tryd.ntmps41
  go_wp2_with (go_at_call 50; refine (tz64_any x w HX.out.1 HX.out.2.1 HX.out.2.2).mono ?_; rintro e w' ⟨rfl, rfl⟩)
  go_ret
  exact ⟨rfl, rfl⟩

structure SealerAt (w : World) (s cb : Nat) (K : Nat → Nat) (R : Nat) (star dollar : Nat → Nat) (ls : Nat → Nat → Nat) (off sum : Nat → Nat) : Prop where
  ptr : w.cell? ⟨s, 0, none⟩ = some (.pointer (some ⟨cb, 0, none⟩))
  cip : CipherAt w cb sBox sBack K R
  star : Has w s 1 2 (blkV star)
  dollar : Has w s 3 2 (blkV dollar)
  ls : ∀ i, i < 64 → Has w s (5 + 2 * i) 2 (blkV (ls i))
  off : Has w s 133 2 (blkV off)
  sum : Has w s 135 2 (blkV sum)
  loose : Loose w s 0 137

theorem sencrypt_any (s c : Nat) (K : Nat → Nat) (R : Nat) (f : Nat → Nat) (w : World) (hc : w.cell? ⟨s, 0, none⟩ = some (.pointer (some ⟨c, 0, none⟩))) (hC : CipherAt w c sBox sBack K R)
    (hR : R ≤ 14) (hR1 : 1 ≤ R) (hK : ∀ i, i < 240 → K i < 256) (hf : B16 f) :
    Calls Tryd.prog 21 #[.pointer (some ⟨s, 0, none⟩), blk f] w fun e w' => e = .returned (blk (encAt sBox K R f R)) ∧ Below w.heap.size w w' := by
  have HH : Hid (CipherAt w c sBox sBack K R ∧ R ≤ 14 ∧ 1 ≤ R ∧ (∀ i, i < 240 → K i < 256) ∧ B16 f) := ⟨hC, hR, hR1, hK, hf⟩
  have hs : s < w.heap.size := World.block_lt_of_cell? _ _ hc
  clear hC hR hR1 hK hf
  go_enter Tryd.func21, Tryd.ntmps21
  go_wp2_with fail
  obtain ⟨W, hW⟩ : ∃ W, W = (w.alloc (.cells #[.int .u64 (hi f : Nat), .int .u64 (lo f : Nat)] 50)).alloc (.cells #[.int .u64 0, .int .u64 0] 50) := ⟨_, rfl⟩
  have HW : Hid (Only [] w W ∧ Has W w.heap.size 0 2 (blkV f) ∧ Has W (w.heap.size + 1) 0 2 (fun _ => .int .u64 0) ∧ Loose W (w.heap.size + 1) 0 2) := by
    rw [hW]; exact ⟨((Only.refl _ _).alloc _).alloc _, (Has.new_at rfl (blk_row f).symm).alloc _, Has.new_at (by simp) zero2, Loose.new_at (by simp)⟩
  rw [← hW]
  clear hW
  have c0 : W.cell? ⟨s, 0, none⟩ = some (.pointer (some ⟨c, 0, none⟩)) := HW.out.1.cell hc (by simp)
  have c1 : W.cell? ⟨w.heap.size, 0, none⟩ = some (.int .u64 (hi f : Nat)) := HW.out.2.1.get0 (by omega)
  have c2 : W.cell? ⟨w.heap.size, 1, none⟩ = some (.int .u64 (lo f : Nat)) := HW.out.2.1.get0 (by omega)
  have HS : Hid (∀ w', Only [] W w' → w'.cell? ⟨s, 0, none⟩ = some (.pointer (some ⟨c, 0, none⟩)) ∧ w'.cell? ⟨w.heap.size, 0, none⟩ = some (.int .u64 (hi f : Nat)) ∧ w'.cell? ⟨w.heap.size, 1, none⟩ = some (.int .u64 (lo f : Nat))) :=
    fun w' ho => ⟨ho.cell c0 (by simp), ho.cell c1 (by simp), ho.cell c2 (by simp)⟩
  have HC : Hid (∀ w', Only [] W w' → CipherAt w' c sBox sBack K R) := fun w' ho => (HH.out.1.only HW.out.1 (by simp)).only ho (by simp)
  go_cut [5] from 6 to 12 (fun s5 wx => ∃ tb, s5 = .pointer (some ⟨tb, 0, none⟩) ∧ Has wx tb 0 16 (by8 (encAt sBox K R f R)) ∧ Only [] W wx)
  case first =>
    have a1 : w.heap.size < W.heap.size := HW.out.2.1.lt (by omega)
    have a2 : s < W.heap.size := by omega
    have hst := fun wx : World => run_storeCells_new (P := Tryd.prog) wx 35 (rowV 16 (by8 fun _ => 0)) (rowV 16 (by8 (encAt sBox K R f R))) (by rw [rowV_size]; kernel_rfl) (by rw [rowV_size, rowV_size]) (one_rowV (fun _ _ => rfl))
    have hst2 := fun (wx : World) (tb : Nat) (hg : Good wx tb (rowV 16 (by8 fun _ => 0)) 35) => run_storeCells_good (P := Tryd.prog) hg 16 (by8 (encAt sBox K R f R)) (rowV_size _ _) (fun _ _ => rfl)
    simp only [← zero16] at hst hst2
    go_region_with (first
      | (go_at_call 27; refine (bytes_b f HH.out.2.2.2.2 _).mono ?_; rintro e w2 ⟨rfl, h2⟩
         have hk := HS.out w2 (by refine Only.then ?_ (Only.of_below h2 []) (by simp); first | exact (Only.refl [] W).drew | exact (Only.refl [] W).drew.alloc _ | exact ((Only.refl [] W).alloc _).drew)
         obtain ⟨k0, k1, k2⟩ := hk
         have b2 : s < w2.heap.size := World.block_lt_of_cell? _ _ k0
         have b3 : w.heap.size < w2.heap.size := World.block_lt_of_cell? _ _ k1)
      | (go_at_call 39; refine (encrypt_any c sBox sBack K f R _ (HC.out _ (by (repeat (first | refine Only.alloc ?_ _ | refine Only.drew ?_ | refine Only.then ?_ (Only.of_below h2 []) (by simp))); exact Only.refl [] W)) HH.out.2.1 HH.out.2.2.1 (fun i _ => sBox_lt i) HH.out.2.2.2.1 HH.out.2.2.2.2).mono ?_; rintro e w3 ⟨rfl, h3⟩
         first
           | have hg := Good.below (Good.new rfl) h3
           | have hg := Good.below (Good.below (Good.new rfl) h2) h3
           | have hg := Good.below (Good.below (Good.drew (Good.new rfl)) h2) h3
           | skip))
    all_goals
      go_wp2
      go_meet
    all_goals
      have e2 := h2.size
      have e3 := h3.size
      simp only [World.size_alloc, World.size_drew] at e2 e3
      first
        | (refine ⟨_, rfl, (Good.put hg 16 (by8 (encAt sBox K R f R)) rfl).has, ?_⟩
           refine Only.setCells ?_ (fun hx => by omega) _ _
           repeat (first | refine Only.alloc ?_ _ | refine Only.drew ?_ | refine Only.then ?_ (Only.of_below h3 []) (by simp) | refine Only.then ?_ (Only.of_below h2 []) (by simp))
           exact Only.refl [] W)
        | (refine ⟨_, rfl, Has.new_at rfl rfl, ?_⟩
           repeat (first | refine Only.alloc ?_ _ | refine Only.drew ?_ | refine Only.then ?_ (Only.of_below h3 []) (by simp) | refine Only.then ?_ (Only.of_below h2 []) (by simp))
           exact Only.refl [] W)
  case rest =>
    obtain ⟨tb, rfl, h5, o5⟩ := hcut
    have H5 : Hid (Has wc tb 0 16 (by8 (encAt sBox K R f R)) ∧ Only [] W wc) := ⟨h5, o5⟩
    have HE : Hid (B16 (encAt sBox K R f R)) := fun i hi => encAt_lt (fun i _ => sBox_lt i) HH.out.2.2.2.1 HH.out.2.2.2.2 HH.out.2.1 R (Nat.le_refl _) i hi
    clear h5 o5 c0 c1 c2
    go_wp2_with (first
      | (go_at_call 23; refine (of_any tb 0 16 16 (encAt sBox K R f R) _ H5.out.1 HE.out (Nat.le_refl _) (Nat.le_refl _)).mono ?_; rintro e w6 ⟨rfl, h6⟩
         have HO6 : Hid (Only [] w w6) := (HW.out.1.then H5.out.2 (by simp)).then (Only.of_below h6 []) (by simp)
         have HG : Hid (Has w6 (w.heap.size + 1) 0 2 (fun _ => .int .u64 0) ∧ Loose w6 (w.heap.size + 1) 0 2) := by
           have ho : Only [] W w6 := H5.out.2.then (Only.of_below h6 []) (by simp)
           exact ⟨ho.has HW.out.2.2.1 (by simp), ho.loose HW.out.2.2.2 (HW.out.2.2.1.lt (by omega)) (by simp)⟩
         clear h6)
      | (refine wpList_store_has rfl 50 _ _ rfl (w.heap.size + 1) 0 2 (blkV (encAt sBox K R f R)) _ rfl rfl HG.out.1 HG.out.2 (by kernel_rfl) (fun i _ => blkV_one _ i) ?_; intro w7 h7))
    exact bodyPost_has 4 50 rfl _ _ 2 _ rfl h7.has _ Tryd.underlying50 rfl (by kernel_rfl) rfl ⟨rfl, (HO6.out.then h7.only (by simp)).nil⟩

end Go.Proofs.YtpkpkfjpnkbkbaaDoor
