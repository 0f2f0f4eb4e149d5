/- The walk of ocb's decrypt. -/
import Derived.Test.YtpkpkfjpnkbkbaaDoorOcb2
namespace Go.Proofs.YtpkpkfjpnkbkbaaDoor
open Go.RowKit
set_option maxHeartbeats 8000000

theorem decF_b {S' K B : Nat → Nat} {R : Nat} (hS : ∀ i, i < 256 → S' i < 256) (hK : ∀ i, i < 240 → K i < 256) (hB : ∀ i, i < 16 → B i < 256) (hR : R ≤ 14) : B16 (decF S' K R B) := fun i hi =>
  xor_lt8 (decSt_lt hS hK hB hR R i hi) (hK i (by omega))

theorem sdecrypt_any (s c : Nat) (K : Nat → Nat) (R : Nat) (f : Nat → Nat) (w : World) (hc : w.cell? ⟨s, 0, none⟩ = some (.pointer (some ⟨c, 0, none⟩))) (hC : CipherAt w c sBox sBack K R)
    (hR : R ≤ 14) (hR1 : 1 ≤ R) (hK : ∀ i, i < 240 → K i < 256) (hf : B16 f) :
    Calls Tryd.prog 25 #[.pointer (some ⟨s, 0, none⟩), blk f] w fun e w' => e = .returned (blk (decF sBack K R f)) ∧ Below w.heap.size w w' := by
  have HH : Hid (CipherAt w c sBox sBack K R ∧ R ≤ 14 ∧ 1 ≤ R ∧ (∀ i, i < 240 → K i < 256) ∧ B16 f) := ⟨hC, hR, hR1, hK, hf⟩
  have hs : s < w.heap.size := World.block_lt_of_cell? _ _ hc
  clear hC hR hR1 hK hf
  go_enter Tryd.func25, Tryd.ntmps25
  go_wp2_with fail
  obtain ⟨W, hW⟩ : ∃ W, W = (w.alloc (.cells #[.int .u64 (hi f : Nat), .int .u64 (lo f : Nat)] 50)).alloc (.cells #[.int .u64 0, .int .u64 0] 50) := ⟨_, rfl⟩
  have HW : Hid (Only [] w W ∧ Has W w.heap.size 0 2 (blkV f) ∧ Has W (w.heap.size + 1) 0 2 (fun _ => .int .u64 0) ∧ Loose W (w.heap.size + 1) 0 2) := by
    rw [hW]; exact ⟨((Only.refl _ _).alloc _).alloc _, (Has.new_at rfl (blk_row f).symm).alloc _, Has.new_at (by simp) zero2, Loose.new_at (by simp)⟩
  rw [← hW]
  clear hW
  have c0 : W.cell? ⟨s, 0, none⟩ = some (.pointer (some ⟨c, 0, none⟩)) := HW.out.1.cell hc (by simp)
  have c1 : W.cell? ⟨w.heap.size, 0, none⟩ = some (.int .u64 (hi f : Nat)) := HW.out.2.1.get0 (by omega)
  have c2 : W.cell? ⟨w.heap.size, 1, none⟩ = some (.int .u64 (lo f : Nat)) := HW.out.2.1.get0 (by omega)
  have HS : Hid (∀ w', Only [] W w' → w'.cell? ⟨s, 0, none⟩ = some (.pointer (some ⟨c, 0, none⟩)) ∧ w'.cell? ⟨w.heap.size, 0, none⟩ = some (.int .u64 (hi f : Nat)) ∧ w'.cell? ⟨w.heap.size, 1, none⟩ = some (.int .u64 (lo f : Nat))) :=
    fun w' ho => ⟨ho.cell c0 (by simp), ho.cell c1 (by simp), ho.cell c2 (by simp)⟩
  have HC : Hid (∀ w', Only [] W w' → CipherAt w' c sBox sBack K R) := fun w' ho => (HH.out.1.only HW.out.1 (by simp)).only ho (by simp)
  go_cut [5] from 6 to 12 (fun s5 wx => ∃ tb, s5 = .pointer (some ⟨tb, 0, none⟩) ∧ Has wx tb 0 16 (by8 (decF sBack K R f)) ∧ Only [] W wx)
  case first =>
    have a1 : w.heap.size < W.heap.size := HW.out.2.1.lt (by omega)
    have a2 : s < W.heap.size := by omega
    have hst := fun wx : World => run_storeCells_new (P := Tryd.prog) wx 35 (rowV 16 (by8 fun _ => 0)) (rowV 16 (by8 (decF sBack K R f))) (by rw [rowV_size]; kernel_rfl) (by rw [rowV_size, rowV_size]) (one_rowV (fun _ _ => rfl))
    have hst2 := fun (wx : World) (tb : Nat) (hg : Good wx tb (rowV 16 (by8 fun _ => 0)) 35) => run_storeCells_good (P := Tryd.prog) hg 16 (by8 (decF sBack K R f)) (rowV_size _ _) (fun _ _ => rfl)
    simp only [← zero16] at hst hst2
    go_region_with (first
      | (go_at_call 27; refine (bytes_b f HH.out.2.2.2.2 _).mono ?_; rintro e w2 ⟨rfl, h2⟩
         have hk := HS.out w2 (by refine Only.then ?_ (Only.of_below h2 []) (by simp); first | exact (Only.refl [] W).drew | exact (Only.refl [] W).drew.alloc _ | exact ((Only.refl [] W).alloc _).drew)
         obtain ⟨k0, k1, k2⟩ := hk
         have b2 : s < w2.heap.size := World.block_lt_of_cell? _ _ k0
         have b3 : w.heap.size < w2.heap.size := World.block_lt_of_cell? _ _ k1)
      | (go_at_call 42; refine (decrypt_any c sBox sBack K f R _ (HC.out _ (by (repeat (first | refine Only.alloc ?_ _ | refine Only.drew ?_ | refine Only.then ?_ (Only.of_below h2 []) (by simp))); exact Only.refl [] W)) HH.out.2.1 (fun i _ => sBack_lt i) HH.out.2.2.2.1 HH.out.2.2.2.2).mono ?_; rintro e w3 ⟨rfl, h3⟩
         first
           | have hg := Good.below (Good.new rfl) h3
           | have hg := Good.below (Good.below (Good.new rfl) h2) h3
           | have hg := Good.below (Good.below (Good.drew (Good.new rfl)) h2) h3
           | skip))
    all_goals
      go_wp2
      go_meet
    all_goals
      have e2 := h2.size
      have e3 := h3.size
      simp only [World.size_alloc, World.size_drew] at e2 e3
      first
        | (refine ⟨_, rfl, (Good.put hg 16 (by8 (decF sBack K R f)) rfl).has, ?_⟩
           refine Only.setCells ?_ (fun hx => by omega) _ _
           repeat (first | refine Only.alloc ?_ _ | refine Only.drew ?_ | refine Only.then ?_ (Only.of_below h3 []) (by simp) | refine Only.then ?_ (Only.of_below h2 []) (by simp))
           exact Only.refl [] W)
        | (refine ⟨_, rfl, Has.new_at rfl rfl, ?_⟩
           repeat (first | refine Only.alloc ?_ _ | refine Only.drew ?_ | refine Only.then ?_ (Only.of_below h3 []) (by simp) | refine Only.then ?_ (Only.of_below h2 []) (by simp))
           exact Only.refl [] W)
  case rest =>
    obtain ⟨tb, rfl, h5, o5⟩ := hcut
    have H5 : Hid (Has wc tb 0 16 (by8 (decF sBack K R f)) ∧ Only [] W wc) := ⟨h5, o5⟩
    have HE : Hid (B16 (decF sBack K R f)) := decF_b (fun i _ => sBack_lt i) HH.out.2.2.2.1 HH.out.2.2.2.2 HH.out.2.1
    clear h5 o5 c0 c1 c2
    go_wp2_with (first
      | (go_at_call 23; refine (of_any tb 0 16 16 (decF sBack K R f) _ H5.out.1 HE.out (Nat.le_refl _) (Nat.le_refl _)).mono ?_; rintro e w6 ⟨rfl, h6⟩
         have HO6 : Hid (Only [] w w6) := (HW.out.1.then H5.out.2 (by simp)).then (Only.of_below h6 []) (by simp)
         have HG : Hid (Has w6 (w.heap.size + 1) 0 2 (fun _ => .int .u64 0) ∧ Loose w6 (w.heap.size + 1) 0 2) := by
           have ho : Only [] W w6 := H5.out.2.then (Only.of_below h6 []) (by simp)
           exact ⟨ho.has HW.out.2.2.1 (by simp), ho.loose HW.out.2.2.2 (HW.out.2.2.1.lt (by omega)) (by simp)⟩
         clear h6)
      | (refine wpList_store_has rfl 50 _ _ rfl (w.heap.size + 1) 0 2 (blkV (decF sBack K R f)) _ rfl rfl HG.out.1 HG.out.2 (by kernel_rfl) (fun i _ => blkV_one _ i) ?_; intro w7 h7))
    exact bodyPost_has 4 50 rfl _ _ 2 _ rfl h7.has _ Tryd.underlying50 rfl (by kernel_rfl) rfl ⟨rfl, (HO6.out.then h7.only (by simp)).nil⟩

end Go.Proofs.YtpkpkfjpnkbkbaaDoor
