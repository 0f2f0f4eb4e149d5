/- The walks of aes.unmix, Encrypt. -/
import Derived.Test.YtpkpkfjpnkbkbaaDoorAes2
namespace Go.Proofs.YtpkpkfjpnkbkbaaDoor
open Go.RowKit
set_option maxHeartbeats 4000000
set_option maxRecDepth 100000

theorem unmix_any (p o : Nat) (T : Nat → Nat) (w : World) (ht : Has w p o 16 (by8 T)) (hf : Loose w p o 16) (hT : ∀ i, i < 16 → T i < 256) :
    Calls Tryd.prog 51 #[.pointer (some ⟨p, o, none⟩)] w fun e w' => e = .returned (.tuple #[]) ∧ Put w w' p o 16 (by8 (mix3 T 3)) := by
  go_enter Tryd.func51, Tryd.ntmps51
  go_wp2
  go_loopw [2] (fun i wr => ∃ k : Nat, k ≤ 3 ∧ i = .int .i64 k ∧ Put w wr p o 16 (by8 (mix3 T k))) (fun i _ => 3 - (intOf i).toNat)
  case atStart => exact ⟨0, by omega, rfl, Put.of_has ht⟩
  case round =>
    obtain ⟨k, hk, rfl, hP⟩ := hrel
    by_cases hlt : k < 3
    · have hk' : (k : Int) < 3 := by omega
      have hl := hP.loose hf
      have hb := mix3_lt hT k
      have HP : Hid (Put w wr p o 16 (by8 (mix3 T k))) := hP
      have HL : Hid (Loose wr p o 16) := hl
      have HB : Hid (∀ i, i < 16 → mix3 T k i < 256) := hb
      clear ht hf hP hT hl hb
      go_wp2_with (go_at_call 48; refine (mix_any _ _ (mix3 T k) _ HP.out.has HL.out HB.out).mono ?_; rintro e w1 ⟨rfl, h1⟩)
      go_roundw
      case rel => exact ⟨k + 1, by omega, by go_num, HP.out.put h1⟩
      case measure => simp [intOf]; omega
    · obtain rfl : k = 3 := by omega
      clear ht hf hT
      go_wp2
      go_end0
      exact ⟨rfl, hP⟩

theorem zero16 : #[Value.int IntKind.u8 0, .int .u8 0, .int .u8 0, .int .u8 0, .int .u8 0, .int .u8 0, .int .u8 0, .int .u8 0, .int .u8 0, .int .u8 0, .int .u8 0, .int .u8 0, .int .u8 0, .int .u8 0, .int .u8 0, .int .u8 0] = rowV 16 (by8 fun _ => 0) := rfl

structure CipherAt (w : World) (c : Nat) (S S' K : Nat → Nat) (R : Nat) : Prop where
  s : Has w c 0 256 (by8 S)
  back : Has w c 256 256 (by8 S')
  keys : Has w c 512 240 (by8 K)
  rounds : w.cell? ⟨c, 752, none⟩ = some (.int .i64 R)

theorem CipherAt.key0 {w : World} {c : Nat} {S S' K : Nat → Nat} {R : Nat} (h : CipherAt w c S S' K R) : Has w c 512 16 (by8 K) := fun i hi => h.keys i (by omega)
theorem CipherAt.key {w : World} {c : Nat} {S S' K : Nat → Nat} {R : Nat} (h : CipherAt w c S S' K R) (r : Nat) (hr : r ≤ 14) : Has w c (512 + r * 16) 16 (by8 fun i => K (16 * r + i)) := fun i hi => by
  have := h.keys (16 * r + i) (by omega)
  rwa [show 512 + (16 * r + i) = 512 + r * 16 + i by omega] at this
theorem CipherAt.lt {w : World} {c : Nat} {S S' K : Nat → Nat} {R : Nat} (h : CipherAt w c S S' K R) : c < w.heap.size := h.s.lt (by omega)
theorem CipherAt.only {w w' : World} {c : Nat} {S S' K : Nat → Nat} {R : Nat} (h : CipherAt w c S S' K R) {T : List Nat} (ho : Only T w w') (hc : c ∉ T) : CipherAt w' c S S' K R :=
  ⟨ho.has h.s hc, ho.has h.back hc, ho.has h.keys hc, ho.cell h.rounds hc⟩

theorem encrypt_any (c : Nat) (S S' K B : Nat → Nat) (R : Nat) (w : World) (hC : CipherAt w c S S' K R) (hR : R ≤ 14) (hR1 : 1 ≤ R)
    (hS : ∀ i, i < 256 → S i < 256) (hK : ∀ i, i < 240 → K i < 256) (hB : ∀ i, i < 16 → B i < 256) :
    Calls Tryd.prog 39 #[.pointer (some ⟨c, 0, none⟩), .agg (rowV 16 (by8 B))] w fun e w' => e = .returned (.agg (rowV 16 (by8 (encAt S K R B R)))) ∧ Below w.heap.size w w' := by
  go_enter Tryd.func39, Tryd.ntmps39
  go_wp2_with (go_at_call 47; refine (xor_any _ _ _ _ B K _ ((Has.new w 16 (by8 B) _ rfl).alloc _) ((Loose.new w 16 0 _ _).alloc (by simp) _) ((hC.key0.alloc _).alloc _) hB (fun i hi => hK i (by omega)) (by have := hC.lt; omega)).mono ?_; rintro e w1 ⟨rfl, h1⟩)
  have hO : Only [] w w1 := (((Only.refl [] w).alloc _).alloc _).then h1.only (by simp)
  have hsz : w.heap.size + 2 ≤ w1.heap.size := by have := h1.only.size; simpa using this
  have hb1 : Has w1 w.heap.size 0 16 (by8 (encAt S K R B 0)) := h1.has.congr fun i _ => by unfold encAt; rw [if_pos (by omega)]; rfl
  have hr1 : Has w1 (w.heap.size + 1) 0 16 (by8 fun _ => 0) := h1.only.has (Has.new_at (by simp) zero16) (by simp)
  have hl1 : Loose w1 w.heap.size 0 16 := h1.loose ((Loose.new w 16 0 _ _).alloc (by simp) _)
  have hl2 : Loose w1 (w.heap.size + 1) 0 16 := h1.only.loose (Loose.new_at (by simp)) (by simp) (by simp)
  clear h1
  go_loopw [5] (fun i wr => ∃ r : Nat, r ≤ R ∧ i = .int .i64 ((r : Int) + 1) ∧ Only [] w wr ∧ w.heap.size + 2 ≤ wr.heap.size ∧ Has wr w.heap.size 0 16 (by8 (encAt S K R B r)) ∧ Loose wr w.heap.size 0 16
     ∧ Has wr (w.heap.size + 1) 0 16 (by8 fun _ => 0) ∧ Loose wr (w.heap.size + 1) 0 16) (fun i _ => R + 1 - (intOf i).toNat)
  case atStart => exact ⟨0, by omega, rfl, hO, hsz, hb1, hl1, hr1, hl2⟩
  case round =>
    clear hO hsz hb1 hl1 hr1 hl2
    obtain ⟨wo, rfl⟩ : ∃ wo : World, wo = wr := ⟨_, rfl⟩
    obtain ⟨r, hr, rfl, hO, hsz, hb1, hl1, hr1, hl2⟩ := hrel
    have hC1 := hC.only hO (by simp)
    have hR' : wo.cell? ⟨c, 752, none⟩ = some (.int .i64 R) := hC1.rounds
    have hcl := hC.lt
    by_cases hlt : r < R
    · have hrk : (r : Int) + 1 ≤ (R : Int) := by omega
      have H1 : Hid (Only [] w wo ∧ Has wo w.heap.size 0 16 (by8 (encAt S K R B r)) ∧ Loose wo w.heap.size 0 16 ∧ Has wo (w.heap.size + 1) 0 16 (by8 fun _ => 0) ∧ Loose wo (w.heap.size + 1) 0 16 ∧ CipherAt wo c S S' K R) := ⟨hO, hb1, hl1, hr1, hl2, hC1⟩
      have H2 : Hid ((∀ i, i < 256 → S i < 256) ∧ (∀ i, i < 240 → K i < 256) ∧ (∀ i, i < 16 → B i < 256)) := ⟨hS, hK, hB⟩
      clear hO hb1 hl1 hr1 hl2 hC1 hC hS hK hB
      go_wp2
      have hT0 : Has (wo.alloc (.cells (rowV 16 (by8 fun _ => 0)) 35)) wo.heap.size 0 16 (by8 fun _ => 0) := Has.new_at rfl rfl
      have hL0 : Loose (wo.alloc (.cells (rowV 16 (by8 fun _ => 0)) 35)) wo.heap.size 0 16 := Loose.new_at rfl
      rw [zero16]
      obtain ⟨W, hW⟩ : ∃ W, W = wo.alloc (.cells (rowV 16 (by8 fun _ => 0)) 35) := ⟨_, rfl⟩
      obtain ⟨tb, htb⟩ : ∃ tb, tb = wo.heap.size := ⟨_, rfl⟩
      have hWr : Only [] wo W := by rw [hW]; exact (Only.refl _ _).alloc _
      rw [← hW, ← htb] at hT0 hL0 ⊢
      clear hW
      have hcW : c ≠ tb := by omega
      have hbt : w.heap.size ≠ tb := by omega
      have H3 : Hid (Has W tb 0 16 (by8 fun _ => 0) ∧ Loose W tb 0 16 ∧ Only [] wo W ∧ tb = wo.heap.size) := ⟨hT0, hL0, hWr, htb⟩
      clear hT0 hL0 hWr htb
      go_loopw [21] (fun s wi => ∃ k : Nat, k ≤ 16 ∧ s = .int .i64 k ∧ Put W wi tb 0 k (by8 (shiftF S (encAt S K R B r)))) (fun s _ => 16 - (intOf s).toNat)
      case atStart => exact ⟨0, by omega, rfl, Put.refl _ _ _ _⟩
      case round =>
        obtain ⟨k, hk, rfl, hP⟩ := hrel
        by_cases hk16 : k < 16
        · obtain ⟨x, hx⟩ : ∃ x, x = encAt S K R B r ((k + 4 * (k % 4)) % 16) := ⟨_, rfl⟩
          have hxl : x < 256 := by rw [hx]; exact encAt_lt H2.out.1 H2.out.2.1 H2.out.2.2 hR r (by omega) _ (by omega)
          have hWi : Only [tb] wo W := H3.out.2.2.1.drop (by simp)
          have hWi := hWi.then hP.only (by simp)
          have f1 : wr.cell? ⟨w.heap.size, (k + 4 * (k % 4)) % 16, none⟩ = some (.int .u8 x) := by
            rw [hx]; exact hWi.cell (H1.out.2.1.get0 (by omega)) (by simpa using hbt)
          have f2 : wr.cell? ⟨c, x, none⟩ = some (.int .u8 (S x)) := hWi.cell (H1.out.2.2.2.2.2.s.get0 hxl) (by simpa using hcW)
          have f3 : wr.cell? ⟨tb, k, none⟩ = some (.int .u8 0) := hP.old (by omega) (H3.out.1.get0 hk16)
          have f4 : wr.frozen? ⟨tb, k, none⟩ = false := by have := hP.loose H3.out.2.1 k hk16; simpa using this
          have e0 : (k : Int) < 16 := by omega
          have e1 : (k : Int).tmod 4 = (k : Int) % 4 := Int.tmod_eq_emod_of_nonneg (by omega)
          have e2 : IntKind.i64.wrap (4 * ((k : Int) % 4)) = 4 * ((k : Int) % 4) := i64w (by omega) (by omega)
          have e3 : IntKind.i64.wrap ((k : Int) + 4 * ((k : Int) % 4)) = (k : Int) + 4 * ((k : Int) % 4) := i64w (by omega) (by omega)
          have e4 : ((k : Int) + 4 * ((k : Int) % 4)).tmod 16 = ((k : Int) + 4 * ((k : Int) % 4)) % 16 := Int.tmod_eq_emod_of_nonneg (by omega)
          have e5 : 0 ≤ ((k : Int) + 4 * ((k : Int) % 4)) % 16 := by omega
          have e6 : ((k : Int) + 4 * ((k : Int) % 4)) % 16 < 16 := by omega
          have e7 : (((k : Int) + 4 * ((k : Int) % 4)) % 16).toNat = (k + 4 * (k % 4)) % 16 := by omega
          have e8 : (x : Int) < 256 := by omega
          have HX : Hid (x = encAt S K R B r ((k + 4 * (k % 4)) % 16)) := hx
          have HP : Hid (Put W wr tb 0 k (by8 (shiftF S (encAt S K R B r)))) := hP
          clear hx hP hWi
          go_wp2
          go_still_tail 15, (by kernel_rfl)
          change wpList _ _ _ _ _ wr.drew
          go_wp2
          go_roundw
          case rel => exact ⟨k + 1, by omega, by go_num, (HP.out.step0 f3 (by show Value.int .u8 _ = Value.int .u8 ((shiftF S (encAt S K R B r) k : Nat) : Int); unfold shiftF; rw [← HX.out])).drew⟩
          case measure => simp [intOf]; omega
        · obtain rfl : k = 16 := by omega
          have hWi : Only [tb] wo wr := (H3.out.2.2.1.drop (by simp)).then hP.only (by simp)
          have HQ : Hid (Put W wr tb 0 16 (by8 (shiftF S (encAt S K R B r)))) := hP
          have HL : Hid (Loose wr tb 0 16) := hP.loose H3.out.2.1
          have HC : Hid (CipherAt wr c S S' K R) := H1.out.2.2.2.2.2.only hWi (by simpa using hcW)
          have hR2 : wr.cell? ⟨c, 752, none⟩ = some (.int .i64 R) := HC.out.rounds
          have HO : Hid (Only [tb] wo wr) := hWi
          clear hP hWi
          have HT : Hid (∀ i, i < 16 → shiftF S (encAt S K R B r) i < 256) := fun i _ => shiftF_lt H2.out.1 (encAt_lt H2.out.1 H2.out.2.1 H2.out.2.2 hR r (by omega))
          have HF : Hid (∀ w3 w4 r', Only [tb] wo w3 → Put w3 w4 w.heap.size 0 16 (by8 (encAt S K R B r')) → Only [] w w4 ∧ w.heap.size + 2 ≤ w4.heap.size ∧ Has w4 w.heap.size 0 16 (by8 (encAt S K R B r')) ∧ Loose w4 w.heap.size 0 16
              ∧ Has w4 (w.heap.size + 1) 0 16 (by8 fun _ => 0) ∧ Loose w4 (w.heap.size + 1) 0 16) := fun w3 w4 r' o1 p1 => by
            have ht := H3.out.2.2.2
            have o2 : Only [tb, w.heap.size] wo w4 := (o1.trans p1.only).drop (by simp)
            refine ⟨H1.out.1.then o2 (by simp; omega), by have := o2.size; omega, p1.has, p1.loose (o1.loose H1.out.2.2.1 (by omega) (by simp; omega)), o2.has H1.out.2.2.2.1 (by simp; omega), o2.loose H1.out.2.2.2.2.1 (by omega) (by simp; omega)⟩
          by_cases hl : r + 1 < R
          · have hrl : (r : Int) + 1 < (R : Int) := by omega
            have HS : Hid (encAt S K R B (r + 1) = x2 (mixF (shiftF S (encAt S K R B r))) (fun i => K (16 * (r + 1) + i))) := encAt_step S K B hl
            go_wp2_with (first
              | (go_at_call 48; refine (mix_any _ _ (shiftF S (encAt S K R B r)) _ HQ.out.has HL.out HT.out).mono ?_; rintro e w2 ⟨rfl, h2⟩)
              | (go_at_call 47; refine (xor_any _ _ _ _ (mixF (shiftF S (encAt S K R B r))) (fun i => K (16 * (r + 1) + i)) _ h2.has (h2.loose HL.out) ((HC.out.only h2.only (by simpa using hcW)).key (r + 1) (by omega)) (fun i hi => mixF_lt HT.out hi) (fun i hi => H2.out.2.1 _ (by omega)) (by omega)).mono ?_; rintro e w3 ⟨rfl, h3⟩
                 have ho := (HO.out.then h2.only (by simp)).then h3.only (by simp)
                 have HG : Hid (Only [tb] wo w3) := ho
                 have HV : Hid (Has w3 tb 0 16 (by8 (encAt S K R B (r + 1)))) := by have := h3.has; rwa [← HS.out] at this
                 clear h2 h3 ho)
              | refine wpList_load_has rfl 35 _ rfl _ _ 16 _ rfl HV.out _ Tryd.underlying35 rfl (by kernel_rfl) ?_
              | (refine wpList_store_has rfl 35 _ _ rfl _ _ 16 _ _ rfl rfl (HG.out.has H1.out.2.1 (by simpa using hbt)) (HG.out.loose H1.out.2.2.1 (by have := H3.out.2.2.2; omega) (by simpa using hbt)) (by kernel_rfl) (fun _ _ => rfl) ?_; intro w4 h4))
            have HE := HF.out _ _ _ HG.out h4
            go_roundw
            case rel => exact ⟨r + 1, by omega, by go_num, HE⟩
            case measure => simp [intOf]; omega
          · have hrl : ¬ (r : Int) + 1 < (R : Int) := by omega
            have hrr : r + 1 = R := by omega
            have HS : Hid (encAt S K R B (r + 1) = x2 (shiftF S (encAt S K R B r)) (fun i => K (16 * (r + 1) + i))) := by
              have := encAt_last S K B hrr
              rw [hrr]; exact this
            clear hrr
            go_wp2_with (first
              | (go_at_call 47; refine (xor_any _ _ _ _ (shiftF S (encAt S K R B r)) (fun i => K (16 * (r + 1) + i)) _ HQ.out.has HL.out (HC.out.key (r + 1) (by omega)) HT.out (fun i hi => H2.out.2.1 _ (by omega)) (by omega)).mono ?_; rintro e w3 ⟨rfl, h3⟩
                 have ho := HO.out.then h3.only (by simp)
                 have HG : Hid (Only [tb] wo w3) := ho
                 have HV : Hid (Has w3 tb 0 16 (by8 (encAt S K R B (r + 1)))) := by have := h3.has; rwa [← HS.out] at this
                 clear h3 ho)
              | refine wpList_load_has rfl 35 _ rfl _ _ 16 _ rfl HV.out _ Tryd.underlying35 rfl (by kernel_rfl) ?_
              | (refine wpList_store_has rfl 35 _ _ rfl _ _ 16 _ _ rfl rfl (HG.out.has H1.out.2.1 (by simpa using hbt)) (HG.out.loose H1.out.2.2.1 (by have := H3.out.2.2.2; omega) (by simpa using hbt)) (by kernel_rfl) (fun _ _ => rfl) ?_; intro w4 h4))
            have HE := HF.out _ _ _ HG.out h4
            go_roundw
            case rel => exact ⟨r + 1, by omega, by go_num, HE⟩
            case measure => simp [intOf]; omega
    · obtain rfl : r = R := by omega
      have hrk : ¬ (r : Int) + 1 ≤ (r : Int) := by omega
      clear hC hC1 hS hK hB
      go_wp2_with (first
        | refine wpList_load_has rfl 35 _ rfl _ _ 16 _ rfl hb1 _ Tryd.underlying35 rfl (by kernel_rfl) ?_
        | (refine wpList_store_has rfl 35 _ _ rfl _ _ 16 _ _ rfl rfl hr1 hl2 (by kernel_rfl) (fun _ _ => rfl) ?_; intro w2 h2))
      exact bodyPost_has 4 35 rfl _ _ 16 _ rfl h2.has _ Tryd.underlying35 rfl (by kernel_rfl) rfl ⟨rfl, (hO.then h2.only (by simp)).nil⟩
end Go.Proofs.YtpkpkfjpnkbkbaaDoor
