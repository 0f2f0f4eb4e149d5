/- The walk of aes's boxes. -/
import Derived.Test.YtpkpkfjpnkbkbaaDoorAes1
namespace Go.Proofs.YtpkpkfjpnkbkbaaDoor
open Go.RowKit
set_option maxHeartbeats 4000000
set_option maxRecDepth 100000

theorem boxes_any (c : Nat) (w : World) (hs : Has w c 0 256 (by8 fun _ => 0)) (hb : Has w c 256 256 (by8 fun _ => 0)) (hl : Loose w c 0 512) :
    Calls Tryd.prog 36 #[.pointer (some ⟨c, 0, none⟩)] w fun e w' => e = .returned (.tuple #[]) ∧ Only [c] w w' ∧ Has w' c 0 256 (by8 sBox) ∧ Has w' c 256 256 (by8 sBack)
      ∧ (∀ i, 512 ≤ i → w'.cell? ⟨c, i, none⟩ = w.cell? ⟨c, i, none⟩) ∧ (∀ i, w'.frozen? ⟨c, i, none⟩ = w.frozen? ⟨c, i, none⟩) := by
  go_enter Tryd.func36, Tryd.ntmps36
  go_wp2
  go_loopg [2, 3] 255 (fun g p q wr => ∃ k : Nat, k + g = 255 ∧ 0 < g ∧ p = .int .u8 (pq k).1 ∧ q = .int .u8 (pq k).2 ∧ Put w wr c 0 256 (by8 (tab k)))
  case atStart => exact ⟨0, by omega, by omega, rfl, rfl, Put.of_has hs⟩
  case round =>
    obtain ⟨k, hk, hg, rfl, rfl, hP⟩ := hrel
    obtain ⟨p, hp⟩ : ∃ p, p = (pq k).1 := ⟨_, rfl⟩
    obtain ⟨q, hq⟩ : ∃ q, q = (pq k).2 := ⟨_, rfl⟩
    have hpl : p < 256 := by rw [hp]; exact (pq_lt k).1
    have hql : q < 256 := by rw [hq]; exact (pq_lt k).2
    rw [← hp, ← hq]
    have HP : Hid (p = (pq k).1) := hp
    have HQ : Hid (q = (pq k).2) := hq
    have x1 := x8 hpl (dbl_lt hpl)
    have x2 := x8 hql (b := q * 2 % 256) (by omega)
    obtain ⟨q1, hq1⟩ : ∃ q1, q1 = q ^^^ (q * 2 % 256) := ⟨_, rfl⟩
    have hq1l : q1 < 256 := by rw [hq1]; exact xor_lt8 hql (by omega)
    rw [← hq1] at x2
    have x3 := x8 hq1l (b := q1 * 4 % 256) (by omega)
    obtain ⟨q2, hq2⟩ : ∃ q2, q2 = q1 ^^^ (q1 * 4 % 256) := ⟨_, rfl⟩
    have hq2l : q2 < 256 := by rw [hq2]; exact xor_lt8 hq1l (by omega)
    rw [← hq2] at x3
    have x4 := x8 hq2l (b := q2 * 16 % 256) (by omega)
    obtain ⟨q3, hq3⟩ : ∃ q3, q3 = q2 ^^^ (q2 * 16 % 256) := ⟨_, rfl⟩
    have hq3l : q3 < 256 := by rw [hq3]; exact xor_lt8 hq2l (by omega)
    rw [← hq3] at x4
    have x5 := n8 hq3l (b := 128) (by omega)
    have HQ1 : Hid (q1 = q ^^^ (q * 2 % 256)) := hq1
    have HQ2 : Hid (q2 = q1 ^^^ (q1 * 4 % 256)) := hq2
    have HQ3 : Hid (q3 = q2 ^^^ (q2 * 16 % 256)) := hq3
    have x6 := x8 hq3l (b := 9) (by omega)
    simp only [Int.natCast_emod, Int.natCast_mul, Int.cast_ofNat_Int] at x2 x3 x4 x5 x6
    have hb3 : ((q3 &&& 128 : Nat) : Int) = 0 ∨ ¬ ((q3 &&& 128 : Nat) : Int) = 0 := by omega
    have HR : Hid (Put w wr c 0 256 (by8 (tab k))) := hP
    have HL : Hid (Has w c 256 256 (by8 fun _ => 0) ∧ Loose w c 0 512) := ⟨hb, hl⟩
    obtain ⟨p', hp'⟩ : ∃ p', p' = p ^^^ dbl p := ⟨_, rfl⟩
    have hpl' : p' < 256 := by rw [hp']; exact xor_lt8 hpl (dbl_lt hpl)
    rw [← hp'] at x1
    have c1 : wr.cell? ⟨c, p', none⟩ = some (.int .u8 (tab k p')) := hP.has.get0 hpl'
    have c2 : wr.frozen? ⟨c, p', none⟩ = false := by have := hP.loose hl p' (by omega); simpa using this
    have HP1 : Hid (p' = (pq (k + 1)).1) := by show p' = _; rw [hp', HP.out]; rfl
    have c3 : (p' : Int) < 256 := by omega
    clear hp hq hq1 hq2 hq3 hs hb hl hP hp'
    obtain ⟨q4, hq4⟩ : ∃ q4, q4 = qn q := ⟨_, rfl⟩
    have hq4l : q4 < 256 := by rw [hq4]; exact qn_lt hql
    have HQ4 : Hid (q4 = (pq (k + 1)).2) := by show q4 = _; rw [hq4, HQ.out]; rfl
    have hsv := sval_bits hq4l
    by_cases h128 : q3 &&& 128 = 0
    case' pos =>
      have e4 : q3 = q4 := by rw [hq4, qn_of HQ1.out HQ2.out HQ3.out, if_pos h128]
      have x5' : (bits BinOp.and IntKind.u8 (q3 : Int) 128 != 0) = false := by rw [x5, h128]; rfl
      clear x5 h128 hb3 hq4 x6
      have e4 := e4.symm
      subst e4
    case' neg =>
      have e4 : q3 ^^^ 9 = q4 := by rw [hq4, qn_of HQ1.out HQ2.out HQ3.out, if_neg h128]
      have x5' : (bits BinOp.and IntKind.u8 (q3 : Int) 128 != 0) = true := by rw [x5]; simp; omega
      rw [e4] at x6
      clear x5 h128 hb3 hq4 e4
    all_goals
      by_cases hlast : k + 1 = 255
      · have hp1 : p' = 1 := by rw [HP1.out, hlast]; exact pq_one.2
        have t1 : ((p' : Int) == 1) = true := by rw [hp1]; rfl
        clear hp1
        go_upto_region 9 with (go_at_call 38; refine (double_any _ hpl _).mono ?_; rintro e w' ⟨rfl, rfl⟩)
        have hP2 : Put w (wr.setCell ⟨c, p', none⟩ (.int .u8 (sval q4))) c 0 256 (by8 (tab 255)) := (HR.out.set0 p' hpl' _).congr fun i _ => by
          show _ = Value.int .u8 ((tab 255 i : Nat) : Int)
          rw [← hlast]
          simp only [tab, ← HP1.out, ← HQ4.out]
          split <;> rfl
        obtain ⟨W, hW⟩ : ∃ W, W = wr.setCell ⟨c, p', none⟩ (.int .u8 (sval q4)) := ⟨_, rfl⟩
        rw [← hW] at hP2
        rw [← hW]
        clear hW HR c1 c2 x1 x2 x3 x4 hsv t1 x5'
        try clear x6
        have d1 : W.cell? ⟨c, 0, none⟩ = some (.int .u8 (tab 255 0)) := hP2.has.get0 (by omega)
        have d2 : W.frozen? ⟨c, 0, none⟩ = false := by have := hP2.loose HL.out.2 0 (by omega); simpa using this
        have hP3 : Put w (W.setCell ⟨c, 0, none⟩ (.int .u8 99)) c 0 256 (by8 sBox) := (hP2.set0 0 (by omega) _).congr fun i _ => by
          show _ = Value.int .u8 ((sBox i : Nat) : Int)
          unfold sBox
          split <;> rfl
        have HP3 : Hid (Put w (W.setCell ⟨c, 0, none⟩ (.int .u8 99)) c 0 256 (by8 sBox)) := hP3
        clear hP2 hP3
        go_wp2_with (refine wpList_load_has rfl 69 _ rfl _ _ 256 _ rfl HP3.out.has _ Tryd.underlying69 rfl (by kernel_rfl) ?_)
        obtain ⟨V, hV⟩ : ∃ V, V = W.setCell ⟨c, 0, none⟩ (.int .u8 99) := ⟨_, rfl⟩
        rw [← hV] at HP3
        rw [← hV]
        clear hV d1 d2
        have HB : Hid (Has V c 256 256 (by8 fun _ => 0) ∧ Loose V c 0 512) := ⟨fun i hi => HP3.out.old (by omega) (HL.out.1 i hi), HP3.out.loose HL.out.2⟩
        go_loopw [68] (fun s wi => ∃ j : Nat, j ≤ 256 ∧ s = .int .i64 j ∧ Put V wi c 256 256 (by8 (btab sBox j))) (fun s _ => 256 - (intOf s).toNat)
        case atStart => exact ⟨0, by omega, rfl, Put.of_has HB.out.1⟩
        case round =>
          obtain ⟨j, hj, rfl, hP⟩ := hrel
          by_cases hj2 : j < 256
          · have f0 : (j : Int) < 256 := by omega
            have f1 : ∀ w, (Instr.index 69 (.agg (rowV 256 (by8 sBox))) (.int .i64 j)).run Tryd.prog w = .ok (.int .u8 (sBox j)) w := fun w => run_index_row _ 5 256 _ _ Tryd.underlying69 Tryd.underlying5 rfl (by kernel_rfl) _ _ hj2 w
            have hsl := sBox_lt j
            obtain ⟨y, hy⟩ : ∃ y, y = sBox j := ⟨_, rfl⟩
            rw [← hy] at f1 hsl
            have f2 : wr.cell? ⟨c, 256 + y, none⟩ = some (.int .u8 (btab sBox j y)) := hP.has y hsl
            have f3 : wr.frozen? ⟨c, 256 + y, none⟩ = false := by have := hP.loose HB.out.2 (256 + y) (by omega); simpa using this
            have f4 : (y : Int) < 256 := by omega
            have HY : Hid (y = sBox j) := hy
            have HQ5 : Hid (Put V wr c 256 256 (by8 (btab sBox j))) := hP
            clear hy hP
            go_wp2
            go_roundw
            case rel => exact ⟨j + 1, by omega, by go_num, (HQ5.out.set y hsl _).congr fun i _ => by
              show _ = Value.int .u8 ((btab sBox (j + 1) i : Nat) : Int)
              simp only [btab, ← HY.out]
              split <;> rfl⟩
            case measure => simp [intOf]; omega
          · obtain rfl : j = 256 := by omega
            go_wp2
            go_end0
            exact ⟨rfl, HP3.out.only.then hP.only (by simp), fun i hi => hP.old (by omega) (HP3.out.has i hi), hP.has, fun i hi => by rw [hP.rest i (by omega), HP3.out.rest i (by omega)], fun i => by rw [hP.frozen, HP3.out.frozen]⟩
      · have hp1 : p' ≠ 1 := by rw [HP1.out]; exact pq_one.1 _ (by omega) (by omega)
        have t1 : ((p' : Int) == 1) = false := by simp; omega
        clear hp1
        go_wp2_with (go_at_call 38; refine (double_any _ hpl _).mono ?_; rintro e w' ⟨rfl, rfl⟩)
        have hP2 : Put w (wr.setCell ⟨c, p', none⟩ (.int .u8 (sval q4))) c 0 256 (by8 (tab (k + 1))) := (HR.out.set0 p' hpl' _).congr fun i _ => by
          show _ = Value.int .u8 ((tab (k + 1) i : Nat) : Int)
          simp only [tab, ← HP1.out, ← HQ4.out]
          split <;> rfl
        go_roundg (gk - 1)
        case rel => exact ⟨k + 1, by omega, by omega, by rw [HP1.out], by rw [HQ4.out], hP2⟩
        case measure => omega
end Go.Proofs.YtpkpkfjpnkbkbaaDoor
