/- The walk of ocb.Open. -/
import Derived.Test.YtpkpkfjpnkbkbaaDoorOcb12
import Derived.Test.YtpkpkfjpnkbkbaaDoorOcb14
namespace Go.Proofs.YtpkpkfjpnkbkbaaDoor
open Go.RowKit
set_option maxHeartbeats 8000000
set_option maxRecDepth 100000

/-- What two byte rows differ by. -/
def dfF (f g : Nat → Nat) : Nat → Nat
  | 0 => 0
  | k + 1 => dfF f g k ||| (f k ^^^ g k)
theorem dfF_b {f g : Nat → Nat} (hf : B16 f) (hg : B16 g) : ∀ k, k ≤ 16 → dfF f g k < 256
  | 0, _ => by simp [dfF]
  | k + 1, h => or_lt8 (dfF_b hf hg k (by omega)) (xor_lt8 (hf k (by omega)) (hg k (by omega)))
theorem dfF_zero {f g : Nat → Nat} : ∀ k, dfF f g k = 0 ↔ ∀ i, i < k → f i = g i
  | 0 => by simp [dfF]
  | k + 1 => by
    show dfF f g k ||| (f k ^^^ g k) = 0 ↔ _
    rw [Nat.or_eq_zero_iff, dfF_zero k]
    constructor
    · rintro ⟨h1, h2⟩ i hi
      have h2 : f k = g k := by
        apply Nat.eq_of_testBit_eq
        intro j
        have := congrArg (Nat.testBit · j) h2
        simpa using this
      by_cases e : i = k
      · subst e; exact h2
      · exact h1 i (by omega)
    · intro h
      exact ⟨fun i hi => h i (by omega), by rw [h k (by omega)]; exact Nat.xor_self _⟩

theorem Open_bad (ka : Option Addr) (kn kcap : Nat) (L : List Nat) (na : Option Addr) (nn ncap : Nat) (N : List Nat) (aa : Option Addr) (an acap : Nat) (pa : Option Addr) (pn pcap : Nat) (w : World) (hL : By L) (hk : SlIn w ka kn kcap L) (hno : SlIn w na nn ncap N)
    (h : ¬ ((L.length = 16 ∨ L.length = 32) ∧ 1 ≤ N.length ∧ N.length ≤ 15)) :
    Calls Tryd.prog 10 #[.slice ka kn kcap, .slice na nn ncap, .slice aa an acap, .slice pa pn pcap] w fun e w' => e = .returned (.tuple #[.slice none 0 0, .int .i64 1]) ∧ Below w.heap.size w w' := by
  have HC : Hid (Calls Tryd.prog 12 #[.slice ka kn kcap, .slice na nn ncap] w fun e w' => e = .returned (.pointer none) ∧ Below w.heap.size w w') := begin_nil ka kn kcap L na nn ncap N w hL hk hno h
  clear hL hk hno h
  go_enter Tryd.func10, Tryd.ntmps10
  go_wp2_with (go_at_call 12; refine HC.out.mono ?_; rintro e w1 ⟨rfl, h1⟩)
  go_ret2
  exact ⟨rfl, h1⟩

theorem Open_short (ka : Option Addr) (kn kcap : Nat) (L : List Nat) (na : Option Addr) (nn ncap : Nat) (N : List Nat) (aa : Option Addr) (an acap : Nat) (pa : Option Addr) (pn pcap : Nat) (w : World)
    (hL : By L) (hN : By N) (hk : SlIn w ka kn kcap L) (hno : SlIn w na nn ncap N)
    (h : L.length = 16 ∨ L.length = 32) (h1 : 1 ≤ N.length) (h2 : N.length ≤ 15) (hp : pn < 16) :
    Calls Tryd.prog 10 #[.slice ka kn kcap, .slice na nn ncap, .slice aa an acap, .slice pa pn pcap] w fun e w' => e = .returned (.tuple #[.slice none 0 0, .int .i64 5]) ∧ Below w.heap.size w w' := by
  have HC : Hid (Calls Tryd.prog 12 #[.slice ka kn kcap, .slice na nn ncap] w fun e w' => ∃ s c, e = .returned (.pointer (some ⟨s, 0, none⟩)) ∧ w.heap.size ≤ s ∧ w.heap.size ≤ c ∧ s ≠ c
      ∧ SealerAt w' s c (keyF sBox L) (skR L) (skStar L) (skDol L) (skLs L) (skOff L N) zB ∧ Below w.heap.size w w') := begin_any ka kn kcap L na nn ncap N w hL hN hk hno h h1 h2
  have w16 : IntKind.i64.wrap ((pn : Int) - 16) = (pn : Int) - 16 := by simp only [IntKind.wrap, IntKind.bits, IntKind.signed]; simp; omega
  have l0 : (pn : Int) - 16 < 0 := by omega
  clear hL hN hk hno h h1 h2
  go_enter Tryd.func10, Tryd.ntmps10
  go_wp2_with (go_at_call 12; refine HC.out.mono ?_; rintro e w1 ⟨s, c, rfl, h1, h2, h3, h4, h5⟩; clear h1 h2 h3 h4)
  go_ret2
  exact ⟨rfl, h5⟩

/-- Opened, or refused. -/
theorem Open_ok (ka : Option Addr) (kn kcap : Nat) (L : List Nat) (na : Option Addr) (nn ncap : Nat) (N : List Nat) (aa : Option Addr) (an acap : Nat) (A : List Nat) (pb po pn pcap m : Nat) (S : List Nat) (w : World)
    (hT : TabIs w) (hL : By L) (hN : By N) (hA : By A) (hS : By S) (hk : SlIn w ka kn kcap L) (hno : SlIn w na nn ncap N) (had : SlIn w aa an acap A) (hsl : S.length = pn) (hh : Has w pb po pn (byG S)) (hle : pn ≤ pcap)
    (h : L.length = 16 ∨ L.length = 32) (h1 : 1 ≤ N.length) (h2 : N.length ≤ 15) (ha : an < 2 ^ 46) (hp : pn < 2 ^ 46) (hm : pn = m + 16) :
    Calls Tryd.prog 10 #[.slice ka kn kcap, .slice na nn ncap, .slice aa an acap, .slice (some ⟨pb, po, none⟩) pn pcap] w fun e w' =>
      (if dfF (skTag true L N A (S.take m)) (fun i => S.getD (m + i) 0) 16 = 0 then ∃ ra, e = .returned (.tuple #[.slice ra m m, .int .i64 0]) ∧ (∀ x, ra = some x → w.heap.size ≤ x.block) ∧ SlIn w' ra m m (skOut true L N (S.take m))
        else e = .returned (.tuple #[.slice none 0 0, .int .i64 5])) ∧ Below w.heap.size w w' := by
  have HC : Hid (Calls Tryd.prog 12 #[.slice ka kn kcap, .slice na nn ncap] w fun e w' => ∃ s c, e = .returned (.pointer (some ⟨s, 0, none⟩)) ∧ w.heap.size ≤ s ∧ w.heap.size ≤ c ∧ s ≠ c
      ∧ SealerAt w' s c (keyF sBox L) (skR L) (skStar L) (skDol L) (skLs L) (skOff L N) zB ∧ Below w.heap.size w w') := begin_any ka kn kcap L na nn ncap N w hL hN hk hno h h1 h2
  have hpb : pb < w.heap.size := hh.lt (by omega)
  obtain ⟨P, hP⟩ : ∃ P, P = S.take m := ⟨_, rfl⟩
  have hPl : P.length = m := by rw [hP, List.length_take]; omega
  have hPb : By P := by rw [hP]; exact fun x hx => hS x (List.mem_of_mem_take hx)
  have hPh : Has w pb po m (byG P) := fun i hi => by
    rw [hh i (by omega), hP]
    show some (Value.int .u8 ((S.getD i 0 : Nat) : Int)) = some (Value.int .u8 (((S.take m).getD i 0 : Nat) : Int))
    simp [List.getD_eq_getElem?_getD, hi]
  have hTh : Has w pb (po + m) 16 (by8 fun i => S.getD (m + i) 0) := fun i hi => by
    have := hh (m + i) (by omega)
    rw [show po + (m + i) = po + m + i by omega] at this
    exact this
  rw [← hP]
  obtain ⟨tg, htg⟩ : ∃ tg, tg = skTag true L N A P := ⟨_, rfl⟩
  obtain ⟨sg, hsg⟩ : ∃ sg : Nat → Nat, sg = fun i => S.getD (m + i) 0 := ⟨_, rfl⟩
  rw [← htg, ← hsg]
  rw [← hsg] at hTh
  have HK := skKeyed hL h
  have HH : Hid (TabIs w ∧ Keyed (keyF sBox L) (skR L) (skStar L) (skDol L) (skLs L) ∧ By A ∧ By P ∧ SlIn w aa an acap A ∧ Has w pb po m (byG P) ∧ an < 2 ^ 46 ∧ m < 2 ^ 46 ∧ Has w pb (po + m) 16 (by8 sg)) := ⟨hT, HK, hA, hPb, had, hPh, ha, by omega, hTh⟩
  have HTg : Hid (B16 tg ∧ B16 sg) := ⟨by rw [htg]; exact skTag_b hL h hA hPb, by rw [hsg]; exact fun i _ => hS.getD _⟩
  have ht : 1 < w.heap.size := hT.lt (by omega)
  have HP : Hid (P.length = m ∧ tg = skTag true L N A P) := ⟨hPl, htg⟩
  subst hm
  have w16 : IntKind.i64.wrap (((m + 16 : Nat) : Int) - 16) = (m : Int) := by simp only [IntKind.wrap, IntKind.bits, IntKind.signed]; simp; omega
  have w17 : IntKind.i64.wrap ((m : Int) + 16 - 16) = (m : Int) := by simp only [IntKind.wrap, IntKind.bits, IntKind.signed]; simp; omega
  have l0 : ¬ (m : Int) < 0 := by omega
  have m46 : m < 2 ^ 46 := by omega
  have mc : m ≤ pcap := by omega
  have mc1 : (m : Int) ≤ (pcap : Int) := by omega
  clear hT hL hN hA hk hno had hh h h1 h2 ha hp HK hPl hPb hPh hTh htg hsg hP hS hsl
  go_enter Tryd.func10, Tryd.ntmps10
  go_wp2_with (first
    | (go_at_call 12; refine HC.out.mono ?_; rintro e w1 ⟨s, c, rfl, h1, h2, h3, h4, h5⟩
       have H1 : Hid (w.heap.size ≤ s ∧ w.heap.size ≤ c ∧ s ≠ c ∧ SealerAt w1 s c (keyF sBox L) (skR L) (skStar L) (skDol L) (skLs L) (skOff L N) zB ∧ Below w.heap.size w w1) := ⟨h1, h2, h3, h4, h5⟩
       clear h1 h2 h3 h4 h5)
    | (go_at_call 13
       have o1 : Only [] w w1 := Only.of_below H1.out.2.2.2.2 []
       refine (through_open s c _ _ _ _ _ _ _ pb po m pcap P w1 (o1.has HH.out.1 (by simp)) H1.out.2.2.2.1 HH.out.2.1 (skOff_b L N) zB_b H1.out.2.2.1 (by have := H1.out.1; omega) HH.out.2.2.2.1 HP.out.1 (o1.has HH.out.2.2.2.2.2.1 (by simp)) mc m46 (by have := o1.size; omega) (by have := H1.out.1; omega)).mono ?_
       rintro e w2 ⟨v, rfl, h1, h2, h3⟩
       have H2 : Hid (Buf w2 w.heap.size v (skOut true L N P) ∧ SealerAt w2 s c (keyF sBox L) (skR L) (skStar L) (skDol L) (skLs L) (thrOffF (skStar L) (skLs L) (skOff L N) P) (thrSumF true (keyF sBox L) (skR L) (skStar L) (skLs L) (skOff L N) zB P) ∧ Only [] w w2) := ⟨h1.base_le o1.size, h2, o1.then h3 (fun x hx hlt => by have := H1.out.1; simp at hx; omega)⟩
       clear h1 h2 h3 o1)
    | (go_at_call 14
       refine (tag_any s c _ _ _ _ _ _ _ aa an acap A w2 (H2.out.2.2.has HH.out.1 (by simp)) H2.out.2.1 HH.out.2.1 (thrOffF_b HH.out.2.1 (skOff_b L N)) (thrSumF_b HH.out.2.1 (skOff_b L N) zB_b HH.out.2.2.2.1) HH.out.2.2.1 (HH.out.2.2.2.2.1.only H2.out.2.2 (by simp)) (by have := HH.out.2.2.2.2.2.2.1; omega)).mono ?_
       rintro e w3 ⟨rfl, h1⟩
       have H3 : Hid (Below w2.heap.size w2 w3) := h1
       clear h1)
    | (refine wpList_store_has rfl 35 _ _ rfl w3.heap.size 0 16 (by8 tg) (by8 fun _ => 0) rfl (by rw [HP.out.2]; rfl) (Has.new_at rfl zero16) (Loose.new_at rfl) (by kernel_rfl) (fun _ _ => rfl) ?_; intro w5 h5
       have H5 : Hid (Has w5 w3.heap.size 0 16 (by8 tg) ∧ Only [] w2 w5) := ⟨h5.has, ((Only.of_below H3.out []).alloc _).then h5.only (fun x hx hlt => by have := H3.out.size; simp at hx; omega)⟩
       clear h5)
    | (refine wpList_load_has rfl 35 _ rfl w3.heap.size 0 16 (by8 tg) rfl H5.out.1 _ Tryd.underlying35 rfl (by kernel_rfl) ?_))
  go_loopw [14, 36] (fun x y wr => ∃ k : Nat, k ≤ 16 ∧ y = .int .i64 (k : Int) ∧ x = .int .u8 (dfF tg sg k : Nat) ∧ wr = w5) (fun _ y _ => 16 - (intOf y).toNat)
  case atStart => exact ⟨0, by omega, rfl, rfl, rfl⟩
  case round =>
    obtain ⟨k, hk, rfl, rfl, rfl⟩ := hrel
    by_cases hlt : k < 16
    · have k0 : (k : Int) < 16 := by omega
      have ht1 := HTg.out.1 k hlt
      have hs1 := HTg.out.2 k hlt
      have hd1 := dfF_b HTg.out.1 HTg.out.2 k (by omega)
      have c1 : wr.cell? ⟨pb, po + (m + k), none⟩ = some (.int .u8 (sg k : Nat)) := by
        have := (H2.out.2.2.then H5.out.2 (by simp)).cell (HH.out.2.2.2.2.2.2.2.2 k hlt) (by simp)
        rw [show po + (m + k) = po + m + k by omega]; exact this
      have f1 : ∀ w, (Instr.index 35 (.agg (rowV 16 (by8 tg))) (.int .i64 k)).run Tryd.prog w = .ok (.int .u8 (tg k)) w := fun w => run_index_row _ 5 16 _ _ Tryd.underlying35 Tryd.underlying5 rfl (by kernel_rfl) _ _ hlt w
      have x1 := x8 ht1 hs1
      have x2 : bits .or .u8 (dfF tg sg k : Int) ((tg k ^^^ sg k : Nat) : Int) = ((dfF tg sg (k + 1) : Nat) : Int) := u8_or_nat _ _ hd1 (xor_lt8 ht1 hs1)
      have s1 : IntKind.i64.wrap ((m : Int) + (k : Int)) = (m : Int) + (k : Int) := i64w (by omega) (by omega)
      have s2 : (m : Int) + (k : Int) < (m : Int) + 16 := by omega
      have s3 : 0 ≤ (m : Int) + (k : Int) := by omega
      have s4 : ((m : Int) + (k : Int)).toNat = m + k := by omega
      have s5 : IntKind.i64.wrap ((k : Int) + 1) = (k : Int) + 1 := i64w (by omega) (by omega)
      clear ht1 hs1 hd1
      go_wp2
      go_roundw
      case rel => exact ⟨k + 1, by omega, by go_num, by first | trivial | rfl | rw [x1, x2] | (rw [← x2, ← x1]), by first | trivial | rfl⟩
      case measure => simp [intOf]; omega
    · obtain rfl : k = 16 := by omega
      by_cases hd : dfF tg sg 16 = 0
      · rw [hd]
        have hlen : (skOut true L N P).length = m := by have : (skOut true L N P).length = P.length := thrOutF_len; rw [this]; exact HP.out.1
        have HB : Hid (Below w.heap.size w wr) := (H2.out.2.2.then H5.out.2 (by simp)).nil
        rcases H2.out.1.2 with ⟨rfl, hn⟩ | ⟨g, cap, cur, rfl, hb, hg, hn, -, -, -⟩
        · obtain rfl : m = 0 := by omega
          have hnil := List.eq_nil_of_length_eq_zero hlen
          go_wp2_with (go_at_call 15; refine (clip_none _).mono ?_; rintro e w7 ⟨rfl, rfl⟩)
          go_ret2
          exact ⟨by (try rw [if_pos hd]); exact ⟨none, rfl, fun x hx => (by cases hx), Or.inl ⟨rfl, by first | rfl | exact hnil, fun _ => rfl⟩⟩, HB.out⟩
        · have HS : Hid (SlIn wr (some ⟨g, 0, none⟩) m m (skOut true L N P)) := by
            have hlt : g < w2.heap.size := (Array.getElem?_eq_some_iff.1 hg).1
            refine Or.inr ⟨g, 0, rfl, hlen, ?_, Nat.le_refl _, by have := H5.out.2.size; omega⟩
            by_cases h0 : skOut true L N P = []
            · rw [h0] at hlen; simp at hlen; intro i hi; omega
            · obtain ⟨g', cap', hv', -, -, -, -, hh, -⟩ := H2.out.1.open h0
              have e1 : g' = g := by injection hv' with a1; injection a1 with a2; injection a2 with a3; exact a3.symm
              subst e1
              rw [hlen] at hh
              exact H5.out.2.has hh (by simp)
          rw [hlen] at hn ⊢
          go_wp2_with (go_at_call 15; refine (clip_any g m cap _ hn).mono ?_; rintro e w7 ⟨rfl, rfl⟩)
          go_ret2
          exact ⟨by (try rw [if_pos hd]); exact ⟨_, rfl, fun x hx => by cases hx; exact hb, HS.out⟩, HB.out⟩
      · have hd0 : ((dfF tg sg 16 : Nat) : Int) ≠ 0 := by omega
        have hd1 : (((dfF tg sg 16 : Nat) : Int) != 0) = true := by simp; omega
        go_wp2
        go_ret2
        exact ⟨by first | rw [if_neg hd] | rfl, (H2.out.2.2.then H5.out.2 (by simp)).nil⟩

end Go.Proofs.YtpkpkfjpnkbkbaaDoor
