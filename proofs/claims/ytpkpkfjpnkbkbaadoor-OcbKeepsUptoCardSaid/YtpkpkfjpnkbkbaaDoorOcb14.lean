/- The walk of ocb.Seal. -/
import Derived.Test.YtpkpkfjpnkbkbaaDoorOcb11
import Derived.Test.YtpkpkfjpnkbkbaaDoorOcb13
namespace Go.Proofs.YtpkpkfjpnkbkbaaDoor
open Go.RowKit
set_option maxHeartbeats 8000000
set_option maxRecDepth 100000

def skR (L : List Nat) : Nat := L.length / 4 + 6
def skE (L : List Nat) (f : Nat → Nat) : Nat → Nat := encAt sBox (keyF sBox L) (skR L) f (skR L)
def skStar (L : List Nat) : Nat → Nat := skE L zB
def skDol (L : List Nat) : Nat → Nat := dblB (skStar L)
def skLs (L : List Nat) : Nat → Nat → Nat := lsF (skDol L)
def skOff (L N : List Nat) : Nat → Nat := offF (skE L (nbG N)) (nbF N 15 % 64)
theorem skKeyed {L : List Nat} (hL : By L) (hn : L.length = 16 ∨ L.length = 32) : Keyed (keyF sBox L) (skR L) (skStar L) (skDol L) (skLs L) := by
  have hk : ∀ i, i < 240 → keyF sBox L i < 256 := fun i _ => keyF_lt (fun i _ => sBox_lt i) hL i
  have h1 : skR L ≤ 14 := by unfold skR; omega
  have h2 : 1 ≤ skR L := by unfold skR; omega
  have h3 : B16 (skStar L) := fun i hi => encAt_lt (fun i _ => sBox_lt i) hk zB_b h1 _ (Nat.le_refl _) i hi
  exact ⟨h1, h2, hk, h3, dblB_b h3, fun i => lsF_b (dblB_b h3) i⟩
theorem skOff_b (L N : List Nat) : B16 (skOff L N) := pair_b _ _
/-- The tag of what went through. -/
def skTag (op : Bool) (L N A P : List Nat) : Nat → Nat :=
  tagF (keyF sBox L) (skR L) (skStar L) (skDol L) (skLs L) (thrOffF (skStar L) (skLs L) (skOff L N) P) (thrSumF op (keyF sBox L) (skR L) (skStar L) (skLs L) (skOff L N) zB P) A
def skOut (op : Bool) (L N P : List Nat) : List Nat := thrOutF op (keyF sBox L) (skR L) (skStar L) (skLs L) (skOff L N) P
theorem skTag_b {op : Bool} {L N A P : List Nat} (hL : By L) (hn : L.length = 16 ∨ L.length = 32) (hA : By A) (hP : By P) : B16 (skTag op L N A P) :=
  tagF_b (skKeyed hL hn) (thrOffF_b (skKeyed hL hn) (skOff_b L N)) (thrSumF_b (skKeyed hL hn) (skOff_b L N) zB_b hP) hA
def sealF (L N A P : List Nat) : List Nat := skOut false L N P ++ blkL (skTag false L N A P)

theorem begin_any (ka : Option Addr) (kn kcap : Nat) (L : List Nat) (na : Option Addr) (nn ncap : Nat) (N : List Nat) (w : World) (hL : By L) (hN : By N) (hk : SlIn w ka kn kcap L) (hno : SlIn w na nn ncap N)
    (h : L.length = 16 ∨ L.length = 32) (h1 : 1 ≤ N.length) (h2 : N.length ≤ 15) :
    Calls Tryd.prog 12 #[.slice ka kn kcap, .slice na nn ncap] w fun e w' => ∃ s c, e = .returned (.pointer (some ⟨s, 0, none⟩)) ∧ w.heap.size ≤ s ∧ w.heap.size ≤ c ∧ s ≠ c
      ∧ SealerAt w' s c (keyF sBox L) (skR L) (skStar L) (skDol L) (skLs L) (skOff L N) zB ∧ Below w.heap.size w w' := by
  have e1 := hk.len
  have e2 := hno.len
  rcases hk with ⟨-, rfl, -⟩ | ⟨b, o, rfl, -, hh, hle, -⟩
  · simp at h
  · subst e1
    refine begin_ok b o kcap L.length L na nn ncap N w rfl h hL hh hle e2 (by omega) (by omega) hN ?_
    rcases hno with ⟨rfl, rfl, -⟩ | ⟨b2, o2, rfl, h3, h4, h5, -⟩
    · simp at h1
    · rw [← h3] at h4
      exact SlA.of_has h4 (by omega)
theorem begin_nil (ka : Option Addr) (kn kcap : Nat) (L : List Nat) (na : Option Addr) (nn ncap : Nat) (N : List Nat) (w : World) (hL : By L) (hk : SlIn w ka kn kcap L) (hno : SlIn w na nn ncap N)
    (h : ¬ ((L.length = 16 ∨ L.length = 32) ∧ 1 ≤ N.length ∧ N.length ≤ 15)) :
    Calls Tryd.prog 12 #[.slice ka kn kcap, .slice na nn ncap] w fun e w' => e = .returned (.pointer none) ∧ Below w.heap.size w w' := by
  have e1 := hk.len
  have e2 := hno.len
  by_cases hk2 : L.length = 16 ∨ L.length = 32
  · rcases hk with ⟨-, rfl, -⟩ | ⟨b, o, rfl, -, hh, hle, -⟩
    · simp at hk2
    · subst e1
      exact begin_badnonce b o kcap L.length L na nn ncap w rfl hk2 hL hh hle (by omega)
  · refine (begin_badkey ka na kn kcap nn ncap w (by omega) (by omega)).mono ?_
    rintro e w' ⟨h1, rfl⟩
    exact ⟨h1, Below.refl _ _⟩

theorem through_seal_none (s : Nat) (a : Option Addr) (cap : Nat) (w : World) :
    Calls Tryd.prog 13 #[.pointer (some ⟨s, 0, none⟩), .slice a 0 cap, .bool false] w fun e w' => ∃ v, e = .returned v ∧ Buf w' w.heap.size v [] ∧ Only [] w w' := by
  obtain ⟨ti, hti, ht0, ht1, ht2⟩ := info_parts info8o

  go_enter Tryd.func13, Tryd.ntmps13
  go_wp2_with (at_make; refine wpList_make_own _ rfl _ _ 22 rfl w.heap.size 5 ti (.int .u8 0) 1 Tryd.underlying22 hti ht0 ht1 _ _ _ 16 rfl rfl (by first | rfl | omega) (by rw [ht2]; omega) (by unfold maxLen; omega) (Nat.le_refl _) ?_; intro w1 h1 h2)
  have HM : Hid (Buf w1 w.heap.size (.slice (some ⟨w.heap.size, 0, none⟩) 0 16) [] ∧ Only [] w w1) := ⟨h1, Only.of_grown h2⟩
  clear h1 h2 hti ht0 ht1 ht2
  go_loopw [1, 7, 8] (fun x vv y wr => x = .slice a 0 cap ∧ vv = .slice (some ⟨w.heap.size, 0, none⟩) 0 16 ∧ y = .int .i64 1 ∧ wr = w1) (fun _ _ _ _ => 0)
  case atStart => exact ⟨rfl, rfl, rfl, rfl⟩
  case round =>
    obtain ⟨rfl, rfl, rfl, rfl⟩ := hrel
    go_wp2
    go_ret
    exact ⟨_, rfl, HM.out⟩
theorem through_seal_any (s c : Nat) (K : Nat → Nat) (R : Nat) (star dollar : Nat → Nat) (ls : Nat → Nat → Nat) (off sum : Nat → Nat) (a : Option Addr) (n cap : Nat) (L : List Nat) (w : World)
    (hT : TabIs w) (hS : SealerAt w s c K R star dollar ls off sum) (hK : Keyed K R star dollar ls) (hoff : B16 off) (hsum : B16 sum) (hsc : s ≠ c) (hst : 1 ≠ s)
    (hL : By L) (hA : SlIn w a n cap L) (hn : n < 2 ^ 46) (w0 : World) (hA0 : SlIn w0 a n cap L) (hs0 : w0.heap.size ≤ s) :
    Calls Tryd.prog 13 #[.pointer (some ⟨s, 0, none⟩), .slice a n cap, .bool false] w fun e w' => ∃ v, e = .returned v ∧ Buf w' w.heap.size v (thrOutF false K R star ls off L)
      ∧ SealerAt w' s c K R star dollar ls (thrOffF star ls off L) (thrSumF false K R star ls off sum L) ∧ Only [s] w w' := by
  rcases hA with ⟨rfl, rfl, -⟩ | ⟨b, o, rfl, h2, h3, h4, h5⟩
  · refine (through_seal_none s a cap w).mono ?_
    rintro e w' ⟨v, rfl, h1, h2⟩
    exact ⟨v, rfl, h1, hS.only h2 (by simp) (by simp), h2.drop (by simp)⟩
  · rcases hA0 with ⟨rfl, rfl, -⟩ | ⟨b', o', e, -, -, -, h6⟩
    · refine (through_seal_none s (some ⟨b, o, none⟩) cap w).mono ?_
      rintro e w' ⟨v, rfl, h1, h2⟩
      exact ⟨v, rfl, h1, hS.only h2 (by simp) (by simp), h2.drop (by simp)⟩
    · cases e
      exact through_seal s c K R star dollar ls off sum b o n cap L w hT hS hK hoff hsum hsc hst hL h2 h3 h4 hn h5 (by omega)

theorem Seal_bad (ka : Option Addr) (kn kcap : Nat) (L : List Nat) (na : Option Addr) (nn ncap : Nat) (N : List Nat) (aa : Option Addr) (an acap : Nat) (pa : Option Addr) (pn pcap : Nat) (w : World) (hL : By L) (hk : SlIn w ka kn kcap L) (hno : SlIn w na nn ncap N)
    (h : ¬ ((L.length = 16 ∨ L.length = 32) ∧ 1 ≤ N.length ∧ N.length ≤ 15)) :
    Calls Tryd.prog 8 #[.slice ka kn kcap, .slice na nn ncap, .slice aa an acap, .slice pa pn pcap] w fun e w' => e = .returned (.tuple #[.slice none 0 0, .int .i64 1]) ∧ Below w.heap.size w w' := by
  have HC : Hid (Calls Tryd.prog 12 #[.slice ka kn kcap, .slice na nn ncap] w fun e w' => e = .returned (.pointer none) ∧ Below w.heap.size w w') := begin_nil ka kn kcap L na nn ncap N w hL hk hno h
  clear hL hk hno h
  go_enter Tryd.func8, Tryd.ntmps8
  go_wp2_with (go_at_call 12; refine HC.out.mono ?_; rintro e w1 ⟨rfl, h1⟩)
  go_ret2
  exact ⟨rfl, h1⟩

theorem Seal_ok (ka : Option Addr) (kn kcap : Nat) (L : List Nat) (na : Option Addr) (nn ncap : Nat) (N : List Nat) (aa : Option Addr) (an acap : Nat) (A : List Nat) (pa : Option Addr) (pn pcap : Nat) (P : List Nat) (w : World)
    (hT : TabIs w) (hL : By L) (hN : By N) (hA : By A) (hP : By P) (hk : SlIn w ka kn kcap L) (hno : SlIn w na nn ncap N) (had : SlIn w aa an acap A) (hpl : SlIn w pa pn pcap P)
    (h : L.length = 16 ∨ L.length = 32) (h1 : 1 ≤ N.length) (h2 : N.length ≤ 15) (ha : an < 2 ^ 46) (hp : pn < 2 ^ 46) :
    Calls Tryd.prog 8 #[.slice ka kn kcap, .slice na nn ncap, .slice aa an acap, .slice pa pn pcap] w fun e w' => ∃ g, e = .returned (.tuple #[.slice (some ⟨g, 0, none⟩) (pn + 16) (pn + 16), .int .i64 0])
      ∧ w.heap.size ≤ g ∧ SlIn w' (some ⟨g, 0, none⟩) (pn + 16) (pn + 16) (sealF L N A P) ∧ Below w.heap.size w w' := by
  have hpl' := hpl.len
  have HC : Hid (Calls Tryd.prog 12 #[.slice ka kn kcap, .slice na nn ncap] w fun e w' => ∃ s c, e = .returned (.pointer (some ⟨s, 0, none⟩)) ∧ w.heap.size ≤ s ∧ w.heap.size ≤ c ∧ s ≠ c
      ∧ SealerAt w' s c (keyF sBox L) (skR L) (skStar L) (skDol L) (skLs L) (skOff L N) zB ∧ Below w.heap.size w w') := begin_any ka kn kcap L na nn ncap N w hL hN hk hno h h1 h2
  have HK := skKeyed hL h
  have HH : Hid (TabIs w ∧ Keyed (keyF sBox L) (skR L) (skStar L) (skDol L) (skLs L) ∧ By A ∧ By P ∧ SlIn w aa an acap A ∧ SlIn w pa pn pcap P ∧ an < 2 ^ 46 ∧ pn < 2 ^ 46) := ⟨hT, HK, hA, hP, had, hpl, ha, hp⟩
  have HTg : Hid (B16 (skTag false L N A P)) := skTag_b hL h hA hP
  have ht : 1 < w.heap.size := hT.lt (by omega)
  have HP : Hid (P.length = pn) := hpl'
  clear hT hL hN hA hP hk hno had hpl h h1 h2 ha hp HK hpl'
  go_enter Tryd.func8, Tryd.ntmps8
  go_wp2_with (first
    | (go_at_call 12; refine HC.out.mono ?_; rintro e w1 ⟨s, c, rfl, h1, h2, h3, h4, h5⟩
       have H1 : Hid (w.heap.size ≤ s ∧ w.heap.size ≤ c ∧ s ≠ c ∧ SealerAt w1 s c (keyF sBox L) (skR L) (skStar L) (skDol L) (skLs L) (skOff L N) zB ∧ Below w.heap.size w w1) := ⟨h1, h2, h3, h4, h5⟩
       clear h1 h2 h3 h4 h5)
    | (go_at_call 13
       have o1 : Only [] w w1 := Only.of_below H1.out.2.2.2.2 []
       refine (through_seal_any s c _ _ _ _ _ _ _ pa pn pcap P w1 (o1.has HH.out.1 (by simp)) H1.out.2.2.2.1 HH.out.2.1 (skOff_b L N) zB_b H1.out.2.2.1 (by have := H1.out.1; omega) HH.out.2.2.2.1 (HH.out.2.2.2.2.2.1.only o1 (by simp)) HH.out.2.2.2.2.2.2.2 w HH.out.2.2.2.2.2.1 H1.out.1).mono ?_
       rintro e w2 ⟨v, rfl, h1, h2, h3⟩
       have H2 : Hid (Buf w2 w.heap.size v (skOut false L N P) ∧ SealerAt w2 s c (keyF sBox L) (skR L) (skStar L) (skDol L) (skLs L) (thrOffF (skStar L) (skLs L) (skOff L N) P) (thrSumF false (keyF sBox L) (skR L) (skStar L) (skLs L) (skOff L N) zB P) ∧ Only [] w w2) := ⟨h1.base_le o1.size, h2, o1.then h3 (fun x hx hlt => by have := H1.out.1; simp at hx; omega)⟩
       clear h1 h2 h3 o1)
    | (go_at_call 14
       refine (tag_any s c _ _ _ _ _ _ _ aa an acap A w2 (H2.out.2.2.has HH.out.1 (by simp)) H2.out.2.1 HH.out.2.1 (thrOffF_b HH.out.2.1 (skOff_b L N)) (thrSumF_b HH.out.2.1 (skOff_b L N) zB_b HH.out.2.2.2.1) HH.out.2.2.1 (HH.out.2.2.2.2.1.only H2.out.2.2 (by simp)) (by have := HH.out.2.2.2.2.2.2.1; omega)).mono ?_
       rintro e w3 ⟨rfl, h1⟩
       have H3 : Hid (Below w2.heap.size w2 w3) := h1
       clear h1)
    | (refine wpList_store_has rfl 35 _ _ rfl w3.heap.size 0 16 (by8 (skTag false L N A P)) (by8 fun _ => 0) rfl rfl (Has.new_at rfl zero16) (Loose.new_at rfl) (by kernel_rfl) (fun _ _ => rfl) ?_; intro w5 h5
       have H5 : Hid (Has w5 w3.heap.size 0 16 (by8 (skTag false L N A P)) ∧ Only [] w2 w5) := ⟨h5.has, ((Only.of_below H3.out []).alloc _).then h5.only (fun x hx hlt => by have := H3.out.size; simp at hx; omega)⟩
       clear h5)
    | (at_builtin; refine wpList_append_sl rfl _ _ rfl w.heap.size v (skOut false L N P) rfl (H2.out.1.only H5.out.2 (by simp)) (some ⟨w3.heap.size, 0, none⟩) 16 (blkL (skTag false L N A P)) (by rw [blkL_len]; rfl) (SlA.of_has (by rw [blkL_len]; exact H5.out.1.congr fun i hi => byG_blkL _ hi) (Nat.le_of_eq (blkL_len _))) (by rw [blkL_len]; have : (skOut false L N P).length = P.length := thrOutF_len; have := HP.out; have := HH.out.2.2.2.2.2.2.2; omega) (by have := H2.out.2.2.size; have := H5.out.2.size; omega) ?_
       intro v' w6 h6 h7
       have hlen : (skOut false L N P ++ blkL (skTag false L N A P)).length = pn + 16 := by rw [List.length_append, blkL_len]; have : (skOut false L N P).length = P.length := thrOutF_len; have := HP.out; omega
       obtain ⟨g, cap, rfl, hg1, hg2, hg3, -, hg4, -⟩ := h6.open (by intro e; rw [e] at hlen; simp at hlen)
       rw [hlen] at hg3 hg4 h6 ⊢
       have H6 : Hid (w.heap.size ≤ g ∧ SlIn w6 (some ⟨g, 0, none⟩) (pn + 16) (pn + 16) (sealF L N A P) ∧ Below w.heap.size w w6) := by
         have nv : ∀ x, x ∈ v.ownBlock.toList → w.heap.size ≤ x := fun x hx => by
           have : v.ownBlock = some x := by simpa using hx
           exact (H2.out.1.lt x this).1
         exact ⟨hg1, Or.inr ⟨g, 0, rfl, hlen, hg4, Nat.le_refl _, hg2⟩, ((H2.out.2.2.then H5.out.2 (by simp)).then h7 (fun x hx hlt => by have := nv x hx; omega)).nil⟩
       clear hlen hg1 hg2 hg4 h6 h7)
    | (go_at_call 15; refine (clip_any g (pn + 16) cap _ hg3).mono ?_; rintro e w7 ⟨rfl, rfl⟩))
  go_ret2
  exact ⟨g, rfl, H6.out⟩

end Go.Proofs.YtpkpkfjpnkbkbaaDoor
