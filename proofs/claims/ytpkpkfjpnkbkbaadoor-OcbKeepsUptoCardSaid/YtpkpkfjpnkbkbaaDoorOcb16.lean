/- Seal and Open of any slices; the law's awake. -/
import Derived.Test.YtpkpkfjpnkbkbaaDoorOcb15
import Derived.Laws.BytesString
import Derived.Laws.IdiomStrings
namespace Go.Proofs.YtpkpkfjpnkbkbaaDoor
open Go.RowKit
set_option maxHeartbeats 8000000
set_option maxRecDepth 100000

/-- What Seal says. -/
def sealSays (L N A P : List Nat) (w w' : World) (v : Value) : Prop :=
  if (L.length = 16 ∨ L.length = 32) ∧ 1 ≤ N.length ∧ N.length ≤ 15 then ∃ g, v = .tuple #[.slice (some ⟨g, 0, none⟩) (P.length + 16) (P.length + 16), .int .i64 0] ∧ w.heap.size ≤ g ∧ SlIn w' (some ⟨g, 0, none⟩) (P.length + 16) (P.length + 16) (sealF L N A P)
  else v = .tuple #[.slice none 0 0, .int .i64 1]

theorem Seal_ok2 (ka : Option Addr) (kn kcap : Nat) (L : List Nat) (na : Option Addr) (nn ncap : Nat) (N : List Nat) (aa : Option Addr) (an acap : Nat) (A : List Nat) (pa : Option Addr) (pn pcap : Nat) (P : List Nat) (w : World)
    (hT : TabIs w) (hL : By L) (hN : By N) (hA : By A) (hP : By P) (hk : SlIn w ka kn kcap L) (hno : SlIn w na nn ncap N) (had : SlIn w aa an acap A) (hpl : SlIn w pa pn pcap P) (ha : an < 2 ^ 46) (hp : pn < 2 ^ 46) :
    Calls Tryd.prog 8 #[.slice ka kn kcap, .slice na nn ncap, .slice aa an acap, .slice pa pn pcap] w fun e w' => ∃ v, e = .returned v ∧ sealSays L N A P w w' v ∧ Below w.heap.size w w' := by
  have e1 := hpl.len
  unfold sealSays
  by_cases h : (L.length = 16 ∨ L.length = 32) ∧ 1 ≤ N.length ∧ N.length ≤ 15
  · refine (Seal_ok ka kn kcap L na nn ncap N aa an acap A pa pn pcap P w hT hL hN hA hP hk hno had hpl h.1 h.2.1 h.2.2 ha hp).mono ?_
    rintro e w' ⟨g, rfl, h1, h2, h3⟩
    refine ⟨_, rfl, ?_, h3⟩
    rw [if_pos h, e1]
    exact ⟨g, rfl, h1, h2⟩
  · refine (Seal_bad ka kn kcap L na nn ncap N aa an acap pa pn pcap w hL hk hno h).mono ?_
    rintro e w' ⟨rfl, h1⟩
    refine ⟨_, rfl, ?_, h1⟩
    rw [if_neg h]
/-- What Open says. -/
def openTag (L N A S : List Nat) : Prop := ∀ i, i < 16 → skTag true L N A (S.take (S.length - 16)) i = S.getD (S.length - 16 + i) 0
instance (L N A S : List Nat) : Decidable (openTag L N A S) := inferInstanceAs (Decidable (∀ i, i < 16 → _))
def openSays (L N A S : List Nat) (w w' : World) (v : Value) : Prop :=
  if (L.length = 16 ∨ L.length = 32) ∧ 1 ≤ N.length ∧ N.length ≤ 15 then
    if 16 ≤ S.length ∧ openTag L N A S then ∃ ra, v = .tuple #[.slice ra (S.length - 16) (S.length - 16), .int .i64 0] ∧ (∀ x, ra = some x → w.heap.size ≤ x.block) ∧ SlIn w' ra (S.length - 16) (S.length - 16) (skOut true L N (S.take (S.length - 16)))
    else v = .tuple #[.slice none 0 0, .int .i64 5]
  else v = .tuple #[.slice none 0 0, .int .i64 1]
theorem Open_ok2 (ka : Option Addr) (kn kcap : Nat) (L : List Nat) (na : Option Addr) (nn ncap : Nat) (N : List Nat) (aa : Option Addr) (an acap : Nat) (A : List Nat) (pa : Option Addr) (pn pcap : Nat) (S : List Nat) (w : World)
    (hT : TabIs w) (hL : By L) (hN : By N) (hA : By A) (hS : By S) (hk : SlIn w ka kn kcap L) (hno : SlIn w na nn ncap N) (had : SlIn w aa an acap A) (hpl : SlIn w pa pn pcap S) (ha : an < 2 ^ 46) (hp : pn < 2 ^ 46) :
    Calls Tryd.prog 10 #[.slice ka kn kcap, .slice na nn ncap, .slice aa an acap, .slice pa pn pcap] w fun e w' => ∃ v, e = .returned v ∧ openSays L N A S w w' v ∧ Below w.heap.size w w' := by
  have e1 := hpl.len
  unfold openSays
  by_cases h : (L.length = 16 ∨ L.length = 32) ∧ 1 ≤ N.length ∧ N.length ≤ 15
  · by_cases h16 : 16 ≤ S.length
    · rcases hpl with ⟨-, rfl, -⟩ | ⟨pb, po, rfl, -, hh, hle, -⟩
      · simp at h16
      · obtain ⟨m, hm⟩ : ∃ m, pn = m + 16 := ⟨pn - 16, by omega⟩
        have em : S.length - 16 = m := by omega
        refine (Open_ok ka kn kcap L na nn ncap N aa an acap A pb po pn pcap m S w hT hL hN hA hS hk hno had e1 hh hle h.1 h.2.1 h.2.2 ha hp hm).mono ?_
        rintro e w' ⟨h1, h2⟩
        have ht : openTag L N A S ↔ dfF (skTag true L N A (S.take m)) (fun i => S.getD (m + i) 0) 16 = 0 := by
          rw [dfF_zero]; unfold openTag; rw [em]
        by_cases hd : dfF (skTag true L N A (S.take m)) (fun i => S.getD (m + i) 0) 16 = 0
        · rw [if_pos hd] at h1
          obtain ⟨ra, rfl, h3, h4⟩ := h1
          refine ⟨_, rfl, ?_, h2⟩
          rw [if_pos h, if_pos ⟨h16, ht.2 hd⟩, em]
          exact ⟨ra, rfl, h3, h4⟩
        · rw [if_neg hd] at h1
          subst h1
          refine ⟨_, rfl, ?_, h2⟩
          rw [if_pos h, if_neg (fun h0 => hd (ht.1 h0.2))]
    · refine (Open_short ka kn kcap L na nn ncap N aa an acap pa pn pcap w hL hN hk hno h.1 h.2.1 h.2.2 (by omega)).mono ?_
      rintro e w' ⟨rfl, h1⟩
      refine ⟨_, rfl, ?_, h1⟩
      rw [if_pos h, if_neg (fun h0 => h16 h0.1)]
  · refine (Open_bad ka kn kcap L na nn ncap N aa an acap pa pn pcap w hL hk hno h).mono ?_
    rintro e w' ⟨rfl, h1⟩
    refine ⟨_, rfl, ?_, h1⟩
    rw [if_neg h]

/-- The string of some bytes. -/
def strB (L : List Nat) : ByteArray := ⟨(L.map UInt8.ofNat).toArray⟩
theorem strB_append (L M : List Nat) : strB (L ++ M) = strB L ++ strB M := by
  apply ByteArray.ext
  simp [strB]
theorem strB_size (L : List Nat) : (strB L).size = L.length := by simp [strB, ByteArray.size]
theorem strB_inj {L M : List Nat} (hL : By L) (hM : By M) (h : strB L = strB M) : L = M := by
  have h1 : L.map UInt8.ofNat = M.map UInt8.ofNat := by
    have := congrArg ByteArray.data h
    simpa [strB] using this
  apply List.ext_getElem
  · simpa using congrArg List.length h1
  · intro i h2 h3
    have h4 := congrArg (fun l => (l.getD i 0).toNat) h1
    have b1 := hL _ (List.getElem_mem h2)
    have b2 := hM _ (List.getElem_mem h3)
    simp [List.getD_eq_getElem?_getD, h2, h3] at h4
    omega
theorem run_str {w : World} {a : Option Addr} {n cap : Nat} {L : List Nat} (hL : By L) (hn : L.length = n) (h : SlA w a cap L) :
    (convert 22 9 (.slice a n cap)).run Tryd.prog w = .ok (.string (strB L)) w := by
  subst hn
  cases a with
  | none =>
    have h0 : L = [] := List.eq_nil_of_length_eq_zero (by have := h.nil rfl; have := h.le; omega)
    subst h0
    rw [run_convert_bytes_string w _ _ _ none _ cap Tryd.underlying22 Tryd.underlying5 Tryd.underlying9]
    rfl
  | some ad =>
    have := run_convert_bytes_back (P := Tryd.prog) w 22 9 5 ad cap (L.map UInt8.ofNat) Tryd.underlying22 Tryd.underlying5 Tryd.underlying9 (fun j hj => by
      simp at hj
      obtain ⟨b, o, e, hh⟩ := h.has (by intro e; rw [e] at hj; simp at hj)
      cases e
      rw [Addr.add_mid, hh j hj]
      have b1 := hL _ (List.getElem_mem hj)
      simp [List.getD_eq_getElem?_getD, hj]
      omega)
    rw [List.length_map] at this
    exact this

theorem awake_any (w : World) (hT : TabIs w) :
    Calls Tryd.prog 7 #[] w fun e w' => e = .returned (.bool true) ∧ Below w.heap.size w w' := by
  have HH : Hid (TabIs w) := hT
  clear hT
  go_enter Tryd.func7, Tryd.ntmps7
  obtain ⟨ti, hti, ht0, ht1, ht2⟩ := info_parts info8o
  go_wp2_with (first
    | (at_make; refine wpList_make_full w rfl _ _ 22 rfl w.heap.size 5 ti (.int .u8 0) 1 Tryd.underlying22 hti ht0 ht1 _ _ _ _ 16 rfl rfl rfl rfl (by rw [ht2]; omega) (by unfold maxLen; omega) (Nat.le_refl _) ?_
       intro w1 h1 h2
       have h1' : Buf w1 w.heap.size (.slice (some ⟨w.heap.size, 0, none⟩) 16 16) (List.replicate 16 0) := by
         unfold Buf
         rw [show (List.replicate 16 0).length = 16 from rfl, show byL (List.replicate 16 0) = (madeCells (Value.int IntKind.u8 0).cells (16 * 1)).toList by kernel_rfl]
         exact h1
       obtain ⟨g', cap', hv', -, hlt, -, -, hh, -⟩ := h1'.open (by simp)
       have e1 : g' = w.heap.size := by injection hv' with a1; injection a1 with a2; injection a2 with a3; exact a3.symm
       subst e1
       have H1 : Hid (Has w1 w.heap.size 0 16 (byG (List.replicate 16 0)) ∧ w.heap.size < w1.heap.size ∧ Only [] w w1) := ⟨hh, hlt, Only.of_grown h2⟩
       clear h1 h2 h1' hv' hlt hh)
    | (go_at_call 8
       have o2 : Only [] w1 (w1.alloc (.cells #[.int .u8 1] 5)) := (Only.refl [] w1).alloc _
       refine (Seal_ok2 (some ⟨w.heap.size, 0, none⟩) 16 16 (List.replicate 16 0) (some ⟨w1.heap.size, 0, none⟩) 1 1 [1] none 0 0 [] none 0 0 [] _ (o2.has (H1.out.2.2.has HH.out (by simp)) (by simp)) (fun x hx => by simp at hx; omega) (fun x hx => by simp at hx; omega) (fun x hx => by cases hx) (fun x hx => by cases hx)
         (Or.inr ⟨w.heap.size, 0, rfl, rfl, o2.has H1.out.1 (by simp), Nat.le_refl _, by have := H1.out.2.1; simp; omega⟩) (Or.inr ⟨w1.heap.size, 0, rfl, rfl, Has.new_at rfl rfl, Nat.le_refl _, by simp⟩) (Or.inl ⟨rfl, rfl, fun _ => rfl⟩) (Or.inl ⟨rfl, rfl, fun _ => rfl⟩) (by omega) (by omega)).mono ?_
       rintro e w3 ⟨v, rfl, h3, h4⟩
       unfold sealSays at h3
       rw [if_pos (by simp)] at h3
       obtain ⟨g, rfl, -, -⟩ := h3
       have H4 : Hid (Below w.heap.size w w3) := ((H1.out.2.2.then o2 (by simp)).then (Only.of_below h4 []) (by simp)).nil
       clear h4 o2))
  go_ret
  exact ⟨rfl, H4.out⟩

end Go.Proofs.YtpkpkfjpnkbkbaaDoor
