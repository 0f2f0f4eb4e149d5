/- New, begin: where key or nonce is none. -/
import Derived.Test.YtpkpkfjpnkbkbaaDoorOcb8
namespace Go.Proofs.YtpkpkfjpnkbkbaaDoor
open Go.RowKit
set_option maxHeartbeats 4000000
set_option maxRecDepth 100000

theorem new_bad (na : Option Addr) (n cap : Nat) (w : World) (h1 : n ≠ 16) (h2 : n ≠ 32) :
    Calls Tryd.prog 20 #[.slice na n cap] w fun e w' => e = .returned (.pointer none) ∧ w' = w := by
  have i1 : ((n : Int) != 16) = true := by simp; omega
  have i2 : ((n : Int) != 32) = true := by simp; omega
  go_enter Tryd.func20, Tryd.ntmps20
  go_wp2
  go_ret
  exact ⟨rfl, rfl⟩

theorem begin_badkey (na nb : Option Addr) (n cap nn ncap : Nat) (w : World) (h1 : n ≠ 16) (h2 : n ≠ 32) :
    Calls Tryd.prog 12 #[.slice na n cap, .slice nb nn ncap] w fun e w' => e = .returned (.pointer none) ∧ w' = w := by
  go_enter Tryd.func12, Tryd.ntmps12
  go_wp2_with (go_at_call 20; refine (new_bad na n cap w h1 h2).mono ?_; rintro e w1 ⟨rfl, rfl⟩)
  go_ret
  exact ⟨rfl, rfl⟩

theorem begin_badnonce (b o cap n : Nat) (L : List Nat) (nb : Option Addr) (nn ncap : Nat) (w : World) (hN : L.length = n) (hn : n = 16 ∨ n = 32) (hL : By L) (hh : Has w b o n (byG L)) (hle : n ≤ cap) (hb : nn < 1 ∨ 15 < nn) :
    Calls Tryd.prog 12 #[.slice (some ⟨b, o, none⟩) n cap, .slice nb nn ncap] w fun e w' => e = .returned (.pointer none) ∧ Below w.heap.size w w' := by
  have HH : Hid (L.length = n ∧ (n = 16 ∨ n = 32) ∧ By L ∧ Has w b o n (byG L)) := ⟨hN, hn, hL, hh⟩
  clear hN hn hL hh
  rcases hb with hb | hb
  · have i1 : (nn : Int) < 1 := by omega
    go_enter Tryd.func12, Tryd.ntmps12
    go_wp2_with (go_at_call 20; refine (new_any b o cap n L w HH.out.1 HH.out.2.1 HH.out.2.2.1 HH.out.2.2.2 hle).mono ?_; rintro e w1 ⟨c, rfl, -, -, h1⟩)
    go_ret
    exact ⟨rfl, h1⟩
  · have i1 : ¬ (nn : Int) < 1 := by omega
    have i2 : 15 < (nn : Int) := by omega
    go_enter Tryd.func12, Tryd.ntmps12
    go_wp2_with (go_at_call 20; refine (new_any b o cap n L w HH.out.1 HH.out.2.1 HH.out.2.2.1 HH.out.2.2.2 hle).mono ?_; rintro e w1 ⟨c, rfl, -, -, h1⟩)
    go_ret
    exact ⟨rfl, h1⟩

end Go.Proofs.YtpkpkfjpnkbkbaaDoor
