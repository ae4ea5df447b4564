/- What is proved: DrawDeedText and DrawReadDeed (if l20Deed draws a deed). Conditions: those of each contract. -/
import Derived.Test.YtieggegaeaaliaaGreatDoorDrDo
import Derived.Test.YtieggegaeaaliaaGreatDoorSpo
import Derived.Test.YtieggegaeaaliaaGreatDoorDt
import Derived.Test.YtieggegaeaaliaaGreatDoorRs
import Derived.Test.YtieggegaeaaliaaGreatDoorJt
namespace Go.Proofs.YtieggegaeaaliaaGreatDoor
open Go.RowKit
set_option maxRecDepth 100000 in
set_option maxHeartbeats 4000000 in
theorem drawReadDeed_any (hDeed : DeedAny) (A : Option Addr) (n c : Nat) (w : World) (h : Byt w A n c) :
    Calls Tryz.prog 5 #[.slice A n c] w fun e w' => ∃ L : List UInt8, e = .returned (tx L) ∧ L.length ≤ 2000 ∧ Ext w w' := by
  have HO := Lib.hid (open_any A n c w h)
  clear h
  go_enter Tryz.func5, Tryz.ntmps5
  go_wp2_with fail
  refine HO.out.mono ?_
  rintro e w1 ⟨g, rfl, hx1, hg, hR⟩
  have HR := Lib.hid hR
  have HX1 := Lib.hid hx1
  have HG := Lib.hid hg
  clear hR hx1 hg HO
  go_wp2_with fail
  refine (l20Desk_any hDeed HR.out (Nat.le_refl _) (by omega) 0 (by omega) (by omega)).mono ?_
  rintro e w2 ⟨A', c', Bp, d, D, L, rfl, hF, hS, hR2, hX2⟩
  have hlt := HR.out.lt
  have HDD := Lib.hid (hDeed w2 w1.heap.size g (0 + 250) hR2 hX2.size (by omega) A' c' D (.slice Bp L.length d) (fun W' hW => (hF W' fun k k1 k2 => hW k k2 (by omega)).1) hS.1 hS.2 rfl)
  have HX2 := Lib.hid hX2
  clear hF hS hR2 hX2 hlt
  go_wp2_with fail
  refine HDD.out.mono ?_
  rintro e w3 ⟨kind, X, cx, xs, rfl, hO, -, hl8, -, hR3, hG3⟩
  have HR3 := Lib.hid hR3
  have hs3 : w1.heap.size ≤ w3.heap.size := Nat.le_trans HX2.out.size hG3.size
  have HX3 := Lib.hid (HX2.out.trans hG3)
  have HDT := Lib.hid (sDeedText_any kind X cx xs w3 hO.from_.now (by omega))
  have htl := dtx_len kind xs
  obtain ⟨T, hT⟩ : ∃ T, dtx kind xs = T := ⟨_, rfl⟩
  rw [hT] at HDT htl
  clear hO hR3 hG3 hT
  go_wp2_with fail
  refine HDT.out.mono ?_
  rintro e w4 ⟨rfl, hx4⟩
  have HR4 := Lib.hid (HR3.out.ext hx4 hs3)
  have HX4 := Lib.hid (HX3.out.on hx4)
  have hs4 : w1.heap.size ≤ w4.heap.size := Nat.le_trans hs3 hx4.size
  unfold tx
  clear hx4
  go_wp2_with fail
  refine (pickU HR4.out 3 (by omega) (by omega) (by omega)).mono ?_
  rintro e w5 ⟨k, rfl, k0, k1, hR5, hO5⟩
  have HX5 := Lib.hid (HX4.out.rd hO5)
  have hs5 : w1.heap.size ≤ w5.heap.size := by rw [hO5.2.2.2.1]; exact hs4
  have HR5 := Lib.hid hR5
  clear hR5 hO5
  by_cases hk : k = 0
  · subst hk
    go_wp2_with fail
    refine (l20Spoil_any HR5.out hs5 (by omega) T (by omega)).mono ?_
    rintro e w6 ⟨U, rfl, hU, -, hG6⟩
    go_wp2
    go_ret
    exact ⟨U, rfl, by omega, (HX5.out.trans hG6).ext HX1.out (by have := HG.out; omega)⟩
  · have hk2 : (k == 0) = false := beq_eq_false_iff_ne.2 hk
    go_wp2_with fail
    go_ret
    exact ⟨T, rfl, by omega, HX5.out.ext HX1.out (by have := HG.out; omega)⟩
end Go.Proofs.YtieggegaeaaliaaGreatDoor
