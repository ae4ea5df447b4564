/- What is proved: DrawReadJournal (if l20Deed draws a deed). Conditions: those of each contract. -/
import Derived.Test.YtcejdgnfmcgopaaGreatDoorDrJt
import Derived.Test.YtcejdgnfmcgopaaGreatDoorSpo
namespace Go.Proofs.YtcejdgnfmcgopaaGreatDoor
open Go.RowKit
set_option maxRecDepth 100000 in
set_option maxHeartbeats 4000000 in
theorem drawReadJournal_any (hDeed : DeedAny) (A : Option Addr) (n c : Nat) (w : World) (h : Byt w A n c) :
    Calls Tryz.prog 28 #[.slice A n c] w fun e w' => ∃ L : List UInt8, e = .returned (tx L) ∧ L.length ≤ 2000 ∧ Ext w w' := by
  have HO := Lib.hid (open_any A n c w h)
  clear h
  go_enter Tryz.func28, Tryz.ntmps28
  go_wp2_with fail
  refine HO.out.mono ?_
  rintro e w1 ⟨g, rfl, hx1, hg, hR⟩
  have hlt := hR.lt
  have HW := Lib.hid (l20Written_any hDeed hR (Nat.le_refl _) (by omega))
  have HX1 := Lib.hid hx1
  have HG := Lib.hid (And.intro hg hlt)
  clear hR hx1 hg HO hlt
  go_wp2_with fail
  refine HW.out.mono ?_
  rintro e w2 ⟨A2, c2, ds, V, rfl, hO2, -, hl5, h8, hR2, hX2⟩
  have hs2 := hX2.size
  have HR2 := Lib.hid hR2
  have HX2 := Lib.hid hX2
  obtain ⟨A9, c9, ev, hD9⟩ := hO2.deeds
  injection ev with ev1 ev2 ev3
  subst ev1 ev3
  have HJT := Lib.hid (sJournalText_any A2 c2 ds w2 hD9 (by omega) (fun i hi => Nat.le_trans (h8 i hi) (by omega)))
  have htl : (jtx ds).length ≤ 125 := by
    unfold jtx
    split
    · have := jU_len ds ds.length; omega
    · simp
  obtain ⟨T, hT⟩ : ∃ T, jtx ds = T := ⟨_, rfl⟩
  rw [hT] at HJT htl
  clear hO2 hD9 ev2 hR2 hX2 h8 HW hT
  go_wp2_with fail
  refine HJT.out.mono ?_
  rintro e w3 ⟨rfl, hx3⟩
  have htsz := tx_size T
  have HR3 := Lib.hid (HR2.out.ext hx3 hs2)
  have HX3 := Lib.hid (HX2.out.on hx3)
  have hs3 : w1.heap.size ≤ w3.heap.size := Nat.le_trans hs2 hx3.size
  unfold tx
  clear hx3
  go_wp2_with fail
  refine (pickU HR3.out 3 (by omega) (by omega) (by omega)).mono ?_
  rintro e w5 ⟨k, rfl, k0, k1, hR5, hO5⟩
  have HX5 := Lib.hid (HX3.out.rd hO5)
  have hs5 : w1.heap.size ≤ w5.heap.size := by rw [hO5.2.2.2.1]; exact hs3
  have HR5 := Lib.hid hR5
  have HF := Lib.hid (fun W' (q : ExtG g w1 W') => q.ext HX1.out (by have := HG.out.1; omega))
  clear hR5 hO5
  have hk3 : k = 0 ∨ k = 1 ∨ k = 2 := by omega
  rcases hk3 with rfl | rfl | rfl
  · go_wp2_with fail
    refine (l20Spoil_any HR5.out hs5 (by omega) T (by omega)).mono ?_
    rintro e w6 ⟨U, rfl, hU, -, hG6⟩
    go_wp2
    go_ret
    exact ⟨U, rfl, by omega, HF.out _ (HX5.out.trans hG6)⟩
  · have wk : IntKind.i64.wrap ((T.length : Int) + 1) = (T.length : Int) + 1 := IntWalk.i64_in _ ⟨by omega, by omega⟩
    have HPK := Lib.hid (pickU HR5.out ((T.length : Int) + 1) (by omega) (by omega) (by omega))
    go_wp2_with fail
    refine HPK.out.mono ?_
    rintro e w6 ⟨q, rfl, q0, q1, -, hO6⟩
    obtain ⟨q, rfl⟩ : ∃ m : Nat, q = m := ⟨q.toNat, by omega⟩
    have hsl := slice_to (L := T) (a := q) (by omega)
    have HX6 := Lib.hid (HX5.out.rd hO6)
    have hql : (T.take q).length ≤ 2000 := by rw [List.length_take]; omega
    obtain ⟨U, hU⟩ : ∃ U, T.take q = U := ⟨_, rfl⟩
    rw [hU] at hsl hql
    unfold tx at hsl
    clear hO6 hU
    go_wp2
    go_ret
    exact ⟨U, rfl, hql, HF.out _ HX6.out⟩
  · go_wp2_with fail
    go_ret
    exact ⟨T, rfl, by omega, HF.out _ HX5.out⟩
end Go.Proofs.YtcejdgnfmcgopaaGreatDoor
