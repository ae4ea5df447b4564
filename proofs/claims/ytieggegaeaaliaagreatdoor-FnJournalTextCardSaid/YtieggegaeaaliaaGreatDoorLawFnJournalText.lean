/- What is proved: the walk of the law FnJournalText (if l20Deed draws a deed). Conditions: those of the contract. -/
import Derived.Test.YtieggegaeaaliaaGreatDoorDrJ2
import Derived.Test.YtieggegaeaaliaaGreatDoorSds
import Derived.Test.YtieggegaeaaliaaGreatDoorAlive
namespace Go.Proofs.YtieggegaeaaliaaGreatDoor
open Go.RowKit
set_option maxRecDepth 100000 in
set_option maxHeartbeats 8000000 in
theorem FnJournalText_walk (hDeed : DeedAny) (A : Option Addr) (n c : Nat) (w : World) (h : Byt w A n c) (hE : Env w) :
    Calls Tryz.prog 4 #[.slice A n c] w fun e w' => e = .returned (.bool true) ∧ Ext w w' := by
  by_cases hz : 1048576 < n
  · have hz' : (1048576 : Int) < (n : Nat) := by omega
    go_enter Tryz.func4, Tryz.ntmps4
    go_wp2
    go_ret
    exact ⟨rfl, (by repeat (first | exact Ext.refl _ | assumption | apply Ext.drewN' | apply Ext.alloc' | refine Ext.trans ?_ (by assumption)))⟩
  have hz' : ¬ (1048576 : Int) < (n : Nat) := by omega
  have HE := Lib.hid hE
  have HDR := Lib.hid (drawJournalText_any hDeed A n c w h)
  clear h hE
  go_enter Tryz.func4, Tryz.ntmps4
  go_wp2_with fail
  refine HDR.out.mono ?_
  rintro e w1 ⟨A1, c1, ds, rfl, hD1, hl6, h8, hx1⟩
  have HD := Lib.hid (fun W (q : Ext w1 W) => hD1.ext q)
  have HX1 := Lib.hid hx1
  have hT8 : ∀ i, i < ds.length → (dx ds i).length ≤ 1048576 := fun i hi => Nat.le_trans (h8 i hi) (by omega)
  have HIT := fun W (q : Ext w1 W) => iJournalText_any A1 c1 ds W (HD.out W q) (HE.out.ext (HX1.out.trans q)).1 (by omega) hT8
  have HST := fun W (q : Ext w1 W) => sJournalText_any A1 c1 ds W (HD.out W q) (by omega) hT8
  have htl : (jtx ds).length ≤ 1000 := by
    unfold jtx
    split
    · have := jU_len ds ds.length; omega
    · simp
  have HJ := Lib.hid (fun (q : jtx ds ≠ []) => (by rw [jtx_good (jtx_ne q)]; exact jn_jL (jtx_ne q) : jn (jtx ds) = (ds, (jtx ds).length)))
  obtain ⟨T, hT⟩ : ∃ T, jtx ds = T := ⟨_, rfl⟩
  rw [hT] at HIT HST HJ htl
  have HIT' := Lib.hid HIT
  have HST' := Lib.hid HST
  have HRJ := Lib.hid (fun W (q : Ext w1 W) => iReadJournal_any T W (by omega) (HE.out.ext (HX1.out.trans q)))
  have htsz := tx_size T
  clear hD1 hx1 hT8 HIT HST hT h8 HDR
  go_wp2_with fail
  refine (HIT'.out _ (Ext.refl _)).mono ?_
  rintro e w2 ⟨rfl, hx2⟩
  unfold tx
  go_wp2_with fail
  refine (HST'.out _ hx2).mono ?_
  rintro e w3 ⟨rfl, hx3⟩
  have HX3 := Lib.hid (hx2.trans hx3)
  unfold tx
  clear hx2 hx3
  by_cases h0 : T = []
  · subst h0
    have HAL := Lib.hid (alive_any w3)
    go_wp2_with fail
    refine HAL.out.mono ?_
    rintro e w5 ⟨rfl, hx5⟩
    go_wp2
    go_ret
    exact ⟨rfl, HX1.out.trans (HX3.out.trans hx5)⟩
  · have hne : T.isEmpty = false := by
      cases T with
      | nil => exact absurd rfl h0
      | cons x l => rfl
    have hj := HJ.out h0
    rw [hj] at HRJ
    simp only at HRJ
    clear hj HJ h0
    go_wp2_with fail
    refine (HRJ.out _ HX3.out).mono ?_
    rintro e w5 ⟨v5, rfl, ⟨V5, hO5⟩, hx5⟩
    obtain ⟨A5, c5, rfl, hD5⟩ := hO5.deeds
    have HSD := Lib.hid (sameDeeds_any A5 A1 c5 c1 ds w5 hD5 (HD.out _ (HX3.out.trans hx5)))
    have HX5 := Lib.hid (HX3.out.trans hx5)
    clear hO5 hD5 hx5
    go_wp2_with fail
    refine HSD.out.mono ?_
    rintro e w7 ⟨rfl, hx7⟩
    go_wp2_with fail
    go_ret
    exact ⟨rfl, HX1.out.trans (HX5.out.trans hx7)⟩
end Go.Proofs.YtieggegaeaaliaaGreatDoor
