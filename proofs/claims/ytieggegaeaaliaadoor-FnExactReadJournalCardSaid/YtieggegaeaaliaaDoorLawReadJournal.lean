/- What is proved: the walk of the law FnExactReadJournal. Conditions: those of the contract. -/
import Derived.Test.YtieggegaeaaliaaDoorJh
namespace Go.Proofs.YtieggegaeaaliaaDoor
open Go.RowKit
theorem OwnDs.low_all {b : Nat} {w : World} {A : Option Addr} {n c : Nat} {ds : List (Int × List Int)} {V : Nat → Value} (h : OwnDs b w (.slice A n c) ds V) : ∀ g, LDs A ds.length V g → b ≤ g := by
  intro g hg
  rcases hg with ⟨i, hi, q⟩ | ⟨h0, o, s, e⟩
  · exact h.2.2.1 i hi g q
  · rcases h.1.2 with ⟨e0, h1⟩ | ⟨g', cap, cur, e0, hb, -⟩
    · omega
    · injection e0 with e1 _ _
      rw [e] at e1
      injection e1 with e1
      injection e1 with e1
      omega
set_option maxRecDepth 100000 in
set_option maxHeartbeats 4000000 in
theorem FnExactReadJournal_walk (L : List UInt8) (w : World) (hE : Env w) :
    Calls Tryd.prog 3 #[.string ⟨L.toArray⟩] w fun e w' => e = .returned (.bool true) ∧ Ext w w' := by
  have HE := Lib.hid hE
  have hsz := tx_size L
  clear hE
  by_cases hl : L.length ≤ 1048576
  · have hl' : ¬ (1048576 : Int) < (L.length : Nat) := by omega
    have hS := fun W => sReadJournal_any L W hl
    have HI := Lib.hid (fun W (q : Ext w W) => iReadJournal_any L W hl (HE.out.ext q))
    have hpb := jn_pre_bd L hl
    have hS' : ∀ W, Calls Tryd.prog 5 #[.string ⟨L.toArray⟩] W fun e w' => ∃ v, e = .returned (.tuple #[v, .int .i64 (jn L).2]) ∧ (∃ V, OwnDs W.heap.size w' v (jn L).1 V) ∧ Ext W w' := hS
    have HS := Lib.hid hS'
    clear hS hS'
    obtain ⟨⟨ds, n⟩, hr⟩ : ∃ r, jn L = r := ⟨_, rfl⟩
    rw [hr] at HI hpb HS
    simp only at HI hpb HS
    clear hr
    go_enter Tryd.func3, Tryd.ntmps3
    go_wp2_with fail
    refine (HS.out w).mono ?_
    rintro e w1 ⟨v1, rfl, ⟨V1, hO1⟩, hx1⟩
    obtain ⟨A1, c1, rfl, hD1⟩ := hO1.deeds
    have HD1 := Lib.hid (fun W (q : Ext w1 W) => hD1.ext q)
    clear hO1 hD1
    go_wp2_with fail
    refine (HI.out _ hx1).mono ?_
    rintro e w2 ⟨v2, rfl, ⟨V2, hO2⟩, hx2⟩
    obtain ⟨A2, c2, rfl, hV2⟩ := hO2.v
    have HV2 := Lib.hid (And.intro hV2 hO2.low_all)
    have HX12 := Lib.hid hx2
    clear hO2 hV2 hx2
    go_wp2_with fail
    refine (eqDeedS_any A2 A1 c2 c1 ds w2 HV2.out.1.deeds (HD1.out _ HX12.out)).mono ?_
    rintro e w3 ⟨rfl, hx3⟩
    have HX3 := Lib.hid hx3
    clear hx3
    go_wp2_with fail
    refine (markDeedS_any A2 c2 ds V2 1 w3 (HV2.out.1.ext HX3.out) (by omega) (by omega) hpb).mono ?_
    rintro e w4 ⟨rfl, hV4, hO4⟩
    have HX14 := Lib.hid (ExtS.ext (w0 := w1) (HX12.out.trans HX3.out) (ExtS.only hO4) HV2.out.2)
    have HV4 := Lib.hid (fun W (q : Ext w4 W) => hV4.deeds.ext q)
    clear hV4 hO4
    go_wp2_with fail
    refine (heldDeedS_any A2 c2 ds 1 w4 (HV4.out _ (Ext.refl _)) (by omega) (by omega) hpb).mono ?_
    rintro e w5 ⟨rfl, hx5⟩
    have HX45 := Lib.hid hx5
    have hneg : ¬ 1 + (preD ds ds.length : Int) < 0 := by omega
    clear hx5
    go_wp2_with fail
    refine (HI.out _ (hx1.trans (HX14.out.trans HX45.out))).mono ?_
    rintro e w6 ⟨v6, rfl, ⟨V6, hO6⟩, hx6⟩
    obtain ⟨A6, c6, rfl, hD6⟩ := hO6.deeds
    have HD6 := Lib.hid hD6
    have HX56 := Lib.hid hx6
    clear hO6 hD6 hx6
    go_wp2_with fail
    refine (eqDeedS_any A6 A1 c6 c1 ds w6 HD6.out (HD1.out _ (HX14.out.trans (HX45.out.trans HX56.out)))).mono ?_
    rintro e w7 ⟨rfl, hx7⟩
    have HX47 := Lib.hid (HX45.out.trans (HX56.out.trans hx7))
    clear hx7
    go_wp2_with fail
    refine (heldDeedS_any A2 c2 ds 1 w7 (HV4.out _ HX47.out) (by omega) (by omega) hpb).mono ?_
    rintro e w8 ⟨rfl, hx8⟩
    have HX8 := Lib.hid (hx1.trans (HX14.out.trans (HX47.out.trans hx8)))
    clear hx8
    go_wp2_with fail
    go_ret
    exact ⟨rfl, HX8.out⟩
  · have hl' : (1048576 : Int) < (L.length : Nat) := by omega
    go_enter Tryd.func3, Tryd.ntmps3
    go_wp2_with fail
    go_ret
    exact ⟨rfl, Ext.refl _⟩
end Go.Proofs.YtieggegaeaaliaaDoor
