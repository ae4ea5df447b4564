/- What is proved: the card of the law FnExactJournalText: it returns true for every input, and its arguments and the listed variable read behind the call as before. The laid condition is the card's, tied to the program's text. -/
import Derived.Test.YtjpgjmhdjepfgaaDoorJt
import Derived.Test.YtjpgjmhdjepfgaaDoorRw3
import Derived.Test.YtjpgjmhdjepfgaaDoorRdDeed
import Derived.Test.YtjpgjmhdjepfgaaDoorLd
import Derived.Test.YtjpgjmhdjepfgaaDoorCards
import Derived.Test.YtjpgjmhdjepfgaaDoorTie
import Derived.SevenTiedAt
import Derived.Deep.RegionLaw
namespace Go.Proofs.YtjpgjmhdjepfgaaDoor
open Go.RowKit
set_option maxRecDepth 100000 in
set_option maxHeartbeats 4000000 in
theorem FnExactJournalText_walk (A : Option Addr) (c : Nat) (ds : List (Int × List Int)) (w : World) (h : DeedsM w A c ds) (hn : Names w) :
    Calls Tryd.prog 4 #[.slice A ds.length c] w fun e w' => e = .returned (.bool true) ∧ Ext w w' := by
  have H1 := Lib.hid h
  have HN := Lib.hid hn
  have hl1 := h.1
  have hl2 := h.2.1
  unfold maxLen at hl2
  clear h hn
  go_enter Tryd.func4, Tryd.ntmps4
  go_wp2_with fail
  refine (szDeedS_any A c ds 1048576 _ H1.out (by omega) (by omega)).mono ?_
  rintro e w1 ⟨rfl, hx1⟩
  by_cases hsz : szDs ds 1048576 < 0
  · go_wp2
    go_ret
    exact ⟨rfl, hx1⟩
  obtain ⟨hz1, hz2, -⟩ := szDs_spec (by omega) hsz
  have HZ2 := Lib.hid hz2
  obtain ⟨l0, hl0⟩ : ∃ l, szDs ds 1048576 = l := ⟨_, rfl⟩
  rw [hl0] at hsz
  rw [hl0]
  clear hl0 hz2
  go_wp2_with fail
  refine (toDeedS_any A c ds _ (H1.out.ext hx1) hz1 HZ2.out).mono ?_
  rintro e w2 ⟨A2, c2, V2, rfl, hD2, -, -, hx2⟩
  have HD2 := Lib.hid hD2.deeds
  clear hD2
  go_wp2_with fail
  refine (sJournalText_any A2 c2 ds _ HD2.out hz1 HZ2.out).mono ?_
  rintro e w3 ⟨rfl, hx3⟩
  unfold tx
  obtain ⟨R, hR⟩ : ∃ R, jtx ds = R := ⟨_, rfl⟩
  have HR := Lib.hid hR
  rw [hR]
  clear hR
  go_wp2_with fail
  refine (toDeedS_any A c ds _ (H1.out.ext (hx1.trans (hx2.trans hx3))) hz1 HZ2.out).mono ?_
  rintro e w4 ⟨A4, c4, V4, rfl, hD4, -, -, hx4⟩
  have HD4 := Lib.hid hD4.deeds
  clear hD4
  have HX4 := Lib.hid (show Ext w w4 from hx1.trans (hx2.trans (hx3.trans hx4)))
  clear hx1 hx2 hx3 hx4
  go_wp2_with fail
  refine (iJournalText_any A4 c4 ds _ HD4.out (HN.out.ext HX4.out) hz1 HZ2.out).mono ?_
  rintro e w6 ⟨rfl, hx6⟩
  rw [HR.out]
  unfold tx
  go_wp2_with fail
  refine (toDeedS_any A c ds _ (H1.out.ext (HX4.out.trans hx6)) hz1 HZ2.out).mono ?_
  rintro e w20 ⟨A20, c20, V20, rfl, hD20, -, -, hx20⟩
  have HD20 := Lib.hid hD20.deeds
  clear hD20
  go_wp2_with fail
  refine (eqDeedS_any A4 A20 c4 c20 ds w20 (HD4.out.ext (hx6.trans hx20)) HD20.out).mono ?_
  rintro e w21 ⟨rfl, hx21⟩
  go_wp2
  go_ret
  exact ⟨rfl, HX4.out.trans (hx6.trans (hx20.trans hx21))⟩
section
open Go.ChangeShapes Go.WideShapes Go.ChangeAt Go.Deep
set_option maxRecDepth 100000 in
theorem FnExactJournalText_contract (H : Type) (enc : TypeId × Value → H) (W : World) (base : Nat) (args : Array Value) (ds gs : List (DataW H)) (before : List MemPlace)
    (hval : ∀ (j : Nat) t v, Tryd.f4.params[j]? = some t → args[j]? = some v → Value.okWide Tryd.prog W .any base t v)
    (hL : laidMetH Tryd.prog Rows.fnExactJournalTextRow.laid W)
    (hW : DataW.Whole enc Tryd.prog Tryd.f4.params.toList Rows.fnExactJournalTextSpec.vars false W args.toList ds gs before) :
    Calls Tryd.prog 4 args W fun e W' => ∃ v, e = .returned v ∧ Rows.fnExactJournalTextSpec.post enc Tryd.prog Tryd.f4 false true false false W args v W' := by
  have hW' := hW
  obtain ⟨p, q, hA0, hV, rfl, hfz, hnd⟩ := hW
  have hA : DataW.TrodAll enc Tryd.prog W 0 (fun _ => true) true Tryd.f4.params.toList args.toList ds p := hA0
  rw [Tryd.params4] at hA hval
  obtain ⟨v0, vs0, d0, ds0, p0, q0, hargs0, rfl, rfl, h0, r0⟩ := trodAll_cons hA
  obtain ⟨hargsn, rfl, rfl⟩ := trodAll_nil r0
  obtain rfl : args = #[v0] := by cases args; simp_all
  have hN : Names W := names_of (by rw [MakeChecks.laidMetH_plain _ _ _ (by kernel_rfl)] at hL; exact hL) (by unfold Rows.fnExactJournalTextRow; repeat (first | exact List.mem_cons_self | apply List.mem_cons_of_mem))
  obtain ⟨g0, rfl⟩ : ∃ g, gs = [g] := by
    have := whole_len hV
    match gs, this with
    | [g], _ => exact ⟨g, rfl⟩
  clear hA0
  obtain ⟨A0, c0, a, rfl, M0⟩ := read_deeds (hval 0 31 v0 rfl rfl) h0
  refine (FnExactJournalText_walk A0 c0 a W M0 hN).mono fun e W' ⟨he, hx⟩ => ⟨_, he, post_lawV laidOut (by rw [Tryd.params4]; decide +kernel) (by kernel_rfl) rfl Tryd.underlying4 hW' rfl hx⟩
set_option maxRecDepth 100000 in
theorem FnExactJournalText_door (os : Os) (args : Array Value) : laidMetH Tryd.prog Rows.fnExactJournalTextRow.laid ((World.doorLaid Tryd.prog 77 os).forCall (fun _ _ => 0) ⟨#[], args, []⟩).memory :=
  laidMetH_of_parts3 (fuel := 8) (laidMet_of_run' 8 (by kernel_rfl) (by kernel_rfl)) (by kernel_rfl) (by kernel_rfl)
set_option maxRecDepth 100000 in
theorem FnExactJournalText_lifted (os : Os) (started : os.Started) (H : Type) (enc : TypeId × Value → H) :
    ReturnsInHanded {} Tryd.checked os 4 .any (fun w args => (Rows.fnExactJournalTextSpec.pre enc Tryd.prog Tryd.f4 [] false w args ∧ laidMetH Tryd.prog Rows.fnExactJournalTextRow.laid w) ∧ sizedMet enc Tryd.prog Tryd.f4 (OpenSpec.ofChange Rows.fnExactJournalTextSpec) false w args)
      (Rows.fnExactJournalTextSpec.post enc Tryd.prog Tryd.f4 false true false false) := by
  refine returnsInHanded_of_change_and (C := Tryd.checked) (X := fun w _ => laidMetH Tryd.prog Rows.fnExactJournalTextRow.laid w) (fun _ _ _ hh h => h.of_heap hh) own started (by kernel_rfl) Tryd.func4
    (ChangeSpec.witness_shaped (enc := enc) (C := Tryd.checked) (os := os) (X := fun w _ => laidMetH Tryd.prog Rows.fnExactJournalTextRow.laid w) false (World.doorLaid Tryd.prog 77 os) #[.slice none 0 0] 8 rfl (World.shaped_of_RefB (by kernel_rfl) (by kernel_rfl)) (by kernel_rfl) (by kernel_rfl) (by kernel_rfl) (FnExactJournalText_door os _)) ?_
  intro W base args ds gs before hval hW _ _ hL _
  exact FnExactJournalText_contract H enc W base args ds gs before hval hL hW
theorem FnExactJournalText_holds : Rows.FnExactJournalTextSaid :=
  OpenClaim.holds_of_wide 4 Tryd.f4 rfl rfl rfl rfl rfl rfl rfl ⟨rfl, rfl, rfl, rfl, rfl⟩ rfl rfl rfl rfl rfl (by kernel_rfl) Tryd.func4 (by kernel_rfl)
    (of_decide_eq_true (by kernel_rfl)) (by unfold Func.isWrapper; first | (rw [if_pos (by decide +kernel)]; kernel_rfl) | (rw [if_neg (by decide +kernel)]; exact ⟨rfl, rfl⟩))
    (fun os started H enc _ => FnExactJournalText_lifted os started H enc)
set_option maxRecDepth 100000 in
theorem FnExactJournalText_card : Rows.FnExactJournalTextCardSaid :=
  Claim7.holds_tied_plain_at .later [] [.data, .data, .data, .widerDeep] true _ true
    FnExactJournalText_holds (fun _ h => by cases h) (by kernel_rfl) (fun _ h => by cases h) fnExactJournalText_row_tie rfl ⟨rfl, rfl⟩ (by kernel_rfl) rfl
    (fun f fn hf hfn => by
      obtain rfl : f = 4 := Option.some.inj ((show Tryd.prog.funcNamed "loop.example/fewpoints/laws.FnExactJournalText" = some 4 by kernel_rfl).symm.trans hf) |>.symm
      obtain rfl : fn = Tryd.f4 := (Option.some.inj (Tryd.func4.symm.trans hfn)).symm
      exact ⟨by kernel_rfl, fun j t ht => by
        rw [Tryd.params4] at ht
        have hm : t ∈ [31] := by simpa using Array.mem_of_getElem? ht
        have hall : ([31].all fun u => !Tryd.prog.wantsStandIn u) = true := by kernel_rfl
        exact (show Tryd.prog.wantsStandIn t = false by simpa using List.all_eq_true.1 hall t hm)⟩)
    (by kernel_rfl)
end
end Go.Proofs.YtjpgjmhdjepfgaaDoor
