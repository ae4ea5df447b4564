/- What is proved: the card of the law FnDeskSay: it returns true for every input, and its arguments and the listed variable read behind the call as before. The laid condition is the card's, tied to the program's text. -/
import Derived.Test.YtnalcgcdohlfiaaGreatDoorLawFnDeskSay
import Derived.Test.YtnalcgcdohlfiaaGreatDoorDeedA
import Derived.Test.YtnalcgcdohlfiaaGreatDoorPf
import Derived.Test.YtnalcgcdohlfiaaGreatDoorLs
import Derived.Test.YtnalcgcdohlfiaaGreatDoorCards
import Derived.Test.YtnalcgcdohlfiaaGreatDoorTie
import Derived.SevenTiedAt
import Derived.Lay
namespace Go.Proofs.YtnalcgcdohlfiaaGreatDoor
open Go.RowKit
section
open Go.ChangeShapes Go.WideShapes Go.ChangeAt Go.Deep
set_option maxRecDepth 100000 in
theorem FnDeskSay_contract (H : Type) (enc : TypeId × Value → H) (W : World) (base : Nat) (args : Array Value) (ds gs : List (DataW H)) (before : List MemPlace)
    (hval : ∀ (j : Nat) t v, Tryz.f3.params[j]? = some t → args[j]? = some v → Value.okWide Tryz.prog W .any base t v)
    (hSh : W.ShapedOpen Tryz.prog)
    (hL : laidMetH Tryz.prog Rows.fnDeskSayRow.laid W)
    (hW : DataW.Whole enc Tryz.prog Tryz.f3.params.toList Rows.fnDeskSaySpec.vars false W args.toList ds gs before) :
    Calls Tryz.prog 3 args W fun e W' => ∃ v, e = .returned v ∧ Rows.fnDeskSaySpec.post enc Tryz.prog Tryz.f3 false true false false W args v W' := by
  have hW' := hW
  obtain ⟨p, q, hA0, hV, rfl, hfz, hnd⟩ := hW
  have hA : DataW.TrodAll enc Tryz.prog W 0 (fun _ => true) true Tryz.f3.params.toList args.toList ds p := hA0
  rw [Tryz.params3] at hA hval
  obtain ⟨v0, vs0, d0, ds0, p0, q0, hargs0, rfl, rfl, h0, r0⟩ := trodAll_cons hA
  obtain ⟨hargsn, rfl, rfl⟩ := trodAll_nil r0
  obtain rfl : args = #[v0] := by cases args; simp_all
  have hN : Env W := env_of (by rw [MakeChecks.laidMetH_plain _ _ _ (by kernel_rfl)] at hL; exact hL) hSh (by unfold Rows.fnDeskSayRow; repeat (first | exact List.mem_cons_self | apply List.mem_cons_of_mem)) (by unfold Rows.fnDeskSayRow; repeat (first | exact List.mem_cons_self | apply List.mem_cons_of_mem)) (by unfold Rows.fnDeskSayRow; repeat (first | exact List.mem_cons_self | apply List.mem_cons_of_mem))
  have hT : Tab W := tab_of (by rw [MakeChecks.laidMetH_plain _ _ _ (by kernel_rfl)] at hL; exact hL) (by unfold Rows.fnDeskSayRow; repeat (first | exact List.mem_cons_self | apply List.mem_cons_of_mem))
  obtain ⟨g0, rfl⟩ : ∃ g, gs = [g] := by
    have := whole_len hV
    match gs, this with
    | [g], _ => exact ⟨g, rfl⟩
  clear hA0
  obtain ⟨A0, code, c0, rfl, M0⟩ := read_bytes (hval 0 22 v0 rfl rfl) h0
  refine (FnDeskSay_walk deedAny A0 code c0 W M0 hN hT).mono fun e W' ⟨he, hx⟩ => ⟨_, he, post_lawV laidOut (by rw [Tryz.params3]; decide +kernel) (by kernel_rfl) rfl Tryz.underlying4 hW' rfl hx⟩
set_option maxRecDepth 100000 in
theorem FnDeskSay_door (os : Os) (args : Array Value) : laidMetH Tryz.prog Rows.fnDeskSayRow.laid ((World.laidAll Tryz.prog os Rows.fnDeskSayRow.laid).forCall (fun _ _ => 0) ⟨#[], args, []⟩).memory :=
  by rw [MakeChecks.laidMetH_plain _ _ _ (by kernel_rfl)]; exact laidMet_laidAll _ (by kernel_rfl) (by kernel_rfl)
set_option maxRecDepth 100000 in
theorem FnDeskSay_lifted (os : Os) (started : os.Started) (H : Type) (enc : TypeId × Value → H) :
    ReturnsInHanded {} Tryz.checked os 3 .any (fun w args => (Rows.fnDeskSaySpec.pre enc Tryz.prog Tryz.f3 [] false w args ∧ laidMetH Tryz.prog Rows.fnDeskSayRow.laid w) ∧ sizedMet enc Tryz.prog Tryz.f3 (OpenSpec.ofChange Rows.fnDeskSaySpec) false w args)
      (Rows.fnDeskSaySpec.post enc Tryz.prog Tryz.f3 false true false false) := by
  refine returnsBoth (C := Tryz.checked) (X := fun w _ => laidMetH Tryz.prog Rows.fnDeskSayRow.laid w) (fun _ _ _ hh h => h.of_heap hh) own started (by kernel_rfl) Tryz.func3
    (ChangeSpec.witness_shaped (enc := enc) (C := Tryz.checked) (os := os) (X := fun w _ => laidMetH Tryz.prog Rows.fnDeskSayRow.laid w) false (World.laidAll Tryz.prog os Rows.fnDeskSayRow.laid) #[.slice none 0 0] 8 (World.laidAll_os _ _ _) (World.shaped_of_ZipB (by kernel_rfl) (by kernel_rfl)) (by kernel_rfl) (by kernel_rfl) (by kernel_rfl) (FnDeskSay_door os _)) ?_
  intro W base args ds gs before hval hW hL hSh
  exact FnDeskSay_contract H enc W base args ds gs before hval hSh hL hW
theorem FnDeskSay_holds : Rows.FnDeskSaySaid :=
  OpenClaim.holds_of_wide 3 Tryz.f3 rfl rfl rfl rfl rfl rfl rfl ⟨rfl, rfl, rfl, rfl, rfl⟩ rfl rfl rfl rfl rfl (by kernel_rfl) Tryz.func3 (by kernel_rfl)
    (of_decide_eq_true (by kernel_rfl)) (by unfold Func.isWrapper; first | (rw [if_pos (by decide +kernel)]; kernel_rfl) | (rw [if_neg (by decide +kernel)]; exact ⟨rfl, rfl⟩))
    (fun os started H enc _ => FnDeskSay_lifted os started H enc)
set_option maxRecDepth 100000 in
theorem FnDeskSay_card : Rows.FnDeskSayCardSaid :=
  Claim7.holds_tied_plain_at .later [] [.data, .data, .data, .data, .sentinel, .sentinel, .widerDeep, .pinned] true _ true
    FnDeskSay_holds (fun _ h => by cases h) (by kernel_rfl) (fun _ h => by cases h) fnDeskSay_row_tie rfl ⟨rfl, rfl⟩ (by kernel_rfl) rfl
    (fun f fn hf hfn => by
      obtain rfl : f = 3 := Option.some.inj ((show Tryz.prog.funcNamed "loop.example/fewpoints/laws.FnDeskSay" = some 3 by kernel_rfl).symm.trans hf) |>.symm
      obtain rfl : fn = Tryz.f3 := (Option.some.inj (Tryz.func3.symm.trans hfn)).symm
      exact ⟨by kernel_rfl, fun j t ht => by
        rw [Tryz.params3] at ht
        have hm : t ∈ [22] := by simpa using Array.mem_of_getElem? ht
        have hall : ([22].all fun u => !Tryz.prog.wantsStandIn u) = true := by kernel_rfl
        exact (show Tryz.prog.wantsStandIn t = false by simpa using List.all_eq_true.1 hall t hm)⟩)
    (by kernel_rfl)
end
end Go.Proofs.YtnalcgcdohlfiaaGreatDoor
