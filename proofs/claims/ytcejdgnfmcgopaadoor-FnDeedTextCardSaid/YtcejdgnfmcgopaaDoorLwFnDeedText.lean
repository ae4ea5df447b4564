/- What is proved: the card of the law FnDeedText: it returns true for every input, and its arguments and the listed variable read behind the call as before. The laid condition is the card's, tied to the program's text. -/
import Derived.Test.YtcejdgnfmcgopaaDoorLawFnDeedText
import Derived.Test.YtcejdgnfmcgopaaDoorDeedA
import Derived.Test.YtcejdgnfmcgopaaDoorLs
import Derived.Test.YtcejdgnfmcgopaaDoorCards
import Derived.Test.YtcejdgnfmcgopaaDoorTie
import Derived.SevenTiedAt
import Derived.Lay
namespace Go.Proofs.YtcejdgnfmcgopaaDoor
open Go.RowKit
section
open Go.ChangeShapes Go.WideShapes Go.ChangeAt Go.Deep
set_option maxRecDepth 100000 in
theorem FnDeedText_contract (H : Type) (enc : TypeId × Value → H) (W : World) (base : Nat) (args : Array Value) (ds gs : List (DataW H)) (before : List MemPlace)
    (hval : ∀ (j : Nat) t v, Tryd.f3.params[j]? = some t → args[j]? = some v → Value.okWide Tryd.prog W .any base t v)
    (hSh : W.ShapedOpen Tryd.prog)
    (hL : laidMetH Tryd.prog Rows.fnDeedTextRow.laid W)
    (hW : DataW.Whole enc Tryd.prog Tryd.f3.params.toList Rows.fnDeedTextSpec.vars false W args.toList ds gs before) :
    Calls Tryd.prog 3 args W fun e W' => ∃ v, e = .returned v ∧ Rows.fnDeedTextSpec.post enc Tryd.prog Tryd.f3 false true false false W args v W' := by
  have hW' := hW
  obtain ⟨p, q, hA0, hV, rfl, hfz, hnd⟩ := hW
  have hA : DataW.TrodAll enc Tryd.prog W 0 (fun _ => true) true Tryd.f3.params.toList args.toList ds p := hA0
  rw [Tryd.params3] at hA hval
  obtain ⟨v0, vs0, d0, ds0, p0, q0, hargs0, rfl, rfl, h0, r0⟩ := trodAll_cons hA
  obtain ⟨hargsn, rfl, rfl⟩ := trodAll_nil r0
  obtain rfl : args = #[v0] := by cases args; simp_all
  have hN : Env W := env_of (by rw [MakeChecks.laidMetH_plain _ _ _ (by kernel_rfl)] at hL; exact hL) hSh (by unfold Rows.fnDeedTextRow; repeat (first | exact List.mem_cons_self | apply List.mem_cons_of_mem)) (by unfold Rows.fnDeedTextRow; repeat (first | exact List.mem_cons_self | apply List.mem_cons_of_mem)) (by unfold Rows.fnDeedTextRow; repeat (first | exact List.mem_cons_self | apply List.mem_cons_of_mem))
  obtain ⟨g0, rfl⟩ : ∃ g, gs = [g] := by
    have := whole_len hV
    match gs, this with
    | [g], _ => exact ⟨g, rfl⟩
  clear hA0
  obtain ⟨A0, code, c0, rfl, M0⟩ := read_bytes (hval 0 22 v0 rfl rfl) h0
  refine (FnDeedText_walk deedAny A0 code c0 W M0 hN).mono fun e W' ⟨he, hx⟩ => ⟨_, he, post_lawV laidOut (by rw [Tryd.params3]; decide +kernel) (by kernel_rfl) rfl Tryd.underlying4 hW' rfl hx⟩
set_option maxRecDepth 100000 in
theorem FnDeedText_door (os : Os) (args : Array Value) : laidMetH Tryd.prog Rows.fnDeedTextRow.laid ((World.laidAll Tryd.prog os Rows.fnDeedTextRow.laid).forCall (fun _ _ => 0) ⟨#[], args, []⟩).memory :=
  by rw [MakeChecks.laidMetH_plain _ _ _ (by kernel_rfl)]; exact laidMet_laidAll _ (by kernel_rfl) (by kernel_rfl)
set_option maxRecDepth 100000 in
theorem FnDeedText_lifted (os : Os) (started : os.Started) (H : Type) (enc : TypeId × Value → H) :
    ReturnsInHanded {} Tryd.checked os 3 .any (fun w args => (Rows.fnDeedTextSpec.pre enc Tryd.prog Tryd.f3 [] false w args ∧ laidMetH Tryd.prog Rows.fnDeedTextRow.laid w) ∧ sizedMet enc Tryd.prog Tryd.f3 (OpenSpec.ofChange Rows.fnDeedTextSpec) false w args)
      (Rows.fnDeedTextSpec.post enc Tryd.prog Tryd.f3 false true false false) := by
  refine returnsBoth (C := Tryd.checked) (X := fun w _ => laidMetH Tryd.prog Rows.fnDeedTextRow.laid w) (fun _ _ _ hh h => h.of_heap hh) own started (by kernel_rfl) Tryd.func3
    (ChangeSpec.witness_shaped (enc := enc) (C := Tryd.checked) (os := os) (X := fun w _ => laidMetH Tryd.prog Rows.fnDeedTextRow.laid w) false (World.laidAll Tryd.prog os Rows.fnDeedTextRow.laid) #[.slice none 0 0] 8 (World.laidAll_os _ _ _) (World.shaped_of_ZipB (by kernel_rfl) (by kernel_rfl)) (by kernel_rfl) (by kernel_rfl) (by kernel_rfl) (FnDeedText_door os _)) ?_
  intro W base args ds gs before hval hW hL hSh
  exact FnDeedText_contract H enc W base args ds gs before hval hSh hL hW
theorem FnDeedText_holds : Rows.FnDeedTextSaid :=
  OpenClaim.holds_of_wide 3 Tryd.f3 rfl rfl rfl rfl rfl rfl rfl ⟨rfl, rfl, rfl, rfl, rfl⟩ rfl rfl rfl rfl rfl (by kernel_rfl) Tryd.func3 (by kernel_rfl)
    (of_decide_eq_true (by kernel_rfl)) (by unfold Func.isWrapper; first | (rw [if_pos (by decide +kernel)]; kernel_rfl) | (rw [if_neg (by decide +kernel)]; exact ⟨rfl, rfl⟩))
    (fun os started H enc _ => FnDeedText_lifted os started H enc)
set_option maxRecDepth 100000 in
theorem FnDeedText_card : Rows.FnDeedTextCardSaid :=
  Claim7.holds_tied_plain_at .later [] [.data, .data, .data, .data, .sentinel, .sentinel, .widerDeep, .pinned] true _ true
    FnDeedText_holds (fun _ h => by cases h) (by kernel_rfl) (fun _ h => by cases h) fnDeedText_row_tie rfl ⟨rfl, rfl⟩ (by kernel_rfl) rfl
    (fun f fn hf hfn => by
      obtain rfl : f = 3 := Option.some.inj ((show Tryd.prog.funcNamed "loop.example/fewpoints/laws.FnDeedText" = some 3 by kernel_rfl).symm.trans hf) |>.symm
      obtain rfl : fn = Tryd.f3 := (Option.some.inj (Tryd.func3.symm.trans hfn)).symm
      exact ⟨by kernel_rfl, fun j t ht => by
        rw [Tryd.params3] at ht
        have hm : t ∈ [22] := by simpa using Array.mem_of_getElem? ht
        have hall : ([22].all fun u => !Tryd.prog.wantsStandIn u) = true := by kernel_rfl
        exact (show Tryd.prog.wantsStandIn t = false by simpa using List.all_eq_true.1 hall t hm)⟩)
    (by kernel_rfl)
end
end Go.Proofs.YtcejdgnfmcgopaaDoor
