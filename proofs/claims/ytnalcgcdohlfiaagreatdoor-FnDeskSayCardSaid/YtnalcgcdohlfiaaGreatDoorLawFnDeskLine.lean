/- What is proved: the walk of the law FnDeskLine (if l20Deed draws a deed). Conditions: those of the contract. -/
import Derived.Test.YtnalcgcdohlfiaaGreatDoorDrLn
import Derived.Test.YtnalcgcdohlfiaaGreatDoorPf
import Derived.Test.YtnalcgcdohlfiaaGreatDoorLawFnDeskDo
import Derived.Test.YtnalcgcdohlfiaaGreatDoorPl
namespace Go.Proofs.YtnalcgcdohlfiaaGreatDoor
open Go.RowKit
theorem mats_nil (W : World) : MatS W none 0 [] := (OwnS.nil 0 W (fun _ => .slice none 0 0) (fun _ _ => .slice none 0 0)).mats_of.2
set_option maxHeartbeats 2000000 in
theorem noDesk_l (A B : Option Addr) (c d : Nat) (D : List (List Int)) (L : List (List (List Int))) (w : World) (h1 : Mat w A c D) (h2 : MatS w B d L) (b : Bool) (hb : b = true ↔ L = [] ∧ D = []) :
    Calls Tryz.prog 10 #[.agg #[.slice A D.length c, .slice B L.length d]] w fun e w' => e = .returned (.bool b) ∧ Ext w w' := by
  have HC := Lib.hid (fun W (q : Ext w W) => sameDesk_v A B c d D L none none 0 0 [] [] W (h1.ext q) (h2.ext q) (Mat.nil _ _ _ (Nat.zero_le _)) (mats_nil W) b hb)
  clear h1 h2 hb
  go_enter Tryz.func10, Tryz.ntmps10
  go_wp2_with fail
  refine (HC.out _ (by repeat (first | exact Ext.refl _ | apply Ext.alloc' | apply Ext.drew'))).mono ?_
  rintro e w1 ⟨rfl, hx⟩
  go_wp2
  go_ret
  exact ⟨rfl, by repeat (first | exact hx | refine Ext.trans ?_ hx | exact Ext.refl _ | apply Ext.alloc' | apply Ext.drew')⟩
theorem say_same {D : List (List Int)} {L : List (List (List Int))} {T : List UInt8} (h : sayT D L T ≠ [111, 107]) (hd : deskB D L = true) : lineD D L T = D ∧ lineL D L T = L := by
  unfold sayT lineT at h
  unfold lineD lineL
  rw [if_pos hd] at h ⊢
  rw [if_pos hd]
  cases hr : rdS T with
  | none => exact ⟨rfl, rfl⟩
  | some p =>
    rw [hr] at h
    have hb : doB D L p.1 p.2 = false := by
      cases hb : doB D L p.1 p.2 with
      | false => rfl
      | true => exact absurd (show lnT D L _ (some p) = [111, 107] from if_pos hb) h
    have hn : ¬ doB D L p.1 p.2 = true := by rw [hb]; simp
    show doD D L p.1 p.2 = D ∧ doL D L p.1 p.2 = L
    unfold doD doL
    by_cases q : p.1 = 4 ∧ p.2.length = 0
    · rw [if_pos q, if_pos q]
      have h1 : decide (0 < L.length) = false := by
        unfold doB at hb
        rw [if_pos q] at hb
        exact hb
      have h0 : L.length = 0 := by have := of_decide_eq_false h1; omega
      have hL : L = [] := List.eq_nil_of_length_eq_zero h0
      rw [if_neg (by omega), hL]
      exact ⟨rfl, rfl⟩
    · rw [if_neg q, if_neg q, if_neg hn, if_neg hn]
      exact ⟨rfl, rfl⟩
theorem say_empty {D : List (List Int)} {L : List (List (List Int))} (hd : deskB D L = true) : lineD D L [] = D ∧ lineL D L [] = L ∧ sayT D L [] = [119, 104, 97, 116] := by
  have hr : rdS [] = none := by decide +kernel
  unfold sayT lineT lineD lineL
  rw [if_pos hd, if_pos hd, if_pos hd, hr]
  refine ⟨rfl, rfl, ?_⟩
  show askV D [] = _
  unfold askV
  rw [if_neg (by decide), if_neg (by decide), if_neg (by decide), if_neg (by decide), if_neg (by decide), if_neg (by decide), if_neg (by decide)]
  unfold twoI
  rw [(cut_miss (c := 32) (p := []) (fun b hb => by cases hb)).2.2, if_neg (fun z => absurd z.1 (by simp))]
  rfl
theorem say_desk {D : List (List Int)} {L : List (List (List Int))} {T : List UInt8} (hd : deskB D L = true) : deskB (lineD D L T) (lineL D L T) = true := by
  unfold lineD lineL
  rw [if_pos hd, if_pos hd]
  exact ln_desk hd _
theorem say_bad {D : List (List Int)} {L : List (List (List Int))} {T : List UInt8} (hd : deskB D L = false) : lineD D L T = [] ∧ lineL D L T = [] ∧ sayT D L T = [] := by
  unfold sayT lineT lineD lineL
  rw [hd]
  exact ⟨rfl, rfl, rfl⟩
end Go.Proofs.YtnalcgcdohlfiaaGreatDoor
