/- What is proved: the law FnDeskDo returns true for every input (if l20Deed draws a deed), and its argument reads behind the call as before. -/
import Derived.Test.YtnalcgcdohlfiaaGreatDoorDrDo
import Derived.Test.YtnalcgcdohlfiaaGreatDoorDoP
import Derived.Test.YtnalcgcdohlfiaaGreatDoorPl
namespace Go.Proofs.YtnalcgcdohlfiaaGreatDoor
open Go.RowKit
theorem sameDesk_v (A B : Option Addr) (c d : Nat) (D : List (List Int)) (L : List (List (List Int))) (A' B' : Option Addr) (c' d' : Nat) (E : List (List Int)) (M : List (List (List Int))) (w : World) (h1 : Mat w A c D) (h2 : MatS w B d L) (k1 : Mat w A' c' E) (k2 : MatS w B' d' M) (b : Bool) (hb : b = true ↔ L = M ∧ D = E) :
    Calls Tryz.prog 7 #[.agg #[.slice A D.length c, .slice B L.length d], .agg #[.slice A' E.length c', .slice B' M.length d']] w fun e w' => e = .returned (.bool b) ∧ Ext w w' := by
  have e : (decide (L = M) && eqM D E) = b := by
    rw [Bool.eq_iff_iff, hb]
    simp only [Bool.and_eq_true, decide_eq_true_eq]
    exact and_congr_right fun _ => decide_eq_true_iff
  rw [← e]
  exact sameDesk_any A B c d D L A' B' c' d' E M w h1 h2 k1 k2
end Go.Proofs.YtnalcgcdohlfiaaGreatDoor
