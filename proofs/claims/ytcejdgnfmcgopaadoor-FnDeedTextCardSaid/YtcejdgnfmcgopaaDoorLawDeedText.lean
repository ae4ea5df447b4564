/- What is proved: the walk of the law FnExactDeedText. Conditions: those of the contract. -/
import Derived.Test.YtcejdgnfmcgopaaDoorDt
import Derived.Test.YtcejdgnfmcgopaaDoorDe
import Derived.Deep.DeepCutAuto
import Derived.Deep.RegionLaw
import Derived.Deep.CutBlock
namespace Go.Proofs.YtcejdgnfmcgopaaDoor
open Go.RowKit
theorem szI_le {n : Nat} {l : Int} (h : ¬ szI n l < 0) : (n : Int) ≤ l := by
  unfold szI at h
  split at h <;> omega
set_option maxRecDepth 100000 in
set_option maxHeartbeats 4000000 in
theorem iDeedText_any (kd : Int) (A : Option Addr) (c : Nat) (xs : List Int) (w : World) (h : Ints w A c xs) (hn : Names w) (hl : xs.length ≤ 1048576) :
    Calls Tryd.prog 5 #[.agg #[.int .i64 kd, .slice A xs.length c]] w fun e w' => e = .returned (tx (dtx kd xs)) ∧ Ext w w' := by
  have HC := Lib.hid (fun W (q : Ext w W) => deedText_any kd A c xs W (h.ext q) (hn.ext q) (by omega))
  clear h hn
  go_enter Tryd.func5, Tryd.ntmps5
  go_wp2_with fail
  refine (HC.out _ (by repeat (first | exact Ext.refl _ | apply Ext.drewN' | apply Ext.alloc'))).mono ?_
  rintro e w1 ⟨rfl, hx⟩
  go_wp2
  go_ret
  exact ⟨rfl, Ext.trans (by repeat (first | exact Ext.refl _ | apply Ext.drewN' | apply Ext.alloc')) hx⟩
end Go.Proofs.YtcejdgnfmcgopaaDoor
