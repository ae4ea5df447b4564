/- What is proved: the walk of the law FnExactReadDeed. Conditions: those of the contract. -/
import Derived.Test.YtcejdgnfmcgopaaGreatDoorRp
import Derived.Test.YtcejdgnfmcgopaaGreatDoorDe
import Derived.Test.YtcejdgnfmcgopaaGreatDoorPa
namespace Go.Proofs.YtcejdgnfmcgopaaGreatDoor
open Go.RowKit
theorem rx_len (L : List UInt8) : (rx (rdS L)).length ≤ 6 := by
  cases h : rdS L with
  | none => simp [rx]
  | some p =>
    obtain ⟨h1, h2⟩ := rdS_sound h
    obtain ⟨hb, -⟩ := dtx_parts h2 h1
    unfold dtB at hb
    simp only [Bool.and_eq_true, Bool.or_eq_true, decide_eq_true_eq] at hb
    show p.2.length ≤ 6
    omega
end Go.Proofs.YtcejdgnfmcgopaaGreatDoor
