/- What is proved: words for lists of deeds that are read. No condition. -/
import Derived.Test.YtcejdgnfmcgopaaGreatDoorPa
namespace Go.Proofs.YtcejdgnfmcgopaaGreatDoor
open Go.RowKit
/-- kind and numbers of the deed i -/
def dk (ds : List (Int × List Int)) (i : Nat) : Int := (ds.getD i (0, [])).1
def dx (ds : List (Int × List Int)) (i : Nat) : List Int := (ds.getD i (0, [])).2
/-- a list of deeds to be read -/
def DeedsM (w : World) (A : Option Addr) (c : Nat) (ds : List (Int × List Int)) : Prop :=
  ds.length ≤ c ∧ c ≤ maxLen ∧ ∃ b o, (0 < ds.length → A = some ⟨b, o, none⟩) ∧ ∀ i, i < ds.length → ∃ X cx, w.cell? ⟨b, o + i * 2, none⟩ = some (.int .i64 (dk ds i)) ∧ w.cell? ⟨b, o + i * 2 + 1, none⟩ = some (.slice X (dx ds i).length cx) ∧ Ints w X cx (dx ds i)
theorem DeedsM.ext {w w' : World} {A : Option Addr} {c : Nat} {ds : List (Int × List Int)} (h : DeedsM w A c ds) (k : Ext w w') : DeedsM w' A c ds := by
  obtain ⟨h1, h2, b, o, h3, h4⟩ := h
  refine ⟨h1, h2, b, o, h3, fun i hi => ?_⟩
  obtain ⟨X, cx, e1, e2, e3⟩ := h4 i hi
  exact ⟨X, cx, k.cell e1, k.cell e2, e3.ext k⟩
theorem DeedsM.parts {w : World} {A : Option Addr} {c : Nat} {ds : List (Int × List Int)} (h : DeedsM w A c ds) :
    ∃ (b o : Nat) (RX : Nat → Option Addr) (rc : Nat → Nat), (0 < ds.length → A = some ⟨b, o, none⟩) ∧ (∀ i, i < ds.length → w.cell? ⟨b, o + i * 2, none⟩ = some (.int .i64 (dk ds i))) ∧
      (∀ i, i < ds.length → w.cell? ⟨b, o + i * 2 + 1, none⟩ = some (.slice (RX i) (dx ds i).length (rc i))) ∧ ∀ i, i < ds.length → Ints w (RX i) (rc i) (dx ds i) := by
  obtain ⟨h1, h2, b, o, h3, h4⟩ := h
  have h5 : ∀ i, ∃ p : Option Addr × Nat, i < ds.length → w.cell? ⟨b, o + i * 2, none⟩ = some (.int .i64 (dk ds i)) ∧ w.cell? ⟨b, o + i * 2 + 1, none⟩ = some (.slice p.1 (dx ds i).length p.2) ∧ Ints w p.1 p.2 (dx ds i) := by
    intro i
    by_cases hi : i < ds.length
    · obtain ⟨X, cx, q⟩ := h4 i hi
      exact ⟨(X, cx), fun _ => q⟩
    · exact ⟨(none, 0), fun q => absurd q hi⟩
  obtain ⟨p, hp⟩ := Classical.axiomOfChoice h5
  exact ⟨b, o, fun i => (p i).1, fun i => (p i).2, h3, fun i hi => (hp i hi).1, fun i hi => (hp i hi).2.1, fun i hi => (hp i hi).2.2⟩
end Go.Proofs.YtcejdgnfmcgopaaGreatDoor
