/- What is proved: a region that draws its order and calls functions that lay memory of their own, walked once. No condition. -/
import Derived.Test.YtcejdgnfmcgopaaGreatDoorPa
import Derived.BigQuiet
namespace Go.Proofs.YtcejdgnfmcgopaaGreatDoor
open Go.RowKit

/-- a world that holds all that w holds -/
structure EW (w : World) where
  to : World
  ok : Ext w to
instance (w : World) : Inhabited (EW w) := ⟨⟨w, Ext.refl w⟩⟩
theorem wp_region_quiet_ext {P : Program} {id : Nat} {Q : Exit → Act → World → Prop} {a : Act} {w : World} {l : List Oper} (hm : P.follows .mixedOrders = true) (hB : Region.lexB .any l.toArray = true)
    (h : wpQuiet P l.toArray (fun w' => ∃ p : EW w, w' = p.to) (fun a' => ∀ w', (∃ p : EW w, w' = p.to) → Q .normal a' w') l a) : (Code.region id l.toArray true).wp P Q a w :=
  wp_region_quiet (C := fun w' => ∃ p : EW w, w' = p.to) hm hB ⟨⟨w.drewN 1, Ext.drewN' (Ext.refl w) 1⟩, rfl⟩ (by simpa using h)
theorem Calls.ew_of {P : Program} {f : FuncId} {args : Array Value} {w : World} {x : EW w} {v : Value} (h : Calls P f args x.to fun e w' => e = .returned v ∧ Ext x.to w') :
    Calls P f args x.to fun e w'' => e = .returned v ∧ ∃ p : EW w, w'' = p.to :=
  h.mono fun _ w' ⟨he, hx⟩ => ⟨he, ⟨w', x.ok.trans hx⟩, rfl⟩
theorem Calls.ew_dr {P : Program} {f : FuncId} {args : Array Value} {w : World} {x : EW w} {v : Value} (h : Calls P f args x.to fun e w' => e = .returned v ∧ ∃ m, w' = x.to.drewN m) :
    Calls P f args x.to fun e w'' => e = .returned v ∧ ∃ p : EW w, w'' = p.to :=
  h.mono fun _ _ ⟨he, m, hx⟩ => ⟨he, ⟨x.to.drewN m, Ext.drewN' x.ok m⟩, hx⟩

end Go.Proofs.YtcejdgnfmcgopaaGreatDoor
