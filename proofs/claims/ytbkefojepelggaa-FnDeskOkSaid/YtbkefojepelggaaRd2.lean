/- What is proved: the reader of a code: odd. Conditions: those of the contract. -/
import Derived.Test.YtbkefojepelggaaRd
namespace Go.Proofs.Ytbkefojepelggaa
open Go.RowKit
theorem Only.refl' (S : Nat → Prop) (w : World) : Only S w w := ⟨rfl, rfl, rfl, rfl, fun _ _ => rfl⟩
set_option maxHeartbeats 1000000 in
theorem odd_any (B g : Nat) (p m : Int) (w : World) (h : Rd w B g p) (hp : p < 1000000) (hm : m ≤ 1000) (hm0 : -1000 ≤ m) :
    Calls Try.prog 46 #[.pointer (some ⟨g, 0, none⟩), .int .i64 m] w fun e w' => ∃ b p', e = .returned (.bool b) ∧ p ≤ p' ∧ p' ≤ p + 1 ∧ Rd w' B g p' ∧ Only (fun k => k = g) w w' := by
  have HP := Lib.hid (pick_any B g p m w h hp hm hm0)
  have HR := Lib.hid h
  clear h
  by_cases h0 : 0 < m
  · go_enter Try.func46, Try.ntmps46
    go_wp2_with fail
    refine HP.out.mono ?_
    rintro e w1 ⟨v, rfl, v0, v1, hR, hO⟩
    have HR1 := Lib.hid hR
    have HO1 := Lib.hid hO
    clear hR hO
    go_wp2
    go_ret
    exact ⟨_, p + 1, rfl, by omega, Int.le_refl _, HR1.out, HO1.out⟩
  · go_enter Try.func46, Try.ntmps46
    go_wp2
    go_ret
    exact ⟨.inl rfl, p, Int.le_refl _, by omega, HR.out, Only.refl' _ _⟩
/-- a reader at most u bytes on -/
def RdU (w : World) (B g : Nat) (u : Int) : Prop := ∃ p, p ≤ u ∧ Rd w B g p
theorem RdU.keep {w w' : World} {B g : Nat} {u : Int} (h : RdU w B g u) (k : ∀ b, b < B → w'.heap[b]? = w.heap[b]?) : RdU w' B g u := by
  obtain ⟨p, hp, hr⟩ := h
  exact ⟨p, hp, hr.keep k⟩
theorem RdU.le {w : World} {B g : Nat} {u u' : Int} (h : RdU w B g u) (k : u ≤ u') : RdU w B g u' := by
  obtain ⟨p, hp, hr⟩ := h
  exact ⟨p, by omega, hr⟩
theorem RdU.lt {w : World} {B g : Nat} {u : Int} (h : RdU w B g u) : g < B := by
  obtain ⟨p, hp, hr⟩ := h
  exact hr.lt
theorem pickU {w : World} {B g : Nat} {u : Int} (h : RdU w B g u) (m : Int) (hu : u < 1000000) (hm : m ≤ 1000) (hm0 : -1000 ≤ m) :
    Calls Try.prog 64 #[.pointer (some ⟨g, 0, none⟩), .int .i64 m] w fun e w' => ∃ v : Int, e = .returned (.int .i64 v) ∧ 0 ≤ v ∧ (v < m ∨ v = 0) ∧ RdU w' B g (u + 1) ∧ Only (fun k => k = g) w w' := by
  obtain ⟨p, hp, hr⟩ := h
  refine (pick_any B g p m w hr (by omega) hm hm0).mono ?_
  rintro e w' ⟨v, he, h0, h1, h2, h3⟩
  exact ⟨v, he, h0, h1, ⟨_, by omega, h2⟩, h3⟩
theorem oddU {w : World} {B g : Nat} {u : Int} (h : RdU w B g u) (m : Int) (hu : u < 1000000) (hm : m ≤ 1000) (hm0 : -1000 ≤ m) :
    Calls Try.prog 46 #[.pointer (some ⟨g, 0, none⟩), .int .i64 m] w fun e w' => ∃ b, e = .returned (.bool b) ∧ RdU w' B g (u + 1) ∧ Only (fun k => k = g) w w' := by
  obtain ⟨p, hp, hr⟩ := h
  refine (odd_any B g p m w hr (by omega) hm hm0).mono ?_
  rintro e w' ⟨b, p', he, h0, h1, h2, h3⟩
  exact ⟨b, he, ⟨p', by omega, h2⟩, h3⟩
end Go.Proofs.Ytbkefojepelggaa
