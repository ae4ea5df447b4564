/- What is proved: spec.l10Isolated and spec.IsolatedBy return what is said, loop by loop. Conditions: those of each contract. -/
import Derived.Test.YtpkiodpocggfbaaIso
import Derived.WalkLawsBesides
namespace Go.Proofs.Ytpkiodpocggfbaa
open Go.RowKit

def sisoStep (D : List (List Int)) (a b c e : Nat) (s : Int) : Int := if s < 0 ∨ gap4 D a b c e < s then gap4 D a b c e else s
def sis1 (D : List (List Int)) (l : Int) (a b c : Nat) : Nat → Nat → Int → Int := itR (fun e s => if bitI l c = 1 ∨ bitI l e = 1 then s else sisoStep D a b c e s)
def sis2 (D : List (List Int)) (l : Int) (a b : Nat) : Nat → Nat → Int → Int := itR (fun c s => sis1 D l a b c (c + 1) 0 s)
def sis3 (D : List (List Int)) (l : Int) (a : Nat) : Nat → Nat → Int → Int := itR (fun b s => if bitI l a = 0 ∨ bitI l b = 0 then s else sis2 D l a b D.length 0 s)
def sisoI (D : List (List Int)) (l : Int) : Int := itR (fun a s => sis3 D l a (a + 1) 0 s) D.length 0 (-1)
theorem gap4_bd {D : List (List Int)} (hf : farB D = true) {a b c e : Nat} (ha : a < D.length) (hb : b < D.length) (hc : c < D.length) (he : e < D.length) : 0 ≤ gap4 D a b c e ∧ gap4 D a b c e ≤ 120 := by
  obtain ⟨_, _, hcells⟩ := farB_parts hf
  obtain ⟨p1, p1', -, -⟩ := hcells a ha b hb
  obtain ⟨p2, p2', -, -⟩ := hcells c hc e he
  obtain ⟨p3, p3', -, -⟩ := hcells a ha c hc
  obtain ⟨p4, p4', -, -⟩ := hcells b hb e he
  obtain ⟨p5, p5', -, -⟩ := hcells a ha e he
  obtain ⟨p6, p6', -, -⟩ := hcells b hb c hc
  show 0 ≤ max (max (at2 D a b + at2 D c e) (at2 D a c + at2 D b e)) (at2 D a e + at2 D b c) - (at2 D a b + at2 D c e) ∧ max (max (at2 D a b + at2 D c e) (at2 D a c + at2 D b e)) (at2 D a e + at2 D b c) - (at2 D a b + at2 D c e) ≤ 120
  omega

theorem gap4_if (D : List (List Int)) (a b c e : Nat) : ((if (if at2 D a b + at2 D c e < at2 D a c + at2 D b e then at2 D a c + at2 D b e else at2 D a b + at2 D c e) < at2 D a e + at2 D b c then at2 D a e + at2 D b c
    else if at2 D a b + at2 D c e < at2 D a c + at2 D b e then at2 D a c + at2 D b e else at2 D a b + at2 D c e) - (at2 D a b + at2 D c e)) = gap4 D a b c e := by
  show _ = max (max (at2 D a b + at2 D c e) (at2 D a c + at2 D b e)) (at2 D a e + at2 D b c) - (at2 D a b + at2 D c e)
  omega
theorem bitI_tmod (l : Int) (k : Nat) (h0 : 0 ≤ l) : (l / 2 ^ k).tmod 2 = bitI l k := by
  have hp : (0 : Int) < 2 ^ k := Int.pow_pos (by decide)
  have hq : 0 ≤ l / 2 ^ k := Int.ediv_nonneg h0 (by omega)
  exact Int.tmod_eq_emod_of_nonneg hq

end Go.Proofs.Ytpkiodpocggfbaa
