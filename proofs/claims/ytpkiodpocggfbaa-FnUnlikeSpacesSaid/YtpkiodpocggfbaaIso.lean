/- What is proved: impl.pairSums, impl.isolatedBy, impl.IsolatedBy and spec.l10Isolated, spec.IsolatedBy return what is said, loop by loop. Conditions: those of each contract. -/
import Derived.Test.YtpkiodpocggfbaaMark
import Derived.Laws.BitsAllLaws
import Derived.StillTailTactics
namespace Go.Proofs.Ytpkiodpocggfbaa
open Go.RowKit

theorem Leaf.lit {w0 W : World} {cs : Array Value} {xs : List Int} {n : Nat} (hx : Ext w0 W) (hg : n = W.heap.size) (hc : ∀ j, j < xs.length → cs[j]? = some (.int .i64 (ix xs j))) (hn : xs.length ≤ 1000) : FreshI w0 xs (.returned (.slice (some ⟨n, 0, none⟩) xs.length xs.length)) (W.alloc (.cells cs 3)) := by
  subst hg
  refine ⟨_, rfl, ⟨_, _, rfl, Nat.le_refl _, by unfold maxLen; omega, fun _ => ⟨W.heap.size, cs, rfl, heap_alloc_new W _, hc⟩⟩, fun g hg => ?_, hx.alloc' _⟩
  cases e : xs.length with
  | zero => rw [e] at hg; simp [lb] at hg
  | succ m => rw [e] at hg; simp [lb] at hg; have := hx.size; omega

def psL (D : List (List Int)) (a b c e : Nat) : List Int := [at2 D a b + at2 D c e, at2 D a c + at2 D b e, at2 D a e + at2 D b c]

/-- is a point in a lot? 1 or 0 -/
def bitI (l : Int) (k : Nat) : Int := l / 2 ^ k % 2
theorem bitI_01 (l : Int) (k : Nat) : bitI l k = 0 ∨ bitI l k = 1 := by unfold bitI; omega
theorem bitI_and (l : Int) (k : Nat) (h0 : 0 ≤ l) (h1 : l ≤ 1000000) : bits .and .i64 (l / 2 ^ k) 1 = bitI l k := by
  have hp : (0 : Int) < 2 ^ k := Int.pow_pos (by decide)
  have hq : 0 ≤ l / 2 ^ k := Int.ediv_nonneg h0 (by omega)
  have hq2 : l / 2 ^ k ≤ l := Int.ediv_le_self _ h0
  obtain ⟨q, hq3⟩ : ∃ q : Nat, l / 2 ^ k = q := ⟨(l / 2 ^ k).toNat, by omega⟩
  unfold bitI
  rw [hq3]
  have hb : (BitVec.ofInt 64 ((q : Nat) : Int)).toNat = q := by
    rw [BitVec.ofInt_natCast, BitVec.toNat_ofNat]; exact Nat.mod_eq_of_lt (by omega)
  have h1' : (BitVec.ofInt 64 (1 : Int)).toNat = 1 := by decide
  show IntKind.i64.wrap ((BitVec.ofInt 64 ((q : Nat) : Int) &&& BitVec.ofInt 64 (1 : Int)).toNat : Int) = _
  rw [BitVec.toNat_and, hb, h1', Nat.and_one_is_mod, IntKind.wrap_i64]
  omega

/-- by how much the greatest of three sums is greater than the first one -/
def gap4 (D : List (List Int)) (a b c e : Nat) : Int := maxI (psL D a b c e) - ix (psL D a b c e) 0
def quadB (l : Int) (a b c e : Nat) : Bool := decide (bitI l a = 1 ∧ bitI l b = 1 ∧ bitI l c = 0 ∧ bitI l e = 0)
def isoStep (D : List (List Int)) (l : Int) (a b c e : Nat) (s : Int) : Int := if quadB l a b c e = true then min s (gap4 D a b c e) else s
def iso1 (D : List (List Int)) (l : Int) (a b c : Nat) : Nat → Nat → Int → Int := itR (fun e s => isoStep D l a b c e s)
def iso2 (D : List (List Int)) (l : Int) (a b : Nat) : Nat → Nat → Int → Int := itR (fun c s => iso1 D l a b c D.length 0 s)
def iso3 (D : List (List Int)) (l : Int) (a : Nat) : Nat → Nat → Int → Int := itR (fun b s => iso2 D l a b D.length 0 s)
def isoI (D : List (List Int)) (l : Int) : Int := itR (fun a s => iso3 D l a D.length 0 s) D.length 0 240
theorem isoStep_no {D : List (List Int)} {l : Int} {a b c e : Nat} {s : Int} (h : ¬ (bitI l a = 1 ∧ bitI l b = 1 ∧ bitI l c = 0 ∧ bitI l e = 0)) : isoStep D l a b c e s = s := by
  unfold isoStep quadB; rw [if_neg (by simpa using h)]
theorem isoStep_yes {D : List (List Int)} {l : Int} {a b c e : Nat} {s : Int} (h : bitI l a = 1 ∧ bitI l b = 1 ∧ bitI l c = 0 ∧ bitI l e = 0) : isoStep D l a b c e s = min s (gap4 D a b c e) := by
  unfold isoStep quadB; rw [if_pos (by simpa using h)]
theorem maxI3 (x y z : Int) : maxI [x, y, z] = max (max x y) z := rfl

where
  splitB_parts' {D : List (List Int)} {l : Int} (h : splitB D l = true) : spB D = true ∧ 2 ≤ D.length ∧ D.length ≤ 6 ∧ 1 ≤ l ∧ l < 2 ^ (D.length - 1) ∧ l ≤ 31 := by
    unfold splitB at h
    simp only [Bool.and_eq_true, decide_eq_true_eq] at h
    obtain ⟨hs, h2, h3, h4⟩ := h
    have h6 := (spB_len hs).2
    have hp : (2 : Int) ^ (D.length - 1) ≤ 2 ^ 5 := by exact_mod_cast Nat.pow_le_pow_right (by decide) (by omega)
    have h5 : (2 : Int) ^ 5 = 32 := by decide
    exact ⟨hs, h2, h6, h3, h4, by omega⟩
end Go.Proofs.Ytpkiodpocggfbaa
