/- What is proved: impl.splitsOf and spec.SplitsOf return the same rows, as new memory; impl.SplitsOf, spec.l10Divided, impl.dividedAt, DividedAt, RestAt of both. Conditions: those of each contract. -/
import Derived.Test.YtcejdgnfmcgopaaGreatDoorPa
import Derived.Test.YtcejdgnfmcgopaaGreatDoorIsoP
import Derived.Test.YtcejdgnfmcgopaaGreatDoorPts
namespace Go.Proofs.YtcejdgnfmcgopaaGreatDoor
open Go.RowKit

/-- the lots from 1 to N - 1 that isolate something -/
def splG (f : Nat → Int) : Nat → Nat → List (List Int) → List (List Int) := itR (fun k R => if 0 < f k then R ++ [[(k : Int), f k]] else R)
def splL (f : Nat → Int) (N : Nat) : List (List Int) := splG f (N - 1) 1 []
def splD (D : List (List Int)) : List (List Int) := splL (fun k => isoI D k) (2 ^ (D.length - 1))
def splV (D : List (List Int)) : List (List Int) := if spB D = true then splD D else []
theorem splG_yes {f : Nat → Int} {g k : Nat} {R : List (List Int)} (h : 0 < f k) : splG f (g + 1) k R = splG f g (k + 1) (R ++ [[(k : Int), f k]]) := by
  unfold splG; rw [itR, if_pos h]
theorem splG_no {f : Nat → Int} {g k : Nat} {R : List (List Int)} (h : ¬ 0 < f k) : splG f (g + 1) k R = splG f g (k + 1) R := by
  unfold splG; rw [itR, if_neg h]
theorem splL_spec (f : Nat → Int) (N : Nat) (hN : 1 ≤ N) : (splL f N).length ≤ N ∧ ∀ r ∈ splL f N, ∃ k : Nat, 1 ≤ k ∧ k < N ∧ r = [(k : Int), f k] ∧ 0 < f k := by
  have := itR_inv (f := fun k R => if 0 < f k then R ++ [[(k : Int), f k]] else R) (fun j (R : List (List Int)) => R.length + 1 ≤ j ∧ ∀ r ∈ R, ∃ k : Nat, 1 ≤ k ∧ k < j ∧ r = [(k : Int), f k] ∧ 0 < f k) (N - 1) 1 []
    ⟨Nat.le_refl _, fun r hr => absurd hr (by simp)⟩ (fun j R h1 _ h => by
      obtain ⟨a, b⟩ := h
      by_cases q : 0 < f j
      · simp only [if_pos q]
        refine ⟨by simp; omega, fun r hr => ?_⟩
        rcases List.mem_append.1 hr with hr | hr
        · obtain ⟨k, k1, k2, k3⟩ := b r hr
          exact ⟨k, k1, by omega, k3⟩
        · exact ⟨j, h1, by omega, by simpa using hr, q⟩
      · simp only [if_neg q]
        exact ⟨by omega, fun r hr => by obtain ⟨k, k1, k2, k3⟩ := b r hr; exact ⟨k, k1, by omega, k3⟩⟩)
  rw [show 1 + (N - 1) = N by omega] at this
  exact ⟨by have := this.1; unfold splL splG; omega, this.2⟩
theorem pow_bd {n : Nat} (h6 : n ≤ 6) : 1 ≤ 2 ^ (n - 1) ∧ 2 ^ (n - 1) ≤ 32 := by
  have h1 : 2 ^ (n - 1) ≤ 2 ^ 5 := Nat.pow_le_pow_right (by decide) (by omega)
  have h2 : 0 < 2 ^ (n - 1) := Nat.two_pow_pos _
  omega
theorem isoI_le (D : List (List Int)) (l : Int) : isoI D l ≤ 240 := (isoI_least D l).1
theorem isoI_ge {D : List (List Int)} (hf : farB D = true) (l : Int) : 0 ≤ isoI D l := by
  rcases (isoI_least D l).2.2 with h | ⟨a, ha, b, hb, c, hc, e, he, _, h⟩
  · omega
  · have := (gap4_bd hf ha hb hc he).1; omega
/-- each row is a lot and what it isolates -/
theorem splD_rows {D : List (List Int)} (hs : spB D = true) : (splD D).length ≤ 32 ∧ ∀ i, i < (splD D).length → (row (splD D) i).length = 2 ∧ 1 ≤ at2 (splD D) i 0 ∧ at2 (splD D) i 0 ≤ 31 ∧ 1 ≤ at2 (splD D) i 1 ∧ at2 (splD D) i 1 ≤ 240 := by
  obtain ⟨b1, b2⟩ := pow_bd (spB_len hs).2
  obtain ⟨a, b⟩ := splL_spec (fun k => isoI D k) (2 ^ (D.length - 1)) b1
  refine ⟨by unfold splD; omega, fun i hi => ?_⟩
  have hm : row (splD D) i ∈ splD D := by rw [row_of hi]; exact List.getElem_mem hi
  obtain ⟨k, k1, k2, k3, k4⟩ := b _ hm
  unfold at2
  rw [k3]
  have := isoI_le D k
  refine ⟨rfl, ?_, ?_, ?_, ?_⟩
  · show (1 : Int) ≤ k; omega
  · show (k : Int) ≤ 31; omega
  · show 1 ≤ isoI D k; omega
  · show isoI D k ≤ 240; omega

def ColR (f : Nat → Int) (w0 W : World) (v : Value) (g k : Nat) (T : List (List Int)) : Prop := ∃ R V, AccM w0 W v R V ∧ R.length ≤ k ∧ splG f g k R = T
theorem ColR.x {f : Nat → Int} {w0 W : World} {v : Value} {g k : Nat} {T : List (List Int)} (h : ColR f w0 W v g k T) : Ext w0 W := h.elim fun _ h => h.elim fun _ h => h.1.x
theorem ColR.on {f : Nat → Int} {w0 W W' : World} {v : Value} {g k : Nat} {T : List (List Int)} (h : ColR f w0 W v g k T) (hx : Ext W W') : ColR f w0 W' v g k T := by
  obtain ⟨R, V, h1, h2, h3⟩ := h
  exact ⟨R, V, h1.on hx, h2, h3⟩
theorem ColR.skip {f : Nat → Int} {w0 W : World} {v : Value} {g k : Nat} {T : List (List Int)} (h : ColR f w0 W v (g + 1) k T) (hp : ¬ 0 < f k) : ColR f w0 W v g (k + 1) T := by
  obtain ⟨R, V, h1, h2, h3⟩ := h
  exact ⟨R, V, h1, by omega, by rw [← splG_no hp]; exact h3⟩
theorem ColR.done {f : Nat → Int} {w0 W : World} {v : Value} {k : Nat} {T : List (List Int)} (h : ColR f w0 W v 0 k T) : FreshM w0 T (.returned v) W := by
  obtain ⟨R, V, h1, h2, h3⟩ := h
  have e : R = T := h3
  subst e
  exact h1.done
theorem ColR.push {P : Program} {ops : Array Oper} {rest : List Oper} {o : Oper} {a : Act} {Q : Exit → Act → World → Prop} {w0 W : World} {T E : TypeId} {f : Nat → Int} {g k : Nat} {S : List (List Int)} {y : Int} (hE : E = 54)
    (ht : P.underlying T = some (.slice E)) (hinfo : (P.info? E).map (fun i => (i.zero, i.size, i.bytes)) = some (some (.slice none 0 0), 1, 24))
    (hgd : o.guard = none) (s x : Operand) (ho : o.op = .call { callee := .builtin .append, args := #[s, x], argTypes := #[T, T] })
    (v : Value) (hs : a.eval s = v) (hx : a.eval x = .slice (some ⟨W.heap.size + 1, 0, none⟩) 1 1) (h : ColR f w0 W v (g + 1) k S) (hp : 0 < f k) (hy : y = f k) (hk : k ≤ 10000000)
    (hn : ∀ v' w', ColR f w0 w' v' g (k + 1) S → wpList P ops Q rest (a.put o.dst v') w') :
    wpList P ops Q (o :: rest) a ((W.alloc (.cells #[.int .i64 k, .int .i64 y] 3)).alloc (.cells #[.slice (some ⟨W.heap.size, 0, none⟩) 2 2] E)) := by
  subst hy
  obtain ⟨R, V, h1, h2, h3⟩ := h
  have hlt : ∀ i, i < R.length → ∀ g ∈ lb (V i), g < W.heap.size := fun i hi g hg => (h1.2.1 i hi).lt hg
  have hx0 := h1.x.size
  refine wp_appM hE ht hinfo hgd s x ho v (.slice (some ⟨W.heap.size, 0, none⟩) 2 2) R [(k : Int), f k] V hs (by rw [hx]; simp) rfl (h1.on (Ext.alloc _ _)) (leaf_two W _ _) (fun g hg => ?_) (by omega)
    fun v' w' ha => hn v' w' ⟨_, _, ha, by simp; omega, by rw [← splG_yes hp]; exact h3⟩
  simp [lb] at hg
  subst hg
  exact ⟨hx0, fun i hi hg => by have := hlt i hi _ hg; omega⟩

set_option maxRecDepth 100000 in
set_option maxHeartbeats 4000000 in
theorem splitsOf_any (A : Option Addr) (cp : Nat) (D : List (List Int)) (w : World) (h : Mat w A cp D) (hs : spB D = true) :
    Calls Tryz.prog 126 #[.slice A D.length cp] w (FreshM w (splD D)) := by
  have HM := Lib.hid h
  obtain ⟨n1, n6⟩ := spB_len hs
  obtain ⟨N, hN⟩ : ∃ N : Nat, 2 ^ (D.length - 1) = N := ⟨_, rfl⟩
  have hw : wrap64 (2 ^ (D.length - 1)) = ((N : Nat) : Int) := by rw [wrap_pow (by omega), ← hN]; simp
  obtain ⟨N1, N2⟩ : 1 ≤ N ∧ N ≤ 32 := by rw [← hN]; exact pow_bd n6
  have HT := Lib.hid (show splD D = splL (fun k => isoI D k) N by unfold splD; rw [hN])
  have HC := Lib.hid (fun (k : Nat) W (hk : k ≤ 32) (q : Mat W A cp D) => isolatedBy_any A cp D k W q (spB_far hs) (by omega) (by omega))
  have HG := Lib.hid (fun k : Nat => isoI_le D k)
  have n1' : (0 : Int) ≤ (D.length : Int) - 1 := by omega
  clear hN h
  go_enter Tryz.func126, Tryz.ntmps126
  go_wp2
  go_loopg [3, 4] (N - 1) (fun g s3 s4 wr => ∃ (k : Nat), k + g = N ∧ 1 ≤ k ∧ s4 = .int .i64 k ∧ ColR (fun k => isoI D k) w wr s3 g k (splL (fun k => isoI D k) N))
  case atStart => exact ⟨1, by omega, Nat.le_refl _, rfl, [], fun _ => .slice none 0 0, AccM.empty (Ext.refl _) _, by simp, rfl⟩
  case round =>
    obtain ⟨k, hi, hk1, rfl, hcol⟩ := hrel
    by_cases hin : k < N
    · obtain ⟨g', rfl⟩ : ∃ g', gk = g' + 1 := ⟨gk - 1, by omega⟩
      have hin' : (k : Int) < (N : Nat) := by omega
      have hx := hcol.x
      by_cases e : 0 < isoI D k
      · have HE := Lib.hid e
        go_wp2_with fail
        refine (HC.out k _ (by omega) (HM.out.ext hx)).mono ?_
        rintro e w1 ⟨rfl, hx1⟩
        have hcol2 := hcol.on hx1
        go_wp2_with (at_builtin; refine ColR.push (y := isoI D k) rfl Tryz.underlying23 infoR rfl (.tmp 20) (.tmp 24) rfl _ rfl rfl hcol2 HE.out rfl (by omega) ?_; intro v' w' hcol')
        go_roundg g'
        case measure => omega
        case rel => exact ⟨k + 1, by omega, by omega, by go_num, hcol'⟩
      · have HE := Lib.hid e
        go_wp2_with fail
        refine (HC.out k _ (by omega) (HM.out.ext hx)).mono ?_
        rintro e w1 ⟨rfl, hx1⟩
        have hcol2 := hcol.on hx1
        go_wp2
        go_roundg g'
        case measure => omega
        case rel => exact ⟨k + 1, by omega, by omega, by go_num, hcol2.skip (by have := HE.out; omega)⟩
    · have hin' : ¬ (k : Int) < (N : Nat) := by omega
      obtain rfl : gk = 0 := by omega
      go_wp2
      go_ret
      rw [HT.out]
      exact hcol.done
end Go.Proofs.YtcejdgnfmcgopaaGreatDoor
