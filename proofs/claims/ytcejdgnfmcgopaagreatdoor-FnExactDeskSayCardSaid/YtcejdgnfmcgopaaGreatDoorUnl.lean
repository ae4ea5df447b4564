/- What is proved: by how much two spaces differ at pairs: impl.unlikeBy and impl.WidthOf. Conditions: those of each contract. -/
import Derived.Test.YtcejdgnfmcgopaaGreatDoorIsoP
import Derived.Test.YtcejdgnfmcgopaaGreatDoorRds
namespace Go.Proofs.YtcejdgnfmcgopaaGreatDoor
open Go.RowKit
/-- m is the greatest of S, at least t -/
def MostOr (m t : Int) (S : Int → Prop) : Prop := t ≤ m ∧ (∀ x, S x → x ≤ m) ∧ (m = t ∨ S m)
theorem itR_most {f : Nat → Int → Int} {S : Nat → Int → Prop} (n : Nat) (s : Int) (hf : ∀ k, k < n → ∀ s, MostOr (f k s) s (S k)) : MostOr (itR f n 0 s) s (fun x => ∃ k, k < n ∧ S k x) := by
  have := itR_inv (f := f) (fun j (t : Int) => MostOr t s (fun x => ∃ k, k < j ∧ S k x)) n 0 s ⟨Int.le_refl _, fun x ⟨k, hk, _⟩ => absurd hk (by omega), .inl rfl⟩ (fun j t _ hj h => by
    obtain ⟨h1, h2, h3⟩ := h
    obtain ⟨g1, g2, g3⟩ := hf j (by omega) t
    refine ⟨by omega, fun x hx => ?_, ?_⟩
    · obtain ⟨k, hk, hx⟩ := hx
      by_cases e : k = j
      · subst e; exact g2 x hx
      · have := h2 x ⟨k, by omega, hx⟩; omega
    · rcases g3 with g3 | g3
      · rcases h3 with h3 | ⟨k, hk, h3⟩
        · left; rw [g3]; exact h3
        · right; rw [g3]; exact ⟨k, by omega, h3⟩
      · right; exact ⟨j, by omega, g3⟩)
  simpa using this
def okP (D E P : List (List Int)) : Prop := ∀ k, k < P.length → (row P k).length = 2 ∧ (0 ≤ at2 P k 0 ∧ at2 P k 0 < D.length) ∧ (0 ≤ at2 P k 1 ∧ at2 P k 1 < E.length)
def dif (D E P : List (List Int)) (k j : Nat) : Int := at2 D (at2 P k 0).toNat (at2 P j 0).toNat - at2 E (at2 P k 1).toNat (at2 P j 1).toNat
def dStep (D E P : List (List Int)) (k j : Nat) (s : Int) : Int := max (max s (dif D E P k j)) (-(dif D E P k j))
def un1 (D E P : List (List Int)) (k : Nat) : Nat → Nat → Int → Int := itR (fun j s => dStep D E P k j s)
def unlI (D E P : List (List Int)) : Int := itR (fun k s => un1 D E P k P.length 0 s) P.length 0 0
def unlS (D E P : List (List Int)) : Int := itR (fun k s => un1 D E P k k 0 s) P.length 0 0
theorem dStep_most (D E P : List (List Int)) (k j : Nat) (s : Int) : MostOr (dStep D E P k j s) s (fun x => x = dif D E P k j ∨ x = -(dif D E P k j)) := by
  unfold dStep
  refine ⟨by omega, fun x hx => by rcases hx with rfl | rfl <;> omega, ?_⟩
  omega
theorem unlI_most (D E P : List (List Int)) : MostOr (unlI D E P) 0 (fun x => ∃ k, k < P.length ∧ ∃ j, j < P.length ∧ (x = dif D E P k j ∨ x = -(dif D E P k j))) :=
  itR_most (S := fun k x => ∃ j, j < P.length ∧ (x = dif D E P k j ∨ x = -(dif D E P k j))) _ _ fun k _ _ => itR_most (S := fun j x => x = dif D E P k j ∨ x = -(dif D E P k j)) _ _ fun j _ s => dStep_most D E P k j s
theorem unlS_most (D E P : List (List Int)) : MostOr (unlS D E P) 0 (fun x => ∃ k, k < P.length ∧ ∃ j, j < k ∧ (x = dif D E P k j ∨ x = -(dif D E P k j))) :=
  itR_most (S := fun k x => ∃ j, j < k ∧ (x = dif D E P k j ∨ x = -(dif D E P k j))) _ _ fun k _ _ => itR_most (S := fun j x => x = dif D E P k j ∨ x = -(dif D E P k j)) _ _ fun j _ s => dStep_most D E P k j s
theorem dif_sym {D E P : List (List Int)} (hd : farB D = true) (he : farB E = true) (hP : okP D E P) {k j : Nat} (hk : k < P.length) (hj : j < P.length) : dif D E P k j = dif D E P j k ∧ dif D E P k k = 0 := by
  obtain ⟨-, ⟨a0, a1⟩, ⟨b0, b1⟩⟩ := hP k hk
  obtain ⟨-, ⟨c0, c1⟩, ⟨d0, d1⟩⟩ := hP j hj
  have h1 := at2_sym hd (i := (at2 P k 0).toNat) (k := (at2 P j 0).toNat) (by omega) (by omega)
  have h2 := at2_sym he (i := (at2 P k 1).toNat) (k := (at2 P j 1).toNat) (by omega) (by omega)
  have h3 := ((farB_parts hd).2.2 (at2 P k 0).toNat (by omega) (at2 P k 0).toNat (by omega)).2.2.2.2 rfl
  have h4 := ((farB_parts he).2.2 (at2 P k 1).toNat (by omega) (at2 P k 1).toNat (by omega)).2.2.2.2 rfl
  unfold dif
  omega
theorem unl_same {D E P : List (List Int)} (hd : farB D = true) (he : farB E = true) (hP : okP D E P) : unlS D E P = unlI D E P := by
  obtain ⟨a1, a2, a3⟩ := unlI_most D E P
  obtain ⟨b1, b2, b3⟩ := unlS_most D E P
  refine Int.le_antisymm ?_ ?_
  · rcases b3 with b3 | ⟨k, hk, j, hj, hx⟩
    · omega
    · exact a2 _ ⟨k, hk, j, by omega, hx⟩
  · rcases a3 with a3 | ⟨k, hk, j, hj, hx⟩
    · omega
    · obtain ⟨s1, s2⟩ := dif_sym hd he hP hk hj
      rcases Nat.lt_trichotomy j k with q | q | q
      · exact b2 _ ⟨k, hk, j, q, hx⟩
      · subst q; rw [s2] at hx; omega
      · rw [s1] at hx; exact b2 _ ⟨j, hj, k, q, hx⟩
theorem pair_cells {w : World} {A : Option Addr} {c : Nat} {R : List (List Int)} (h : Mat w A c R) (h2 : ∀ i, i < R.length → (row R i).length = 2) :
    ∃ (b o : Nat) (rc rb ro : Nat → Nat), (0 < R.length → A = some ⟨b, o, none⟩) ∧
      (∀ i, i < R.length → w.cell? ⟨b, o + i, none⟩ = some (.slice (some ⟨rb i, ro i, none⟩) 2 (rc i))) ∧
      (∀ i, i < R.length → w.cell? ⟨rb i, ro i, none⟩ = some (.int .i64 (at2 R i 0)) ∧ w.cell? ⟨rb i, ro i + 1, none⟩ = some (.int .i64 (at2 R i 1))) ∧ (∀ i, i < R.length → 2 ≤ rc i) := by
  obtain ⟨b, o, Q, rc, rb, ro, hA, k1, k2, k3, k4, -⟩ := h.parts
  refine ⟨b, o, rc, rb, ro, hA, fun i hi => ?_, fun i hi => ⟨?_, ?_⟩, fun i hi => ?_⟩
  · have e := h2 i hi
    rw [k1 i hi, k3 i hi (by omega), e]
  · have e := h2 i hi
    have := k4 i hi 0 (by omega)
    rwa [Nat.add_zero] at this
  · have e := h2 i hi
    exact k4 i hi 1 (by omega)
  · have e := h2 i hi
    have := (k2 i hi).1
    omega
/-- the greatest distance -/
def widI (D : List (List Int)) : Int := itR (fun i s => max s (maxI (row D i))) D.length 0 0
theorem widI_most (D : List (List Int)) : MostOr (widI D) 0 (fun x => ∃ i, i < D.length ∧ x = maxI (row D i)) :=
  itR_most (S := fun i x => x = maxI (row D i)) _ _ fun i _ s => ⟨by show s ≤ max s _; omega, fun x hx => by show x ≤ max s _; omega, by show max s _ = s ∨ max s _ = _; omega⟩
set_option maxRecDepth 100000 in
set_option maxHeartbeats 2000000 in
theorem iWidthOf_any (A : Option Addr) (cp : Nat) (D : List (List Int)) (w : World) (h : Mat w A cp D) (hs : spB D = true) :
    Calls Tryz.prog 120 #[.slice A D.length cp] w fun e w' => e = .returned (.int .i64 (widI D)) ∧ ∃ m, w' = w.drewN m := by
  have HC := Lib.hid (isSpace_any A cp D w h)
  rw [hs] at HC
  obtain ⟨⟨hn1, hn6⟩, hsq, hcells⟩ := farB_parts (spB_far hs)
  obtain ⟨bk, o, rc, rb, ro, hA, hrow, hlen, hcell, hints⟩ := h.square hsq
  obtain rfl := hA (by omega)
  have HR := Lib.hid hrow
  have HMX := Lib.hid (fun (i : Nat) (hi : i < D.length) W (q : Ext w W) => (show Calls Tryz.prog 145 #[.slice (some ⟨rb i, ro i, none⟩) D.length (rc i)] W fun e w' => e = .returned (.int .i64 (maxI (row D i))) ∧ ∃ m, w' = W.drewN m from by
    have := slicesMax_any (some ⟨rb i, ro i, none⟩) (rc i) (row D i) W ((hints i hi).ext q) (by rw [hsq i hi]; omega)
    rw [hsq i hi] at this
    exact this))
  have HB := Lib.hid (fun (i : Nat) (hi : i < D.length) => maxI_bd (xs := row D i) (a := 0) (b := 60) (by rw [hsq i hi]; omega) fun j hj => by
    rw [hsq i hi] at hj
    have := hcells i hi j hj
    exact ⟨this.1, this.2.1⟩)
  clear hs hsq hcells h hrow hlen hcell hints hA
  go_enter Tryz.func120, Tryz.ntmps120
  go_wp2_with fail
  refine (HC.out).mono ?_
  rintro e w1 ⟨rfl, m1, rfl⟩
  go_wp2
  go_loopg [11, 3] (D.length) (fun g s11 s3 wr => ∃ (i m : Nat) (t : Int), i + g = D.length ∧ s11 = .int .i64 i ∧ s3 = .int .i64 t ∧ wr = w.drewN m ∧ 0 ≤ t ∧ t ≤ 60 ∧ Hid (itR (fun i s => max s (maxI (row D i))) g i t = widI D))
  case atStart => exact ⟨0, _, _, by omega, rfl, rfl, by first | rfl | exact drewN_0 _ | exact drewN_add _ _ _, by omega, by omega, Lib.hid (rfl)⟩
  case round =>
    obtain ⟨i, mi, t, hi, rfl, rfl, rfl, ht, ht', Hi⟩ := hrel
    by_cases hini : i < D.length
    · obtain ⟨gi, rfl⟩ : ∃ g', gk = g' + 1 := ⟨gk - 1, by omega⟩
      have hini' : (i : Int) < (D.length : Nat) := by omega
      have r1 := HR.out i hini
      obtain ⟨m0, m60⟩ := HB.out i hini
      have Hst := Lib.hid (show itR (fun i s => max s (maxI (row D i))) (gi + 1) i t = itR (fun i s => max s (maxI (row D i))) gi (i + 1) (max t (maxI (row D i))) from rfl)
      have HMk := Lib.hid (HMX.out i hini)
      obtain ⟨M, hM⟩ : ∃ M, maxI (row D i) = M := ⟨_, rfl⟩
      rw [hM] at m0 m60 Hst HMk
      clear hM
      go_wp2_with fail
      refine (HMk.out _ (Ext.drewN _ _)).mono ?_
      rintro e w2 ⟨rfl, m2, rfl⟩
      by_cases hle : t < M
      · have HE := Lib.hid (show max t M = M by omega)
        go_wp2
        go_roundg gi
        case measure => omega
        case rel => exact ⟨i + 1, _, M, by omega, by go_num, by first | rfl | go_num, by first | rfl | exact drewN_0 _ | exact drewN_add _ _ _, by omega, by omega, Lib.hid (by rw [← Hi.out, Hst.out, HE.out])⟩
      · have HE := Lib.hid (show max t M = t by omega)
        go_wp2
        go_roundg gi
        case measure => omega
        case rel => exact ⟨i + 1, _, t, by omega, by go_num, by first | rfl | go_num, by first | rfl | exact drewN_0 _ | exact drewN_add _ _ _, by omega, by omega, Lib.hid (by rw [← Hi.out, Hst.out, HE.out])⟩
    · have hini' : ¬ (i : Int) < (D.length : Nat) := by omega
      obtain rfl : gk = 0 := by omega
      go_wp2
      go_ret
      exact ⟨ret_int (by rw [← Hi.out]; rfl), _, by first | rfl | exact drewN_add _ _ _⟩
end Go.Proofs.YtcejdgnfmcgopaaGreatDoor
