/- What is proved: by how much two spaces differ at pairs: impl.unlikeBy and impl.WidthOf. Conditions: those of each contract. -/
import Derived.Test.YtpkiodpocggfbaaIsoP
import Derived.Test.YtpkiodpocggfbaaRds
namespace Go.Proofs.Ytpkiodpocggfbaa
open Go.RowKit
/-- m is the greatest of S, at least t -/
def MostOr (m t : Int) (S : Int → Prop) : Prop := t ≤ m ∧ (∀ x, S x → x ≤ m) ∧ (m = t ∨ S m)
theorem itR_most {f : Nat → Int → Int} {S : Nat → Int → Prop} (n : Nat) (s : Int) (hf : ∀ k, k < n → ∀ s, MostOr (f k s) s (S k)) : MostOr (itR f n 0 s) s (fun x => ∃ k, k < n ∧ S k x) := by
  have := itR_inv (f := f) (fun j (t : Int) => MostOr t s (fun x => ∃ k, k < j ∧ S k x)) n 0 s ⟨Int.le_refl _, fun x ⟨k, hk, _⟩ => absurd hk (by omega), .inl rfl⟩ (fun j t _ hj h => by
    obtain ⟨h1, h2, h3⟩ := h
    obtain ⟨g1, g2, g3⟩ := hf j (by omega) t
    refine ⟨by omega, fun x hx => ?_, ?_⟩
    · obtain ⟨k, hk, hx⟩ := hx
      by_cases e : k = j
      · subst e; exact g2 x hx
      · have := h2 x ⟨k, by omega, hx⟩; omega
    · rcases g3 with g3 | g3
      · rcases h3 with h3 | ⟨k, hk, h3⟩
        · left; rw [g3]; exact h3
        · right; rw [g3]; exact ⟨k, by omega, h3⟩
      · right; exact ⟨j, by omega, g3⟩)
  simpa using this
def okP (D E P : List (List Int)) : Prop := ∀ k, k < P.length → (row P k).length = 2 ∧ (0 ≤ at2 P k 0 ∧ at2 P k 0 < D.length) ∧ (0 ≤ at2 P k 1 ∧ at2 P k 1 < E.length)
def dif (D E P : List (List Int)) (k j : Nat) : Int := at2 D (at2 P k 0).toNat (at2 P j 0).toNat - at2 E (at2 P k 1).toNat (at2 P j 1).toNat
def dStep (D E P : List (List Int)) (k j : Nat) (s : Int) : Int := max (max s (dif D E P k j)) (-(dif D E P k j))
def un1 (D E P : List (List Int)) (k : Nat) : Nat → Nat → Int → Int := itR (fun j s => dStep D E P k j s)
def unlI (D E P : List (List Int)) : Int := itR (fun k s => un1 D E P k P.length 0 s) P.length 0 0
def unlS (D E P : List (List Int)) : Int := itR (fun k s => un1 D E P k k 0 s) P.length 0 0
theorem dStep_most (D E P : List (List Int)) (k j : Nat) (s : Int) : MostOr (dStep D E P k j s) s (fun x => x = dif D E P k j ∨ x = -(dif D E P k j)) := by
  unfold dStep
  refine ⟨by omega, fun x hx => by rcases hx with rfl | rfl <;> omega, ?_⟩
  omega
theorem unlI_most (D E P : List (List Int)) : MostOr (unlI D E P) 0 (fun x => ∃ k, k < P.length ∧ ∃ j, j < P.length ∧ (x = dif D E P k j ∨ x = -(dif D E P k j))) :=
  itR_most (S := fun k x => ∃ j, j < P.length ∧ (x = dif D E P k j ∨ x = -(dif D E P k j))) _ _ fun k _ _ => itR_most (S := fun j x => x = dif D E P k j ∨ x = -(dif D E P k j)) _ _ fun j _ s => dStep_most D E P k j s
theorem unlS_most (D E P : List (List Int)) : MostOr (unlS D E P) 0 (fun x => ∃ k, k < P.length ∧ ∃ j, j < k ∧ (x = dif D E P k j ∨ x = -(dif D E P k j))) :=
  itR_most (S := fun k x => ∃ j, j < k ∧ (x = dif D E P k j ∨ x = -(dif D E P k j))) _ _ fun k _ _ => itR_most (S := fun j x => x = dif D E P k j ∨ x = -(dif D E P k j)) _ _ fun j _ s => dStep_most D E P k j s
theorem dif_sym {D E P : List (List Int)} (hd : farB D = true) (he : farB E = true) (hP : okP D E P) {k j : Nat} (hk : k < P.length) (hj : j < P.length) : dif D E P k j = dif D E P j k ∧ dif D E P k k = 0 := by
  obtain ⟨-, ⟨a0, a1⟩, ⟨b0, b1⟩⟩ := hP k hk
  obtain ⟨-, ⟨c0, c1⟩, ⟨d0, d1⟩⟩ := hP j hj
  have h1 := at2_sym hd (i := (at2 P k 0).toNat) (k := (at2 P j 0).toNat) (by omega) (by omega)
  have h2 := at2_sym he (i := (at2 P k 1).toNat) (k := (at2 P j 1).toNat) (by omega) (by omega)
  have h3 := ((farB_parts hd).2.2 (at2 P k 0).toNat (by omega) (at2 P k 0).toNat (by omega)).2.2.2.2 rfl
  have h4 := ((farB_parts he).2.2 (at2 P k 1).toNat (by omega) (at2 P k 1).toNat (by omega)).2.2.2.2 rfl
  unfold dif
  omega
theorem unl_same {D E P : List (List Int)} (hd : farB D = true) (he : farB E = true) (hP : okP D E P) : unlS D E P = unlI D E P := by
  obtain ⟨a1, a2, a3⟩ := unlI_most D E P
  obtain ⟨b1, b2, b3⟩ := unlS_most D E P
  refine Int.le_antisymm ?_ ?_
  · rcases b3 with b3 | ⟨k, hk, j, hj, hx⟩
    · omega
    · exact a2 _ ⟨k, hk, j, by omega, hx⟩
  · rcases a3 with a3 | ⟨k, hk, j, hj, hx⟩
    · omega
    · obtain ⟨s1, s2⟩ := dif_sym hd he hP hk hj
      rcases Nat.lt_trichotomy j k with q | q | q
      · exact b2 _ ⟨k, hk, j, q, hx⟩
      · subst q; rw [s2] at hx; omega
      · rw [s1] at hx; exact b2 _ ⟨j, hj, k, q, hx⟩
theorem pair_cells {w : World} {A : Option Addr} {c : Nat} {R : List (List Int)} (h : Mat w A c R) (h2 : ∀ i, i < R.length → (row R i).length = 2) :
    ∃ (b o : Nat) (rc rb ro : Nat → Nat), (0 < R.length → A = some ⟨b, o, none⟩) ∧
      (∀ i, i < R.length → w.cell? ⟨b, o + i, none⟩ = some (.slice (some ⟨rb i, ro i, none⟩) 2 (rc i))) ∧
      (∀ i, i < R.length → w.cell? ⟨rb i, ro i, none⟩ = some (.int .i64 (at2 R i 0)) ∧ w.cell? ⟨rb i, ro i + 1, none⟩ = some (.int .i64 (at2 R i 1))) ∧ (∀ i, i < R.length → 2 ≤ rc i) := by
  obtain ⟨b, o, Q, rc, rb, ro, hA, k1, k2, k3, k4, -⟩ := h.parts
  refine ⟨b, o, rc, rb, ro, hA, fun i hi => ?_, fun i hi => ⟨?_, ?_⟩, fun i hi => ?_⟩
  · have e := h2 i hi
    rw [k1 i hi, k3 i hi (by omega), e]
  · have e := h2 i hi
    have := k4 i hi 0 (by omega)
    rwa [Nat.add_zero] at this
  · have e := h2 i hi
    exact k4 i hi 1 (by omega)
  · have e := h2 i hi
    have := (k2 i hi).1
    omega
set_option maxRecDepth 100000 in
set_option maxHeartbeats 4000000 in
theorem unlikeBy_any (A : Option Addr) (ca : Nat) (D : List (List Int)) (B : Option Addr) (cb : Nat) (E : List (List Int)) (C : Option Addr) (cc : Nat) (P : List (List Int)) (w : World) (hD : Mat w A ca D) (hE : Mat w B cb E) (hP : Mat w C cc P)
    (hfd : farB D = true) (hfe : farB E = true) (hok : okP D E P) (h9 : P.length ≤ 9) :
    Calls Try.prog 31 #[.slice A D.length ca, .slice B E.length cb, .slice C P.length cc] w fun e w' => e = .returned (.int .i64 (unlI D E P)) ∧ ∃ m, w' = w.drewN m := by
  obtain ⟨⟨hn1, hn6⟩, hsqD, hcD⟩ := farB_parts hfd
  obtain ⟨⟨hm1, hm6⟩, hsqE, hcE⟩ := farB_parts hfe
  obtain ⟨b1, o1, rc1, rb1, ro1, hA1, hrow1, hlen1, hcell1, -⟩ := hD.square hsqD
  obtain ⟨b2, o2, rc2, rb2, ro2, hA2, hrow2, hlen2, hcell2, -⟩ := hE.square hsqE
  obtain ⟨b3, o3, rc3, rb3, ro3, hA3, hrow3, hcell3, hlen3⟩ := pair_cells hP fun i hi => (hok i hi).1
  obtain rfl := hA1 (by omega)
  obtain rfl := hA2 (by omega)
  have R1 := Lib.hid hrow1
  have R2 := Lib.hid hrow2
  have R3 := Lib.hid hrow3
  have L1 := Lib.hid hlen1
  have L2 := Lib.hid hlen2
  have L3 := Lib.hid hlen3
  have C1 := Lib.hid hcell1
  have C2 := Lib.hid hcell2
  have C3 := Lib.hid hcell3
  have B1 := Lib.hid hcD
  have B2 := Lib.hid hcE
  have HOK := Lib.hid hok
  have HA3 := Lib.hid hA3
  clear hfd hfe hok hD hE hP hsqD hsqE hcD hcE hrow1 hrow2 hrow3 hlen1 hlen2 hlen3 hcell1 hcell2 hcell3 hA1 hA2 hA3
  go_enter Try.func31, Try.ntmps31
  go_wp2
  go_loopg [14, 7] (P.length) (fun g s14 s7 wr => ∃ (k m : Nat) (t1 : Int), k + g = P.length ∧ s14 = .int .i64 k ∧ s7 = .int .i64 t1 ∧ wr = w.drewN m ∧ 0 ≤ t1 ∧ t1 ≤ 60 ∧ Hid (itR (fun k s => un1 D E P k P.length 0 s) g k t1 = unlI D E P))
  case atStart => exact ⟨0, _, _, by omega, rfl, rfl, by first | rfl | exact drewN_0 _ | exact drewN_add _ _ _, by omega, by omega, Lib.hid (rfl)⟩
  case round =>
    obtain ⟨k, mk, t1, hk, rfl, rfl, rfl, ht1, ht1', Hk⟩ := hrel
    by_cases hink : k < P.length
    · obtain ⟨gk, rfl⟩ : ∃ g', gk = g' + 1 := ⟨gk - 1, by omega⟩
      have hink' : (k : Int) < (P.length : Nat) := by omega
      obtain rfl := HA3.out (by omega)
      have rk := R3.out k hink
      go_wp2
      go_loopg [20, 7] (P.length) (fun g s20 s7 wr => ∃ (j m : Nat) (t2 : Int), j + g = P.length ∧ s20 = .int .i64 j ∧ s7 = .int .i64 t2 ∧ wr = w.drewN m ∧ 0 ≤ t2 ∧ t2 ≤ 60 ∧ Hid (un1 D E P k g j t2 = un1 D E P k P.length 0 t1))
      case atStart => exact ⟨0, _, _, by omega, rfl, rfl, by first | rfl | exact drewN_0 _ | exact drewN_add _ _ _, by omega, by omega, Lib.hid (rfl)⟩
      case round =>
        obtain ⟨j, mj, t2, hj, rfl, rfl, rfl, ht2, ht2', Hj⟩ := hrel
        by_cases hinj : j < P.length
        · obtain ⟨gj, rfl⟩ : ∃ g', gk = g' + 1 := ⟨gk - 1, by omega⟩
          have hinj' : (j : Int) < (P.length : Nat) := by omega
          obtain ⟨-, ⟨a0, a1⟩, ⟨b0, b1'⟩⟩ := HOK.out k hink
          obtain ⟨-, ⟨c0, c1⟩, ⟨d0, d1⟩⟩ := HOK.out j hinj
          obtain ⟨x1, x2⟩ := C3.out k hink
          obtain ⟨x3, x4⟩ := C3.out j hinj
          have rj := R3.out j hinj
          have Hd := Lib.hid (show dif D E P k j = at2 D (at2 P k 0).toNat (at2 P j 0).toNat - at2 E (at2 P k 1).toNat (at2 P j 1).toNat from rfl)
          have Hst := Lib.hid (show un1 D E P k (gj + 1) j t2 = un1 D E P k gj (j + 1) (dStep D E P k j t2) from rfl)
          have Hds := Lib.hid (show dStep D E P k j t2 = max (max t2 (dif D E P k j)) (-(dif D E P k j)) from rfl)
          obtain ⟨a, ea⟩ : ∃ a : Nat, at2 P k 0 = a := ⟨(at2 P k 0).toNat, by omega⟩
          obtain ⟨b, eb⟩ : ∃ a : Nat, at2 P k 1 = a := ⟨(at2 P k 1).toNat, by omega⟩
          obtain ⟨c, ec⟩ : ∃ a : Nat, at2 P j 0 = a := ⟨(at2 P j 0).toNat, by omega⟩
          obtain ⟨d, ed⟩ : ∃ a : Nat, at2 P j 1 = a := ⟨(at2 P j 1).toNat, by omega⟩
          rw [ea, ec, eb, ed] at Hd
          rw [ea] at x1 a0 a1
          rw [eb] at x2 b0 b1'
          rw [ec] at x3 c0 c1
          rw [ed] at x4 d0 d1
          simp only [Int.toNat_natCast] at Hd
          clear ea eb ec ed
          have y1 := R1.out a (by omega)
          have y2 := R2.out b (by omega)
          have z1 := C1.out a (by omega) c (by omega)
          have z2 := C2.out b (by omega) d (by omega)
          have l1 := (L1.out a (by omega)).1
          have l2 := (L2.out b (by omega)).1
          have l3 := L3.out k hink
          have l4 := L3.out j hinj
          obtain ⟨p1, q1, -, -⟩ := B1.out a (by omega) c (by omega)
          obtain ⟨p2, q2, -, -⟩ := B2.out b (by omega) d (by omega)
          obtain ⟨X, hX⟩ : ∃ X, at2 D a c = X := ⟨_, rfl⟩
          obtain ⟨Y, hY⟩ : ∃ X, at2 E b d = X := ⟨_, rfl⟩
          rw [hX] at z1 p1 q1 Hd
          rw [hY] at z2 p2 q2 Hd
          clear hX hY
          by_cases g1 : t2 < X - Y
          · have HN := Lib.hid (show dStep D E P k j t2 = X - Y by rw [Hds.out, Hd.out]; omega)
            have g2 : ¬ X - Y < Y - X := by omega
            have g3 : (if t2 < X - Y then X - Y else t2) = X - Y := if_pos g1
            go_wp2
            go_quiet (fail)
            go_wp2
            go_roundg gj
            case measure => omega
            case rel => exact ⟨j + 1, _, X - Y, by omega, by go_num, by first | rfl | go_num, by first | rfl | exact drewN_0 _ | exact drewN_add _ _ _, by omega, by omega, Lib.hid (by rw [← Hj.out, Hst.out, HN.out])⟩
          · by_cases g2 : t2 < Y - X
            · have HN := Lib.hid (show dStep D E P k j t2 = Y - X by rw [Hds.out, Hd.out]; omega)
              have g3 : (if t2 < X - Y then X - Y else t2) = t2 := if_neg g1
              go_wp2
              go_quiet (fail)
              go_wp2
              go_roundg gj
              case measure => omega
              case rel => exact ⟨j + 1, _, Y - X, by omega, by go_num, by first | rfl | go_num, by first | rfl | exact drewN_0 _ | exact drewN_add _ _ _, by omega, by omega, Lib.hid (by rw [← Hj.out, Hst.out, HN.out])⟩
            · have HN := Lib.hid (show dStep D E P k j t2 = t2 by rw [Hds.out, Hd.out]; omega)
              have g3 : (if t2 < X - Y then X - Y else t2) = t2 := if_neg g1
              go_wp2
              go_quiet (fail)
              go_wp2
              go_roundg gj
              case measure => omega
              case rel => exact ⟨j + 1, _, t2, by omega, by go_num, by first | rfl | go_num, by first | rfl | exact drewN_0 _ | exact drewN_add _ _ _, by omega, by omega, Lib.hid (by rw [← Hj.out, Hst.out, HN.out])⟩
        · have hinj' : ¬ (j : Int) < (P.length : Nat) := by omega
          obtain rfl : gk = 0 := by omega
          have HT := Lib.hid (show t2 = un1 D E P k P.length 0 t1 from Hj.out)
          clear Hj
          go_wp2
          go_roundg gk
          case measure => omega
          case rel => exact ⟨k + 1, _, t2, by omega, by go_num, by first | rfl | go_num, by first | rfl | exact drewN_0 _ | exact drewN_add _ _ _, by omega, by omega, Lib.hid (by rw [← Hk.out, itR, ← HT.out])⟩
    · have hink' : ¬ (k : Int) < (P.length : Nat) := by omega
      obtain rfl : gk = 0 := by omega
      go_wp2
      go_ret
      exact ⟨ret_int (by rw [← Hk.out]; rfl), _, by first | rfl | exact drewN_add _ _ _⟩
/-- the greatest distance -/
def widI (D : List (List Int)) : Int := itR (fun i s => max s (maxI (row D i))) D.length 0 0
theorem widI_most (D : List (List Int)) : MostOr (widI D) 0 (fun x => ∃ i, i < D.length ∧ x = maxI (row D i)) :=
  itR_most (S := fun i x => x = maxI (row D i)) _ _ fun i _ s => ⟨by show s ≤ max s _; omega, fun x hx => by show x ≤ max s _; omega, by show max s _ = s ∨ max s _ = _; omega⟩
set_option maxRecDepth 100000 in
set_option maxHeartbeats 2000000 in
theorem iWidthOf_any (A : Option Addr) (cp : Nat) (D : List (List Int)) (w : World) (h : Mat w A cp D) (hs : spB D = true) :
    Calls Try.prog 9 #[.slice A D.length cp] w fun e w' => e = .returned (.int .i64 (widI D)) ∧ ∃ m, w' = w.drewN m := by
  have HC := Lib.hid (isSpace_any A cp D w h)
  rw [hs] at HC
  obtain ⟨⟨hn1, hn6⟩, hsq, hcells⟩ := farB_parts (spB_far hs)
  obtain ⟨bk, o, rc, rb, ro, hA, hrow, hlen, hcell, hints⟩ := h.square hsq
  obtain rfl := hA (by omega)
  have HR := Lib.hid hrow
  have HMX := Lib.hid (fun (i : Nat) (hi : i < D.length) W (q : Ext w W) => (show Calls Try.prog 23 #[.slice (some ⟨rb i, ro i, none⟩) D.length (rc i)] W fun e w' => e = .returned (.int .i64 (maxI (row D i))) ∧ ∃ m, w' = W.drewN m from by
    have := slicesMax_any (some ⟨rb i, ro i, none⟩) (rc i) (row D i) W ((hints i hi).ext q) (by rw [hsq i hi]; omega)
    rw [hsq i hi] at this
    exact this))
  have HB := Lib.hid (fun (i : Nat) (hi : i < D.length) => maxI_bd (xs := row D i) (a := 0) (b := 60) (by rw [hsq i hi]; omega) fun j hj => by
    rw [hsq i hi] at hj
    have := hcells i hi j hj
    exact ⟨this.1, this.2.1⟩)
  clear hs hsq hcells h hrow hlen hcell hints hA
  go_enter Try.func9, Try.ntmps9
  go_wp2_with fail
  refine (HC.out).mono ?_
  rintro e w1 ⟨rfl, m1, rfl⟩
  go_wp2
  go_loopg [11, 3] (D.length) (fun g s11 s3 wr => ∃ (i m : Nat) (t : Int), i + g = D.length ∧ s11 = .int .i64 i ∧ s3 = .int .i64 t ∧ wr = w.drewN m ∧ 0 ≤ t ∧ t ≤ 60 ∧ Hid (itR (fun i s => max s (maxI (row D i))) g i t = widI D))
  case atStart => exact ⟨0, _, _, by omega, rfl, rfl, by first | rfl | exact drewN_0 _ | exact drewN_add _ _ _, by omega, by omega, Lib.hid (rfl)⟩
  case round =>
    obtain ⟨i, mi, t, hi, rfl, rfl, rfl, ht, ht', Hi⟩ := hrel
    by_cases hini : i < D.length
    · obtain ⟨gi, rfl⟩ : ∃ g', gk = g' + 1 := ⟨gk - 1, by omega⟩
      have hini' : (i : Int) < (D.length : Nat) := by omega
      have r1 := HR.out i hini
      obtain ⟨m0, m60⟩ := HB.out i hini
      have Hst := Lib.hid (show itR (fun i s => max s (maxI (row D i))) (gi + 1) i t = itR (fun i s => max s (maxI (row D i))) gi (i + 1) (max t (maxI (row D i))) from rfl)
      have HMk := Lib.hid (HMX.out i hini)
      obtain ⟨M, hM⟩ : ∃ M, maxI (row D i) = M := ⟨_, rfl⟩
      rw [hM] at m0 m60 Hst HMk
      clear hM
      go_wp2_with fail
      refine (HMk.out _ (Ext.drewN _ _)).mono ?_
      rintro e w2 ⟨rfl, m2, rfl⟩
      by_cases hle : t < M
      · have HE := Lib.hid (show max t M = M by omega)
        go_wp2
        go_roundg gi
        case measure => omega
        case rel => exact ⟨i + 1, _, M, by omega, by go_num, by first | rfl | go_num, by first | rfl | exact drewN_0 _ | exact drewN_add _ _ _, by omega, by omega, Lib.hid (by rw [← Hi.out, Hst.out, HE.out])⟩
      · have HE := Lib.hid (show max t M = t by omega)
        go_wp2
        go_roundg gi
        case measure => omega
        case rel => exact ⟨i + 1, _, t, by omega, by go_num, by first | rfl | go_num, by first | rfl | exact drewN_0 _ | exact drewN_add _ _ _, by omega, by omega, Lib.hid (by rw [← Hi.out, Hst.out, HE.out])⟩
    · have hini' : ¬ (i : Int) < (D.length : Nat) := by omega
      obtain rfl : gk = 0 := by omega
      go_wp2
      go_ret
      exact ⟨ret_int (by rw [← Hi.out]; rfl), _, by first | rfl | exact drewN_add _ _ _⟩
end Go.Proofs.Ytpkiodpocggfbaa
