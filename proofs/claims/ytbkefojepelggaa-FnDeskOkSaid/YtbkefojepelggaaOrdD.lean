/- What is proved: impl.ordered returns a space with its points in another order, in new memory. Conditions: those of the contract. -/
import Derived.Test.YtbkefojepelggaaOrdI
namespace Go.Proofs.Ytbkefojepelggaa
open Go.RowKit
theorem take_ix {xs : List Int} {j : Nat} (h : j < xs.length) : xs.take (j + 1) = xs.take j ++ [ix xs j] := by
  rw [List.take_succ_eq_append_getElem h, ix_of h]
theorem take_row {D : List (List Int)} {i : Nat} (h : i < D.length) : D.take (i + 1) = D.take i ++ [row D i] := by
  rw [List.take_succ_eq_append_getElem h, row_of h]
theorem ordD_cell {D : List (List Int)} {o : List Int} {i k : Nat} (hi : i < o.length) (hk : k < o.length) : ix (row (ordD D o) i) k = at2 D (ix o i).toNat (ix o k).toNat := ordD_at hi hk
set_option maxRecDepth 100000 in
set_option maxHeartbeats 4000000 in
theorem ordered_own (A : Option Addr) (ca : Nat) (D : List (List Int)) (B : Option Addr) (cb : Nat) (o : List Int) (w : World) (hD : Mat w A ca D) (hO : Ints w B cb o) (hf : farB D = true) (ho6 : o.length ≤ 6) (ho : ∀ j, j < o.length → 0 ≤ ix o j ∧ ix o j < D.length) :
    Calls Try.prog 95 #[.slice A D.length ca, .slice B o.length cb] w (FreshR w (ordD D o)) := by
  obtain ⟨⟨hn1, hn6⟩, hsq, hcells⟩ := farB_parts hf
  obtain ⟨bk, off, rc, rb, ro, hA, hrow, hlen, hcell, -⟩ := hD.square hsq
  obtain rfl := hA (by omega)
  have hcm := hD.2.1
  unfold maxLen at hcm
  obtain ⟨k1, k2, b2, o2, hB, hc2⟩ := hO
  unfold maxLen at k2
  have HROW := Lib.hid hrow
  have HCE := Lib.hid hcell
  have HO := Lib.hid hc2
  have HLO := Lib.hid ho
  have HAT := Lib.hid (fun i k hi hk => ordD_cell (D := D) (o := o) (i := i) (k := k) hi hk)
  have HRL := Lib.hid (fun i (hi : i < o.length) => show (row (ordD D o) i).length = o.length by rw [ordD_row hi]; simp)
  have HTR := Lib.hid (fun i (hi : i < o.length) => take_row (D := ordD D o) (i := i) (by rw [ordD_len]; exact hi))
  have HTX := Lib.hid (fun i j (hi : i < o.length) (hj : j < o.length) => take_ix (xs := row (ordD D o) i) (j := j) (by rw [ordD_row hi]; simpa using hj))
  have HTF := Lib.hid (fun i (hi : i < o.length) => show (row (ordD D o) i).take o.length = row (ordD D o) i from List.take_of_length_le (by rw [ordD_row hi]; simp))
  have HTF2 := Lib.hid (show (ordD D o).take o.length = ordD D o from List.take_of_length_le (by rw [ordD_len]; exact Nat.le_refl _))
  have HBD := Lib.hid (fun i (h : i ≤ o.length) => show ((ordD D o).take i).length ≤ 6 by rw [List.length_take]; omega)
  obtain ⟨n, hn⟩ : ∃ n, D.length = n := ⟨_, rfl⟩
  obtain ⟨p, hp⟩ : ∃ n, o.length = n := ⟨_, rfl⟩
  rw [hn] at HROW HCE HLO hn1 hn6
  rw [hp] at HO HLO HAT HRL HTR HTX HTF HTF2 ho6 k1 hB HBD
  rw [hn, hp]
  clear hrow hcell hc2 ho hf hsq hcells hD hA hn hp hlen
  obtain ⟨E, hE⟩ : ∃ E, ordD D o = E := ⟨_, rfl⟩
  rw [hE] at HAT HRL HTR HTX HTF HTF2 HBD
  rw [hE]
  clear hE
  go_enter Try.func95, Try.ntmps95
  go_wp2
  go_loopg [14, 5] p (fun g s14 s5 wr => ∃ (i : Nat), i + g = p ∧ s14 = .int .i64 i ∧ Hid (AccR w wr s5 (E.take i)))
  case atStart => exact ⟨0, by omega, rfl, Lib.hid (by rw [List.take_zero]; exact AccR.empty (Ext.refl _))⟩
  case round =>
    obtain ⟨i, hi, rfl, HR⟩ := hrel
    by_cases hini : i < p
    · obtain ⟨gi1, rfl⟩ : ∃ g', gk = g' + 1 := ⟨gk - 1, by omega⟩
      have hini' : (i : Int) < (p : Nat) := by omega
      have hxi := HR.out.x
      obtain rfl := hB (by omega)
      have c1 := hxi.cell (HO.out i hini)
      obtain ⟨a0, a1⟩ := HLO.out i hini
      have HATi := Lib.hid (fun k hk => HAT.out i k hini hk)
      have HTXi := Lib.hid (fun k hk => HTX.out i k hini hk)
      have HTFi := Lib.hid (HTF.out i hini)
      have HTRi := Lib.hid (HTR.out i hini)
      have HRLi := Lib.hid (HRL.out i hini)
      have HBDi := Lib.hid (HBD.out i (by omega))
      obtain ⟨a, ha⟩ : ∃ a : Nat, ix o i = (a : Int) := ⟨(ix o i).toNat, by omega⟩
      rw [ha] at c1 a0 a1 HATi
      have ha' : a < n := by omega
      have HTN : ((a : Int)).toNat = a := by omega
      rw [HTN] at HATi
      have HR1 := Lib.hid (HROW.out a ha')
      obtain ⟨RW, hRW⟩ : ∃ r, row E i = r := ⟨_, rfl⟩
      rw [hRW] at HATi HTXi HTFi HTRi HRLi
      obtain ⟨wq, hwq⟩ : ∃ wq : World, wq = wr := ⟨_, rfl⟩
      subst hwq
      have HXI := Lib.hid hxi
      clear ha hRW HTN a0
      go_wp2
      go_loopg [21, 8] p (fun g s21 s8 wx => ∃ (k : Nat), k + g = p ∧ s21 = .int .i64 k ∧ Hid (Acc wq wx 3 s8 ((RW.take k).map (Value.int .i64))))
      case atStart => exact ⟨0, by omega, rfl, Lib.hid (by rw [List.take_zero]; exact Acc.empty _ (Ext.refl _))⟩
      case round =>
        obtain ⟨k, hk, rfl, HK⟩ := hrel
        have hxk := HK.out.x
        by_cases hink : k < p
        · obtain ⟨gk1, rfl⟩ : ∃ g', gk = g' + 1 := ⟨gk - 1, by omega⟩
          have hink' : (k : Int) < (p : Nat) := by omega
          have c2 := (HXI.out.trans hxk).cell (HO.out k hink)
          have c3 := (HXI.out.trans hxk).cell HR1.out
          obtain ⟨a0, a2⟩ := HLO.out k hink
          have HATk := Lib.hid (HATi.out k hink)
          have HTXk := Lib.hid (HTXi.out k hink)
          obtain ⟨d, hd⟩ : ∃ a : Nat, ix o k = (a : Int) := ⟨(ix o k).toNat, by omega⟩
          rw [hd] at c2 a0 a2 HATk
          have hd' : d < n := by omega
          have HTN : ((d : Int)).toNat = d := by omega
          rw [HTN] at HATk
          have c4 := (HXI.out.trans hxk).cell (HCE.out a ha' d hd')
          rw [← HATk.out] at c4
          obtain ⟨X, hX⟩ : ∃ x, ix RW k = x := ⟨_, rfl⟩
          rw [hX] at c4 HTXk
          have hb6 : ((RW.take k).map (Value.int .i64)).length ≤ 6 := by rw [List.length_map, List.length_take]; omega
          obtain ⟨ys, hys⟩ : ∃ ys, RW.take k = ys := ⟨_, rfl⟩
          rw [hys] at HK HTXk hb6
          clear hys hX hd HTN a0 HATk
          go_wp2_with (at_builtin; refine wpList_ex rfl _ _ rfl _ (.slice (some ⟨_, 0, none⟩) 1 1) rfl rfl (app_run (w0 := wq) Try.underlying31 infoI rfl (by decide) _ (ys.map (Value.int .i64)) ⟨_, 0, none⟩ 1 1 [.int .i64 X] rfl (one_news (cell_new0 _ _ _) rfl) (map_one [X]) (HK.out.on (Ext.alloc _ _)) (by omega)) ?_; rintro v2 W2 ⟨hA2, hB2, hS2⟩)
          go_roundg gk1
          case measure => omega
          case rel => exact ⟨k + 1, by omega, by go_num, Lib.hid (by rw [HTXk.out, List.map_append]; exact hA2)⟩
        · have hink' : ¬ (k : Int) < (p : Nat) := by omega
          obtain rfl : gk = 0 := by omega
          obtain rfl : k = p := by omega
          rw [HTFi.out] at HK
          obtain ⟨Ar, cr, hv2, -⟩ := (Leaf.of_own HK.out.2).1.ints
          obtain ⟨K, hK⟩ : ∃ K, RW.length = K := ⟨_, rfl⟩
          rw [hK] at hv2
          subst hv2
          clear hK
          go_wp2_with (at_builtin; refine wpList_ex rfl _ _ rfl _ (.slice (some ⟨_, 0, none⟩) 1 1) rfl rfl (accR_run (u := .slice Ar K cr) rfl Try.underlying23 infoR ⟨_, 0, none⟩ 1 rfl HR.out HK.out (Ext.alloc _ _) (cell_new0 _ _ _) (by have := HBDi.out; omega)) ?_; rintro v3 W3 hR3)
          go_roundg gi1
          case measure => omega
          case rel => exact ⟨i + 1, by omega, by go_num, Lib.hid (by rw [HTRi.out]; exact hR3)⟩
    · have hini' : ¬ (i : Int) < (p : Nat) := by omega
      obtain rfl : gk = 0 := by omega
      obtain rfl : i = p := by omega
      rw [HTF2.out] at HR
      have HFR := Lib.hid HR.out
      clear HR
      go_wp2
      go_ret
      exact ⟨_, rfl, HFR.out⟩
theorem ordered_any (A : Option Addr) (ca : Nat) (D : List (List Int)) (B : Option Addr) (cb : Nat) (o : List Int) (w : World) (hD : Mat w A ca D) (hO : Ints w B cb o) (hf : farB D = true) (ho6 : o.length ≤ 6) (ho : ∀ j, j < o.length → 0 ≤ ix o j ∧ ix o j < D.length) :
    Calls Try.prog 95 #[.slice A D.length ca, .slice B o.length cb] w (FreshM w (ordD D o)) := (ordered_own A ca D B cb o w hD hO hf ho6 ho).mono fun _ _ h => h.fresh
end Go.Proofs.Ytbkefojepelggaa
