/- What is proved: DrawUnlikeBy returns two spaces and rows of two small numbers, to be read. No condition. -/
import Derived.Test.YtimelegkgaimjaaUnlS
import Derived.Test.YtimelegkgaimjaaDrSpc
import Derived.Test.YtimelegkgaimjaaOpen
import Derived.Test.YtimelegkgaimjaaStep
namespace Go.Proofs.Ytimelegkgaimjaa
open Go.RowKit
theorem AccM.recut {w0 W : World} {v : Value} {P : List (List Int)} {V : Nat → Value} {base : Nat} (h : AccM w0 W v P V) (hb : w0.heap.size = base) : AccM (cutW W base) W v P V := by
  have hs : base ≤ W.heap.size := by have := h.x.size; omega
  have e := cut_size hs
  obtain ⟨⟨hx, ho⟩, h2, h3, h4⟩ := h
  refine ⟨⟨cut_ext hs, by rw [e, ← hb]; exact ho⟩, h2, h3, fun i hi g hg => by rw [e, ← hb]; exact h4 i hi g hg⟩
theorem AccM.rdk {W W' : World} {v : Value} {P : List (List Int)} {V : Nat → Value} {base g : Nat} (h : AccM (cutW W base) W v P V) (hb : base ≤ W.heap.size) (hO : Only (fun x => x = g) W W') (hg : g < base) : AccM (cutW W' base) W' v P V := by
  have e := cut_size hb
  have hs : W'.heap.size = W.heap.size := hO.2.2.2.1
  have hb' : base ≤ W'.heap.size := by omega
  have e' := cut_size hb'
  obtain ⟨hA, h2, h3, h4⟩ := h
  have hr := Acc.rebase (W' := W') hA (fun q hq _ => hO.2.2.2.2 q (by omega)) (by rw [e]; exact hb')
  rw [e] at hr
  refine ⟨hr, fun i hi => (h2 i hi).keep fun q hq => hO.2.2.2.2 q (by have := h4 i hi q hq; omega), h3, fun i hi q hq => by rw [e']; have := h4 i hi q hq; omega⟩
/-- pairs under way -/
def PrS (w3 : World) (B g : Nat) (u : Int) (v : Value) (k : Nat) (W : World) : Prop :=
  ∃ P V, P.length = k ∧ (∀ i, i < P.length → (row P i).length = 2 ∧ (0 ≤ at2 P i 0 ∧ at2 P i 0 ≤ 100) ∧ (0 ≤ at2 P i 1 ∧ at2 P i 1 ≤ 100)) ∧ AccM (cutW W w3.heap.size) W v P V ∧ RdU W B g u ∧ ExtG g w3 W
theorem PrS.rd {w3 W W' : World} {B g : Nat} {u u' : Int} {v : Value} {k : Nat} (h : PrS w3 B g u v k W) (hO : Only (fun x => x = g) W W') (hR : RdU W' B g u') (hB : B ≤ w3.heap.size) : PrS w3 B g u' v k W' := by
  obtain ⟨P, V, h1, h2, h3, h4, h5⟩ := h
  have := hR.lt
  exact ⟨P, V, h1, h2, h3.rdk h5.size hO (by omega), hR, h5.rd hO⟩
theorem PrS.le {w3 W : World} {B g : Nat} {u u' : Int} {v : Value} {k : Nat} (h : PrS w3 B g u v k W) (q : u ≤ u') : PrS w3 B g u' v k W := by
  obtain ⟨P, V, h1, h2, h3, h4, h5⟩ := h
  exact ⟨P, V, h1, h2, h3, h4.le q, h5⟩
theorem PrS.drew {w3 W : World} {B g : Nat} {u : Int} {v : Value} {k : Nat} (h : PrS w3 B g u v k W) (hB : B ≤ w3.heap.size) : PrS w3 B g u v k W.drew := by
  obtain ⟨P, V, h1, h2, h3, h4, h5⟩ := h
  have hs := h5.size
  exact ⟨P, V, h1, h2, (h3.on (Ext.drewN W 1)).recut (cut_size hs), h4.ext (Ext.drewN W 1) (by omega), h5.on (Ext.drewN W 1)⟩
/-- one pair more -/
theorem pair_run {P : Program} {w3 W : World} {T E ty : TypeId} (hE : E = 28)
    (ht : P.underlying T = some (.slice E)) (hinfo : (P.info? E).map (fun i => (i.zero, i.size, i.bytes)) = some (some (.slice none 0 0), 1, 24)) {B g : Nat} {u : Int} {v : Value} {k : Nat} {x y : Int}
    (h : PrS w3 B g u v k W) (hB : B ≤ w3.heap.size) (_hg : g < B) (x0 : 0 ≤ x) (x1 : x ≤ 100) (y0 : 0 ≤ y) (y1 : y ≤ 100) (hk : k ≤ 1000) :
    ∃ v' w', (Builtin.append_ #[T, T] ty #[v, .slice (some ⟨W.heap.size + 1, 0, none⟩) 1 1]).run P ((W.alloc (.cells #[.int .i64 x, .int .i64 y] 3)).alloc (.cells #[.slice (some ⟨W.heap.size, 0, none⟩) 2 2] E)) = .ok v' w' ∧ PrS w3 B g u v' (k + 1) w' := by
  obtain ⟨R, V, h1, h2, h3, h4, h5⟩ := h
  have hs := h5.size
  have e := cut_size hs
  have hsz : (W.alloc (.cells #[.int .i64 x, .int .i64 y] 3)).heap.size = W.heap.size + 1 := by simp
  have hc := cell_new0 (W.alloc (.cells #[.int .i64 x, .int .i64 y] 3)) (.slice (some ⟨W.heap.size, 0, none⟩) 2 2) E
  rw [hsz] at hc
  have hleaf := (leaf_two W x y).ext (Ext.alloc (W.alloc (.cells #[.int .i64 x, .int .i64 y] 3)) (.cells #[.slice (some ⟨W.heap.size, 0, none⟩) 2 2] E))
  obtain ⟨v', w', hr, hA⟩ := appM_run (P := P) (w0 := cutW W w3.heap.size) (ty := ty) hE ht hinfo v (.slice (some ⟨W.heap.size, 0, none⟩) 2 2) R [x, y] V ⟨W.heap.size + 1, 0, none⟩ 1 rfl hc (h3.on ((Ext.alloc _ _).alloc' _)) hleaf
    (fun q hq => by
      have : q = W.heap.size := by simp [lb] at hq; exact hq
      subst this
      refine ⟨by rw [e]; exact hs, fun i hi hq' => ?_⟩
      have := (h3.2.1 i hi).lt hq'
      omega) (by omega)
  have hx := hA.x
  refine ⟨v', w', hr, R ++ [[x, y]], _, by simp [h1], fun i hi => ?_, hA.recut e, h4.cut hx hs hB, h5.cut hx hs (Nat.le_refl _)⟩
  simp only [List.length_append, List.length_singleton] at hi
  unfold at2
  rw [row_app]
  by_cases q : i = R.length
  · rw [if_pos q]
    exact ⟨rfl, ⟨x0, x1⟩, ⟨y0, y1⟩⟩
  · rw [if_neg q]
    exact h2 i (by omega)
def DUnl (w : World) (e : Ending) (w' : World) : Prop :=
  ∃ A1 c1 D A2 c2 E A3 c3 P, e = .returned (.tuple #[.slice A1 (List.length D) c1, .slice A2 (List.length E) c2, .slice A3 (List.length P) c3]) ∧ Mat w' A1 c1 D ∧ Mat w' A2 c2 E ∧ Mat w' A3 c3 P ∧ PairP P ∧ Ext w w'
theorem mod_facts (k M : Int) (hk : 0 ≤ k) (hM : 1 ≤ M) (h6 : M ≤ 6) : ∃ X, k.tmod M = X ∧ k % M = X ∧ 0 ≤ X ∧ X ≤ 100 :=
  ⟨k % M, Int.tmod_eq_emod_of_nonneg hk, rfl, Int.emod_nonneg _ (by omega), by have := Int.emod_lt_of_pos k (show 0 < M by omega); omega⟩
set_option maxRecDepth 100000 in
set_option maxHeartbeats 8000000 in
theorem drawUnlikeBy_any (A : Option Addr) (n c : Nat) (w : World) (h : Byt w A n c) :
    Calls Try.prog 8 #[.slice A n c] w (DUnl w) := by
  go_enter Try.func8, Try.ntmps8
  go_wp2_with fail
  refine (open_any A n c w h).mono ?_
  rintro e w1 ⟨g, rfl, hx1, hg, hR⟩
  have hlt := hR.lt
  have HR := Lib.hid hR
  have HX := Lib.hid hx1
  clear hR hx1
  go_wp2_with fail
  refine (l20Space_any HR.out (Nat.le_refl _) (by omega) 3 20 (by omega) (by omega) (by omega) (by omega)).mono ?_
  rintro e w2 ⟨A1, c1, V1, D, rfl, hO1, h61, hR2, hX2⟩
  have HO1 := Lib.hid hO1
  have HR2 := Lib.hid hR2
  have HX2 := Lib.hid hX2
  clear hO1 hR2 hX2 HR
  go_wp2_with fail
  refine (l20Space_any HR2.out (HX2.out.size) (by omega) 3 20 (by omega) (by omega) (by omega) (by omega)).mono ?_
  rintro e w3 ⟨A2, c2, V2, E, rfl, hO2, h62, hR3, hX3⟩
  have HO1' := Lib.hid (HO1.out.g hX3 hlt)
  have HO2 := Lib.hid hO2
  have HX3 := Lib.hid (HX2.out.trans hX3)
  have hB3 : w1.heap.size ≤ w3.heap.size := HX3.out.size
  have HS0 := Lib.hid (show PrS w3 w1.heap.size g (0 + 60 + 60) (.slice (some ⟨w3.heap.size, 0, none⟩) 0 0) 0 (w3.alloc (.cells #[] 28)) from
    ⟨[], fun _ => .slice none 0 0, rfl, fun i hi => absurd hi (by simp), (AccM.empty (Ext.refl w3) _).recut rfl, hR3.ext (Ext.alloc _ _) hB3, (ExtG.refl g w3).alloc _⟩)
  have HFIN := Lib.hid (show ∀ (v : Value) (k : Nat) (u : Int) (W : World), k ≤ 9 → PrS w3 w1.heap.size g u v k W → DUnl w (.returned (.tuple #[.slice A1 D.length c1, .slice A2 E.length c2, v])) W from fun v k u W hk9 hp => by
    obtain ⟨P, V, h1, h2, h3, h4, h5⟩ := hp
    obtain ⟨A3, c3, V', e3, hL3, -, -, -⟩ := h3.done
    obtain rfl : v = .slice A3 P.length c3 := by injection e3
    exact ⟨A1, c1, D, A2, c2, E, A3, c3, P, rfl, (HO1'.out.g h5 (by omega)).mat, (HO2.out.g h5 (by have := HX2.out.size; omega)).mat, hL3.mat, ⟨by omega, h2⟩, (HX3.out.trans h5).ext HX.out hg⟩)
  have HB3 := Lib.hid hB3
  clear hO2 hR3 hX3 HO1 HO1' HO2 HR2 HX2 HX3 HX hB3
  obtain ⟨a, ha⟩ : ∃ a : Nat, D.length = a := ⟨_, rfl⟩
  obtain ⟨b, hb⟩ : ∃ a : Nat, E.length = a := ⟨_, rfl⟩
  rw [ha] at h61 HFIN
  rw [hb] at h62 HFIN
  rw [ha, hb]
  clear ha hb
  obtain ⟨M1, hM1, hM1a, hM1b⟩ : ∃ M : Int, (if (a : Int) < 1 then (1 : Int) else (a : Int)) = M ∧ 1 ≤ M ∧ M ≤ 6 := ⟨_, rfl, by split <;> omega, by split <;> omega⟩
  obtain ⟨M2, hM2, hM2a, hM2b⟩ : ∃ M : Int, (if (b : Int) < 1 then (1 : Int) else (b : Int)) = M ∧ 1 ≤ M ∧ M ≤ 6 := ⟨_, rfl, by split <;> omega, by split <;> omega⟩
  have z1 : ¬ M1 = 0 := by omega
  have z2 : ¬ M2 = 0 := by omega
  by_cases hab : (a : Int) < (b : Nat)
  · go_wp2
    go_loopg [9, 8] b (fun gk s9 s8 wr => ∃ (k : Nat), k + gk = b ∧ s9 = .int .i64 k ∧ Hid (PrS w3 w1.heap.size g (120 + k) s8 k wr))
    case atStart => exact ⟨0, by omega, rfl, Lib.hid (HS0.out.le (by omega))⟩
    case round =>
      obtain ⟨k, hk, rfl, HP⟩ := hrel
      by_cases hin : k < b
      · obtain ⟨gk', rfl⟩ : ∃ g', gk = g' + 1 := ⟨gk - 1, by omega⟩
        have hin' : (k : Int) < (b : Nat) := by omega
        obtain ⟨X1, hX1a, hX1b, X10, X1100⟩ := mod_facts (k : Int) M1 (by omega) hM1a hM1b
        have HPD := Lib.hid (HP.out.drew HB3.out)
        have HRD := Lib.hid (show RdU wr.drew w1.heap.size g (120 + k) from by obtain ⟨P, V, _, _, _, h4, _⟩ := HPD.out; exact h4)
        clear HP
        go_wp2_with fail
        go_region_held3 (fun _ => True) (trivial)
          (first
            | ((fail_if_success (have hq := hO5)); go_at_call 33; refine (pickU HRD.out 2 (by omega) (by omega) (by omega)).mono ?_; rintro e w5 ⟨v5, rfl, a0, a1, hR5, hO5⟩; obtain ⟨X2, hX2a, hX2b, X20, X2100⟩ := mod_facts ((k : Int) + v5) M2 (by omega) hM2a hM2b; have hwk : IntKind.i64.wrap ((k : Int) + v5) = (k : Int) + v5 := IntWalk.i64_in _ ⟨by omega, by omega⟩)
            | (refine step_ex rfl _ _ rfl _ (.slice (some ⟨_, 0, none⟩) 1 1) rfl rfl (pair_run (x := X1) (y := X2) rfl Try.underlying23 infoR (HPD.out.rd hO5 hR5 HB3.out) HB3.out hlt X10 X1100 X20 X2100 (by omega)) ?_; rintro v6 w6 hP6))
        all_goals
          go_wp2
          go_roundg gk'
          case measure => omega
          case rel => exact ⟨k + 1, by omega, by go_num, Lib.hid (hP6.le (by omega))⟩
      · have hin' : ¬ (k : Int) < (b : Nat) := by omega
        obtain rfl : gk = 0 := by omega
        have HRD := Lib.hid (show RdU wr w1.heap.size g (120 + k) from by obtain ⟨P, V, _, _, _, h4, _⟩ := HP.out; exact h4)
        go_wp2_with fail
        refine (pickU HRD.out 3 (by omega) (by omega) (by omega)).mono ?_
        rintro e w5 ⟨v5, rfl, a0, a1, hR5, hO5⟩
        have HP5 := Lib.hid (HP.out.rd hO5 hR5 HB3.out)
        have HR5 := Lib.hid hR5
        clear hR5 hO5 HP HRD
        by_cases e5 : v5 = 0
        · subst e5
          go_wp2_with fail
          refine (pickU HR5.out 3 (by omega) (by omega) (by omega)).mono ?_
          rintro e w6 ⟨v6, rfl, b0, b1, hR6, hO6⟩
          have HP6 := Lib.hid (HP5.out.rd hO6 hR6 HB3.out)
          have HR6 := Lib.hid hR6
          clear hR6 hO6 HP5 HR5
          go_wp2_with fail
          refine (pickU HR6.out 3 (by omega) (by omega) (by omega)).mono ?_
          rintro e w7 ⟨v7, rfl, d0, d1, hR7, hO7⟩
          have HP7 := Lib.hid (HP6.out.rd hO7 hR7 HB3.out)
          clear hR7 hO7 HP6 HR6
          go_wp2_with (at_builtin; refine wpList_ex rfl _ _ rfl _ (.slice (some ⟨_, 0, none⟩) 1 1) rfl rfl (pair_run (x := v6) (y := v7) rfl Try.underlying23 infoR HP7.out HB3.out hlt b0 (by omega) d0 (by omega) (by omega)) ?_; rintro v8 w8 hP8)
          (try simp only [Exit.inBlock, Exit.then])
          refine bodyPost_ret (results_tmp3 rfl _ _ _) rfl ?_
          exact HFIN.out _ (k + 1) _ _ (by omega) hP8
        · have e5' : (v5 == 0) = false := beq_eq_false_iff_ne.2 e5
          go_wp2
          (try simp only [Exit.inBlock, Exit.then])
          refine bodyPost_ret (results_tmp3 rfl _ _ _) rfl ?_
          exact HFIN.out _ k _ _ (by omega) HP5.out
  · go_wp2
    go_loopg [9, 8] a (fun gk s9 s8 wr => ∃ (k : Nat), k + gk = a ∧ s9 = .int .i64 k ∧ Hid (PrS w3 w1.heap.size g (120 + k) s8 k wr))
    case atStart => exact ⟨0, by omega, rfl, Lib.hid (HS0.out.le (by omega))⟩
    case round =>
      obtain ⟨k, hk, rfl, HP⟩ := hrel
      by_cases hin : k < a
      · obtain ⟨gk', rfl⟩ : ∃ g', gk = g' + 1 := ⟨gk - 1, by omega⟩
        have hin' : (k : Int) < (a : Nat) := by omega
        obtain ⟨X1, hX1a, hX1b, X10, X1100⟩ := mod_facts (k : Int) M1 (by omega) hM1a hM1b
        have HPD := Lib.hid (HP.out.drew HB3.out)
        have HRD := Lib.hid (show RdU wr.drew w1.heap.size g (120 + k) from by obtain ⟨P, V, _, _, _, h4, _⟩ := HPD.out; exact h4)
        clear HP
        go_wp2_with fail
        go_region_held3 (fun _ => True) (trivial)
          (first
            | ((fail_if_success (have hq := hO5)); go_at_call 33; refine (pickU HRD.out 2 (by omega) (by omega) (by omega)).mono ?_; rintro e w5 ⟨v5, rfl, a0, a1, hR5, hO5⟩; obtain ⟨X2, hX2a, hX2b, X20, X2100⟩ := mod_facts ((k : Int) + v5) M2 (by omega) hM2a hM2b; have hwk : IntKind.i64.wrap ((k : Int) + v5) = (k : Int) + v5 := IntWalk.i64_in _ ⟨by omega, by omega⟩)
            | (refine step_ex rfl _ _ rfl _ (.slice (some ⟨_, 0, none⟩) 1 1) rfl rfl (pair_run (x := X1) (y := X2) rfl Try.underlying23 infoR (HPD.out.rd hO5 hR5 HB3.out) HB3.out hlt X10 X1100 X20 X2100 (by omega)) ?_; rintro v6 w6 hP6))
        all_goals
          go_wp2
          go_roundg gk'
          case measure => omega
          case rel => exact ⟨k + 1, by omega, by go_num, Lib.hid (hP6.le (by omega))⟩
      · have hin' : ¬ (k : Int) < (a : Nat) := by omega
        obtain rfl : gk = 0 := by omega
        have HRD := Lib.hid (show RdU wr w1.heap.size g (120 + k) from by obtain ⟨P, V, _, _, _, h4, _⟩ := HP.out; exact h4)
        go_wp2_with fail
        refine (pickU HRD.out 3 (by omega) (by omega) (by omega)).mono ?_
        rintro e w5 ⟨v5, rfl, a0, a1, hR5, hO5⟩
        have HP5 := Lib.hid (HP.out.rd hO5 hR5 HB3.out)
        have HR5 := Lib.hid hR5
        clear hR5 hO5 HP HRD
        by_cases e5 : v5 = 0
        · subst e5
          go_wp2_with fail
          refine (pickU HR5.out 3 (by omega) (by omega) (by omega)).mono ?_
          rintro e w6 ⟨v6, rfl, b0, b1, hR6, hO6⟩
          have HP6 := Lib.hid (HP5.out.rd hO6 hR6 HB3.out)
          have HR6 := Lib.hid hR6
          clear hR6 hO6 HP5 HR5
          go_wp2_with fail
          refine (pickU HR6.out 3 (by omega) (by omega) (by omega)).mono ?_
          rintro e w7 ⟨v7, rfl, d0, d1, hR7, hO7⟩
          have HP7 := Lib.hid (HP6.out.rd hO7 hR7 HB3.out)
          clear hR7 hO7 HP6 HR6
          go_wp2_with (at_builtin; refine wpList_ex rfl _ _ rfl _ (.slice (some ⟨_, 0, none⟩) 1 1) rfl rfl (pair_run (x := v6) (y := v7) rfl Try.underlying23 infoR HP7.out HB3.out hlt b0 (by omega) d0 (by omega) (by omega)) ?_; rintro v8 w8 hP8)
          (try simp only [Exit.inBlock, Exit.then])
          refine bodyPost_ret (results_tmp3 rfl _ _ _) rfl ?_
          exact HFIN.out _ (k + 1) _ _ (by omega) hP8
        · have e5' : (v5 == 0) = false := beq_eq_false_iff_ne.2 e5
          go_wp2
          (try simp only [Exit.inBlock, Exit.then])
          refine bodyPost_ret (results_tmp3 rfl _ _ _) rfl ?_
          exact HFIN.out _ k _ _ (by omega) HP5.out
end Go.Proofs.Ytimelegkgaimjaa
