/- What is proved: l20Space draws rows in memory of its own, at most six. Conditions: those of the contract. -/
import Derived.Test.YtpkiodpocggfbaaDrFar
namespace Go.Proofs.Ytpkiodpocggfbaa
open Go.RowKit
/-- rows drawn, in memory of their own -/
def DrawnM (w : World) (B g : Nat) (u : Int) (e : Ending) (w' : World) : Prop :=
  ∃ A c V D, e = .returned (.slice A (List.length D) c) ∧ ObjM w.heap.size w' A c D V ∧ D.length ≤ 6 ∧ RdU w' B g u ∧ ExtG g w w'
/-- a square under way -/
def SpS (w : World) (B g b c n : Nat) (V : Nat → Value) (u : Int) (wr : World) : Prop :=
  ∃ D, ObjF w.heap.size wr (some ⟨b, 0, none⟩) c n D V ∧ RdU wr B g u ∧ ExtG g w wr
theorem SpS.le {w : World} {B g b c n : Nat} {V : Nat → Value} {u u' : Int} {wr : World} (h : SpS w B g b c n V u wr) (k : u ≤ u') : SpS w B g b c n V u' wr := by
  obtain ⟨D, h1, h2, h3⟩ := h
  exact ⟨D, h1, h2.le k, h3⟩
theorem SpS.rd {w : World} {B g b c n : Nat} {V : Nat → Value} {u u' : Int} {wr w2 : World} (h : SpS w B g b c n V u wr) (hO : Only (fun x => x = g) wr w2) (hR : RdU w2 B g u') (hB : B ≤ w.heap.size) : SpS w B g b c n V u' w2 := by
  obtain ⟨D, h1, h2, h3⟩ := h
  exact ⟨D, h1.rd hO (by have := hR.lt; omega), hR, h3.rd hO⟩
theorem SpS.done {w : World} {B g b c n : Nat} {V : Nat → Value} {u : Int} {wr : World} (h : SpS w B g b c n V u wr) (hn : n ≤ 6) : DrawnM w B g u (.returned (.slice (some ⟨b, 0, none⟩) n c)) wr := by
  obtain ⟨D, h1, h2, h3⟩ := h
  have hl := h1.2.2.1
  exact ⟨_, c, V, D, by rw [hl], h1.1, by omega, h2, h3⟩
/-- the cells of place (i, j), and what a store there leaves -/
theorem SpS.cell {w : World} {B g b c n : Nat} {V : Nat → Value} {u : Int} {wr : World} (h : SpS w B g b c n V u wr) (hB : B ≤ w.heap.size) {i j : Nat} (hi : i < n) (hj : j < n) :
    ∃ q cr, wr.cell? ⟨b, i, none⟩ = some (.slice (some ⟨q, 0, none⟩) n cr) ∧ n ≤ cr ∧ cr ≤ maxLen ∧ (∃ y : Int, wr.cell? ⟨q, j, none⟩ = some (.int .i64 y)) ∧ wr.frozen? ⟨q, j, none⟩ = false ∧ ∀ x, SpS w B g b c n V u (wr.setCell ⟨q, j, none⟩ (.int .i64 x)) := by
  obtain ⟨D, h1, h2, h3⟩ := h
  obtain ⟨q, cr, hq⟩ := h1.sq
  obtain ⟨a1, a2, a3, a4, a5⟩ := hq i hi
  obtain ⟨c1, f1, S1⟩ := a5 j hj
  exact ⟨q i, cr i, a1, a2, a3, ⟨_, c1⟩, f1, fun x => ⟨_, S1 x, h2.set (p := ⟨q i, j, none⟩) (by show B ≤ q i; omega) _, h3.set (p := ⟨q i, j, none⟩) a4 _⟩⟩
theorem lb_own {v : Value} {g : Nat} (h : g ∈ lb v) : v.ownBlock = some g := by
  unfold lb at h
  split at h
  · simp at h; subst h; rfl
  · simp at h
/-- 'append(d[0], 0)': what is known of the new slice -/
def Grown (w : World) (B g b c n : Nat) (u : Int) (v' : Value) (w' : World) : Prop :=
  ∃ D V, D.length = n ∧ ObjM w.heap.size (w'.setCell ⟨b, 0, none⟩ v') (some ⟨b, 0, none⟩) c D V ∧ RdU (w'.setCell ⟨b, 0, none⟩ v') B g u ∧ ExtG g w (w'.setCell ⟨b, 0, none⟩ v')
theorem SpS.push {P : Program} {ops : Array Oper} {rest : List Oper} {o : Oper} {a : Act} {Q : Exit → Act → World → Prop} {w W : World} {T E : TypeId} {B g b c n : Nat} {V : Nat → Value} {u : Int} (hE : E = 3)
    (ht : P.underlying T = some (.slice E)) (hinfo : (P.info? E).map (fun i => (i.zero, i.size, i.bytes)) = some (some (.int .i64 0), 1, 8))
    (hgd : o.guard = none) (s x : Operand) (ho : o.op = .call { callee := .builtin .append, args := #[s, x], argTypes := #[T, T] })
    (v : Value) (hs : a.eval s = v) (hv : W.cell? ⟨b, 0, none⟩ = some v) (hx : a.eval x = .slice (some ⟨W.heap.size, 0, none⟩) 1 1) (h : SpS w B g b c n V u W) (hB : B ≤ w.heap.size) (h1 : 1 ≤ n) (h6 : n ≤ 6)
    (hk : ∀ A' l' c' w', (∃ y, w'.cell? ⟨b, 0, none⟩ = some y) → w'.frozen? ⟨b, 0, none⟩ = false → Grown w B g b c n u (.slice A' l' c') w' → wpList P ops Q rest (a.put o.dst (.slice A' l' c')) w') :
    wpList P ops Q (o :: rest) a (W.alloc (.cells #[.int .i64 0] E)) := by
  subst hE
  obtain ⟨D, ⟨hO, hsq, hl, hF⟩, hR, hX⟩ := h
  have hbase : w.heap.size ≤ W.heap.size := hX.size
  obtain ⟨Ar, cr, hV0, hcell, hfz, hbb, hbl, _, _⟩ := hO.row (i := 0) (by omega)
  rw [hcell] at hv
  injection hv with hv
  rw [hv] at hV0
  obtain ⟨q, cs, hq1, hq2, hq3⟩ := hF 0 (by omega)
  have hr0 : (row D 0).length = n := by rw [hsq 0 (by omega), hl]
  obtain ⟨o1, o2, o3, o4, o5, o6⟩ := id hO
  have hleaf := o4 0 (by omega)
  have hqlb : q ∈ lb (V 0) := by
    rw [hq1]
    obtain ⟨m, rfl⟩ : ∃ m, n = m + 1 := ⟨n - 1, by omega⟩
    simp [lb]
  have hqb := o6 0 (by omega) q hqlb
  have hown : W.ownsRow w.heap.size 3 1 v ((row D 0).map (Value.int .i64)).length ((row D 0).map (Value.int .i64)) := by
    refine ⟨by simp, .inr ⟨q, n, cs, by rw [← hV0, hq1]; simp [hr0], hqb, hq2, by simp [hr0], by unfold maxLen; omega, by omega, ?_⟩⟩
    obtain ⟨A', c', e, k1, k2, k3⟩ := hleaf
    obtain ⟨q', cs', e', hq', hcs'⟩ := k3 (by omega)
    rw [hq1] at e
    injection e with e1 e2 e3
    rw [e'] at e1
    injection e1 with e1; injection e1 with e1
    subst e1
    rw [hq2] at hq'
    injection hq' with hq'; injection hq' with hq'
    subst hq'
    rw [ix_map]
    refine List.ext_getElem? fun i => ?_
    rw [List.getElem?_take]
    by_cases hi : i < (row D 0).length
    · rw [if_pos (by simp; omega), Array.getElem?_toList, hcs' i hi]
      simp [hi]
    · rw [if_neg (by simp; omega), List.getElem?_eq_none (by simp; omega)]
  have hacc : Acc (cutW W w.heap.size) W 3 v ((row D 0).map (Value.int .i64)) := ⟨cut_ext hbase, by rw [cut_size hbase]; exact hown⟩
  refine wp_app ht hinfo rfl (by decide) hgd s x ho v (.int .i64 0) _ hs hx rfl hacc (by simp; omega) fun v' w' ha hb hst => ?_
  have hx' := ha.1
  obtain ⟨ha1, ha2⟩ := ha
  rw [cut_size hbase] at ha2
  have ha3 : w'.ownsRow w.heap.size 3 1 v' ((row D 0).map (Value.int .i64) ++ [Value.int .i64 0]).length ((row D 0 ++ [0]).map (Value.int .i64)) := by
    rw [List.map_append]; exact ha2
  obtain ⟨hl', hb'⟩ := Leaf.of_own ha3
  obtain ⟨b2, cs2, eb, hbase2, hh, hcs⟩ := o3 (by omega)
  injection eb with eb; injection eb with eb; subst eb
  have hh' : w'.heap[b]? = some (.cells cs2 28 (0, 0)) := hb.block hown (by decide) hh
  have hnb : ∀ {u : Value} {xs : List Int}, Leaf w' u xs → ∀ g' ∈ lb u, g' ≠ b := fun hL g' hg' e => by
    obtain ⟨cs3, h3⟩ := hL.blocks g' hg'
    rw [e, hh'] at h3
    injection h3 with h3; injection h3 with _ h3
    exact absurd h3 (by decide)
  have hkeep : ∀ (v' : Value) {u : Value} {xs : List Int}, Leaf w' u xs → Leaf (w'.setCell ⟨b, 0, none⟩ v') u xs := fun _ _ _ hL => hL.keep fun g' hg' => Below.heap_setCell _ _ _ _ (hnb hL g' hg')
  have hvown : v.ownBlock = some q := by rw [← hV0, hq1]; rfl
  have hoth : ∀ i, i < n → i ≠ 0 → Leaf w' (V i) (row D i) := fun i hi h0 => hb.leaf' (o4 i (by omega)) fun g' hg' e => by
    rw [hvown] at e
    injection e with e
    subst e
    exact o5 i 0 (by omega) (by omega) h0 _ hg' hqlb
  have hsz := hb.1
  obtain ⟨A', c', rfl, _⟩ := hl'.ints
  refine hk A' _ c' w' ⟨_, by rw [cell_cells hh', hcs 0 (by omega)]⟩ (frozen_cells hh' 0) ⟨D.set 0 (row D 0 ++ [0]), fun i => if i = 0 then .slice A' (row D 0 ++ [0]).length c' else V i, by simp [hl], ⟨by simpa using o1, o2, fun _ => ⟨b, cs2.setIfInBounds 0 (.slice A' (row D 0 ++ [0]).length c'), rfl, hbase2, ?_, fun i hi => ?_⟩, fun i hi => ?_, fun i j hi hj hij g1 hg1 hg2 => ?_, fun i hi g1 hg1 => ?_⟩, ?_, ?_⟩
  · simp [World.setCell, Array.getElem?_modify, hh']
  · have hi' : i < D.length := by simpa using hi
    have hsz2 : 0 < cs2.size := (Array.getElem?_eq_some_iff.1 (hcs 0 (by omega))).1
    rw [Array.getElem?_setIfInBounds]
    by_cases e : i = 0
    · subst e; simp [hsz2]
    · rw [if_neg (Ne.symm e), hcs i hi']; simp only [if_neg e]
  · have hi' : i < D.length := by simpa using hi
    rw [row_set (by omega)]
    by_cases e : i = 0
    · simp only [if_pos e]; exact hkeep _ hl'
    · simp only [if_neg e]; exact hkeep _ (hoth i (by omega) e)
  · have hi' : i < D.length := by simpa using hi
    have hj' : j < D.length := by simpa using hj
    have hnew : ∀ g1, g1 ∈ lb (.slice A' (row D 0 ++ [0]).length c') → g1 = q ∨ g1 = W.heap.size + 1 := fun g1 hg => by
      have h5 := lb_own hg
      rcases hst with h6 | h6
      · rw [h6, hvown] at h5; injection h5 with h5; exact .inl h5.symm
      · rw [h6] at h5; injection h5 with h5; exact .inr h5.symm
    by_cases e : i = 0
    · have e2 : ¬ j = 0 := fun k => hij (e.trans k.symm)
      simp only [if_pos e] at hg1
      simp only [if_neg e2] at hg2
      rcases hnew g1 hg1 with k | k
      · subst k; exact o5 j 0 hj' (by omega) e2 _ hg2 hqlb
      · have := (o4 j hj').lt hg2; omega
    · simp only [if_neg e] at hg1
      by_cases e2 : j = 0
      · simp only [if_pos e2] at hg2
        rcases hnew g1 hg2 with k | k
        · subst k; exact o5 i 0 hi' (by omega) e _ hg1 hqlb
        · have := (o4 i hi').lt hg1; omega
      · simp only [if_neg e2] at hg2
        exact o5 i j hi' hj' hij g1 hg1 hg2
  · have hi' : i < D.length := by simpa using hi
    by_cases e : i = 0
    · simp only [if_pos e] at hg1; exact hb' g1 hg1
    · simp only [if_neg e] at hg1; exact o6 i hi' g1 hg1
  · exact (hR.cut hx' hbase hB).set (p := ⟨b, 0, none⟩) (by show B ≤ b; omega) _
  · exact (hX.cut hx' hbase (Nat.le_refl _)).set (p := ⟨b, 0, none⟩) hbase2 _

set_option maxRecDepth 100000 in
set_option maxHeartbeats 8000000 in
theorem l20Space_any {w : World} {B g : Nat} {u : Int} (hR : RdU w B g u) (hB : B ≤ w.heap.size) (hu : u ≤ 400000) (most n : Int) (m1 : 1 ≤ most) (m6 : most ≤ 6) (n0 : -1000 ≤ n) (n1 : n ≤ 1000) :
    Calls Try.prog 11 #[.pointer (some ⟨g, 0, none⟩), .int .i64 most, .int .i64 n] w (DrawnM w B g (u + 60)) := by
  have hg := hR.lt
  have HR := Lib.hid hR
  clear hR
  go_enter Try.func11, Try.ntmps11
  go_wp2_with fail
  refine (l20Far_any HR.out hB (by omega) most m1 m6).mono ?_
  rintro e w1 ⟨b, c, k, V, D, rfl, k1, k6, hO, hbd, hR1, hX1⟩
  have HO1 := Lib.hid hO
  have HB1 := Lib.hid hbd
  have HR1 := Lib.hid hR1
  have HX1 := Lib.hid hX1
  clear hO hbd hR1 hX1 HR
  go_wp2_with fail
  refine (l20Closed_any HO1.out HB1.out k1 k6).mono ?_
  rintro e w2 ⟨rfl, D2, hO2, -, hb2⟩
  have hcap : k ≤ c ∧ c ≤ maxLen := ⟨by have := hO2.1.1; rw [hO2.2.2.1] at this; exact this, hO2.1.2.1⟩
  obtain ⟨hc1, hc2⟩ := hcap
  unfold maxLen at hc2
  have HS0 := Lib.hid (show SpS w B g b c k V (u + 50) w2 from ⟨D2, hO2, HR1.out.keep fun i hi => hb2.block i (by omega), below_toG hb2 g HX1.out (Nat.le_refl _)⟩)
  have HR2 := Lib.hid (show RdU w2 B g (u + 50) from HR1.out.keep fun i hi => hb2.block i (by omega))
  clear hO2 hb2 HO1 HB1 HR1 HX1
  go_wp2_with fail
  refine (pickU HR2.out 4 (by omega) (by omega) (by omega)).mono ?_
  rintro e w3 ⟨v, rfl, v0, v1, hR3, hO3⟩
  have HS := Lib.hid (HS0.out.rd hO3 hR3 hB)
  clear hR3 hO3 HS0 HR2
  by_cases z : v = 0
  · subst z
    clear v0 v1
    go_wp2
    go_loopg [8] k (fun gm s8 wr => ∃ i : Nat, i + gm = k ∧ s8 = .int .i64 i ∧ Hid (SpS w B g b c k V (u + 50 + 1) wr))
    case atStart => exact ⟨0, by omega, rfl, HS⟩
    case round =>
      obtain ⟨i, hi, rfl, HS1⟩ := hrel
      clear HS
      by_cases hin : i < k
      · obtain ⟨g1, rfl⟩ : ∃ g', gk = g' + 1 := ⟨gk - 1, by omega⟩
        have hin' : (i : Int) < (k : Nat) := by omega
        go_wp2
        go_loopg [9] k (fun gm s9 wr => ∃ j : Nat, j + gm = k ∧ s9 = .int .i64 j ∧ Hid (SpS w B g b c k V (u + 50 + 1) wr))
        case atStart => exact ⟨0, by omega, rfl, HS1⟩
        case round =>
          obtain ⟨j, hj, rfl, HS2⟩ := hrel
          clear HS1
          by_cases hjn : j < k
          · obtain ⟨g2, rfl⟩ : ∃ g', gk = g' + 1 := ⟨gk - 1, by omega⟩
            have hjn' : (j : Int) < (k : Nat) := by omega
            obtain ⟨q, cr, a1, a2, a3, ⟨y, c1⟩, f1, S1⟩ := HS2.out.cell hB hin hjn
            unfold maxLen at a3
            have HK := Lib.hid S1
            clear S1 HS2
            go_wp2
            all_goals
              go_roundg g2
              case measure => omega
              case rel => exact ⟨j + 1, by omega, by go_num, Lib.hid (HK.out _)⟩
          · have hjn' : ¬ (j : Int) < (k : Nat) := by omega
            go_wp2
            go_roundg g1
            case measure => omega
            case rel => exact ⟨i + 1, by omega, by go_num, HS2⟩
      · have hin' : ¬ (i : Int) < (k : Nat) := by omega
        obtain rfl : gk = 0 := by omega
        go_wp2_with fail
        obtain ⟨E, hO, hR, hX⟩ := HS1.out
        refine (oddU hR n (by omega) (by omega) (by omega)).mono ?_
        rintro e w4 ⟨o, rfl, hR4, hO4⟩
        have HS4 := Lib.hid (HS1.out.rd hO4 hR4 hB)
        have HR4 := Lib.hid hR4
        clear hO hR hX hR4 hO4 HS1 E
        cases o with
        | false =>
          go_wp2
          go_ret
          exact (HS4.out.le (by omega)).done k6
        | true =>
          go_wp2_with fail
          refine (pickU HR4.out 4 (by omega) (by omega) (by omega)).mono ?_
          rintro e w5 ⟨v5, rfl, v50, v51, hR5, hO5⟩
          have HS5 := Lib.hid ((HS4.out.rd hO5 hR5 hB).le (show u + 50 + 1 + 1 + 1 ≤ u + 60 by omega))
          clear hR5 hO5 HS4 HR4
          by_cases q0 : v5 = 0
          · subst q0
            go_wp2
            go_ret
            obtain ⟨E, hO, hR, hX⟩ := HS5.out
            exact ⟨_, 0, V, [], rfl, ObjM.nil _ _ _ _ (Nat.zero_le _) _, by simp, hR.ext (Ext.alloc _ _) (by have := hX.size; omega), hX.alloc _⟩
          have q0' : (v5 == 0) = false := beq_eq_false_iff_ne.2 q0
          by_cases q1 : v5 = 1
          · subst q1
            obtain ⟨q, cr, a1, a2, a3, ⟨y, c1⟩, f1, S1⟩ := HS5.out.cell hB (i := 0) (j := 0) (by omega) (by omega)
            unfold maxLen at a3
            have HK := Lib.hid S1
            clear S1 HS5
            go_wp2
            go_ret
            exact (HK.out _).done k6
          have q1' : (v5 == 1) = false := beq_eq_false_iff_ne.2 q1
          by_cases q2 : v5 = 2
          · subst q2
            by_cases k2 : 1 < k
            · have k2' : (1 : Int) < (k : Nat) := by omega
              obtain ⟨q, cr, a1, a2, a3, ⟨y, c1⟩, f1, S1⟩ := HS5.out.cell hB (i := 0) (j := 1) (by omega) (by omega)
              obtain ⟨p, dr, b1, b2, b3, ⟨z, d1⟩, e1, S2⟩ := (S1 60).cell hB (i := 1) (j := 0) (by omega) (by omega)
              unfold maxLen at a3 b3
              have HK := Lib.hid S2
              clear S1 S2 HS5
              go_wp2
              go_ret
              exact (HK.out _).done k6
            · have k2' : ¬ (1 : Int) < (k : Nat) := by omega
              go_wp2
              go_ret
              exact HS5.out.done k6
          have q2' : (v5 == 2) = false := beq_eq_false_iff_ne.2 q2
          obtain ⟨q, cr, a1, a2, a3, ⟨y, c1⟩, f1, -⟩ := HS5.out.cell hB (i := 0) (j := 0) (by omega) (by omega)
          unfold maxLen at a3
          have HC := Lib.hid a1
          clear c1 f1 q0 q1 q2
          go_wp2_with (at_builtin; refine SpS.push rfl Try.underlying28 infoI rfl (.tmp 55) (.tmp 56) rfl _ rfl HC.out rfl HS5.out hB (by omega) k6 ?_; rintro A' l' c' w' ⟨y', c2⟩ f2 hG; have HG := Lib.hid hG; clear hG)
          go_ret
          obtain ⟨E, V', hl, hO, hR, hX⟩ := HG.out
          exact ⟨_, c, V', E, by rw [hl]; rfl, hO, by omega, hR, hX⟩
  · have z' : (v == 0) = false := beq_eq_false_iff_ne.2 z
    clear z v0 v1
    go_wp2_with fail
    obtain ⟨E, hO, hR, hX⟩ := HS.out
    refine (oddU hR n (by omega) (by omega) (by omega)).mono ?_
    rintro e w4 ⟨o, rfl, hR4, hO4⟩
    have HS4 := Lib.hid (HS.out.rd hO4 hR4 hB)
    have HR4 := Lib.hid hR4
    clear hO hR hX hR4 hO4 HS E
    cases o with
    | false =>
      go_wp2
      go_ret
      exact (HS4.out.le (by omega)).done k6
    | true =>
      go_wp2_with fail
      refine (pickU HR4.out 4 (by omega) (by omega) (by omega)).mono ?_
      rintro e w5 ⟨v5, rfl, v50, v51, hR5, hO5⟩
      have HS5 := Lib.hid ((HS4.out.rd hO5 hR5 hB).le (show u + 50 + 1 + 1 + 1 ≤ u + 60 by omega))
      clear hR5 hO5 HS4 HR4
      by_cases q0 : v5 = 0
      · subst q0
        go_wp2
        go_ret
        obtain ⟨E, hO, hR, hX⟩ := HS5.out
        exact ⟨_, 0, V, [], rfl, ObjM.nil _ _ _ _ (Nat.zero_le _) _, by simp, hR.ext (Ext.alloc _ _) (by have := hX.size; omega), hX.alloc _⟩
      have q0' : (v5 == 0) = false := beq_eq_false_iff_ne.2 q0
      by_cases q1 : v5 = 1
      · subst q1
        obtain ⟨q, cr, a1, a2, a3, ⟨y, c1⟩, f1, S1⟩ := HS5.out.cell hB (i := 0) (j := 0) (by omega) (by omega)
        unfold maxLen at a3
        have HK := Lib.hid S1
        clear S1 HS5
        go_wp2
        go_ret
        exact (HK.out _).done k6
      have q1' : (v5 == 1) = false := beq_eq_false_iff_ne.2 q1
      by_cases q2 : v5 = 2
      · subst q2
        by_cases k2 : 1 < k
        · have k2' : (1 : Int) < (k : Nat) := by omega
          obtain ⟨q, cr, a1, a2, a3, ⟨y, c1⟩, f1, S1⟩ := HS5.out.cell hB (i := 0) (j := 1) (by omega) (by omega)
          obtain ⟨p, dr, b1, b2, b3, ⟨z, d1⟩, e1, S2⟩ := (S1 60).cell hB (i := 1) (j := 0) (by omega) (by omega)
          unfold maxLen at a3 b3
          have HK := Lib.hid S2
          clear S1 S2 HS5
          go_wp2
          go_ret
          exact (HK.out _).done k6
        · have k2' : ¬ (1 : Int) < (k : Nat) := by omega
          go_wp2
          go_ret
          exact HS5.out.done k6
      have q2' : (v5 == 2) = false := beq_eq_false_iff_ne.2 q2
      obtain ⟨q, cr, a1, a2, a3, ⟨y, c1⟩, f1, -⟩ := HS5.out.cell hB (i := 0) (j := 0) (by omega) (by omega)
      unfold maxLen at a3
      have HC := Lib.hid a1
      clear c1 f1 q0 q1 q2
      go_wp2_with (at_builtin; refine SpS.push rfl Try.underlying28 infoI rfl (.tmp 55) (.tmp 56) rfl _ rfl HC.out rfl HS5.out hB (by omega) k6 ?_; rintro A' l' c' w' ⟨y', c2⟩ f2 hG; have HG := Lib.hid hG; clear hG)
      go_ret
      obtain ⟨E, V', hl, hO, hR, hX⟩ := HG.out
      exact ⟨_, c, V', E, by rw [hl]; rfl, hO, by omega, hR, hX⟩
end Go.Proofs.Ytpkiodpocggfbaa
