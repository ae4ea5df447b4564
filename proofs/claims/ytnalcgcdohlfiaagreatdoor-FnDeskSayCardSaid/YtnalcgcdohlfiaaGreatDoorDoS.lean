/- What is proved: impl.DeskDo and spec.DeskDo return the desk after a deed. Conditions: those of each contract. -/
import Derived.Test.YtnalcgcdohlfiaaGreatDoorDo
namespace Go.Proofs.YtnalcgcdohlfiaaGreatDoor
open Go.RowKit
theorem From.hi {b : Nat} {w w' : World} {P : World → Prop} (h : From b w P) (k : ∀ q, b ≤ q → q < w.heap.size → w'.heap[q]? = w.heap[q]?) (hs : w.heap.size ≤ w'.heap.size) : From b w' P :=
  fun W hW => h W fun q h1 h2 => (hW q h1 (by omega)).trans (k q h1 h2)
theorem From.set {b : Nat} {w : World} {P : World → Prop} (h : From b w P) {p : Addr} (hp : p.block < b) (u : Value) : From b (w.setCell p u) P :=
  h.hi (fun q h1 _ => Below.heap_setCell _ _ _ _ (by omega)) (by simp [World.setCell])
theorem OwnS.from_ {b : Nat} {w : World} {A : Option Addr} {n c : Nat} {L : List (List (List Int))} {U : Nat → Value} {V : Nat → Nat → Value} (h : OwnS b w (.slice A n c) L U V) : n = L.length ∧ From b w (fun W => MatS W A c L) :=
  ⟨h.mats_of.1, fun _ hW => (h.keep (keepB_of hW)).mats_of.2⟩
theorem OwnM.from_of {b : Nat} {w : World} {A : Option Addr} {n c : Nat} {D : List (List Int)} {V : Nat → Value} (h : OwnM b w (.slice A n c) D V) : n = D.length ∧ From b w (fun W => Mat W A c D) := by
  obtain ⟨A', c', e, hF⟩ := h.from_
  injection e with e1 e2 e3
  subst e1; subst e3
  exact ⟨e2, hF⟩
theorem OwnS.take {b : Nat} {w : World} {A : Option Addr} {n c : Nat} {L : List (List (List Int))} {U : Nat → Value} {V : Nat → Nat → Value} (h : OwnS b w (.slice A n c) L U V) {p : Nat} (hp : p < L.length) : OwnS b w (.slice A p c) (L.take p) U V := by
  obtain ⟨h1, h2, h3⟩ := h
  have hn : n = L.length := (OwnS.mats_of ⟨h1, h2, h3⟩).1
  subst hn
  have hl : (L.take p).length = p := by rw [List.length_take]; omega
  have hll : ((List.range L.length).map U).length = L.length := by simp
  rw [hll] at h1
  refine ⟨?_, fun j hj => ?_, fun i j hi hj hij p' hp' q hq => ?_⟩
  · have hk := own_cut h1 p (by omega) (by omega)
    have e : ((List.range L.length).map U).take p = (List.range (L.take p).length).map U := by
      rw [hl, ← List.map_take, List.take_range, show min p L.length = p by omega]
    rw [e] at hk
    have e2 : ((List.range (L.take p).length).map U).length = p := by rw [List.length_map, List.length_range, hl]
    rw [e2]
    exact hk
  · rw [hl] at hj
    rw [nth_take hj]
    exact h2 j (by omega)
  · rw [hl] at hi hj
    rw [nth_take hi] at hp'
    rw [nth_take hj] at hq
    exact h3 i j (by omega) (by omega) hij p' hp' q hq
/-- what holds wherever the blocks from b on stay, but for the one of v -/
def FromD (b : Nat) (w : World) (v : Value) (P : World → Prop) : Prop := ∀ W : World, (∀ k, b ≤ k → k < w.heap.size → some k ≠ v.ownBlock → W.heap[k]? = w.heap[k]?) → P W
theorem FromD.now {b : Nat} {w : World} {v : Value} {P : World → Prop} (h : FromD b w v P) : P w := h w fun _ _ _ _ => rfl
theorem FromD.low {b b' : Nat} {w : World} {v : Value} {P : World → Prop} (h : FromD b w v P) (k : b' ≤ b) : FromD b' w v P := fun W hW => h W fun q h1 h2 h3 => hW q (by omega) h2 h3
theorem FromD.hi {b : Nat} {w w' : World} {v : Value} {P : World → Prop} (h : FromD b w v P) (k : ∀ q, b ≤ q → q < w.heap.size → some q ≠ v.ownBlock → w'.heap[q]? = w.heap[q]?) (hs : w.heap.size ≤ w'.heap.size) : FromD b w' v P :=
  fun W hW => h W fun q h1 h2 h3 => (hW q h1 (by omega) h3).trans (k q h1 h2 h3)
theorem OwnM.fromD {b : Nat} {w : World} {A : Option Addr} {n c : Nat} {D : List (List Int)} {V : Nat → Value} {v : Value} {L : List (List (List Int))} {U : Nat → Value} {Y : Nat → Nat → Value} (h : OwnM b w (.slice A n c) D V) (hS : OwnS b w v L U Y) : FromD b w v (fun W => Mat W A c D) := by
  intro W hW
  refine ((h.keepR (w' := W) fun g cs t hb hg ht => hW g hb (heap_lt hg) fun e => ?_).from_of).2.now
  rcases hS.1.2 with ⟨rfl, _⟩ | ⟨g', cap, cur, rfl, _, hg', _⟩
  · simp [Value.ownBlock] at e
  · simp [Value.ownBlock] at e
    subst e
    rw [hg] at hg'
    injection hg' with hg'
    injection hg' with _ e2
    rcases ht with h | h <;> (rw [h] at e2; exact absurd e2 (by decide))
theorem from_self (b : Nat) (w : World) : From b w (fun W => ∀ k, b ≤ k → k < w.heap.size → W.heap[k]? = w.heap[k]?) := fun _ hW => hW
theorem fromD_push {b0 b : Nat} {W0 w9 wf : World} {v v9 : Value} {P : World → Prop} (hF : From b W0 P) (hb : Beside v W0 w9 ∧ Stays v v9 W0.heap.size) (hv : ∀ g, v.ownBlock = some g → g < b) (hk : ∀ k, b ≤ k → k < w9.heap.size → wf.heap[k]? = w9.heap[k]?) (hz : w9.heap.size ≤ wf.heap.size) (h0 : b0 ≤ b) : FromD b0 wf v9 P := by
  intro W hW
  refine hF W fun k h1 h2 => ?_
  have hs := hb.1.1
  have hne : some k ≠ v.ownBlock := fun e => by have := hv k e.symm; omega
  have hne9 : some k ≠ v9.ownBlock := by
    intro e
    rcases hb.2 with q | q
    · exact hne (e.trans q)
    · rw [q] at e
      injection e with e
      omega
  exact ((hW k (by omega) (by omega) hne9).trans (hk k h1 (by omega))).trans (hb.1.2 k h2 hne)
/-- a desk to be read, and a Bool, handed back; its spaces of before of one's own, if they are fewer than eight -/
def DoS (w : World) (D : List (List Int)) (L : List (List (List Int))) (b : Bool) (e : Ending) (w' : World) : Prop :=
  ∃ A c B d, e = .returned (.tuple #[.agg #[.slice A (List.length D) c, .slice B (List.length L) d], .bool b]) ∧ From w.heap.size w' (fun W => Mat W A c D ∧ MatS W B d L) ∧ Ext w w' ∧ (L.length ≤ 7 → ∃ U V, OwnS w.heap.size w' (.slice B L.length d) L U V ∧ FromD w.heap.size w' (.slice B L.length d) (fun W => Mat W A c D))
theorem zero_desk (w : World) : OwnDk w.heap.size w (.agg #[.slice none 0 0, .slice none 0 0]) [] [] :=
  ⟨_, _, fun _ => .slice none 0 0, fun _ => .slice none 0 0, fun _ _ => .slice none 0 0, rfl, ⟨World.ownsRow_nil _ _ _ _, fun i hi => absurd hi (by simp), fun i j hi => absurd hi (by simp), fun i hi => absurd hi (by simp)⟩, OwnS.nil _ _ _ _, fun p hp => absurd hp (by simp)⟩
theorem zero_desk' (b : Nat) (w : World) : OwnDk b w (.agg #[.slice none 0 0, .slice none 0 0]) [] [] :=
  ⟨_, _, fun _ => .slice none 0 0, fun _ => .slice none 0 0, fun _ _ => .slice none 0 0, rfl, ⟨World.ownsRow_nil _ _ _ _, fun i hi => absurd hi (by simp), fun i j hi => absurd hi (by simp), fun i hi => absurd hi (by simp)⟩, OwnS.nil _ _ _ _, fun p hp => absurd hp (by simp)⟩
/-- the desk after a deed; the zero value for what is no desk -/
def vB (D : List (List Int)) (L : List (List (List Int))) (kind : Int) (xs : List Int) : Bool := deskB D L && doB D L kind xs
def vD (D : List (List Int)) (L : List (List (List Int))) (kind : Int) (xs : List Int) : List (List Int) := if deskB D L = true then doD D L kind xs else []
def vL (D : List (List Int)) (L : List (List (List Int))) (kind : Int) (xs : List Int) : List (List (List Int)) := if deskB D L = true then doL D L kind xs else []
theorem keepB_set1 {b m j : Nat} {w : World} {x y : Value} (hb : w.heap[m]? = some (.cells #[x, y] 26 (0, 0))) (u : Value) : KeepB b w (w.setCell ⟨m, j, none⟩ u) := KeepB.set (p := ⟨m, j, none⟩) hb (by decide) u
theorem OwnDk.both {b : Nat} {w : World} {A B : Option Addr} {n c m d : Nat} {D : List (List Int)} {L : List (List (List Int))} (h : OwnDk b w (.agg #[.slice A n c, .slice B m d]) D L) :
    ∃ Z U V, OwnM b w (.slice A n c) D Z ∧ OwnS b w (.slice B m d) L U V ∧ ∀ p, p < D.length → ∀ j, j < L.length → ∀ q, q < (nth L j).length → ∀ g ∈ lb (Z p), g ∉ lb (V j q) := by
  obtain ⟨v1, v2, Z, U, V, he, hM, hS, hcr⟩ := h
  obtain ⟨rfl, rfl⟩ : Value.slice A n c = v1 ∧ Value.slice B m d = v2 := by
    injection he with he
    injection he with he
    injection he with he1 he2
    injection he2 with he2 _
    exact ⟨he1, he2⟩
  exact ⟨Z, U, V, hM, hS, hcr⟩
theorem OwnDk.do_s {w w' : World} {A B : Option Addr} {n c m d : Nat} {D : List (List Int)} {L : List (List (List Int))} {b : Bool} (h : OwnDk w.heap.size w' (.agg #[.slice A n c, .slice B m d]) D L) (hx : Ext w w') : DoS w D L b (.returned (.tuple #[.agg #[.slice A n c, .slice B m d], .bool b])) w' := by
  obtain ⟨Z, U, V, hM, hS, -⟩ := h.both
  obtain ⟨rfl, f1⟩ := hM.from_of
  obtain ⟨rfl, f2⟩ := hS.from_
  exact ⟨A, c, B, d, rfl, f1.and f2, hx, fun _ => ⟨U, V, hS, hM.fromD hS⟩⟩
set_option maxRecDepth 100000 in
set_option maxHeartbeats 4000000 in
theorem sDeskDo_any (A B : Option Addr) (c d : Nat) (D : List (List Int)) (L : List (List (List Int))) (kind : Int) (X : Option Addr) (cx : Nat) (xs : List Int) (w : World) (h1 : Mat w A c D) (h2 : MatS w B d L) (hx : Ints w X cx xs) :
    Calls Tryz.prog 27 #[.agg #[.slice A D.length c, .slice B L.length d], .agg #[.int .i64 kind, .slice X xs.length cx]] w (DoS w (vD D L kind xs) (vL D L kind xs) (vB D L kind xs)) := by
  have H1 := Lib.hid h1
  have H2 := Lib.hid h2
  have HX := Lib.hid hx
  have hcx := hx.2.1
  have hlx := hx.1
  unfold maxLen at hcx
  have HDK := Lib.hid (fun W (q1 : Mat W A c D) (q2 : MatS W B d L) => sDeskOk_any A B c d D L W q1 q2)
  clear h1 h2 hx
  cases hd : deskB D L with
  | false =>
    have HF := Lib.hid (show vB D L kind xs = false ∧ vD D L kind xs = [] ∧ vL D L kind xs = [] from ⟨by unfold vB; rw [hd]; rfl, by unfold vD; rw [hd]; rfl, by unfold vL; rw [hd]; rfl⟩)
    rw [hd] at HDK
    clear hd
    go_enter Tryz.func27, Tryz.ntmps27
    go_wp2_with fail
    refine (HDK.out _ (H1.out.ext (by repeat (first | exact Ext.refl _ | assumption | apply Ext.drewN' | apply Ext.alloc' | refine Ext.trans ?_ (by assumption)))) (H2.out.ext (by repeat (first | exact Ext.refl _ | assumption | apply Ext.drewN' | apply Ext.alloc' | refine Ext.trans ?_ (by assumption))))).mono ?_
    rintro e w1 ⟨rfl, hx1⟩
    obtain ⟨b0, b1, b2, hw1, sz1⟩ := three_more hx1
    obtain ⟨t1, t2, t3, t4, t5, t6, t7⟩ := keepB_set2 (b := w.heap.size) b2 (.slice none 0 0) (.slice none 0 0)
    have HFIN := Lib.hid (OwnDk.do_s (b := false) (zero_desk' w.heap.size ((w1.setCell ⟨w.heap.size + 1 + 1, 0, none⟩ (.slice none 0 0)).setCell ⟨w.heap.size + 1 + 1, 1, none⟩ (.slice none 0 0))) ((hw1.setCell' (p := ⟨w.heap.size + 1 + 1, 0, none⟩) (by show w.heap.size ≤ w.heap.size + 1 + 1; omega) (.slice none 0 0)).setCell' (p := ⟨w.heap.size + 1 + 1, 1, none⟩) (by show w.heap.size ≤ w.heap.size + 1 + 1; omega) (.slice none 0 0)))
    clear b0 b1 b2 hw1 sz1 t7 hx1
    go_wp2
    refine bodyPost_ret (v := .tuple #[.agg #[.slice none 0 0, .slice none 0 0], .bool false]) (by simp [results, Tryz.results27, go_sem, t5, t6]) rfl ?_
    rw [HF.out.1, HF.out.2.1, HF.out.2.2]
    exact HFIN.out
  | true =>
  have HFF := Lib.hid (show vB D L kind xs = doB D L kind xs ∧ vD D L kind xs = doD D L kind xs ∧ vL D L kind xs = doL D L kind xs from ⟨by unfold vB; rw [hd]; rfl, by unfold vD; rw [hd]; rfl, by unfold vL; rw [hd]; rfl⟩)
  have HCP := Lib.hid (fun W (q1 : Mat W A c D) (q2 : MatS W B d L) => l11Copy_any A B c d D L W q1 q2 (deskB_sm hd))
  have HDB := Lib.hid hd
  rw [hd] at HDK
  clear hd
  go_enter Tryz.func27, Tryz.ntmps27
  go_wp2_with fail
  refine (HDK.out _ (H1.out.ext (by repeat (first | exact Ext.refl _ | assumption | apply Ext.drewN' | apply Ext.alloc' | refine Ext.trans ?_ (by assumption)))) (H2.out.ext (by repeat (first | exact Ext.refl _ | assumption | apply Ext.drewN' | apply Ext.alloc' | refine Ext.trans ?_ (by assumption))))).mono ?_
  rintro e w0 ⟨rfl, hx0⟩
  obtain ⟨a0, a1, a2, hw0, sz0⟩ := three_more hx0
  obtain ⟨y0, y1⟩ := two_cells a0
  go_wp2_with fail
  refine (HCP.out _ (H1.out.ext hw0) (H2.out.ext hw0)).mono ?_
  rintro e w1 ⟨v1, rfl, hO1, hx1⟩
  obtain ⟨A1, c1, B1, d1, rfl, hM1, hS1, ⟨l1, l2⟩, l3, l4⟩ := hO1.split
  have b0 := (hx1.block (heap_lt a0)).trans a0
  have b1 := (hx1.block (heap_lt a1)).trans a1
  have b2 := (hx1.block (heap_lt a2)).trans a2
  have hw1 := hw0.trans hx1
  have sz1 : w.heap.size + 3 ≤ w1.heap.size := by have := hx1.size; omega
  unfold maxLen at l2 l4
  obtain ⟨wz, hwz⟩ : ∃ wz, w1.alloc (.cells #[.slice A1 D.length c1, .slice B1 L.length d1] 26) = wz := ⟨_, rfl⟩
  have hwn : Ext w1 wz := by rw [← hwz]; exact Ext.alloc _ _
  have m0 : wz.heap[w.heap.size]? = some (.cells #[.slice A D.length c, .slice B L.length d] 26 (0, 0)) := (hwn.block (by omega)).trans b0
  have m1 : wz.heap[w.heap.size + 1]? = some (.cells #[.int .i64 kind, .slice X xs.length cx] 54 (0, 0)) := (hwn.block (by omega)).trans b1
  have m2 : wz.heap[w.heap.size + 1 + 1]? = some (.cells #[.slice none 0 0, .slice none 0 0] 26 (0, 0)) := (hwn.block (by omega)).trans b2
  have m6 : wz.heap[w1.heap.size]? = some (.cells #[.slice A1 D.length c1, .slice B1 L.length d1] 26 (0, 0)) := by rw [← hwz]; exact heap_alloc_new w1 _
  have HO := Lib.hid (show OwnDk w.heap.size wz (.agg #[.slice A1 D.length c1, .slice B1 L.length d1]) D L from (hO1.low hw0.size).keep (KeepB.of_ext hwn))
  have HWZ := Lib.hid (hw1.trans hwn)
  have hsz : w.heap.size + 3 ≤ w1.heap.size := sz1
  have hszz : w1.heap.size < wz.heap.size := heap_lt m6
  obtain ⟨M6, hM6⟩ : ∃ M6, w1.heap.size = M6 := ⟨_, rfl⟩
  rw [hM6] at m6 hsz hszz
  obtain ⟨p0, p1⟩ := two_cells m0
  obtain ⟨d0, d1'⟩ := two_cells m1
  obtain ⟨s0, s1⟩ := two_cells m6
  obtain ⟨r1, r2, r3, r4, r5, r6, r7⟩ := keepB_set2 (b := w.heap.size) m2 (.slice A1 D.length c1) (.slice B1 L.length d1)
  have HSAME := Lib.hid (OwnDk.do_s (b := false) (HO.out.keep r7) ((HWZ.out.setCell' (p := ⟨w.heap.size + 1 + 1, 0, none⟩) (by show w.heap.size ≤ w.heap.size + 1 + 1; omega) (.slice A1 D.length c1)).setCell' (p := ⟨w.heap.size + 1 + 1, 1, none⟩) (by show w.heap.size ≤ w.heap.size + 1 + 1; omega) (.slice B1 L.length d1)))
  have HM0 := Lib.hid m0
  have HM2 := Lib.hid m2
  have HM6 := Lib.hid m6
  have HV := Lib.hid (show doB D L kind xs = if kind = 4 ∧ xs.length = 0 then decide (0 < L.length) else madeB D kind xs && decide (madeV D kind xs ≠ D) from rfl)
  have HVD := Lib.hid (show doD D L kind xs = if kind = 4 ∧ xs.length = 0 then (if 0 < L.length then nth L (L.length - 1) else D) else if doB D L kind xs = true then madeV D kind xs else D from rfl)
  have HVL := Lib.hid (show doL D L kind xs = if kind = 4 ∧ xs.length = 0 then L.take (L.length - 1) else if doB D L kind xs = true then pushL L D else L from rfl)
  have HDN := Lib.hid H2.out.2.1
  have HDN0 := Lib.hid H2.out.1
  have hDN := HDN.out
  unfold maxLen at hDN
  clear a0 a1 a2 b0 b1 b2 hx1 hO1 hw1 hwn m0 m1 m2 m6 sz1 r7 y0 y1 hx0 hw0 sz0
  by_cases hk : (kind = 4 ∧ xs.length = 0) ∧ 0 < L.length
  · obtain ⟨⟨hk1, hk2⟩, h0⟩ := hk
    rw [if_pos ⟨hk1, hk2⟩] at HV HVD HVL
    have k1 : (kind == 4) = true := beq_iff_eq.2 hk1
    have k2 : ((xs.length : Int) == 0) = true := beq_iff_eq.2 (by omega)
    clear hk1 hk2
    obtain ⟨p, hp⟩ : ∃ p, L.length = p + 1 := ⟨L.length - 1, by omega⟩
    have HF := Lib.hid (show doB D L kind xs = true ∧ doD D L kind xs = nth L p ∧ doL D L kind xs = L.take p from ⟨by rw [HV.out, decide_eq_true h0], by rw [HVD.out, if_pos h0, hp]; rfl, by rw [HVL.out, hp]; rfl⟩)
    have hl8 := (deskB_parts HDB.out).2.1
    obtain ⟨Z, U, V, hM, hS, -⟩ := HO.out.both
    obtain ⟨B', d', hB', -, -, hg⟩ := hS.parts
    injection hB' with e1 e2 e3
    subst e1; subst e3
    obtain ⟨gS, rfl, hgb, ⟨cur, hcur⟩, hgc⟩ := hg (by omega)
    have c9 := hgc p (by omega)
    obtain ⟨Rp, cp, hUp, -⟩ := (hS.2.1 p (by omega)).mat
    rw [hUp] at c9
    have hT : OwnS w.heap.size wz (.slice (some ⟨gS, 0, none⟩) p d1) (L.take p) U V := hS.take (by omega)
    have hUM : OwnM w.heap.size wz (.slice Rp (nth L p).length cp) (nth L p) (V p) := by rw [← hUp]; exact hS.2.1 p (by omega)
    rw [hp] at l3 p1 s1
    have hwz' := hwz
    rw [hp] at hwz'
    have hcast : ((p + 1 : Nat) : Int) = (p : Int) + 1 := by omega
    have hlt1 : (p : Int) < (p : Int) + 1 := by omega
    have hle1 : (p : Int) ≤ (d1 : Nat) := by omega
    have hle2 : (0 : Int) ≤ (p : Int) := by omega
    have hle3 : (0 : Int) < (p : Int) + 1 := by omega
    have HTL := Lib.hid (show (L.take p).length = p by rw [List.length_take]; omega)
    -- the copy turned
    have h6 := HM6.out
    rw [hp] at h6
    obtain ⟨x1, x2, x3, x4, x5, x6, x7⟩ := keepB_set2 (b := w.heap.size) h6 (.slice Rp (nth L p).length cp) (.slice (some ⟨gS, 0, none⟩) p d1)
    obtain ⟨W2, hW2⟩ : ∃ W2, (wz.setCell ⟨M6, 0, none⟩ (.slice Rp (nth L p).length cp)).setCell ⟨M6, 1, none⟩ (.slice (some ⟨gS, 0, none⟩) p d1) = W2 := ⟨_, rfl⟩
    have hb2 : W2.heap[w.heap.size + 1 + 1]? = some (.cells #[.slice none 0 0, .slice none 0 0] 26 (0, 0)) := by
      rw [← hW2]
      exact set_far (set_far HM2.out (by show w.heap.size + 1 + 1 ≠ M6; omega)) (by show w.heap.size + 1 + 1 ≠ M6; omega)
    have hxw : Ext w W2 := by
      rw [← hW2]
      exact (HWZ.out.setCell' (p := ⟨M6, 0, none⟩) (by show w.heap.size ≤ M6; omega) _).setCell' (p := ⟨M6, 1, none⟩) (by show w.heap.size ≤ M6; omega) _
    rw [hW2] at x5 x6 x7
    obtain ⟨t1, t2, t3, t4, t5, t6, t7⟩ := keepB_set2 (b := w.heap.size) hb2 (.slice Rp (nth L p).length cp) (.slice (some ⟨gS, 0, none⟩) p d1)
    have c9a := (show (wz.setCell ⟨M6, 0, none⟩ (.slice Rp (nth L p).length cp)).cell? ⟨M6, 1, none⟩ = some (.slice (some ⟨gS, 0, none⟩) (p + 1) d1) from x3)
    have HFIN := Lib.hid (show DoS w (nth L p) (L.take p) true (.returned (.tuple #[.agg #[.slice Rp (nth L p).length cp, .slice (some ⟨gS, 0, none⟩) p d1], .bool true])) ((W2.setCell ⟨w.heap.size + 1 + 1, 0, none⟩ (.slice Rp (nth L p).length cp)).setCell ⟨w.heap.size + 1 + 1, 1, none⟩ (.slice (some ⟨gS, 0, none⟩) p d1)) from by
      have kk := x7.trans t7
      exact ⟨Rp, cp, some ⟨gS, 0, none⟩, d1, by rw [HTL.out], ((hUM.keep kk).from_of.2).and ((hT.keep kk).from_.2), (hxw.setCell' (p := ⟨w.heap.size + 1 + 1, 0, none⟩) (by show w.heap.size ≤ w.heap.size + 1 + 1; omega) _).setCell' (p := ⟨w.heap.size + 1 + 1, 1, none⟩) (by show w.heap.size ≤ w.heap.size + 1 + 1; omega) _, fun _ => ⟨U, V, by rw [HTL.out]; exact ⟨hT.keep kk, (hUM.keep kk).fromD (hT.keep kk)⟩⟩⟩)
    obtain ⟨ln, hln⟩ : ∃ n, (nth L p).length = n := ⟨_, rfl⟩
    simp only [hln] at c9 x3 x4 x5 x6 c9a t3 t4 t5 t6 HFIN hW2
    clear hM hS hT hUM hg hcur hgc hUp x7 t7 hM1 hS1 HV HVD HVL h0 HSAME hb2 hxw hln h6
    rw [hp]
    go_wp2
    refine bodyPost_ret (v := .tuple #[.agg #[.slice Rp ln cp, .slice (some ⟨gS, 0, none⟩) p d1], .bool true]) (by simp [results, Tryz.results27, go_sem, t5, t6]) rfl ?_
    rw [HFF.out.1, HFF.out.2.1, HFF.out.2.2, HF.out.1, HF.out.2.1, HF.out.2.2]
    exact HFIN.out
  · have hnot : ¬ (kind = 4 ∧ xs.length = 0) ∨ (L = [] ∧ kind = 4) := by
      by_cases q : kind = 4 ∧ xs.length = 0
      · exact .inr ⟨List.eq_nil_of_length_eq_zero (by have : ¬ 0 < L.length := fun r => hk ⟨q, r⟩; omega), q.1⟩
      · exact .inl q
    -- nothing is done by kind 4 without spaces of before
    have HVX := Lib.hid (show doB D L kind xs = (madeB D kind xs && decide (madeV D kind xs ≠ D)) ∧ doD D L kind xs = (if doB D L kind xs = true then madeV D kind xs else D) ∧ doL D L kind xs = (if doB D L kind xs = true then pushL L D else L) from by
      rcases hnot with q | ⟨q1, q2⟩
      · exact ⟨by rw [HV.out, if_neg q], by rw [HVD.out, if_neg q], by rw [HVL.out, if_neg q]⟩
      · by_cases q : kind = 4 ∧ xs.length = 0
        · have h4 : madeB D kind xs = false := by
            unfold madeB
            rw [if_neg (by omega), if_neg (by omega), if_neg (by omega), if_neg (by omega)]
          have hb : doB D L kind xs = false := by rw [HV.out, if_pos q, q1]; rfl
          exact ⟨by rw [hb, h4]; rfl, by rw [hb, HVD.out, if_pos q, q1]; rfl, by rw [hb, HVL.out, if_pos q, q1]; rfl⟩
        · exact ⟨by rw [HV.out, if_neg q], by rw [HVD.out, if_neg q], by rw [HVL.out, if_neg q]⟩)
    have hr : (kind == 4) = false ∨ ((kind == 4) = true ∧ ((xs.length : Int) == 0) = false) ∨ ((kind == 4) = true ∧ ((xs.length : Int) == 0) = true ∧ ¬ (0 : Int) < (L.length : Nat)) := by
      by_cases q : kind = 4
      · by_cases q2 : xs.length = 0
        · exact .inr (.inr ⟨beq_iff_eq.2 q, beq_iff_eq.2 (by omega), fun r => hk ⟨⟨q, q2⟩, by omega⟩⟩)
        · exact .inr (.inl ⟨beq_iff_eq.2 q, beq_eq_false_iff_ne.2 (by omega)⟩)
      · exact .inl (beq_eq_false_iff_ne.2 q)
    have HNS := Lib.hid (fun W (q : Ext w W) => l11Made_any A c D kind X cx xs W (H1.out.ext q) (HX.out.ext q) (deskB_parts HDB.out).1)
    have HSP := Lib.hid (fun (q : madeB D kind xs = true) => made_sp (deskB_parts HDB.out).1 q)
    have HSD := Lib.hid (farB_parts (spB_far (deskB_parts HDB.out).1)).2.1
    have h8 := (deskB_parts HDB.out).2.1
    have HXW := Lib.hid (show ∀ W, Ext wz W → W.heap[w.heap.size]? = some (.cells #[.slice A D.length c, .slice B L.length d] 26 (0, 0)) ∧ W.heap[w.heap.size + 1 + 1]? = some (.cells #[.slice none 0 0, .slice none 0 0] 26 (0, 0)) ∧ W.heap[M6]? = some (.cells #[.slice A1 D.length c1, .slice B1 L.length d1] 26 (0, 0)) from
      fun W q => ⟨(q.block (heap_lt HM0.out)).trans HM0.out, (q.block (heap_lt HM2.out)).trans HM2.out, (q.block (heap_lt HM6.out)).trans HM6.out⟩)
    obtain ⟨mb, hmb⟩ : ∃ b, madeB D kind xs = b := ⟨_, rfl⟩
    obtain ⟨E, hE⟩ : ∃ E, madeV D kind xs = E := ⟨_, rfl⟩
    rw [hmb, hE] at HVX HNS
    rw [hmb, hE] at HSP
    clear hk hM1 hS1 hmb hE HV HVD HVL hnot
    rcases hr with hr | ⟨hr, hr2⟩ | ⟨hr, hr2, hr3⟩
    all_goals
      go_wp2_with fail
      refine (HNS.out wz HWZ.out).mono ?_
      rintro e w2 ⟨A2, c2, rfl, hF2, hx2⟩
      have HF2 := Lib.hid hF2
      obtain ⟨n0, n2, n6⟩ := HXW.out w2 hx2
      obtain ⟨p0', p1'⟩ := two_cells n0
      obtain ⟨s0', s1'⟩ := two_cells n6
      have hE2 := hF2.now.2.1
      have hE1 := hF2.now.1
      unfold maxLen at hE2
      cases mb with
      | false =>
        have HF := Lib.hid (show doB D L kind xs = false ∧ doD D L kind xs = D ∧ doL D L kind xs = L from by
          have hb : doB D L kind xs = false := HVX.out.1
          exact ⟨hb, by rw [HVX.out.2.1, hb]; rfl, by rw [HVX.out.2.2, hb]; rfl⟩)
        obtain ⟨t1, t2, t3, t4, t5, t6, t7⟩ := keepB_set2 (b := w.heap.size) n2 (.slice A1 D.length c1) (.slice B1 L.length d1)
        have HFIN := Lib.hid (OwnDk.do_s (b := false) ((HO.out.keep (KeepB.of_ext hx2)).keep t7) (((HWZ.out.trans hx2).setCell' (p := ⟨w.heap.size + 1 + 1, 0, none⟩) (by show w.heap.size ≤ w.heap.size + 1 + 1; omega) (.slice A1 D.length c1)).setCell' (p := ⟨w.heap.size + 1 + 1, 1, none⟩) (by show w.heap.size ≤ w.heap.size + 1 + 1; omega) (.slice B1 L.length d1)))
        clear hF2 n0 n2 n6 t7 HVX HSAME
        go_wp2
        refine bodyPost_ret (v := .tuple #[.agg #[.slice A1 D.length c1, .slice B1 L.length d1], .bool false]) (by simp [results, Tryz.results27, go_sem, t5, t6]) rfl ?_
        rw [HFF.out.1, HFF.out.2.1, HFF.out.2.2, HF.out.1, HF.out.2.1, HF.out.2.2]
        exact HFIN.out
      | true =>
        have HSPE := Lib.hid (HSP.out (by first | rfl | trivial))
        have HSQE := Lib.hid (farB_parts (spB_far HSPE.out)).2.1
        -- is it the same?
        by_cases hEL : E.length = D.length
        · have eL : ((E.length : Int) == (D.length : Nat)) = true := beq_iff_eq.2 (by omega)
          have HC2 := Lib.hid (l7Same_any A2 A c2 c D.length E D w2 HF2.out.now (H1.out.ext (HWZ.out.trans hx2)) hEL rfl HSQE.out HSD.out)
          rw [samQ_eq hEL rfl (fun i hi => by rw [HSQE.out i (by omega), hEL]) (fun i hi => HSD.out i hi)] at HC2
          have HEL := Lib.hid hEL
          rw [hEL] at hE1 ⊢
          clear hF2 hEL
          by_cases hz : E = D
          · rw [decide_eq_true hz] at HC2
            have HF := Lib.hid (show doB D L kind xs = false ∧ doD D L kind xs = D ∧ doL D L kind xs = L from by
              have hb : doB D L kind xs = false := by rw [HVX.out.1, decide_eq_false (fun q => q hz)]; rfl
              exact ⟨hb, by rw [HVX.out.2.1, hb]; rfl, by rw [HVX.out.2.2, hb]; rfl⟩)
            go_wp2_with fail
            refine HC2.out.mono ?_
            rintro e w3 ⟨rfl, m3, rfl⟩
            have hx3 : Ext wz (w2.drewN m3) := hx2.drewN' _
            obtain ⟨t1, t2, t3, t4, t5, t6, t7⟩ := keepB_set2 (b := w.heap.size) (show (w2.drewN m3).heap[w.heap.size + 1 + 1]? = _ from n2) (.slice A1 D.length c1) (.slice B1 L.length d1)
            have HFIN := Lib.hid (OwnDk.do_s (b := false) ((HO.out.keep (KeepB.of_ext hx3)).keep t7) (((HWZ.out.trans hx3).setCell' (p := ⟨w.heap.size + 1 + 1, 0, none⟩) (by show w.heap.size ≤ w.heap.size + 1 + 1; omega) (.slice A1 D.length c1)).setCell' (p := ⟨w.heap.size + 1 + 1, 1, none⟩) (by show w.heap.size ≤ w.heap.size + 1 + 1; omega) (.slice B1 L.length d1)))
            clear n0 n2 n6 t7 HVX HSAME hz
            go_wp2
            refine bodyPost_ret (v := .tuple #[.agg #[.slice A1 D.length c1, .slice B1 L.length d1], .bool false]) (by simp [results, Tryz.results27, go_sem, t5, t6]) rfl ?_
            rw [HFF.out.1, HFF.out.2.1, HFF.out.2.2, HF.out.1, HF.out.2.1, HF.out.2.2]
            exact HFIN.out
          · rw [decide_eq_false hz] at HC2
            go_wp2_with fail
            refine HC2.out.mono ?_
            rintro e w3 ⟨rfl, m3, rfl⟩
            have hx3 : Ext wz (w2.drewN m3) := hx2.drewN' _
            have hx3z : Ext w2 (w2.drewN m3) := Ext.drewN _ _
            have HF := Lib.hid (show doB D L kind xs = true ∧ doD D L kind xs = E ∧ doL D L kind xs = pushL L D from by
              have hb : doB D L kind xs = true := HVX.out.1.trans (by rw [Bool.true_and]; exact decide_eq_true hz)
              exact ⟨hb, by rw [HVX.out.2.1, hb]; rfl, by rw [HVX.out.2.2, hb]; rfl⟩)
            obtain ⟨Zo, U, V, hM, hS, hcr⟩ := HO.out.both
            have HOW := Lib.hid (fun g hg => (hS.1.lt g hg).2)
            obtain ⟨WA, hWA⟩ : ∃ W, w2.drewN m3 = W := ⟨_, rfl⟩
            rw [hWA] at hx3 hx3z
            have kb := KeepB.of_ext (b := w.heap.size) (hx3.trans (Ext.alloc WA (.cells #[.slice A1 D.length c1] 23)))
            have HPU := Lib.hid (fun ty => ownS_pushS (P := Tryz.prog) (w0 := w) (ty := ty) (T := 24) rfl Tryz.underlying24 infoM (ad := ⟨WA.heap.size, 0, none⟩) (c := 1) rfl (cell_new0 WA (.slice A1 D.length c1) _) (HWZ.out.trans (hx3.trans (Ext.alloc _ _))) (hS.keep kb) (hM.keep kb) hcr (by omega))
            obtain ⟨g0, g2, g6⟩ := HXW.out (WA.alloc (.cells #[.slice A1 D.length c1] 23)) (hx3.trans (Ext.alloc _ _))
            have HG2 := Lib.hid g2
            have HG6 := Lib.hid g6
            have HFX := Lib.hid (HF2.out.ext (hx3z.trans (Ext.alloc WA (.cells #[.slice A1 D.length c1] 23))))
            have HWX := Lib.hid (HWZ.out.trans hx3)
            obtain ⟨q0, q1⟩ := two_cells (HXW.out WA hx3).2.2
            have q2 := frozen_cells (HXW.out WA hx3).2.2 1
            rw [hWA]
            clear hM hS hcr kb n0 n2 n6 g0 g2 g6 HVX HSAME hz p0' p1' s0' s1' hx2 hx3 hx3z hWA
            by_cases h9 : 8 < L.length + 1
            · first
              | (exfalso; omega)
              | (have h9' : (8 : Int) < (L.length : Nat) + 1 := by omega
                 have hn1 : (1 : Int) ≤ (L.length : Nat) + 1 := by omega
                 have HPL := Lib.hid (show pushL L D = (L ++ [D]).drop 1 from if_pos (by rw [List.length_append, List.length_singleton]; exact h9))
                 have HPN := Lib.hid (show ((L ++ [D]).drop 1).length = L.length by rw [List.length_drop, List.length_append, List.length_singleton]; omega)
                 go_wp2_with (at_builtin; refine wpList_ex rfl _ _ rfl (.slice B1 L.length d1) (.slice (some ⟨_, 0, none⟩) 1 1) rfl rfl (HPU.out _) ?_; rintro v9 w9 ⟨hx9, hS9, hsz9, hk9, hb9, hst9⟩; have HB9 := Lib.hid (And.intro hb9 hst9); obtain ⟨A9, c9, hv9, hl9, hm9, hA9⟩ := hS9.parts; rw [List.length_append, List.length_singleton] at hv9 hl9 hA9; subst hv9; obtain ⟨g9, rfl, -⟩ := hA9 (by omega); unfold maxLen at hm9; have hc9 : ((L.length : Nat) : Int) + 1 ≤ (c9 : Nat) := (by omega); have HFE := Lib.hid ((HFX.out.hi (w' := w9) (fun k hk1 hk2 => hb9.2 k hk2 (fun e => by have := HOW.out k e.symm; omega)) hsz9).and (from_self wz.heap.size w9)); have e6 := (hk9 _ _ _ _ HG6.out (by decide)).trans HG6.out; have e2 := (hk9 _ _ _ _ HG2.out (by decide)).trans HG2.out; have HX9 := Lib.hid hx9; have HS9 := Lib.hid hS9; obtain ⟨y0, y1⟩ := two_cells e6; have y2 := frozen_cells e6 1; have y3 := frozen_cells e6 0; have e6a := set_1 (u := .slice (some ⟨g9, 0, none⟩) (L.length + 1) c9) e6; obtain ⟨ya0, ya1⟩ := two_cells e6a; have ya2 := frozen_cells e6a 1; have ya3 := frozen_cells e6a 0; have e6b := set_1 (u := .slice (some ⟨g9, 1, none⟩) L.length (c9 - 1)) e6a; obtain ⟨yb0, yb1⟩ := two_cells e6b; have yb2 := frozen_cells e6b 1; have yb3 := frozen_cells e6b 0; have e6c := set_0 (u := .slice A2 D.length c2) e6b; obtain ⟨yc0, yc1⟩ := two_cells e6c; have yc2 := frozen_cells e6c 1; have yc3 := frozen_cells e6c 0; obtain ⟨WF, hWF⟩ : ∃ W, ((w9.setCell ⟨M6, 1, none⟩ (.slice (some ⟨g9, 0, none⟩) (L.length + 1) c9)).setCell ⟨M6, 1, none⟩ (.slice (some ⟨g9, 1, none⟩) L.length (c9 - 1))).setCell ⟨M6, 0, none⟩ (.slice A2 D.length c2) = W := ⟨_, rfl⟩; have HWF := Lib.hid hWF; have e2c : WF.heap[w.heap.size + 1 + 1]? = some (.cells #[.slice none 0 0, .slice none 0 0] 26 (0, 0)) := (by rw [← hWF]; exact set_far (set_far (set_far e2 (by show w.heap.size + 1 + 1 ≠ M6; omega)) (by show w.heap.size + 1 + 1 ≠ M6; omega)) (by show w.heap.size + 1 + 1 ≠ M6; omega)); obtain ⟨t1, t2, t3, t4, t5, t6, t7⟩ := keepB_set2 (b := w.heap.size) e2c (.slice A2 D.length c2) (.slice (some ⟨g9, 1, none⟩) L.length (c9 - 1)); rw [hWF] at yc0 yc1; have HE2C := Lib.hid e2c; have HE6 := Lib.hid (And.intro e6 (And.intro e6a e6b)); have HT7 := Lib.hid t7; have HSZ9 := Lib.hid hsz9; clear hx9 hS9 hsz9 hk9 hb9 hst9 e6 e2 e6a e6b e6c e2c t7 hA9)
                 refine bodyPost_ret (v := .tuple #[.agg #[.slice A2 D.length c2, .slice (some ⟨g9, 1, none⟩) L.length (c9 - 1)], .bool true]) (by simp [results, Tryz.results27, go_sem, t5, t6]) rfl ?_
                 have k6 := ((keepB_set1 (b := w.heap.size) (j := 1) HE6.out.1 (.slice (some ⟨g9, 0, none⟩) (L.length + 1) c9)).trans (keepB_set1 (j := 1) HE6.out.2.1 (.slice (some ⟨g9, 1, none⟩) L.length (c9 - 1)))).trans (keepB_set1 (j := 0) HE6.out.2.2 (.slice A2 D.length c2))
                 rw [HWF.out] at k6
                 have fE : From w.heap.size ((WF.setCell ⟨w.heap.size + 1 + 1, 0, none⟩ (.slice A2 D.length c2)).setCell ⟨w.heap.size + 1 + 1, 1, none⟩ (.slice (some ⟨g9, 1, none⟩) L.length (c9 - 1))) (fun W => Mat W A2 c2 E ∧ ∀ k, wz.heap.size ≤ k → k < w9.heap.size → W.heap[k]? = w9.heap[k]?) := by
                   rw [← HWF.out]
                   refine From.low (b := wz.heap.size) (((((HFE.out.set (p := ⟨M6, 1, none⟩) ?_ _).set (p := ⟨M6, 1, none⟩) ?_ _).set (p := ⟨M6, 0, none⟩) ?_ _).set (p := ⟨w.heap.size + 1 + 1, 0, none⟩) ?_ _).set (p := ⟨w.heap.size + 1 + 1, 1, none⟩) ?_ _) (by omega)
                   · exact hszz
                   · exact hszz
                   · exact hszz
                   · show w.heap.size + 1 + 1 < wz.heap.size; omega
                   · show w.heap.size + 1 + 1 < wz.heap.size; omega
                 have fS := ((HS9.out.keep k6).keep HT7.out).from_.2
                 have hxf : Ext w ((WF.setCell ⟨w.heap.size + 1 + 1, 0, none⟩ (.slice A2 D.length c2)).setCell ⟨w.heap.size + 1 + 1, 1, none⟩ (.slice (some ⟨g9, 1, none⟩) L.length (c9 - 1))) := by
                   rw [← HWF.out]
                   exact ((((HX9.out.setCell' (p := ⟨M6, 1, none⟩) (by show w.heap.size ≤ M6; omega) _).setCell' (p := ⟨M6, 1, none⟩) (by show w.heap.size ≤ M6; omega) _).setCell' (p := ⟨M6, 0, none⟩) (by show w.heap.size ≤ M6; omega) _).setCell' (p := ⟨w.heap.size + 1 + 1, 0, none⟩) (by show w.heap.size ≤ w.heap.size + 1 + 1; omega) _).setCell' (p := ⟨w.heap.size + 1 + 1, 1, none⟩) (by show w.heap.size ≤ w.heap.size + 1 + 1; omega) _
                 rw [HFF.out.1, HFF.out.2.1, HFF.out.2.2, HF.out.1, HF.out.2.1, HF.out.2.2, HPL.out]
                 exact ⟨A2, c2, some ⟨g9, 0 + 1, none⟩, c9 - 1, by rw [HPN.out, HEL.out], (fE.imp fun W q => q.1).and (fS.imp fun W q => q.drop1 (by rw [List.length_append]; simp)), hxf, fun h7 => absurd h7 (by rw [HPN.out]; omega)⟩)
            · have h9' : ¬ (8 : Int) < (L.length : Nat) + 1 := by omega
              have HPL := Lib.hid (show pushL L D = L ++ [D] from if_neg (by rw [List.length_append, List.length_singleton]; exact h9))
              have HPN := Lib.hid (show (L ++ [D]).length = L.length + 1 by rw [List.length_append, List.length_singleton])
              go_wp2_with (at_builtin; refine wpList_ex rfl _ _ rfl (.slice B1 L.length d1) (.slice (some ⟨_, 0, none⟩) 1 1) rfl rfl (HPU.out _) ?_; rintro v9 w9 ⟨hx9, hS9, hsz9, hk9, hb9, hst9⟩; have HB9 := Lib.hid (And.intro hb9 hst9); obtain ⟨A9, c9, hv9, hl9, hm9, hA9⟩ := hS9.parts; rw [List.length_append, List.length_singleton] at hv9 hl9 hA9; subst hv9; unfold maxLen at hm9; have HFE := Lib.hid ((HFX.out.hi (w' := w9) (fun k hk1 hk2 => hb9.2 k hk2 (fun e => by have := HOW.out k e.symm; omega)) hsz9).and (from_self wz.heap.size w9)); have e6 := (hk9 _ _ _ _ HG6.out (by decide)).trans HG6.out; have e2 := (hk9 _ _ _ _ HG2.out (by decide)).trans HG2.out; have HX9 := Lib.hid hx9; have HS9 := Lib.hid hS9; obtain ⟨y0, y1⟩ := two_cells e6; have y2 := frozen_cells e6 1; have y3 := frozen_cells e6 0; have e6a := set_1 (u := .slice A9 (L.length + 1) c9) e6; obtain ⟨ya0, ya1⟩ := two_cells e6a; have ya2 := frozen_cells e6a 1; have ya3 := frozen_cells e6a 0; have e6c := set_0 (u := .slice A2 D.length c2) e6a; obtain ⟨yc0, yc1⟩ := two_cells e6c; have yc2 := frozen_cells e6c 1; have yc3 := frozen_cells e6c 0; obtain ⟨WF, hWF⟩ : ∃ W, (w9.setCell ⟨M6, 1, none⟩ (.slice A9 (L.length + 1) c9)).setCell ⟨M6, 0, none⟩ (.slice A2 D.length c2) = W := ⟨_, rfl⟩; have HWF := Lib.hid hWF; have e2c : WF.heap[w.heap.size + 1 + 1]? = some (.cells #[.slice none 0 0, .slice none 0 0] 26 (0, 0)) := (by rw [← hWF]; exact set_far (set_far e2 (by show w.heap.size + 1 + 1 ≠ M6; omega)) (by show w.heap.size + 1 + 1 ≠ M6; omega)); obtain ⟨t1, t2, t3, t4, t5, t6, t7⟩ := keepB_set2 (b := w.heap.size) e2c (.slice A2 D.length c2) (.slice A9 (L.length + 1) c9); rw [hWF] at yc0 yc1; have HE2C := Lib.hid e2c; have HE6 := Lib.hid (And.intro e6 e6a); have HT7 := Lib.hid t7; have HSZ9 := Lib.hid hsz9; clear hx9 hS9 hsz9 hk9 hb9 hst9 e6 e2 e6a e6c e2c t7 hA9)
              refine bodyPost_ret (v := .tuple #[.agg #[.slice A2 D.length c2, .slice A9 (L.length + 1) c9], .bool true]) (by simp [results, Tryz.results27, go_sem, t5, t6]) rfl ?_
              have k6 := (keepB_set1 (b := w.heap.size) (j := 1) HE6.out.1 (.slice A9 (L.length + 1) c9)).trans (keepB_set1 (j := 0) HE6.out.2 (.slice A2 D.length c2))
              rw [HWF.out] at k6
              have fE : From w.heap.size ((WF.setCell ⟨w.heap.size + 1 + 1, 0, none⟩ (.slice A2 D.length c2)).setCell ⟨w.heap.size + 1 + 1, 1, none⟩ (.slice A9 (L.length + 1) c9)) (fun W => Mat W A2 c2 E ∧ ∀ k, wz.heap.size ≤ k → k < w9.heap.size → W.heap[k]? = w9.heap[k]?) := by
                rw [← HWF.out]
                refine From.low (b := wz.heap.size) ((((HFE.out.set (p := ⟨M6, 1, none⟩) ?_ _).set (p := ⟨M6, 0, none⟩) ?_ _).set (p := ⟨w.heap.size + 1 + 1, 0, none⟩) ?_ _).set (p := ⟨w.heap.size + 1 + 1, 1, none⟩) ?_ _) (by omega)
                · exact hszz
                · exact hszz
                · show w.heap.size + 1 + 1 < wz.heap.size; omega
                · show w.heap.size + 1 + 1 < wz.heap.size; omega
              have hSf := (HS9.out.keep k6).keep HT7.out
              have fS := hSf.from_.2
              have hxf : Ext w ((WF.setCell ⟨w.heap.size + 1 + 1, 0, none⟩ (.slice A2 D.length c2)).setCell ⟨w.heap.size + 1 + 1, 1, none⟩ (.slice A9 (L.length + 1) c9)) := by
                rw [← HWF.out]
                exact (((HX9.out.setCell' (p := ⟨M6, 1, none⟩) (by show w.heap.size ≤ M6; omega) _).setCell' (p := ⟨M6, 0, none⟩) (by show w.heap.size ≤ M6; omega) _).setCell' (p := ⟨w.heap.size + 1 + 1, 0, none⟩) (by show w.heap.size ≤ w.heap.size + 1 + 1; omega) _).setCell' (p := ⟨w.heap.size + 1 + 1, 1, none⟩) (by show w.heap.size ≤ w.heap.size + 1 + 1; omega) _
              rw [HFF.out.1, HFF.out.2.1, HFF.out.2.2, HF.out.1, HF.out.2.1, HF.out.2.2, HPL.out]
              exact ⟨A2, c2, A9, c9, by rw [HPN.out, HEL.out], (fE.imp fun W q => q.1).and fS, hxf, fun _ => ⟨_, _, by rw [HPN.out]; exact ⟨hSf, fromD_push HFX.out HB9.out (fun g hg => HOW.out g hg) fE.now.2 (by rw [← HWF.out]; simp [World.setCell]) (by omega)⟩⟩⟩
        · have hz : E ≠ D := fun e => hEL (by rw [e])
          have eL : ((E.length : Int) == (D.length : Nat)) = false := beq_eq_false_iff_ne.2 (by omega)
          have hx3 : Ext wz w2 := hx2
          have hx3z : Ext w2 w2 := Ext.refl _
          clear hF2 hEL
          have HF := Lib.hid (show doB D L kind xs = true ∧ doD D L kind xs = E ∧ doL D L kind xs = pushL L D from by
            have hb : doB D L kind xs = true := HVX.out.1.trans (by rw [Bool.true_and]; exact decide_eq_true hz)
            exact ⟨hb, by rw [HVX.out.2.1, hb]; rfl, by rw [HVX.out.2.2, hb]; rfl⟩)
          obtain ⟨Zo, U, V, hM, hS, hcr⟩ := HO.out.both
          have HOW := Lib.hid (fun g hg => (hS.1.lt g hg).2)
          have kb := KeepB.of_ext (b := w.heap.size) (hx3.trans (Ext.alloc w2 (.cells #[.slice A1 D.length c1] 23)))
          have HPU := Lib.hid (fun ty => ownS_pushS (P := Tryz.prog) (w0 := w) (ty := ty) (T := 24) rfl Tryz.underlying24 infoM (ad := ⟨w2.heap.size, 0, none⟩) (c := 1) rfl (cell_new0 w2 (.slice A1 D.length c1) _) (HWZ.out.trans (hx3.trans (Ext.alloc _ _))) (hS.keep kb) (hM.keep kb) hcr (by omega))
          obtain ⟨g0, g2, g6⟩ := HXW.out (w2.alloc (.cells #[.slice A1 D.length c1] 23)) (hx3.trans (Ext.alloc _ _))
          have HG2 := Lib.hid g2
          have HG6 := Lib.hid g6
          have HFX := Lib.hid (HF2.out.ext (hx3z.trans (Ext.alloc w2 (.cells #[.slice A1 D.length c1] 23))))
          have HWX := Lib.hid (HWZ.out.trans hx3)
          obtain ⟨q0, q1⟩ := two_cells (HXW.out w2 hx3).2.2
          have q2 := frozen_cells (HXW.out w2 hx3).2.2 1
          clear hM hS hcr kb n0 n2 n6 g0 g2 g6 HVX HSAME hz s0' s1' hx2 hx3 hx3z
          by_cases h9 : 8 < L.length + 1
          · first
            | (exfalso; omega)
            | (have h9' : (8 : Int) < (L.length : Nat) + 1 := by omega
               have hn1 : (1 : Int) ≤ (L.length : Nat) + 1 := by omega
               have HPL := Lib.hid (show pushL L D = (L ++ [D]).drop 1 from if_pos (by rw [List.length_append, List.length_singleton]; exact h9))
               have HPN := Lib.hid (show ((L ++ [D]).drop 1).length = L.length by rw [List.length_drop, List.length_append, List.length_singleton]; omega)
               go_wp2_with (at_builtin; refine wpList_ex rfl _ _ rfl (.slice B1 L.length d1) (.slice (some ⟨_, 0, none⟩) 1 1) rfl rfl (HPU.out _) ?_; rintro v9 w9 ⟨hx9, hS9, hsz9, hk9, hb9, hst9⟩; have HB9 := Lib.hid (And.intro hb9 hst9); obtain ⟨A9, c9, hv9, hl9, hm9, hA9⟩ := hS9.parts; rw [List.length_append, List.length_singleton] at hv9 hl9 hA9; subst hv9; obtain ⟨g9, rfl, -⟩ := hA9 (by omega); unfold maxLen at hm9; have hc9 : ((L.length : Nat) : Int) + 1 ≤ (c9 : Nat) := (by omega); have HFE := Lib.hid ((HFX.out.hi (w' := w9) (fun k hk1 hk2 => hb9.2 k hk2 (fun e => by have := HOW.out k e.symm; omega)) hsz9).and (from_self wz.heap.size w9)); have e6 := (hk9 _ _ _ _ HG6.out (by decide)).trans HG6.out; have e2 := (hk9 _ _ _ _ HG2.out (by decide)).trans HG2.out; have HX9 := Lib.hid hx9; have HS9 := Lib.hid hS9; obtain ⟨y0, y1⟩ := two_cells e6; have y2 := frozen_cells e6 1; have y3 := frozen_cells e6 0; have e6a := set_1 (u := .slice (some ⟨g9, 0, none⟩) (L.length + 1) c9) e6; obtain ⟨ya0, ya1⟩ := two_cells e6a; have ya2 := frozen_cells e6a 1; have ya3 := frozen_cells e6a 0; have e6b := set_1 (u := .slice (some ⟨g9, 1, none⟩) L.length (c9 - 1)) e6a; obtain ⟨yb0, yb1⟩ := two_cells e6b; have yb2 := frozen_cells e6b 1; have yb3 := frozen_cells e6b 0; have e6c := set_0 (u := .slice A2 E.length c2) e6b; obtain ⟨yc0, yc1⟩ := two_cells e6c; have yc2 := frozen_cells e6c 1; have yc3 := frozen_cells e6c 0; obtain ⟨WF, hWF⟩ : ∃ W, ((w9.setCell ⟨M6, 1, none⟩ (.slice (some ⟨g9, 0, none⟩) (L.length + 1) c9)).setCell ⟨M6, 1, none⟩ (.slice (some ⟨g9, 1, none⟩) L.length (c9 - 1))).setCell ⟨M6, 0, none⟩ (.slice A2 E.length c2) = W := ⟨_, rfl⟩; have HWF := Lib.hid hWF; have e2c : WF.heap[w.heap.size + 1 + 1]? = some (.cells #[.slice none 0 0, .slice none 0 0] 26 (0, 0)) := (by rw [← hWF]; exact set_far (set_far (set_far e2 (by show w.heap.size + 1 + 1 ≠ M6; omega)) (by show w.heap.size + 1 + 1 ≠ M6; omega)) (by show w.heap.size + 1 + 1 ≠ M6; omega)); obtain ⟨t1, t2, t3, t4, t5, t6, t7⟩ := keepB_set2 (b := w.heap.size) e2c (.slice A2 E.length c2) (.slice (some ⟨g9, 1, none⟩) L.length (c9 - 1)); rw [hWF] at yc0 yc1; have HE2C := Lib.hid e2c; have HE6 := Lib.hid (And.intro e6 (And.intro e6a e6b)); have HT7 := Lib.hid t7; have HSZ9 := Lib.hid hsz9; clear hx9 hS9 hsz9 hk9 hb9 hst9 e6 e2 e6a e6b e6c e2c t7 hA9)
               refine bodyPost_ret (v := .tuple #[.agg #[.slice A2 E.length c2, .slice (some ⟨g9, 1, none⟩) L.length (c9 - 1)], .bool true]) (by simp [results, Tryz.results27, go_sem, t5, t6]) rfl ?_
               have k6 := ((keepB_set1 (b := w.heap.size) (j := 1) HE6.out.1 (.slice (some ⟨g9, 0, none⟩) (L.length + 1) c9)).trans (keepB_set1 (j := 1) HE6.out.2.1 (.slice (some ⟨g9, 1, none⟩) L.length (c9 - 1)))).trans (keepB_set1 (j := 0) HE6.out.2.2 (.slice A2 E.length c2))
               rw [HWF.out] at k6
               have fE : From w.heap.size ((WF.setCell ⟨w.heap.size + 1 + 1, 0, none⟩ (.slice A2 E.length c2)).setCell ⟨w.heap.size + 1 + 1, 1, none⟩ (.slice (some ⟨g9, 1, none⟩) L.length (c9 - 1))) (fun W => Mat W A2 c2 E ∧ ∀ k, wz.heap.size ≤ k → k < w9.heap.size → W.heap[k]? = w9.heap[k]?) := by
                 rw [← HWF.out]
                 refine From.low (b := wz.heap.size) (((((HFE.out.set (p := ⟨M6, 1, none⟩) ?_ _).set (p := ⟨M6, 1, none⟩) ?_ _).set (p := ⟨M6, 0, none⟩) ?_ _).set (p := ⟨w.heap.size + 1 + 1, 0, none⟩) ?_ _).set (p := ⟨w.heap.size + 1 + 1, 1, none⟩) ?_ _) (by omega)
                 · exact hszz
                 · exact hszz
                 · exact hszz
                 · show w.heap.size + 1 + 1 < wz.heap.size; omega
                 · show w.heap.size + 1 + 1 < wz.heap.size; omega
               have fS := ((HS9.out.keep k6).keep HT7.out).from_.2
               have hxf : Ext w ((WF.setCell ⟨w.heap.size + 1 + 1, 0, none⟩ (.slice A2 E.length c2)).setCell ⟨w.heap.size + 1 + 1, 1, none⟩ (.slice (some ⟨g9, 1, none⟩) L.length (c9 - 1))) := by
                 rw [← HWF.out]
                 exact ((((HX9.out.setCell' (p := ⟨M6, 1, none⟩) (by show w.heap.size ≤ M6; omega) _).setCell' (p := ⟨M6, 1, none⟩) (by show w.heap.size ≤ M6; omega) _).setCell' (p := ⟨M6, 0, none⟩) (by show w.heap.size ≤ M6; omega) _).setCell' (p := ⟨w.heap.size + 1 + 1, 0, none⟩) (by show w.heap.size ≤ w.heap.size + 1 + 1; omega) _).setCell' (p := ⟨w.heap.size + 1 + 1, 1, none⟩) (by show w.heap.size ≤ w.heap.size + 1 + 1; omega) _
               rw [HFF.out.1, HFF.out.2.1, HFF.out.2.2, HF.out.1, HF.out.2.1, HF.out.2.2, HPL.out]
               exact ⟨A2, c2, some ⟨g9, 0 + 1, none⟩, c9 - 1, by rw [HPN.out], (fE.imp fun W q => q.1).and (fS.imp fun W q => q.drop1 (by rw [List.length_append]; simp)), hxf, fun h7 => absurd h7 (by rw [HPN.out]; omega)⟩)
          · have h9' : ¬ (8 : Int) < (L.length : Nat) + 1 := by omega
            have HPL := Lib.hid (show pushL L D = L ++ [D] from if_neg (by rw [List.length_append, List.length_singleton]; exact h9))
            have HPN := Lib.hid (show (L ++ [D]).length = L.length + 1 by rw [List.length_append, List.length_singleton])
            go_wp2_with (at_builtin; refine wpList_ex rfl _ _ rfl (.slice B1 L.length d1) (.slice (some ⟨_, 0, none⟩) 1 1) rfl rfl (HPU.out _) ?_; rintro v9 w9 ⟨hx9, hS9, hsz9, hk9, hb9, hst9⟩; have HB9 := Lib.hid (And.intro hb9 hst9); obtain ⟨A9, c9, hv9, hl9, hm9, hA9⟩ := hS9.parts; rw [List.length_append, List.length_singleton] at hv9 hl9 hA9; subst hv9; unfold maxLen at hm9; have HFE := Lib.hid ((HFX.out.hi (w' := w9) (fun k hk1 hk2 => hb9.2 k hk2 (fun e => by have := HOW.out k e.symm; omega)) hsz9).and (from_self wz.heap.size w9)); have e6 := (hk9 _ _ _ _ HG6.out (by decide)).trans HG6.out; have e2 := (hk9 _ _ _ _ HG2.out (by decide)).trans HG2.out; have HX9 := Lib.hid hx9; have HS9 := Lib.hid hS9; obtain ⟨y0, y1⟩ := two_cells e6; have y2 := frozen_cells e6 1; have y3 := frozen_cells e6 0; have e6a := set_1 (u := .slice A9 (L.length + 1) c9) e6; obtain ⟨ya0, ya1⟩ := two_cells e6a; have ya2 := frozen_cells e6a 1; have ya3 := frozen_cells e6a 0; have e6c := set_0 (u := .slice A2 E.length c2) e6a; obtain ⟨yc0, yc1⟩ := two_cells e6c; have yc2 := frozen_cells e6c 1; have yc3 := frozen_cells e6c 0; obtain ⟨WF, hWF⟩ : ∃ W, (w9.setCell ⟨M6, 1, none⟩ (.slice A9 (L.length + 1) c9)).setCell ⟨M6, 0, none⟩ (.slice A2 E.length c2) = W := ⟨_, rfl⟩; have HWF := Lib.hid hWF; have e2c : WF.heap[w.heap.size + 1 + 1]? = some (.cells #[.slice none 0 0, .slice none 0 0] 26 (0, 0)) := (by rw [← hWF]; exact set_far (set_far e2 (by show w.heap.size + 1 + 1 ≠ M6; omega)) (by show w.heap.size + 1 + 1 ≠ M6; omega)); obtain ⟨t1, t2, t3, t4, t5, t6, t7⟩ := keepB_set2 (b := w.heap.size) e2c (.slice A2 E.length c2) (.slice A9 (L.length + 1) c9); rw [hWF] at yc0 yc1; have HE2C := Lib.hid e2c; have HE6 := Lib.hid (And.intro e6 e6a); have HT7 := Lib.hid t7; have HSZ9 := Lib.hid hsz9; clear hx9 hS9 hsz9 hk9 hb9 hst9 e6 e2 e6a e6c e2c t7 hA9)
            refine bodyPost_ret (v := .tuple #[.agg #[.slice A2 E.length c2, .slice A9 (L.length + 1) c9], .bool true]) (by simp [results, Tryz.results27, go_sem, t5, t6]) rfl ?_
            have k6 := (keepB_set1 (b := w.heap.size) (j := 1) HE6.out.1 (.slice A9 (L.length + 1) c9)).trans (keepB_set1 (j := 0) HE6.out.2 (.slice A2 E.length c2))
            rw [HWF.out] at k6
            have fE : From w.heap.size ((WF.setCell ⟨w.heap.size + 1 + 1, 0, none⟩ (.slice A2 E.length c2)).setCell ⟨w.heap.size + 1 + 1, 1, none⟩ (.slice A9 (L.length + 1) c9)) (fun W => Mat W A2 c2 E ∧ ∀ k, wz.heap.size ≤ k → k < w9.heap.size → W.heap[k]? = w9.heap[k]?) := by
              rw [← HWF.out]
              refine From.low (b := wz.heap.size) ((((HFE.out.set (p := ⟨M6, 1, none⟩) ?_ _).set (p := ⟨M6, 0, none⟩) ?_ _).set (p := ⟨w.heap.size + 1 + 1, 0, none⟩) ?_ _).set (p := ⟨w.heap.size + 1 + 1, 1, none⟩) ?_ _) (by omega)
              · exact hszz
              · exact hszz
              · show w.heap.size + 1 + 1 < wz.heap.size; omega
              · show w.heap.size + 1 + 1 < wz.heap.size; omega
            have hSf := (HS9.out.keep k6).keep HT7.out
            have fS := hSf.from_.2
            have hxf : Ext w ((WF.setCell ⟨w.heap.size + 1 + 1, 0, none⟩ (.slice A2 E.length c2)).setCell ⟨w.heap.size + 1 + 1, 1, none⟩ (.slice A9 (L.length + 1) c9)) := by
              rw [← HWF.out]
              exact (((HX9.out.setCell' (p := ⟨M6, 1, none⟩) (by show w.heap.size ≤ M6; omega) _).setCell' (p := ⟨M6, 0, none⟩) (by show w.heap.size ≤ M6; omega) _).setCell' (p := ⟨w.heap.size + 1 + 1, 0, none⟩) (by show w.heap.size ≤ w.heap.size + 1 + 1; omega) _).setCell' (p := ⟨w.heap.size + 1 + 1, 1, none⟩) (by show w.heap.size ≤ w.heap.size + 1 + 1; omega) _
            rw [HFF.out.1, HFF.out.2.1, HFF.out.2.2, HF.out.1, HF.out.2.1, HF.out.2.2, HPL.out]
            exact ⟨A2, c2, A9, c9, by rw [HPN.out], (fE.imp fun W q => q.1).and fS, hxf, fun _ => ⟨_, _, by rw [HPN.out]; exact ⟨hSf, fromD_push HFX.out HB9.out (fun g hg => HOW.out g hg) fE.now.2 (by rw [← HWF.out]; simp [World.setCell]) (by omega)⟩⟩⟩
end Go.Proofs.YtnalcgcdohlfiaaGreatDoor
