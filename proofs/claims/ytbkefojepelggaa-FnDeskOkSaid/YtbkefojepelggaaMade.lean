/- What is proved: impl.nextSpace and spec.l11Made return what a deed makes of a space. Conditions: those of each contract. -/
import Derived.Test.YtbkefojepelggaaCd
import Derived.Test.YtbkefojepelggaaFirO
import Derived.Test.YtbkefojepelggaaWoS
import Derived.Test.YtbkefojepelggaaBlw
namespace Go.Proofs.Ytbkefojepelggaa
open Go.RowKit
/-- what is said of a world holds wherever the blocks from b on are the same -/
def From (b : Nat) (w : World) (P : World → Prop) : Prop := ∀ W : World, (∀ k, b ≤ k → k < w.heap.size → W.heap[k]? = w.heap[k]?) → P W
theorem From.now {b : Nat} {w : World} {P : World → Prop} (h : From b w P) : P w := h w fun _ _ _ => rfl
theorem From.ext {b : Nat} {w w' : World} {P : World → Prop} (h : From b w P) (k : Ext w w') : From b w' P := fun W hW => h W fun q h1 h2 => (hW q h1 (by have := k.size; omega)).trans (k.block h2)
theorem From.g {b g : Nat} {w w' : World} {P : World → Prop} (h : From b w P) (k : ExtG g w w') (hg : g < b) : From b w' P := fun W hW => h W fun q h1 h2 => (hW q h1 (by have := k.size; omega)).trans (k.2.2.2.2 q h2 (by omega))
theorem From.low {b b' : Nat} {w : World} {P : World → Prop} (h : From b w P) (k : b' ≤ b) : From b' w P := fun W hW => h W fun q h1 h2 => hW q (by omega) h2
theorem From.imp {b : Nat} {w : World} {P Q : World → Prop} (h : From b w P) (k : ∀ W, P W → Q W) : From b w Q := fun W hW => k W (h W hW)
theorem From.and {b : Nat} {w : World} {P Q : World → Prop} (h : From b w P) (k : From b w Q) : From b w (fun W => P W ∧ Q W) := fun W hW => ⟨h W hW, k W hW⟩
theorem keepB_of {b : Nat} {w W : World} (h : ∀ k, b ≤ k → k < w.heap.size → W.heap[k]? = w.heap[k]?) : KeepB b w W := fun g _ _ hb hg _ => h g hb (heap_lt hg)
theorem OwnM.from_ {b : Nat} {w : World} {u : Value} {D : List (List Int)} {V : Nat → Value} (h : OwnM b w u D V) : ∃ A c, u = .slice A D.length c ∧ From b w (fun W => Mat W A c D) := by
  obtain ⟨A, c, e, -⟩ := h.mat
  refine ⟨A, c, e, fun W hW => ?_⟩
  obtain ⟨A', c', e', hM⟩ := (h.keep (keepB_of hW)).mat
  rw [e] at e'
  injection e' with e1 e2 e3
  subst e1; subst e3
  exact hM
theorem AccR.from_ {w W : World} {u : Value} {D : List (List Int)} (h : AccR w W u D) : ∃ A c, u = .slice A D.length c ∧ From w.heap.size W (fun W => Mat W A c D) := by
  obtain ⟨V, h⟩ := h
  exact h.own.from_
theorem BlR.from_ {w w' : World} {n : Nat} {E : List (List Int)} {e : Ending} (h : BlR w n E e w') : ∃ A c, e = .returned (.slice A E.length c) ∧ From w.heap.size w' (fun W => Mat W A c E) ∧ Ext w w' ∧ E.length = n := by
  obtain ⟨b, c, V, rfl, hO, -, hl, -, hx⟩ := h
  exact ⟨some ⟨b, 0, none⟩, c, by rw [hl], fun W hW => (hO.keep fun q hb hq => hW q hb hq).mat, hx, hl⟩
/-- rows and a Bool handed back -/
def TupF (w : World) (E : List (List Int)) (b : Bool) (e : Ending) (w' : World) : Prop := ∃ A c, e = .returned (.tuple #[.slice A (List.length E) c, .bool b]) ∧ From w.heap.size w' (fun W => Mat W A c E) ∧ Ext w w'
theorem TupR.f {w w' : World} {E : List (List Int)} {b : Bool} {e : Ending} (h : TupR w E b e w') : TupF w E b e w' := by
  obtain ⟨v, rfl, hA⟩ := h
  obtain ⟨A, c, rfl, hF⟩ := hA.from_
  exact ⟨A, c, rfl, hF, hA.x⟩
def madeV (D : List (List Int)) (kind : Int) (xs : List Int) : List (List Int) :=
  if kind = 0 then wpB D xs else if kind = 1 ∧ xs.length = 1 then woB D (ix xs 0) else if kind = 2 ∧ xs.length = 0 then fofV D else if kind = 3 ∧ xs.length = 0 then blwV D else []
def madeB (D : List (List Int)) (kind : Int) (xs : List Int) : Bool :=
  if kind = 0 then fitsB D xs else if kind = 1 ∧ xs.length = 1 then woOk D (ix xs 0) else if kind = 2 ∧ xs.length = 0 then decide (D.length ≤ 5) else if kind = 3 ∧ xs.length = 0 then true else false
theorem fir1_len {D : List (List Int)} {L : List (List Int)} {n : Nat} (h : ∀ i, i < L.length → (row L i).length = n) : ∀ g i b, i + g ≤ L.length → b.length = n → (fir1 D L g i b).length = n
  | 0, _, b, _, hb => hb
  | g + 1, i, b, hi, hb => by
    refine fir1_len h g (i + 1) _ (by omega) ?_
    show (if cmpM (ordD D (row L i)) b < 0 then ordD D (row L i) else b).length = n
    split
    · rw [ordD_len]; exact h i (by omega)
    · exact hb
theorem fofV_len {D : List (List Int)} (hs : spB D = true) : (fofV D).length = if D.length ≤ 5 then D.length else 0 := by
  unfold fofV
  by_cases h : D.length ≤ 5
  · rw [if_pos ⟨hs, h⟩, if_pos h]
    exact fir1_len (fun i hi => ((ordK_facts D.length D.length h (Nat.le_refl _)).2.2 i hi).1) _ _ _ (by omega) rfl
  · rw [if_neg (fun q => h q.2), if_neg h]
    rfl
theorem box_cells (w : World) (a b : Value) (T : TypeId) : (w.alloc (.cells #[a, b] T)).cell? ⟨w.heap.size, 0, none⟩ = some a ∧ (w.alloc (.cells #[a, b] T)).cell? ⟨w.heap.size, 1, none⟩ = some b :=
  ⟨by rw [cell_cells (heap_alloc_new w _)]; rfl, by rw [cell_cells (heap_alloc_new w _)]; rfl⟩
theorem iBelowOf_any (A : Option Addr) (cp : Nat) (D : List (List Int)) (w : World) (h : Mat w A cp D) (hf : farB D = true) : Calls Try.prog 84 #[.slice A D.length cp] w (BlR w D.length (blwV D)) := by
  have HC := Lib.hid (bestWays_any A cp D w h hf)
  clear h hf
  go_enter Try.func84, Try.ntmps84
  go_wp2_with (go_at_call 96; refine HC.out.mono ?_; rintro e w1 ⟨b, c, V, rfl, hS⟩)
  go_ret
  exact ⟨b, c, V, rfl, hS⟩
set_option maxRecDepth 100000 in
set_option maxHeartbeats 4000000 in
theorem nextSpace_any (A : Option Addr) (cp : Nat) (D : List (List Int)) (kind : Int) (X : Option Addr) (cx : Nat) (xs : List Int) (w : World) (h : Mat w A cp D) (hx : Ints w X cx xs) (hs : spB D = true) :
    Calls Try.prog 68 #[.slice A D.length cp, .agg #[.int .i64 kind, .slice X xs.length cx]] w (TupF w (madeV D kind xs) (madeB D kind xs)) := by
  have hcm := h.2.1
  have hlc := h.1
  unfold maxLen at hcm
  have hcx := hx.2.1
  have hlx := hx.1
  unfold maxLen at hcx
  have HM := Lib.hid h
  have HI := Lib.hid hx
  have HV := Lib.hid (show madeV D kind xs = if kind = 0 then wpB D xs else if kind = 1 ∧ xs.length = 1 then woB D (ix xs 0) else if kind = 2 ∧ xs.length = 0 then fofV D else if kind = 3 ∧ xs.length = 0 then blwV D else [] from rfl)
  have HB := Lib.hid (show madeB D kind xs = if kind = 0 then fitsB D xs else if kind = 1 ∧ xs.length = 1 then woOk D (ix xs 0) else if kind = 2 ∧ xs.length = 0 then decide (D.length ≤ 5) else if kind = 3 ∧ xs.length = 0 then true else false from rfl)
  have HWP := Lib.hid (fun W (q1 : Mat W A cp D) (q2 : Ints W X cx xs) => (iWithPoint_any A cp D X cx xs W q1 q2))
  have HWO := Lib.hid (fun p W (q1 : Mat W A cp D) => (iWithoutPoint_any A cp D p W q1))
  have HFI := Lib.hid (fun W (q1 : Mat W A cp D) => (iFirstOf_any A cp D W q1))
  have HBL := Lib.hid (fun W (q1 : Mat W A cp D) => (iBelowOf_any A cp D W q1 (spB_far hs)))
  have HNIL := Lib.hid (fun W (q : Ext w W) => show From w.heap.size W (fun W => Mat W none 0 []) from fun W' _ => Mat.nil W' none 0 (Nat.zero_le _))
  have HNIL2 := Lib.hid (fun (b : Nat) (W : World) => show From w.heap.size W (fun W => Mat W (some ⟨b, 0, none⟩) 0 []) from fun W' _ => Mat.nil W' _ 0 (Nat.zero_le _))
  have hbx := box_cells w (.int .i64 kind) (.slice X xs.length cx) 33
  obtain ⟨bx0, bx1⟩ := hbx
  have HBX := Lib.hid (And.intro bx0 bx1)
  clear h
  by_cases h0 : kind = 0
  · subst h0
    have HF := Lib.hid (show madeV D 0 xs = wpB D xs ∧ madeB D 0 xs = fitsB D xs from ⟨by rw [HV.out, if_pos rfl], by rw [HB.out, if_pos rfl]⟩)
    clear hs hx
    go_enter Try.func68, Try.ntmps68
    go_wp2_with fail
    refine (HWP.out _ (HM.out.ext (by repeat (first | exact Ext.refl _ | assumption | apply Ext.drewN' | apply Ext.alloc' | refine Ext.trans ?_ (by assumption)))) (HI.out.ext (by repeat (first | exact Ext.refl _ | assumption | apply Ext.drewN' | apply Ext.alloc' | refine Ext.trans ?_ (by assumption))))).mono ?_
    intro e w1 hT
    obtain ⟨A1, c1, rfl, hFr, hx1⟩ := hT.f
    have HFr := Lib.hid hFr
    clear hFr hT
    go_wp2
    go_ret2
    rw [HF.out.1, HF.out.2]
    exact ⟨_, _, rfl, HFr.out.low (by simp), Ext.trans (by repeat (first | exact Ext.refl _ | assumption | apply Ext.drewN' | apply Ext.alloc' | refine Ext.trans ?_ (by assumption))) hx1⟩
  have k0 : (kind == 0) = false := beq_eq_false_iff_ne.2 h0
  by_cases h1 : kind = 1 ∧ xs.length = 1
  · obtain ⟨h1, h1n⟩ := h1
    subst h1
    have HF := Lib.hid (show madeV D 1 xs = woB D (ix xs 0) ∧ madeB D 1 xs = woOk D (ix xs 0) from ⟨by rw [HV.out, if_neg h0, if_pos ⟨rfl, h1n⟩], by rw [HB.out, if_neg h0, if_pos ⟨rfl, h1n⟩]⟩)
    have hn1 : ((xs.length : Int) == 1) = true := beq_iff_eq.2 (by omega)
    obtain ⟨-, -, bX, oX, hX, hcX⟩ := hx
    obtain rfl := hX (by omega)
    have HCX := Lib.hid (fun W (q : Ext w W) => q.cell (hcX 0 (by omega)))
    have c0 := HCX.out (w.alloc (.cells #[.int .i64 1, .slice (some ⟨bX, oX, none⟩) xs.length cx] 33)) (Ext.alloc _ _)
    rw [Nat.add_zero] at c0
    have hpos : (0 : Int) < (xs.length : Nat) := by omega
    obtain ⟨Y, hY⟩ : ∃ Y, ix xs 0 = Y := ⟨_, rfl⟩
    rw [hY] at HF c0
    clear h0 h1n hs hcX hY hX
    go_enter Try.func68, Try.ntmps68
    go_wp2_with fail
    refine (HWO.out _ _ (HM.out.ext (by repeat (first | exact Ext.refl _ | assumption | apply Ext.drewN' | apply Ext.alloc' | refine Ext.trans ?_ (by assumption))))).mono ?_
    intro e w1 hT
    obtain ⟨A1, c1, rfl, hFr, hx1⟩ := hT.f
    have HFr := Lib.hid hFr
    clear hFr hT
    go_wp2
    go_ret2
    rw [HF.out.1, HF.out.2]
    exact ⟨_, _, rfl, HFr.out.low (by simp), Ext.trans (by repeat (first | exact Ext.refl _ | assumption | apply Ext.drewN' | apply Ext.alloc' | refine Ext.trans ?_ (by assumption))) hx1⟩
  by_cases h2 : kind = 2 ∧ xs.length = 0
  · obtain ⟨h2, h2n⟩ := h2
    subst h2
    have HF := Lib.hid (show madeV D 2 xs = fofV D ∧ madeB D 2 xs = decide (D.length ≤ 5) from ⟨by rw [HV.out, if_neg h0, if_neg h1, if_pos ⟨rfl, h2n⟩], by rw [HB.out, if_neg h0, if_neg h1, if_pos ⟨rfl, h2n⟩]⟩)
    have hn0 : ((xs.length : Int) == 0) = true := beq_iff_eq.2 (by omega)
    have HFL := Lib.hid (fofV_len hs)
    have hn1 := (spB_len hs).1
    clear h0 h1 h2n hs hx
    go_enter Try.func68, Try.ntmps68
    go_wp2_with fail
    refine (HFI.out _ (HM.out.ext (by repeat (first | exact Ext.refl _ | assumption | apply Ext.drewN' | apply Ext.alloc' | refine Ext.trans ?_ (by assumption))))).mono ?_
    rintro e w1 ⟨v, rfl, hA⟩
    obtain ⟨A1, c1, rfl, hFr⟩ := hA.from_
    have hx1 := hA.x
    have HFr := Lib.hid hFr
    have HH := Lib.hid (show madeB D 2 xs = decide (0 < (fofV D).length) by
      rw [HF.out.2, HFL.out]
      refine decide_eq_decide.2 ?_
      split <;> omega)
    clear hA
    go_wp2
    go_ret2
    rw [HF.out.1, HH.out]
    exact ⟨_, _, rfl, HFr.out.low (by simp), Ext.trans (by repeat (first | exact Ext.refl _ | assumption | apply Ext.drewN' | apply Ext.alloc' | refine Ext.trans ?_ (by assumption))) hx1⟩
  by_cases h3 : kind = 3 ∧ xs.length = 0
  · obtain ⟨h3, h3n⟩ := h3
    subst h3
    have HF := Lib.hid (show madeV D 3 xs = blwV D ∧ madeB D 3 xs = true from ⟨by rw [HV.out, if_neg h0, if_neg h1, if_neg h2, if_pos ⟨rfl, h3n⟩], by rw [HB.out, if_neg h0, if_neg h1, if_neg h2, if_pos ⟨rfl, h3n⟩]⟩)
    have hn0 : ((xs.length : Int) == 0) = true := beq_iff_eq.2 (by omega)
    clear h0 h1 h2 h3n hs hx
    go_enter Try.func68, Try.ntmps68
    go_wp2_with fail
    refine (HBL.out _ (HM.out.ext (by repeat (first | exact Ext.refl _ | assumption | apply Ext.drewN' | apply Ext.alloc' | refine Ext.trans ?_ (by assumption))))).mono ?_
    intro e w1 hT
    obtain ⟨A1, c1, rfl, hFr, hx1, -⟩ := hT.from_
    have HFr := Lib.hid hFr
    clear hFr hT
    go_wp2
    go_ret2
    rw [HF.out.1, HF.out.2]
    exact ⟨_, _, rfl, HFr.out.low (by simp), Ext.trans (by repeat (first | exact Ext.refl _ | assumption | apply Ext.drewN' | apply Ext.alloc' | refine Ext.trans ?_ (by assumption))) hx1⟩
  · have HF := Lib.hid (show madeV D kind xs = [] ∧ madeB D kind xs = false from ⟨by rw [HV.out, if_neg h0, if_neg h1, if_neg h2, if_neg h3], by rw [HB.out, if_neg h0, if_neg h1, if_neg h2, if_neg h3]⟩)
    have r1 : (kind == 1) = false ∨ ((kind == 1) = true ∧ ((xs.length : Int) == 1) = false) := by
      by_cases q : kind = 1
      · exact .inr ⟨beq_iff_eq.2 q, beq_eq_false_iff_ne.2 fun e => h1 ⟨q, by omega⟩⟩
      · exact .inl (beq_eq_false_iff_ne.2 q)
    have r2 : (kind == 2) = false ∨ ((kind == 2) = true ∧ ((xs.length : Int) == 0) = false) := by
      by_cases q : kind = 2
      · exact .inr ⟨beq_iff_eq.2 q, beq_eq_false_iff_ne.2 fun e => h2 ⟨q, by omega⟩⟩
      · exact .inl (beq_eq_false_iff_ne.2 q)
    have r3 : (kind == 3) = false ∨ ((kind == 3) = true ∧ ((xs.length : Int) == 0) = false) := by
      by_cases q : kind = 3
      · exact .inr ⟨beq_iff_eq.2 q, beq_eq_false_iff_ne.2 fun e => h3 ⟨q, by omega⟩⟩
      · exact .inl (beq_eq_false_iff_ne.2 q)
    clear h0 h1 h2 h3 hs hx
    rcases r1 with r1 | ⟨r1, s1⟩ <;> rcases r2 with r2 | ⟨r2, s2⟩ <;> rcases r3 with r3 | ⟨r3, s3⟩
    all_goals
      first
      | (exfalso; have a1 := beq_iff_eq.1 r1; have a2 := beq_iff_eq.1 r2; omega)
      | (exfalso; have a1 := beq_iff_eq.1 r1; have a2 := beq_iff_eq.1 r3; omega)
      | (exfalso; have a1 := beq_iff_eq.1 r2; have a2 := beq_iff_eq.1 r3; omega)
      | (go_enter Try.func68, Try.ntmps68
         go_wp2
         go_ret2
         rw [HF.out.1, HF.out.2]
         first
         | exact ⟨_, _, rfl, HNIL.out _ (by repeat (first | exact Ext.refl _ | assumption | apply Ext.drewN' | apply Ext.alloc' | refine Ext.trans ?_ (by assumption))), (by repeat (first | exact Ext.refl _ | assumption | apply Ext.drewN' | apply Ext.alloc' | refine Ext.trans ?_ (by assumption)))⟩
         | exact ⟨_, _, rfl, HNIL2.out _ _, (by repeat (first | exact Ext.refl _ | assumption | apply Ext.drewN' | apply Ext.alloc' | refine Ext.trans ?_ (by assumption)))⟩)
set_option maxRecDepth 100000 in
set_option maxHeartbeats 4000000 in
theorem l11Made_any (A : Option Addr) (cp : Nat) (D : List (List Int)) (kind : Int) (X : Option Addr) (cx : Nat) (xs : List Int) (w : World) (h : Mat w A cp D) (hx : Ints w X cx xs) (hs : spB D = true) :
    Calls Try.prog 42 #[.slice A D.length cp, .agg #[.int .i64 kind, .slice X xs.length cx]] w (TupF w (madeV D kind xs) (madeB D kind xs)) := by
  have hcm := h.2.1
  have hlc := h.1
  unfold maxLen at hcm
  have hcx := hx.2.1
  have hlx := hx.1
  unfold maxLen at hcx
  have HM := Lib.hid h
  have HI := Lib.hid hx
  have HV := Lib.hid (show madeV D kind xs = if kind = 0 then wpB D xs else if kind = 1 ∧ xs.length = 1 then woB D (ix xs 0) else if kind = 2 ∧ xs.length = 0 then fofV D else if kind = 3 ∧ xs.length = 0 then blwV D else [] from rfl)
  have HB := Lib.hid (show madeB D kind xs = if kind = 0 then fitsB D xs else if kind = 1 ∧ xs.length = 1 then woOk D (ix xs 0) else if kind = 2 ∧ xs.length = 0 then decide (D.length ≤ 5) else if kind = 3 ∧ xs.length = 0 then true else false from rfl)
  have HWP := Lib.hid (fun W (q1 : Mat W A cp D) (q2 : Ints W X cx xs) => (sWithPoint_ex A cp D X cx xs W q1 q2))
  have HWO := Lib.hid (fun p W (q1 : Mat W A cp D) => (sWithoutPoint_any A cp D p W q1))
  have HFI := Lib.hid (fun W (q1 : Mat W A cp D) => (sFirstOf_any A cp D W q1))
  have HBL := Lib.hid (fun W (q1 : Mat W A cp D) => (sBelowOf_any A cp D W q1 (spB_far hs)))
  have HNIL := Lib.hid (fun W (q : Ext w W) => show From w.heap.size W (fun W => Mat W none 0 []) from fun W' _ => Mat.nil W' none 0 (Nat.zero_le _))
  have HNIL2 := Lib.hid (fun (b : Nat) (W : World) => show From w.heap.size W (fun W => Mat W (some ⟨b, 0, none⟩) 0 []) from fun W' _ => Mat.nil W' _ 0 (Nat.zero_le _))
  have hbx := box_cells w (.int .i64 kind) (.slice X xs.length cx) 33
  obtain ⟨bx0, bx1⟩ := hbx
  have HBX := Lib.hid (And.intro bx0 bx1)
  clear h
  by_cases h0 : kind = 0
  · subst h0
    have HF := Lib.hid (show madeV D 0 xs = wpB D xs ∧ madeB D 0 xs = fitsB D xs from ⟨by rw [HV.out, if_pos rfl], by rw [HB.out, if_pos rfl]⟩)
    clear hs hx
    go_enter Try.func42, Try.ntmps42
    go_wp2_with fail
    refine (HWP.out _ (HM.out.ext (by repeat (first | exact Ext.refl _ | assumption | apply Ext.drewN' | apply Ext.alloc' | refine Ext.trans ?_ (by assumption)))) (HI.out.ext (by repeat (first | exact Ext.refl _ | assumption | apply Ext.drewN' | apply Ext.alloc' | refine Ext.trans ?_ (by assumption))))).mono ?_
    intro e w1 hT
    obtain ⟨A1, c1, rfl, hFr, hx1⟩ := hT.f
    have HFr := Lib.hid hFr
    clear hFr hT
    go_wp2
    go_ret2
    rw [HF.out.1, HF.out.2]
    exact ⟨_, _, rfl, HFr.out.low (by simp), Ext.trans (by repeat (first | exact Ext.refl _ | assumption | apply Ext.drewN' | apply Ext.alloc' | refine Ext.trans ?_ (by assumption))) hx1⟩
  have k0 : (kind == 0) = false := beq_eq_false_iff_ne.2 h0
  by_cases h1 : kind = 1 ∧ xs.length = 1
  · obtain ⟨h1, h1n⟩ := h1
    subst h1
    have HF := Lib.hid (show madeV D 1 xs = woB D (ix xs 0) ∧ madeB D 1 xs = woOk D (ix xs 0) from ⟨by rw [HV.out, if_neg h0, if_pos ⟨rfl, h1n⟩], by rw [HB.out, if_neg h0, if_pos ⟨rfl, h1n⟩]⟩)
    have hn1 : ((xs.length : Int) == 1) = true := beq_iff_eq.2 (by omega)
    obtain ⟨-, -, bX, oX, hX, hcX⟩ := hx
    obtain rfl := hX (by omega)
    have HCX := Lib.hid (fun W (q : Ext w W) => q.cell (hcX 0 (by omega)))
    have c0 := HCX.out (w.alloc (.cells #[.int .i64 1, .slice (some ⟨bX, oX, none⟩) xs.length cx] 33)) (Ext.alloc _ _)
    rw [Nat.add_zero] at c0
    have hpos : (0 : Int) < (xs.length : Nat) := by omega
    obtain ⟨Y, hY⟩ : ∃ Y, ix xs 0 = Y := ⟨_, rfl⟩
    rw [hY] at HF c0
    clear h0 h1n hs hcX hY hX
    go_enter Try.func42, Try.ntmps42
    go_wp2_with fail
    refine (HWO.out _ _ (HM.out.ext (by repeat (first | exact Ext.refl _ | assumption | apply Ext.drewN' | apply Ext.alloc' | refine Ext.trans ?_ (by assumption))))).mono ?_
    intro e w1 hT
    obtain ⟨A1, c1, rfl, hFr, hx1⟩ := hT.f
    have HFr := Lib.hid hFr
    clear hFr hT
    go_wp2
    go_ret2
    rw [HF.out.1, HF.out.2]
    exact ⟨_, _, rfl, HFr.out.low (by simp), Ext.trans (by repeat (first | exact Ext.refl _ | assumption | apply Ext.drewN' | apply Ext.alloc' | refine Ext.trans ?_ (by assumption))) hx1⟩
  by_cases h2 : kind = 2 ∧ xs.length = 0
  · obtain ⟨h2, h2n⟩ := h2
    subst h2
    have HF := Lib.hid (show madeV D 2 xs = fofV D ∧ madeB D 2 xs = decide (D.length ≤ 5) from ⟨by rw [HV.out, if_neg h0, if_neg h1, if_pos ⟨rfl, h2n⟩], by rw [HB.out, if_neg h0, if_neg h1, if_pos ⟨rfl, h2n⟩]⟩)
    have hn0 : ((xs.length : Int) == 0) = true := beq_iff_eq.2 (by omega)
    have HFL := Lib.hid (fofV_len hs)
    have hn1 := (spB_len hs).1
    clear h0 h1 h2n hs hx
    by_cases h5 : D.length ≤ 5
    · have h5' : (D.length : Int) ≤ 5 := by omega
      have HH := Lib.hid (show madeB D 2 xs = true by rw [HF.out.2, decide_eq_true h5])
      go_enter Try.func42, Try.ntmps42
      go_wp2_with fail
      refine (HFI.out _ (HM.out.ext (by repeat (first | exact Ext.refl _ | assumption | apply Ext.drewN' | apply Ext.alloc' | refine Ext.trans ?_ (by assumption))))).mono ?_
      rintro e w1 ⟨v, rfl, hA⟩
      obtain ⟨A1, c1, rfl, hFr⟩ := hA.from_
      have hx1 := hA.x
      have HFr := Lib.hid hFr
      clear hFr hA
      go_wp2
      go_ret2
      rw [HF.out.1, HH.out]
      exact ⟨_, _, rfl, HFr.out.low (by simp), Ext.trans (by repeat (first | exact Ext.refl _ | assumption | apply Ext.drewN' | apply Ext.alloc' | refine Ext.trans ?_ (by assumption))) hx1⟩
    · have h5' : ¬ (D.length : Int) ≤ 5 := by omega
      have HH := Lib.hid (show madeB D 2 xs = false by rw [HF.out.2, decide_eq_false h5])
      have HE := Lib.hid (show fofV D = [] from List.eq_nil_of_length_eq_zero (by rw [HFL.out, if_neg h5]))
      go_enter Try.func42, Try.ntmps42
      go_wp2
      go_ret2
      rw [HF.out.1, HH.out, HE.out]
      first
      | exact ⟨_, _, rfl, HNIL.out _ (by repeat (first | exact Ext.refl _ | assumption | apply Ext.drewN' | apply Ext.alloc' | refine Ext.trans ?_ (by assumption))), (by repeat (first | exact Ext.refl _ | assumption | apply Ext.drewN' | apply Ext.alloc' | refine Ext.trans ?_ (by assumption)))⟩
      | exact ⟨_, _, rfl, HNIL2.out _ _, (by repeat (first | exact Ext.refl _ | assumption | apply Ext.drewN' | apply Ext.alloc' | refine Ext.trans ?_ (by assumption)))⟩
  by_cases h3 : kind = 3 ∧ xs.length = 0
  · obtain ⟨h3, h3n⟩ := h3
    subst h3
    have HF := Lib.hid (show madeV D 3 xs = blwV D ∧ madeB D 3 xs = true from ⟨by rw [HV.out, if_neg h0, if_neg h1, if_neg h2, if_pos ⟨rfl, h3n⟩], by rw [HB.out, if_neg h0, if_neg h1, if_neg h2, if_pos ⟨rfl, h3n⟩]⟩)
    have hn0 : ((xs.length : Int) == 0) = true := beq_iff_eq.2 (by omega)
    clear h0 h1 h2 h3n hs hx
    go_enter Try.func42, Try.ntmps42
    go_wp2_with fail
    refine (HBL.out _ (HM.out.ext (by repeat (first | exact Ext.refl _ | assumption | apply Ext.drewN' | apply Ext.alloc' | refine Ext.trans ?_ (by assumption))))).mono ?_
    intro e w1 hT
    obtain ⟨A1, c1, rfl, hFr, hx1, -⟩ := hT.from_
    have HFr := Lib.hid hFr
    clear hFr hT
    go_wp2
    go_ret2
    rw [HF.out.1, HF.out.2]
    exact ⟨_, _, rfl, HFr.out.low (by simp), Ext.trans (by repeat (first | exact Ext.refl _ | assumption | apply Ext.drewN' | apply Ext.alloc' | refine Ext.trans ?_ (by assumption))) hx1⟩
  · have HF := Lib.hid (show madeV D kind xs = [] ∧ madeB D kind xs = false from ⟨by rw [HV.out, if_neg h0, if_neg h1, if_neg h2, if_neg h3], by rw [HB.out, if_neg h0, if_neg h1, if_neg h2, if_neg h3]⟩)
    have r1 : (kind == 1) = false ∨ ((kind == 1) = true ∧ ((xs.length : Int) == 1) = false) := by
      by_cases q : kind = 1
      · exact .inr ⟨beq_iff_eq.2 q, beq_eq_false_iff_ne.2 fun e => h1 ⟨q, by omega⟩⟩
      · exact .inl (beq_eq_false_iff_ne.2 q)
    have r2 : (kind == 2) = false ∨ ((kind == 2) = true ∧ ((xs.length : Int) == 0) = false) := by
      by_cases q : kind = 2
      · exact .inr ⟨beq_iff_eq.2 q, beq_eq_false_iff_ne.2 fun e => h2 ⟨q, by omega⟩⟩
      · exact .inl (beq_eq_false_iff_ne.2 q)
    have r3 : (kind == 3) = false ∨ ((kind == 3) = true ∧ ((xs.length : Int) == 0) = false) := by
      by_cases q : kind = 3
      · exact .inr ⟨beq_iff_eq.2 q, beq_eq_false_iff_ne.2 fun e => h3 ⟨q, by omega⟩⟩
      · exact .inl (beq_eq_false_iff_ne.2 q)
    clear h0 h1 h2 h3 hs hx
    rcases r1 with r1 | ⟨r1, s1⟩ <;> rcases r2 with r2 | ⟨r2, s2⟩ <;> rcases r3 with r3 | ⟨r3, s3⟩
    all_goals
      first
      | (exfalso; have a1 := beq_iff_eq.1 r1; have a2 := beq_iff_eq.1 r2; omega)
      | (exfalso; have a1 := beq_iff_eq.1 r1; have a2 := beq_iff_eq.1 r3; omega)
      | (exfalso; have a1 := beq_iff_eq.1 r2; have a2 := beq_iff_eq.1 r3; omega)
      | (go_enter Try.func42, Try.ntmps42
         go_wp2
         go_ret2
         rw [HF.out.1, HF.out.2]
         first
         | exact ⟨_, _, rfl, HNIL.out _ (by repeat (first | exact Ext.refl _ | assumption | apply Ext.drewN' | apply Ext.alloc' | refine Ext.trans ?_ (by assumption))), (by repeat (first | exact Ext.refl _ | assumption | apply Ext.drewN' | apply Ext.alloc' | refine Ext.trans ?_ (by assumption)))⟩
         | exact ⟨_, _, rfl, HNIL2.out _ _, (by repeat (first | exact Ext.refl _ | assumption | apply Ext.drewN' | apply Ext.alloc' | refine Ext.trans ?_ (by assumption)))⟩)
end Go.Proofs.Ytbkefojepelggaa
