/- What is proved: impl.readNumbers, impl.readDeed, impl.ReadDeed. Conditions: those of each contract; the variables of the library hold what the rows list. -/
import Derived.Test.YtcejdgnfmcgopaaGreatDoorRs
import Derived.Lib.SmallJoins
import Derived.Lib.SplitLaws
import Derived.Lib.AtoiErrMem
import Derived.Lib.AtoiAll
namespace Go.Proofs.YtcejdgnfmcgopaaGreatDoor
open Go.RowKit
/-- what the library's variables hold -/
def Env (w : World) : Prop :=
  Names w ∧ (∃ m, w.cell? ⟨1, 0, none⟩ = some (.int .i64 m)) ∧ (∃ t p, w.cell? ⟨2, 0, none⟩ = some (.iface t p)) ∧ (∃ t p, w.cell? ⟨3, 0, none⟩ = some (.iface t p))
theorem Env.ext {w w' : World} (h : Env w) (k : Ext w w') : Env w' := by
  obtain ⟨h1, ⟨m, h2⟩, ⟨t, p, h3⟩, ⟨u, q, h4⟩⟩ := h
  exact ⟨h1.ext k, ⟨m, k.cell h2⟩, ⟨t, p, k.cell h3⟩, ⟨u, q, k.cell h4⟩⟩
/-- the number of a text of digits, 0..99 -/
def aN (p : List UInt8) : Option Int := match Lib.atoiAll p with
  | .ok v => if 0 ≤ v ∧ v ≤ 99 then some v else none
  | _ => none
def nums : List (List UInt8) → Option (List Int)
  | [] => some []
  | p :: ps => match aN p, nums ps with
    | some v, some vs => some (v :: vs)
    | _, _ => none
theorem nums_some : ∀ (ps : List (List UInt8)) (vs : List Int), vs.length = ps.length → (∀ j, j < ps.length → aN (ps.getD j []) = some (ix vs j)) → nums ps = some vs
  | [], [], _, _ => rfl
  | [], _ :: _, h, _ => by simp at h
  | _ :: _, [], h, _ => by simp at h
  | p :: ps, v :: vs, h, k => by
    have h0 := k 0 (by simp)
    have h1 := nums_some ps vs (by simpa using h) (fun j hj => by
      have := k (j + 1) (by simp; omega)
      simpa [ix] using this)
    simp only [nums]
    rw [h1]
    have h2 : aN p = some v := by simpa [ix] using h0
    rw [h2]
theorem nums_none : ∀ (ps : List (List UInt8)) (j : Nat), j < ps.length → aN (ps.getD j []) = none → nums ps = none
  | [], _, h, _ => by simp at h
  | p :: ps, 0, _, h => by
    have h2 : aN p = none := by simpa using h
    simp only [nums]
    rw [h2]
  | p :: ps, j + 1, hj, h => by
    have h1 := nums_none ps j (by simpa using hj) (by simpa using h)
    simp only [nums]
    rw [h1]
    cases aN p <;> rfl
/-- strings.Split at a comma -/
def spl (R : List UInt8) : List (List UInt8) := (Lib.splitB ⟨#[44]⟩ 0 (Lib.countB ⟨R.toArray⟩ ⟨#[44]⟩) ⟨R.toArray⟩).map fun s => s.data.toList
theorem splitB_size (sep : ByteArray) : ∀ (k : Nat) (s : ByteArray), ∀ p ∈ Lib.splitB sep 0 k s, p.size ≤ s.size
  | 0, s, p, h => by
    rw [Lib.splitB_zero] at h
    simp at h
    rw [h]; exact Nat.le_refl _
  | k + 1, s, p, h => by
    unfold Lib.splitB at h
    split at h
    · simp at h
      rw [h]; exact Nat.le_refl _
    · rcases List.mem_cons.1 h with e | e
      · rw [e, ByteArray.size_extract]; omega
      · have := splitB_size sep k _ p e
        rw [ByteArray.size_extract] at this
        omega
theorem split_any (R : List UInt8) (w : World) (hl : R.length ≤ 1048576) (hm : ∃ m, w.cell? ⟨1, 0, none⟩ = some (.int .i64 m)) :
    Calls Tryz.prog 136 #[.string ⟨R.toArray⟩, .string ⟨#[44]⟩] w fun e w' => ∃ A c, e = .returned (.slice A (spl R).length c) ∧ Txts w' A c (spl R) ∧ (spl R).length ≤ 1048577 ∧ (∀ p ∈ spl R, p.length ≤ R.length) ∧ Ext w w' := by
  obtain ⟨m, hm⟩ := hm
  have hsz := tx_size R
  have hlen : (Lib.splitB ⟨#[44]⟩ 0 (Lib.countB ⟨R.toArray⟩ ⟨#[44]⟩) ⟨R.toArray⟩).length = Lib.countB ⟨R.toArray⟩ ⟨#[44]⟩ + 1 := Lib.splitB_all _ (by decide) 0 _ _ rfl
  have hle := Lib.countB_le ⟨#[44]⟩ (by decide) _ (⟨R.toArray⟩ : ByteArray) (Nat.le_refl _)
  have hn : (spl R).length = Lib.countB ⟨R.toArray⟩ ⟨#[44]⟩ + 1 := by unfold spl; rw [List.length_map, hlen]
  refine (strings_Split ⟨R.toArray⟩ ⟨#[44]⟩ m w (by omega) hm (by decide)).mono ?_
  rintro e w' ⟨rfl, rfl⟩
  have hb := heap_alloc_new w (.cells ((Lib.splitB ⟨#[44]⟩ 0 (Lib.countB ⟨R.toArray⟩ ⟨#[44]⟩) ⟨R.toArray⟩).map Value.string).toArray 9)
  refine ⟨_, _, by rw [hn], ⟨by omega, by rw [hn.symm]; unfold maxLen; omega, w.heap.size, 0, fun _ => ⟨rfl, _, hb⟩, fun i hi => ?_⟩, by omega, ?_, Ext.alloc _ _⟩
  · rw [Nat.zero_add, cell_cells hb]
    unfold spl tx
    rw [hn, ← hlen] at hi
    simp [List.getD, hi]
  · intro p hp
    obtain ⟨s, hs, rfl⟩ := List.mem_map.1 hp
    have := splitB_size _ _ _ s hs
    rw [hsz] at this
    simpa using this
theorem num_end (e : Lib.NumEnd Int) : e = Lib.NumEnd.syntax ∨ e = Lib.NumEnd.range ∨ ∃ v, e = Lib.NumEnd.ok v := by
  cases e with
  | ok v => exact Or.inr (Or.inr ⟨v, rfl⟩)
  | range => exact Or.inr (Or.inl rfl)
  | _ => exact Or.inl rfl
theorem atoi_any (p : List UInt8) (w : World) (hl : p.length ≤ 1048576) (hE : Env w) :
    Calls Tryz.prog 137 #[.string ⟨p.toArray⟩] w fun e w' => ∃ (x : Int) (u : Value), e = .returned (.tuple #[.int .i64 x, u]) ∧ Ext w w' ∧ ((u = .nilIface ∧ (aN p = if 0 ≤ x ∧ x ≤ 99 then some x else none)) ∨ (aN p = none ∧ ∃ t N, u = .iface t (.pointer (some ⟨N, 0, none⟩)))) := by
  have hsz := tx_size p
  have hp : (⟨p.toArray⟩ : ByteArray).data.toList = p := rfl
  rcases num_end (Lib.atoiAll p) with h | h | ⟨v, h⟩
  rotate_left
  rotate_left
  · refine (strconv_Atoi_ok ⟨p.toArray⟩ (by omega) v h w).mono ?_
    rintro e w' ⟨rfl, hw⟩
    refine ⟨v, _, rfl, ?_, Or.inl ⟨rfl, by unfold aN; rw [h]⟩⟩
    rcases hw with rfl | ⟨t, rfl⟩
    · exact Ext.refl _
    · exact Lib.bytesWorld_below _ _ _
  · obtain ⟨t, q, hv⟩ := hE.2.2.1
    refine (strconv_Atoi_syntax ⟨p.toArray⟩ (by omega) h _ w hv (Or.inr ⟨t, q, rfl⟩)).mono ?_
    rintro e w' ⟨N, rfl, -, -, hx⟩
    exact ⟨0, _, rfl, hx, Or.inr ⟨by unfold aN; rw [h], _, N, rfl⟩⟩
  · obtain ⟨t, q, hv⟩ := hE.2.2.2
    refine (strconv_Atoi_range ⟨p.toArray⟩ (by omega) h _ w hv (Or.inr ⟨t, q, rfl⟩)).mono ?_
    rintro e w' ⟨N, rfl, -, -, hx⟩
    exact ⟨_, _, rfl, hx, Or.inr ⟨by unfold aN; rw [h], _, N, rfl⟩⟩
set_option maxRecDepth 100000 in
set_option maxHeartbeats 4000000 in
theorem readNumbers_any (R : List UInt8) (w : World) (hl : R.length ≤ 1048576) (hE : Env w) :
    Calls Tryz.prog 111 #[.string ⟨R.toArray⟩] w fun e w' => Ext w w' ∧ ((nums (spl R) = none ∧ e = .returned (.tuple #[.slice none 0 0, .bool false])) ∨ (∃ xs v, nums (spl R) = some xs ∧ xs.length ≤ 1048577 ∧ e = .returned (.tuple #[v, .bool (decide (rowT xs = R))]) ∧ Leaf w' v xs ∧ ∀ g ∈ lb v, w.heap.size ≤ g)) := by
  have HE := Lib.hid hE
  clear hE
  go_enter Tryz.func111, Tryz.ntmps111
  go_wp2_with fail
  refine (split_any R _ hl (HE.out.ext (Ext.alloc _ _)).2.1).mono ?_
  rintro e w1 ⟨A1, c1, rfl, hT1, hN1, hP1, hx1⟩
  have HAC := Lib.hid ((Acc.empty (w0 := w) (w := w) 3 (Ext.refl _)).on hx1)
  obtain ⟨ps, hps⟩ : ∃ p, spl R = p := ⟨_, rfl⟩
  rw [hps] at hT1 hN1 hP1 ⊢
  have HPS := Lib.hid hps
  have HT1 := Lib.hid hT1
  have HP1 := Lib.hid hP1
  have hu1 := hT1.1
  have hu2 := hT1.2.1
  unfold maxLen at hu2
  clear hT1 hP1 hps hx1
  go_wp2_with fail
  go_loopg [4, 13] ps.length (fun g s4 s13 wr => ∃ (i : Nat) (v : Value) (vs : List Int), i + g = ps.length ∧ vs.length = i ∧ s13 = .int .i64 i ∧ v = s4 ∧ Hid (Acc w wr 3 v (vs.map (Value.int .i64)) ∧ Txts wr A1 c1 ps ∧ (∀ j, j < i → aN (ps.getD j []) = some (ix vs j)) ∧ ∀ j, j < i → 0 ≤ ix vs j ∧ ix vs j ≤ 99))
  case atStart => exact ⟨0, _, [], by omega, rfl, rfl, rfl, Lib.hid ⟨HAC.out, HT1.out, fun j hj => absurd hj (by omega), fun j hj => absurd hj (by omega)⟩⟩
  case round =>
    obtain ⟨i, v, vs, hi, hvl, rfl, rfl, HW⟩ := hrel
    by_cases hin : i < ps.length
    · obtain ⟨g1, rfl⟩ : ∃ g', gk = g' + 1 := ⟨gk - 1, by omega⟩
      have hin' : (i : Int) < (ps.length : Nat) := by omega
      obtain ⟨-, -, b2, o2, t3, t4⟩ := HW.out.2.1
      obtain ⟨rfl, -⟩ := t3 (by omega)
      have t5 := t4 i hin
      obtain ⟨Q, hQ⟩ : ∃ Q, ps.getD i [] = Q := ⟨_, rfl⟩
      have hmem : Q ∈ ps := by rw [← hQ]; simp [List.getD, hin]
      have hQL := HP1.out Q hmem
      rw [hQ] at t5
      have HQ := Lib.hid hQ
      have HA := Lib.hid (fun W (q : Ext w W) => atoi_any Q W (by omega) (HE.out.ext q))
      have HWX := Lib.hid HW.out.1.1
      unfold tx at t5
      clear t3 t4 hQ hmem
      go_wp2_with fail
      refine (HA.out _ HWX.out).mono ?_
      rintro e w5 ⟨x, u, rfl, hx5, hu⟩
      rcases hu with ⟨rfl, haN⟩ | ⟨haN, t, N, rfl⟩
      · by_cases hxr : 0 ≤ x ∧ x ≤ 99
        · rw [if_pos hxr] at haN
          have HAN := Lib.hid haN
          have n1 : ¬ x < 0 := by omega
          have n2 : ¬ 99 < x := by omega
          have HXR := Lib.hid hxr
          have HPU := Lib.hid (app_run (P := Tryz.prog) (w0 := w) (T := 54) (E := 3) (ty := 54) Tryz.underlying54 infoI rfl (by decide) v (vs.map (Value.int .i64)) ⟨w5.heap.size, 0, none⟩ 1 1 [.int .i64 x] rfl (one_news (cell_new0 w5 _ _) rfl) (map_one [x]) (HW.out.1.on (hx5.trans (Ext.alloc w5 (.cells #[.int .i64 x] 3)))) (by simp; omega))
          have HX5 := Lib.hid (And.intro (HW.out.2.1.ext (hx5.trans (Ext.alloc w5 (.cells #[.int .i64 x] 3)))) (HW.out.1.on (hx5.trans (Ext.alloc w5 (.cells #[.int .i64 x] 3)))).2)
          clear hx5 haN hxr
          go_wp2_with (at_builtin; go_loud (refine wpList_ex rfl _ _ rfl _ (.slice (some ⟨_, 0, none⟩) 1 1) rfl rfl HPU.out ?_; rintro v6 w6 hS6))
          go_roundg g1
          case measure => omega
          case rel =>
            have hst : (vs ++ [x]).map (Value.int .i64) = vs.map (Value.int .i64) ++ [.int .i64 x] := by rw [List.map_append]; rfl
            have hold : ∀ j, j < i → ix (vs ++ [x]) j = ix vs j := fun j hj => by
              simp [ix, List.getD, List.getElem?_append_left (show j < vs.length by omega)]
            have hlast : ix (vs ++ [x]) i = x := by
              unfold ix
              rw [← hvl]; simp [List.getD]
            exact ⟨i + 1, _, vs ++ [x], by omega, by rw [List.length_append, List.length_singleton]; omega, by go_num, rfl, Lib.hid ⟨by rw [hst]; exact hS6.1, HX5.out.1.beside hS6.2.1 HX5.out.2 (by decide), fun j hj => by
              by_cases e : j = i
              · subst e; rw [HQ.out, HAN.out, hlast]
              · rw [hold j (by omega)]; exact HW.out.2.2.1 j (by omega), fun j hj => by
              by_cases e : j = i
              · subst e; rw [hlast]; exact HXR.out
              · rw [hold j (by omega)]; exact HW.out.2.2.2 j (by omega)⟩⟩
        · rw [if_neg hxr] at haN
          have HNN : Hid (nums ps = none) := Lib.hid (nums_none ps i hin (by rw [HQ.out]; exact haN))
          have HXF := Lib.hid (HWX.out.trans hx5)
          clear haN hx5
          by_cases n1 : x < 0
          · clear hxr
            go_wp2_with fail
            go_ret2
            exact ⟨HXF.out, Or.inl ⟨by rw [HPS.out]; exact HNN.out, rfl⟩⟩
          · have n2 : 99 < x := by omega
            clear hxr
            go_wp2_with fail
            go_ret2
            exact ⟨HXF.out, Or.inl ⟨by rw [HPS.out]; exact HNN.out, rfl⟩⟩
      · have HNN : Hid (nums ps = none) := Lib.hid (nums_none ps i hin (by rw [HQ.out]; exact haN))
        have HXF := Lib.hid (HWX.out.trans hx5)
        clear haN hx5
        go_wp2_with fail
        go_ret2
        exact ⟨HXF.out, Or.inl ⟨by rw [HPS.out]; exact HNN.out, rfl⟩⟩
    · have hin' : ¬ (i : Int) < (ps.length : Nat) := by omega
      obtain rfl : i = ps.length := by omega
      have ha := HW.out.1
      obtain ⟨hLf, hLb⟩ := Leaf.of_own ha.2
      obtain ⟨Ar, cr, hvr, hIr⟩ := hLf.ints
      subst hvr
      have HR := Lib.hid (And.intro hLf hLb)
      have HNS := Lib.hid (nums_some ps vs hvl HW.out.2.2.1)
      have HXr := Lib.hid ha.1
      have HNT := Lib.hid (numbersText_any Ar cr vs wr hIr (fun j hj => HW.out.2.2.2 j (by omega)) (by omega))
      obtain ⟨T, hT⟩ : ∃ T, rowT vs = T := ⟨_, rfl⟩
      rw [hT] at HNT
      have HT := Lib.hid hT
      unfold tx at HNT
      have hvl2 : vs.length ≤ 1048577 := by omega
      clear ha hLf hLb HW hIr hT hvl
      have hfin : ∀ b : Bool, b = decide (T = R) → ∀ w', Ext wr w' → Ext w w' ∧ ((nums ps = none ∧ Ending.returned (.tuple #[.slice Ar vs.length cr, .bool b]) = .returned (.tuple #[.slice none 0 0, .bool false])) ∨ (∃ xs v, nums ps = some xs ∧ xs.length ≤ 1048577 ∧ Ending.returned (.tuple #[.slice Ar vs.length cr, .bool b]) = .returned (.tuple #[v, .bool (decide (rowT xs = R))]) ∧ Leaf w' v xs ∧ ∀ g ∈ lb v, w.heap.size ≤ g)) := fun b hb w' q =>
        ⟨HXr.out.trans q, Or.inr ⟨vs, _, HNS.out, hvl2, by rw [hb, HT.out], HR.out.1.keep (fun g hg => q.block (HR.out.1.lt hg)), HR.out.2⟩⟩
      have HF := Lib.hid hfin
      clear hfin
      go_wp2_with fail
      refine HNT.out.mono ?_
      rintro e w5 ⟨rfl, hx5⟩
      by_cases hTR : T = R
      · have hTR' : (T == R) = true := beq_iff_eq.2 hTR
        have HT2 := Lib.hid hTR
        clear hTR
        go_wp2_with fail
        go_ret2
        rw [HPS.out]
        exact HF.out true (by simp [HT2.out]) _ hx5
      · have hTR' : (T == R) = false := beq_eq_false_iff_ne.2 hTR
        have HT2 := Lib.hid hTR
        clear hTR
        go_wp2_with fail
        go_ret2
        rw [HPS.out]
        exact HF.out false (by simp [HT2.out]) _ hx5
end Go.Proofs.YtcejdgnfmcgopaaGreatDoor
