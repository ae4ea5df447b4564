/- What is proved: impl.ReadJournal, spec.ReadJournal. Conditions: those of each contract; the variables of the library hold what the rows list. -/
import Derived.Test.YtcejdgnfmcgopaaGreatDoorJq
import Derived.Test.YtcejdgnfmcgopaaGreatDoorDso
import Derived.Test.YtcejdgnfmcgopaaGreatDoorLawReadDeed
namespace Go.Proofs.YtcejdgnfmcgopaaGreatDoor
open Go.RowKit
/-- one deed more, behind a call -/
theorem accDs_run {P : Program} {w0 wr w5 w6 : World} {T E ty : TypeId} (hE : E = 56) (ht : P.underlying T = some (.slice E)) (hinfo : (P.info? E).map (fun i => (i.zero, i.size, i.bytes)) = some (some (.agg #[.int .i64 0, .slice none 0 0]), 2, 32))
    {v : Value} {ds : List (Int × List Int)} {V : Nat → Value} (hO : OwnDs w0.heap.size wr v ds V) (hx : Ext w0 wr) (h5 : Ext wr w5) (h6 : Ext w5 w6) {A : Option Addr} {n c : Nat} {xs : List Int} {kind : Int} (hL : Leaf w5 (.slice A n c) xs) (hb : ∀ g ∈ lb (.slice A n c), wr.heap.size ≤ g) (hl : ds.length ≤ 1000000) :
    ∃ v' w', (Builtin.append_ #[T, T] ty #[v, .slice (some ⟨w6.heap.size, 0, none⟩) 1 1]).run P (w6.alloc (.cells #[.int .i64 kind, .slice A n c] E)) = .ok v' w' ∧ (∃ V', OwnDs w0.heap.size w' v' (ds ++ [(kind, xs)]) V') ∧ Ext w0 w' := by
  subst hE
  have hx7 : Ext wr (w6.alloc (.cells #[.int .i64 kind, .slice A n c] 56)) := (h5.trans h6).alloc' _
  have hV := hO.keep (KeepE.of_ext hx7)
  have hb7 := heap_alloc_new w6 (.cells #[.int .i64 kind, .slice A n c] 56)
  have s1 := hx.size
  have s2 := h5.size
  have s3 := hx7.size
  obtain ⟨v', w', hr, g2, g3, -, g6⟩ := hV.push (P := P) (T := T) (ty := ty) rfl ht hinfo (kind := kind) (u := .slice A n c) (xs := xs) (hL.ext (h6.alloc' _)) (fun q hq => Nat.le_trans s1 (hb q hq)) (fun i hi q hq hq2 => by
    have h6 := hb q hq
    have h7 := (hO.2.1 i hi).lt hq2
    omega) ⟨w6.heap.size, 0, none⟩ 1 (by show World.cell? _ ⟨w6.heap.size, 0 + 0, none⟩ = _; rw [cell_cells hb7]; rfl) (by show World.cell? _ ⟨w6.heap.size, 0 + 1, none⟩ = _; rw [cell_cells hb7]; rfl) hl (by omega)
  have hown : ∀ k, v.ownBlock = some k → w0.heap.size ≤ k := fun k hk => (hV.1.lt k hk).1
  have hx07 := hx.trans hx7
  exact ⟨v', w', hr, ⟨_, g2⟩, ⟨g3.os.trans (Below.os hx07), g3.tape.trans (Below.tape hx07), g3.output.trans (Below.output hx07), Nat.le_trans hx07.size g3.size, fun k hk => (g3.block k (by have := hx07.size; omega) fun e => by have := hown k e.symm; omega).trans (hx07.block hk)⟩⟩
set_option maxRecDepth 100000 in
set_option maxHeartbeats 4000000 in
theorem sReadJournal_any (L : List UInt8) (w : World) (hl : L.length ≤ 1048576) :
    Calls Tryz.prog 30 #[.string ⟨L.toArray⟩] w fun e w' => ∃ v, e = .returned (.tuple #[v, .int .i64 (jr (L.length + 1) L).2]) ∧ (∃ V, OwnDs w.heap.size w' v (jr (L.length + 1) L).1 V) ∧ Ext w w' := by
  have hsz := tx_size L
  go_enter Tryz.func30, Tryz.ntmps30
  go_wp2_with fail
  go_loopg [4, 5, 6] L.length (fun g s4 s5 s6 wr => ∃ (i fr : Nat) (v : Value) (V : Nat → Value) (out : List (Int × List Int)), i + g = L.length ∧ fr ≤ i ∧ s6 = .int .i64 i ∧ s5 = .int .i64 fr ∧ v = s4 ∧ 2 * out.length ≤ fr ∧ Hid (OwnDs w.heap.size wr v out V ∧ Ext w wr ∧ (∀ b ∈ (L.drop fr).take (i - fr), b ≠ 10) ∧ out ++ (jr (L.length + 1) (L.drop fr)).1 = (jr (L.length + 1) L).1 ∧ fr + (jr (L.length + 1) (L.drop fr)).2 = (jr (L.length + 1) L).2))
  case atStart => exact ⟨0, 0, _, fun _ => .slice none 0 0, [], by omega, by omega, rfl, rfl, rfl, by simp, Lib.hid ⟨OwnDs.made (Nat.le_refl _) _, Ext.alloc _ _, by simp, by simp, by simp⟩⟩
  case round =>
    obtain ⟨i, fr, v, V, out, hi, hf, rfl, rfl, rfl, hol, HW⟩ := hrel
    by_cases hin : i < L.length
    · obtain ⟨g1, rfl⟩ : ∃ g', gk = g' + 1 := ⟨gk - 1, by omega⟩
      have hin' : (i : Int) < (L.length : Nat) := by omega
      have hix := index_at hin
      obtain ⟨c, hc⟩ : ∃ c, L[i]'hin = c := ⟨_, rfl⟩
      have hdr : L.drop i = c :: L.drop (i + 1) := by rw [← hc]; exact List.drop_eq_getElem_cons hin
      have HD := Lib.hid hdr
      have hc2 : (L[i]'hin).toNat = c.toNat := by rw [hc]
      obtain ⟨x, hx⟩ : ∃ x, c.toNat = x := ⟨_, rfl⟩
      rw [hc2, hx] at hix
      by_cases hcs : c = 10
      · have hxy : ((x : Int) == 10) = true := by rw [← hx, hcs]; rfl
        have hsl := slice_at (L := L) hf (Nat.le_of_lt hin)
        obtain ⟨p, hp⟩ : ∃ p, (L.drop fr).take (i - fr) = p := ⟨_, rfl⟩
        rw [hp] at hsl
        have hpl : p.length = i - fr := by rw [← hp, List.length_take, List.length_drop]; omega
        have hp10 : ∀ b ∈ p, b ≠ 10 := by rw [← hp]; exact HW.out.2.2.1
        have hsplit : L.drop fr = p ++ 10 :: L.drop (i + 1) := by
          have h1 : L.drop i = (L.drop fr).drop (i - fr) := by rw [List.drop_drop]; congr 1; omega
          rw [← hcs, ← hdr, h1, ← hp, List.take_append_drop]
        have HJ := Lib.hid (by
          have := jr_line (n := L.length) (r := L.drop (i + 1)) hp10 (by rw [← hsplit, List.length_drop]; omega)
          rw [← hsplit] at this
          exact this)
        have HRD := Lib.hid (fun W => sReadDeed_any p W (by omega))
        unfold tx at hsl
        clear hc hc2 hcs hdr hx hp hsplit HD
        go_wp2_with fail
        refine (HRD.out wr).mono ?_
        rintro e w5 ⟨u, rfl, hLf, hLb, hx5⟩
        obtain ⟨A3, c3, rfl, -⟩ := hLf.ints
        have hO5 := HW.out.1.keep (KeepE.of_ext hx5)
        have HX5 := Lib.hid (HW.out.2.1.trans hx5)
        have hj := HJ.out
        cases hrd : rdS p with
        | none =>
          rw [hrd] at hj
          have HE : Hid (out = (jr (L.length + 1) L).1 ∧ fr = (jr (L.length + 1) L).2) := Lib.hid (by
            have h1 := HW.out.2.2.2
            rw [hj] at h1
            simpa using h1)
          have HO5 := Lib.hid hO5
          clear hj hO5 hLf hLb hx5 hrd HJ HRD
          unfold rk rx
          go_wp2_with fail
          go_ret2
          exact ⟨v, by rw [← HE.out.2]; rfl, ⟨V, by rw [← HE.out.1]; exact HO5.out.keep (KeepE.of_ext (Ext.alloc _ _))⟩, HX5.out.trans (Ext.alloc _ _)⟩
        | some a =>
          obtain ⟨kd, xs⟩ := a
          rw [hrd] at hj hLf hLb
          have e1 : rk (some (kd, xs)) = kd := rfl
          have e2 : rx (some (kd, xs)) = xs := rfl
          have e3 : (some (kd, xs)).isSome = true := rfl
          rw [e1, e2, e3]
          rw [e2] at hLf hLb
          clear e1 e2 e3
          obtain ⟨w6, hw6⟩ : ∃ W, w5.alloc (.cells #[.int .i64 kd, .slice A3 xs.length c3] 56) = W := ⟨_, rfl⟩
          have hx56 : Ext w5 w6 := by rw [← hw6]; exact Ext.alloc _ _
          have hb6 := heap_alloc_new w5 (.cells #[.int .i64 kd, .slice A3 xs.length c3] 56)
          rw [hw6] at hb6
          obtain ⟨p0, p1⟩ := two_cells hb6
          have HPU := Lib.hid (accDs_run (P := Tryz.prog) (T := 47) (E := 56) (ty := 47) rfl Tryz.underlying47 infoDeed (kind := kd) (xs := xs) HW.out.1 HW.out.2.1 hx5 hx56 hLf hLb (by omega))
          have HE : Hid (out ++ [(kd, xs)] ++ (jr (L.length + 1) (L.drop (i + 1))).1 = (jr (L.length + 1) L).1 ∧ i + 1 + (jr (L.length + 1) (L.drop (i + 1))).2 = (jr (L.length + 1) L).2) := Lib.hid (by
            have h1 := HW.out.2.2.2
            rw [hj] at h1
            refine ⟨by rw [← h1.1]; simp, by rw [← h1.2]; simp only []; omega⟩)
          have HLN : Hid ((out ++ [(kd, xs)]).length = out.length + 1) := Lib.hid (by simp)
          have hi2 : fr + 2 ≤ i + 1 := by
            have := List.length_pos_iff.2 (rdS_sound hrd).1
            omega
          clear hj hO5 hLf hLb hx5 hrd HJ HRD hb6 hx56 hpl hp10
          go_wp2_with (at_builtin; go_loud (refine wpList_ex rfl _ _ rfl _ (.slice (some ⟨_, 0, none⟩) 1 1) rfl rfl HPU.out ?_; rintro v8 w8 hS8))
          go_roundg g1
          case measure => omega
          case rel => exact ⟨i + 1, i + 1, _, hS8.1.choose, _, by omega, by omega, by go_num, by go_num, rfl, by rw [HLN.out]; omega, Lib.hid ⟨hS8.1.choose_spec, hS8.2, (by rw [Nat.sub_self]; intro b hb; cases hb), HE.out.1, HE.out.2⟩⟩
      · have hxy : ((x : Int) == 10) = false := beq_eq_false_iff_ne.2 fun q => hcs (by
          apply UInt8.toNat_inj.1
          rw [hx]
          show x = 10
          omega)
        have HCS := Lib.hid hcs
        clear hc hc2 hcs hdr hx
        go_wp2_with fail
        go_roundg g1
        case measure => omega
        case rel => exact ⟨i + 1, fr, _, V, out, by omega, by omega, by go_num, rfl, rfl, hol, Lib.hid ⟨HW.out.1, HW.out.2.1, by
          rw [show i + 1 - fr = (i - fr) + 1 by omega, List.take_add_one]
          have e : (L.drop fr)[i - fr]? = (L.drop i)[0]? := by rw [List.getElem?_drop, List.getElem?_drop]; congr 1; omega
          rw [e, HD.out]
          intro b hb
          rcases List.mem_append.1 hb with q | q
          · exact HW.out.2.2.1 b q
          · simp at q; rw [q]; exact HCS.out, HW.out.2.2.2⟩⟩
    · have hin' : ¬ (i : Int) < (L.length : Nat) := by omega
      obtain rfl : i = L.length := by omega
      have hn := jr_none (n := L.length + 1) (R := L.drop fr) (fun b hb => HW.out.2.2.1 b (by rw [List.take_of_length_le (by simp)]; exact hb))
      have HE : Hid (out = (jr (L.length + 1) L).1 ∧ fr = (jr (L.length + 1) L).2) := Lib.hid (by
        have h1 := HW.out.2.2.2
        rw [hn] at h1
        simpa using h1)
      clear hn
      go_wp2_with fail
      go_ret2
      exact ⟨v, by rw [← HE.out.2]; rfl, ⟨V, by rw [← HE.out.1]; exact HW.out.1⟩, HW.out.2.1⟩
theorem jn_cut (R : List UInt8) : jn R = if cutH 10 R = true then (match rdS (cutP 10 R) with
    | some a => (a :: (jn (cutR 10 R)).1, (cutP 10 R).length + 1 + (jn (cutR 10 R)).2)
    | none => ([], 0)) else ([], 0) := by
  show jr (R.length + 1) R = _
  rw [jr]
  by_cases q : cutH 10 R = true
  · rw [if_pos q, if_pos q]
    have hl := (cut_lens q).1
    have e : jr R.length (cutR 10 R) = jn (cutR 10 R) := jr_fuel R.length ((cutR 10 R).length + 1) (cutR 10 R) (by omega) (by omega)
    rw [e]
    cases rdS (cutP 10 R) <;> rfl
  · rw [if_neg q, if_neg q]
set_option maxRecDepth 100000 in
set_option maxHeartbeats 4000000 in
theorem iReadJournal_any (L : List UInt8) (w : World) (hl : L.length ≤ 1048576) (hE : Env w) :
    Calls Tryz.prog 29 #[.string ⟨L.toArray⟩] w fun e w' => ∃ v, e = .returned (.tuple #[v, .int .i64 (jn L).2]) ∧ (∃ V, OwnDs w.heap.size w' v (jn L).1 V) ∧ Ext w w' := by
  have hsz := tx_size L
  have HE := Lib.hid hE
  clear hE
  go_enter Tryz.func29, Tryz.ntmps29
  go_wp2_with fail
  go_loopg [4, 5] L.length (fun g s4 s5 wr => ∃ (fr : Nat) (v : Value) (V : Nat → Value) (out : List (Int × List Int)), fr + g = L.length ∧ s5 = .int .i64 fr ∧ v = s4 ∧ 2 * out.length ≤ fr ∧ Hid (OwnDs w.heap.size wr v out V ∧ Ext w wr ∧ out ++ (jn (L.drop fr)).1 = (jn L).1 ∧ fr + (jn (L.drop fr)).2 = (jn L).2))
  case atStart => exact ⟨0, _, fun _ => .slice none 0 0, [], by omega, rfl, rfl, by simp, Lib.hid ⟨OwnDs.made (Nat.le_refl _) _, Ext.alloc _ _, by simp, by simp⟩⟩
  case round =>
    obtain ⟨fr, v, V, out, hf, rfl, rfl, hol, HW⟩ := hrel
    have hsl := slice_end (L := L) (a := fr) (by omega)
    have HJ := Lib.hid (jn_cut (L.drop fr))
    have HCL := Lib.hid (fun (q : cutH 10 (L.drop fr) = true) => cut_lens q)
    have hRl : (L.drop fr).length = L.length - fr := List.length_drop
    have HDD := Lib.hid (fun n => (List.drop_drop (i := n) (j := fr) (l := L)))
    have HRL := Lib.hid hRl
    obtain ⟨R, hR⟩ : ∃ R, L.drop fr = R := ⟨_, rfl⟩
    rw [hR] at hsl HJ HCL HDD hRl HRL
    have HW' := Lib.hid HW.out
    rw [hR] at HW'
    clear HW hR
    have hRm : R.length ≤ 1048576 := by omega
    clear hRl
    have HC := Lib.hid (fun W (q : Ext w W) => cut_any 10 R W hRm (HE.out.ext q).2.1)
    have hWl := cutP_le 10 R
    obtain ⟨p, hp⟩ : ∃ x, cutP 10 R = x := ⟨_, rfl⟩
    obtain ⟨T, hT⟩ : ∃ x, cutR 10 R = x := ⟨_, rfl⟩
    obtain ⟨hs, hhs⟩ : ∃ x, cutH 10 R = x := ⟨_, rfl⟩
    rw [hp, hT, hhs] at HC HJ
    rw [hp, hhs] at HCL
    rw [hT] at HCL
    rw [hp] at hWl
    have hpm : p.length ≤ 1048576 := by omega
    have hpsz := tx_size p
    have HRD := Lib.hid (fun W (q : Ext w W) => readDeed_any p W hpm (HE.out.ext q))
    rw [rd_same p] at HRD
    clear hp hT hhs hWl
    unfold tx at hsl HC
    go_wp2_with fail
    refine (HC.out _ HW'.out.2.1).mono ?_
    rintro e w5 ⟨rfl, hx5⟩
    have hx05 := HW'.out.2.1.trans hx5
    go_wp2_with fail
    refine (HRD.out _ hx05).mono ?_
    rintro e w6 ⟨u, rfl, hLf, hLb, hx6⟩
    have hx56 := hx5.trans hx6
    obtain ⟨A3, c3, rfl, -⟩ := hLf.ints
    obtain ⟨r, hr⟩ : ∃ r, rdS p = r := ⟨_, rfl⟩
    have HP1 : Hid (∀ a, r = some a → 1 ≤ p.length) := Lib.hid (fun a q => List.length_pos_iff.2 (rdS_sound (hr.trans q)).1)
    rw [hr] at hLf hLb HJ ⊢
    clear hr HRD HC
    obtain ⟨kd, hkd⟩ : ∃ k, rk r = k := ⟨_, rfl⟩
    obtain ⟨xs, hxs⟩ : ∃ k, rx r = k := ⟨_, rfl⟩
    obtain ⟨b, hb⟩ : ∃ k, r.isSome = k := ⟨_, rfl⟩
    rw [hxs] at hLf hLb
    rw [hkd, hxs, hb]
    have HK := Lib.hid (And.intro hkd (And.intro hxs hb))
    clear hkd hxs hb
    obtain ⟨w7, hw7⟩ : ∃ W, w6.alloc (.cells #[.int .i64 kd, .slice A3 xs.length c3] 56) = W := ⟨_, rfl⟩
    have hx67 : Ext w6 w7 := by rw [← hw7]; exact Ext.alloc _ _
    have hb7 := heap_alloc_new w6 (.cells #[.int .i64 kd, .slice A3 xs.length c3] 56)
    rw [hw7] at hb7
    obtain ⟨p0, p1⟩ := two_cells hb7
    have HX7 := Lib.hid (HW'.out.2.1.trans (hx56.trans hx67))
    have HO7 := Lib.hid (HW'.out.1.keep (KeepE.of_ext (hx56.trans hx67)))
    by_cases hgo : hs = true ∧ b = true
    · obtain ⟨rfl, rfl⟩ := hgo
      obtain ⟨a, ha⟩ : ∃ a, r = some a := Option.isSome_iff_exists.1 HK.out.2.2
      have hHJ := HJ.out
      rw [ha] at hHJ
      have hp1 := HP1.out a ha
      simp only [if_true] at hHJ
      have hka : a = (kd, xs) := by
        have h1 := HK.out.1
        have h2 := HK.out.2.1
        rw [ha] at h1 h2
        exact Prod.ext h1 h2
      rw [hka] at hHJ
      obtain ⟨c1, c2⟩ := HCL.out rfl
      have hT2 : T = L.drop (fr + (p.length + 1)) := by rw [c2, HDD.out]
      have hle : fr + (p.length + 1) ≤ L.length := by have := HRL.out; omega
      have HE2 : Hid (out ++ [(kd, xs)] ++ (jn (L.drop (fr + (p.length + 1)))).1 = (jn L).1 ∧ fr + (p.length + 1) + (jn (L.drop (fr + (p.length + 1)))).2 = (jn L).2) := Lib.hid (by
        have h1 := HW'.out.2.2
        rw [hHJ] at h1
        rw [← hT2]
        refine ⟨by rw [← h1.1]; simp, by rw [← h1.2]; simp only []; omega⟩)
      have HLN : Hid ((out ++ [(kd, xs)]).length = out.length + 1) := Lib.hid (by simp)
      have HPU := Lib.hid (accDs_run (P := Tryz.prog) (T := 47) (E := 56) (ty := 47) rfl Tryz.underlying47 infoDeed (kind := kd) (xs := xs) HW'.out.1 HW'.out.2.1 hx56 hx67 hLf (fun g hg => by have := hLb g hg; have := hx5.size; omega) (by omega))
      clear hHJ ha hka c1 c2 hT2 hLf hLb hx5 hx6 hx56 hx05 hb7 hx67 HJ HK HCL HDD HW'
      go_wp2_with (at_builtin; go_loud (refine wpList_ex rfl _ _ rfl _ (.slice (some ⟨_, 0, none⟩) 1 1) rfl rfl HPU.out ?_; rintro v8 w8 hS8))
      go_roundg (L.length - (fr + (p.length + 1)))
      case measure => omega
      case rel => exact ⟨fr + (p.length + 1), _, hS8.1.choose, _, by omega, by go_num, rfl, by rw [HLN.out]; omega, Lib.hid ⟨hS8.1.choose_spec, hS8.2, HE2.out.1, HE2.out.2⟩⟩
    · have HE2 : Hid (out = (jn L).1 ∧ fr = (jn L).2) := Lib.hid (by
        have h1 := HW'.out.2.2
        have h2 : jn R = ([], 0) := by
          rw [HJ.out]
          by_cases q : hs = true
          · rw [if_pos q]
            cases r with
            | none => rfl
            | some a => exact absurd ⟨q, HK.out.2.2.symm⟩ hgo
          · rw [if_neg q]
        rw [h2] at h1
        simpa using h1)
      have hbool : (!hs || !b) = true := by cases hs <;> cases b <;> simp_all
      clear hLf hLb hx5 hx6 hx56 hx05 hb7 hx67 HJ HK HCL HDD HW'
      cases hs <;> cases b <;> (first | exact absurd ⟨rfl, rfl⟩ hgo | skip)
      all_goals
        go_wp2_with fail
        go_ret2
        exact ⟨v, by rw [← HE2.out.2]; rfl, ⟨V, by rw [← HE2.out.1]; exact HO7.out⟩, HX7.out⟩
end Go.Proofs.YtcejdgnfmcgopaaGreatDoor
