/- What is proved: the law FnMedianSpace returns true for every input, and its argument reads behind the call as before. No condition. -/
import Derived.Test.YtjaigidlpfdfiaaDrMed
import Derived.Test.YtjaigidlpfdfiaaMSp
namespace Go.Proofs.Ytjaigidlpfdfiaa
open Go.RowKit
theorem cnt_len (p : Nat → Bool) : ∀ (g k : Nat) (xs : List Int), itR (fun k (s : Int) => if p k = true then s + 1 else s) g k (xs.length : Nat) = ((selG p g k xs).length : Nat)
  | 0, _, _ => rfl
  | g + 1, k, xs => by
    show itR (fun k (s : Int) => if p k = true then s + 1 else s) g (k + 1) (if p k = true then ((xs.length : Nat) : Int) + 1 else (xs.length : Nat)) = ((selG p g (k + 1) (if p k = true then xs ++ [(k : Int)] else xs)).length : Nat)
    by_cases h : p k = true
    · rw [if_pos h, if_pos h, ← cnt_len p g (k + 1) (xs ++ [(k : Int)])]
      congr 1
      simp
    · rw [if_neg h, if_neg h]
      exact cnt_len p g (k + 1) xs
def cntM (D : List (List Int)) (a b c : Nat) : Nat → Nat → Int → Int := itR (fun k (s : Int) => if midB D a b c k = true then s + 1 else s)
theorem cntM_one {D : List (List Int)} {a b c : Nat} (h : oneM D a b c) : cntM D a b c D.length 0 0 = 1 := by
  have := cnt_len (midB D a b c) D.length 0 []
  have h2 : (midsL D a b c).length = 1 := h
  have h3 : cntM D a b c D.length 0 0 = ((midsL D a b c).length : Nat) := this
  rw [h3, h2]
  rfl
theorem spB_tri5 {D : List (List Int)} (h : spB D = true) : ∀ i, i < D.length → ∀ k, k < D.length → ∀ j, j < D.length → at2 D i k ≤ at2 D i j + at2 D j k := by
  unfold spB at h
  simp only [Bool.and_eq_true] at h
  have h2 := h.2
  unfold triB at h2
  exact fun i hi k hk j hj => of_decide_eq_true ((allR_all _ _).1 ((allR_all _ _).1 ((allR_all _ _).1 h2 i hi) k hk) j hj)
theorem mid_iff {D : List (List Int)} (hs : spB D = true) {a b c x : Nat} (ha : a < D.length) (hb : b < D.length) (hc : c < D.length) (hx : x < D.length) :
    midB D a b c x = true ↔ 2 * (at2 D a x + at2 D b x + at2 D c x) = at2 D a b + at2 D b c + at2 D a c := by
  have hh := (farB_parts (spB_far hs)).2.2
  have t1 := spB_tri5 hs a ha b hb x hx
  have t2 := spB_tri5 hs a ha c hc x hx
  have t3 := spB_tri5 hs b hb c hc x hx
  have e1 := (hh x hx b hb).2.2.1
  have e2 := (hh x hx c hc).2.2.1
  unfold midB btwB
  simp only [Bool.and_eq_true, decide_eq_true_eq]
  omega
theorem msp_one {D : List (List Int)} (h : mspV D = true) {a b c : Nat} (ha : a < D.length) (hb : b < D.length) (hc : c < D.length) : oneM D a b c := by
  classical
  unfold mspV at h
  simp only [Bool.and_eq_true, decide_eq_true_eq] at h
  exact h.2 a ha b hb c hc
theorem msp_small {D : List (List Int)} (hs : spB D = true) (h : mspV D = false) : 2 < D.length := by
  refine Classical.byContradiction fun q => ?_
  have := mspV_yes hs (oneM_half hs fun a ha b hb c hc => by omega)
  rw [h] at this
  cases this
set_option maxRecDepth 100000 in
set_option maxHeartbeats 8000000 in
theorem FnMedianSpace_walk (A : Option Addr) (n c : Nat) (w : World) (h : Byt w A n c) :
    Calls Try.prog 8 #[.slice A n c] w fun e w' => e = .returned (.bool true) ∧ Ext w w' := by
  by_cases hz : 1048576 < n
  · have hz' : (1048576 : Int) < (n : Nat) := by omega
    go_enter Try.func8, Try.ntmps8
    go_wp2
    go_ret
    exact ⟨rfl, (by repeat (first | exact Ext.refl _ | assumption | apply Ext.drewN' | apply Ext.alloc' | refine Ext.trans ?_ (by assumption)))⟩
  have hz' : ¬ (1048576 : Int) < (n : Nat) := by omega
  go_enter Try.func8, Try.ntmps8
  go_wp2_with fail
  refine (drawMedianSpace_any A n c w h).mono ?_
  rintro e w1 ⟨A1, c1, D, rfl, hM, hx1⟩
  have HM := Lib.hid hM
  have hx : Ext w w1 := hx1
  clear hx1 hM
  go_wp2_with fail
  refine (iMedianSpace_any A1 c1 D _ (HM.out.ext (by repeat (first | exact Ext.refl _ | assumption | apply Ext.drewN' | apply Ext.alloc' | refine Ext.trans ?_ (by assumption))))).mono ?_
  rintro e w2 ⟨rfl, hx2⟩
  go_wp2_with fail
  refine (sMedianSpace_any A1 c1 D _ (HM.out.ext (by repeat (first | exact Ext.refl _ | assumption | apply Ext.drewN' | apply Ext.alloc' | refine Ext.trans ?_ (by assumption))))).mono ?_
  rintro e w3 ⟨rfl, hx3⟩
  have HSP := Lib.hid (fun (q : spB D = false) => mspV_sp q)
  go_wp2_with fail
  refine (q_ext (SpaceOk_any A1 c1 D _ (HM.out.ext (by repeat (first | exact Ext.refl _ | assumption | apply Ext.drewN' | apply Ext.alloc' | refine Ext.trans ?_ (by assumption)))))).mono ?_
  rintro e w4 ⟨rfl, hx4⟩
  cases hs : spB D with
  | false =>
    rw [HSP.out hs]
    clear hs HSP
    go_wp2_with fail
    refine (alive_any _).mono ?_
    rintro e w7 ⟨rfl, hx7⟩
    go_wp2
    go_ret
    exact ⟨rfl, (by repeat (first | exact Ext.refl _ | assumption | apply Ext.drewN' | apply Ext.alloc' | refine Ext.trans ?_ (by assumption)))⟩
  | true =>
    have hn1 := (spB_len hs).1
    cases hm : mspV D with
    | false =>
      have h2 := msp_small hs hm
      have h2' : (2 : Int) < (D.length : Nat) := by omega
      clear HSP hs hm
      go_wp2
      go_loopg [5] 0 (fun g s5 wr => s5 = .int .i64 0 ∧ Ext w4 wr)
      case atStart => exact ⟨rfl, Ext.refl _⟩
      case round =>
        obtain ⟨rfl, hxr⟩ := hrel
        go_wp2
        go_ret
        exact ⟨rfl, ((((hx.trans hx2).trans hx3).trans hx4).trans hxr)⟩
    | true =>
      obtain ⟨⟨-, hn6⟩, hsq, hcells⟩ := farB_parts (spB_far hs)
      obtain ⟨bk, o, rc, rb, ro, hA, hrow, hlen, hcell, -⟩ := (HM.out.ext ((hx2.trans hx3).trans hx4)).square hsq
      obtain rfl := hA (by omega)
      have HROW := Lib.hid hrow
      have HLEN := Lib.hid hlen
      have HCE := Lib.hid hcell
      have HBD := Lib.hid hcells
      have HONE := Lib.hid (fun a b c ha hb hc => cntM_one (msp_one hm (a := a) (b := b) (c := c) ha hb hc))
      have HMI := Lib.hid (fun a b c x ha hb hc hx => mid_iff hs (a := a) (b := b) (c := c) (x := x) ha hb hc hx)
      have hxall : Ext w w4 := (by repeat (first | exact Ext.refl _ | assumption | apply Ext.drewN' | apply Ext.alloc' | refine Ext.trans ?_ (by assumption)))
      clear HSP hs hm hsq hcells hA hrow hlen hcell HM hx hx2 hx3 hx4
      go_wp2
      go_loopg [5] (D.length) (fun g s5 wr => ∃ (a : Nat), a + g = D.length ∧ s5 = .int .i64 a ∧ Ext w4 wr ∧ Hid (True))
      case atStart => exact ⟨0, by omega, rfl, by repeat (first | exact Ext.refl _ | assumption | apply Ext.drewN' | apply Ext.alloc' | refine Ext.trans ?_ (by assumption)), Lib.hid (trivial)⟩
      case round =>
        obtain ⟨a, ha, rfl, hxa, Ha⟩ := hrel
        by_cases hina : a < D.length
        · obtain ⟨ga, rfl⟩ : ∃ g', gk = g' + 1 := ⟨gk - 1, by omega⟩
          have hina' : (a : Int) < (D.length : Nat) := by omega
          go_wp2
          go_loopg [6] (a) (fun g s6 wr => ∃ (b : Nat), b + g = a ∧ s6 = .int .i64 b ∧ Ext w4 wr ∧ Hid (True))
          case atStart => exact ⟨0, by omega, rfl, by repeat (first | exact Ext.refl _ | assumption | apply Ext.drewN' | apply Ext.alloc' | refine Ext.trans ?_ (by assumption)), Lib.hid (trivial)⟩
          case round =>
            obtain ⟨b, hb, rfl, hxb, Hb⟩ := hrel
            by_cases hinb : b < a
            · obtain ⟨gb, rfl⟩ : ∃ g', gk = g' + 1 := ⟨gk - 1, by omega⟩
              have hinb' : (b : Int) < (a : Nat) := by omega
              have hbn : b < D.length := by omega
              go_wp2
              go_loopg [7] (b) (fun g s7 wr => ∃ (c : Nat), c + g = b ∧ s7 = .int .i64 c ∧ Ext w4 wr ∧ Hid (True))
              case atStart => exact ⟨0, by omega, rfl, by repeat (first | exact Ext.refl _ | assumption | apply Ext.drewN' | apply Ext.alloc' | refine Ext.trans ?_ (by assumption)), Lib.hid (trivial)⟩
              case round =>
                obtain ⟨c, hc, rfl, hxc, Hc⟩ := hrel
                by_cases hinc : c < b
                · obtain ⟨gc, rfl⟩ : ∃ g', gk = g' + 1 := ⟨gk - 1, by omega⟩
                  have hinc' : (c : Int) < (b : Nat) := by omega
                  have hcn : c < D.length := by omega
                  have HO := Lib.hid (HONE.out a b c hina hbn hcn)
                  go_wp2
                  go_loopg [9, 8] (D.length) (fun g s9 s8 wr => ∃ (m : Nat) (f : Int), m + g = D.length ∧ s9 = .int .i64 m ∧ s8 = .int .i64 f ∧ Ext w4 wr ∧ 0 ≤ f ∧ f ≤ m ∧ Hid (cntM D a b c g m f = 1))
                  case atStart => exact ⟨0, _, by omega, rfl, rfl, by repeat (first | exact Ext.refl _ | assumption | apply Ext.drewN' | apply Ext.alloc' | refine Ext.trans ?_ (by assumption)), by omega, by omega, Lib.hid (HO.out)⟩
                  case round =>
                    obtain ⟨m, f, hm, rfl, rfl, hxm, hf0, hf1, Hm⟩ := hrel
                    by_cases hinm : m < D.length
                    · obtain ⟨gm, rfl⟩ : ∃ g', gk = g' + 1 := ⟨gk - 1, by omega⟩
                      have hinm' : (m : Int) < (D.length : Nat) := by omega
                      have hx4r : Ext w4 wr := hxm
                      have r1 := hx4r.cell (HROW.out a hina)
                      have r2 := hx4r.cell (HROW.out b hbn)
                      have r3 := hx4r.cell (HROW.out c hcn)
                      have k1 := hx4r.cell (HCE.out a hina m hinm)
                      have k2 := hx4r.cell (HCE.out b hbn m hinm)
                      have k3 := hx4r.cell (HCE.out c hcn m hinm)
                      have k4 := hx4r.cell (HCE.out a hina b hbn)
                      have k5 := hx4r.cell (HCE.out b hbn c hcn)
                      have k6 := hx4r.cell (HCE.out a hina c hcn)
                      obtain ⟨p1, q1, -, -⟩ := HBD.out a hina m hinm
                      obtain ⟨p2, q2, -, -⟩ := HBD.out b hbn m hinm
                      obtain ⟨p3, q3, -, -⟩ := HBD.out c hcn m hinm
                      obtain ⟨p4, q4, -, -⟩ := HBD.out a hina b hbn
                      obtain ⟨p5, q5, -, -⟩ := HBD.out b hbn c hcn
                      obtain ⟨p6, q6, -, -⟩ := HBD.out a hina c hcn
                      have hl1 := (HLEN.out a hina).1
                      have hl2 := (HLEN.out b hbn).1
                      have hl3 := (HLEN.out c hcn).1
                      have ha' : (a : Int) < (D.length : Nat) := by omega
                      have hb' : (b : Int) < (D.length : Nat) := by omega
                      have hc' : (c : Int) < (D.length : Nat) := by omega
                      have Hst := Lib.hid (show cntM D a b c (gm + 1) m f = cntM D a b c gm (m + 1) (if midB D a b c m = true then f + 1 else f) from rfl)
                      have Hmi := Lib.hid (HMI.out a b c m hina hbn hcn hinm)
                      by_cases e1 : 2 * (at2 D a m + at2 D b m + at2 D c m) = at2 D a b + at2 D b c + at2 D a c
                      · have HN := Lib.hid (show (if midB D a b c m = true then f + 1 else f) = f + 1 from if_pos (Hmi.out.2 e1))
                        have e1' : (2 * (at2 D a m + at2 D b m + at2 D c m) == at2 D a b + at2 D b c + at2 D a c) = true := by rw [e1]; simp
                        clear e1
                        go_wp2
                        go_quiet (fail)
                        go_wp2
                        go_roundg gm
                        case measure => omega
                        case rel => exact ⟨m + 1, f + 1, by omega, by go_num, by first | rfl | go_num, by repeat (first | exact Ext.refl _ | assumption | apply Ext.drewN' | apply Ext.alloc' | refine Ext.trans ?_ (by assumption)), by omega, by omega, Lib.hid (by have q := Hm.out; rw [Hst.out, HN.out] at q; exact q)⟩
                      · have HN := Lib.hid (show (if midB D a b c m = true then f + 1 else f) = f from if_neg (fun q => e1 (Hmi.out.1 q)))
                        have e1' : (2 * (at2 D a m + at2 D b m + at2 D c m) == at2 D a b + at2 D b c + at2 D a c) = false := beq_eq_false_iff_ne.2 e1
                        clear e1
                        go_wp2
                        go_quiet (fail)
                        go_wp2
                        go_roundg gm
                        case measure => omega
                        case rel => exact ⟨m + 1, f, by omega, by go_num, by first | rfl | go_num, by repeat (first | exact Ext.refl _ | assumption | apply Ext.drewN' | apply Ext.alloc' | refine Ext.trans ?_ (by assumption)), by omega, by omega, Lib.hid (by have q := Hm.out; rw [Hst.out, HN.out] at q; exact q)⟩
                    · have hinm' : ¬ (m : Int) < (D.length : Nat) := by omega
                      obtain rfl : gk = 0 := by omega
                      obtain rfl : f = 1 := Hm.out
                      go_wp2
                      go_roundg gc
                      case measure => omega
                      case rel => exact ⟨c + 1, by omega, by go_num, by repeat (first | exact Ext.refl _ | assumption | apply Ext.drewN' | apply Ext.alloc' | refine Ext.trans ?_ (by assumption)), Lib.hid (by trivial)⟩
                · have hinc' : ¬ (c : Int) < (b : Nat) := by omega
                  obtain rfl : gk = 0 := by omega
                  go_wp2
                  go_roundg gb
                  case measure => omega
                  case rel => exact ⟨b + 1, by omega, by go_num, by repeat (first | exact Ext.refl _ | assumption | apply Ext.drewN' | apply Ext.alloc' | refine Ext.trans ?_ (by assumption)), Lib.hid (by trivial)⟩
            · have hinb' : ¬ (b : Int) < (a : Nat) := by omega
              obtain rfl : gk = 0 := by omega
              go_wp2
              go_roundg ga
              case measure => omega
              case rel => exact ⟨a + 1, by omega, by go_num, by repeat (first | exact Ext.refl _ | assumption | apply Ext.drewN' | apply Ext.alloc' | refine Ext.trans ?_ (by assumption)), Lib.hid (by trivial)⟩
        · have hina' : ¬ (a : Int) < (D.length : Nat) := by omega
          obtain rfl : gk = 0 := by omega
          by_cases h2 : 2 < D.length
          · have h2' : (2 : Int) < (D.length : Nat) := by omega
            go_wp2
            go_ret
            exact ⟨rfl, hxall.trans (by repeat (first | exact Ext.refl _ | assumption | apply Ext.drewN' | apply Ext.alloc' | refine Ext.trans ?_ (by assumption)))⟩
          · have h2' : ¬ (2 : Int) < (D.length : Nat) := by omega
            go_wp2
            go_ret
            exact ⟨rfl, hxall.trans (by repeat (first | exact Ext.refl _ | assumption | apply Ext.drewN' | apply Ext.alloc' | refine Ext.trans ?_ (by assumption)))⟩
section
open Go.ChangeShapes Go.WideShapes Go.ChangeAt Go.Deep
set_option maxRecDepth 100000 in
theorem FnMedianSpace_contract (H : Type) (enc : TypeId × Value → H) (W : World) (base : Nat) (args : Array Value) (ds gs : List (DataW H)) (before : List MemPlace)
    (hval : ∀ (j : Nat) t v, Try.f8.params[j]? = some t → args[j]? = some v → Value.okWide Try.prog W .any base t v)
    (hW : DataW.Whole enc Try.prog Try.f8.params.toList Rows.fnMedianSpaceSpec.vars false W args.toList ds gs before) :
    Calls Try.prog 8 args W fun e W' => ∃ v, e = .returned v ∧ Rows.fnMedianSpaceSpec.post enc Try.prog Try.f8 false true false false W args v W' := by
  have hW' := hW
  obtain ⟨p, q, hA0, hV, rfl, hfz, hnd⟩ := hW
  have hA : DataW.TrodAll enc Try.prog W 0 (fun _ => true) true Try.f8.params.toList args.toList ds p := hA0
  rw [Try.params8] at hA hval
  obtain ⟨v0, vs0, d0, ds0, p0, q0, hargs0, rfl, rfl, h0, r0⟩ := trodAll_cons hA
  obtain ⟨hargsn, rfl, rfl⟩ := trodAll_nil r0
  obtain rfl : args = #[v0] := by cases args; simp_all
  obtain ⟨rfl, rfl⟩ := trodVars_none hV
  clear hA0
  obtain ⟨A0, code, c0, rfl, M0⟩ := read_bytes (hval 0 22 v0 rfl rfl) h0
  refine (FnMedianSpace_walk A0 code c0 W M0).mono fun e W' ⟨he, hx⟩ => ⟨_, he, post_law laidOut (by rw [Try.params8]; decide +kernel) rfl rfl Try.underlying4 hW' rfl hx⟩
set_option maxRecDepth 100000 in
theorem FnMedianSpace_lifted (os : Os) (started : os.Started) (H : Type) (enc : TypeId × Value → H) :
    ReturnsInHanded {} Try.checked os 8 .any (Rows.fnMedianSpaceSpec.pre6 enc Try.prog Try.f8 Rows.fnMedianSpaceRow.domain false) (Rows.fnMedianSpaceSpec.post enc Try.prog Try.f8 false true false false) := by
  refine returnsInHanded_of_change (C := Try.checked) own started (by kernel_rfl) Try.func8
    (ChangeSpec.witness6 (enc := enc) (C := Try.checked) false ⟨#[], #[.slice none 0 0], []⟩ 8 (by kernel_rfl) (by kernel_rfl) (by kernel_rfl) (by kernel_rfl) rfl) ?_
  intro W base args ds gs before hval hW _ _
  exact FnMedianSpace_contract H enc W base args ds gs before hval hW
theorem FnMedianSpace_holds : Rows.FnMedianSpaceSaid :=
  OpenClaim.holds_of_wide 8 Try.f8 rfl rfl rfl rfl rfl rfl rfl ⟨rfl, rfl, rfl, rfl, rfl⟩ rfl rfl rfl rfl rfl (by kernel_rfl) Try.func8 (by kernel_rfl)
    (of_decide_eq_true (by kernel_rfl)) (by unfold Func.isWrapper; first | (rw [if_pos (by decide +kernel)]; kernel_rfl) | (rw [if_neg (by decide +kernel)]; exact ⟨rfl, rfl⟩))
    (fun os started H enc _ => FnMedianSpace_lifted os started H enc)
end
end Go.Proofs.Ytjaigidlpfdfiaa
