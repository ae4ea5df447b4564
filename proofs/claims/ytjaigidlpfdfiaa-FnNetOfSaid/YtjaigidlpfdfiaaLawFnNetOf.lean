/- What is proved: the law FnNetOf returns true for every input, and its argument reads behind the call as before. No condition. -/
import Derived.Test.YtjaigidlpfdfiaaDrSets
import Derived.Test.YtjaigidlpfdfiaaAlive
import Derived.Test.YtjaigidlpfdfiaaNet3
import Derived.Test.YtjaigidlpfdfiaaRadius
namespace Go.Proofs.Ytjaigidlpfdfiaa
open Go.RowKit
theorem pop_one : ∀ s : Fin 64, 1 ≤ s.val → 1 ≤ popI (s.val : Int) := by decide +kernel
theorem pop_pow : ∀ p : Fin 6, popI ((2 ^ p.val : Nat) : Int) = 1 ∧ bitI ((2 ^ p.val : Nat) : Int) p.val = 1 := by decide +kernel
theorem radius_one {D : List (List Int)} (hs : spB D = true) {p : Nat} (hp : p < D.length) : netB D (maxI (row D p)) = true ∧ popI (netN D (maxI (row D p))) = 1 ∧ netN D (maxI (row D p)) < 64 := by
  obtain ⟨⟨n1, n6⟩, hsq, hc⟩ := farB_parts (spB_far hs)
  have hbd := maxI_bd (xs := row D p) (a := 0) (b := 60) (by rw [hsq p hp]; omega) fun j hj => by
    rw [hsq p hp] at hj
    have := hc p hp j hj
    exact ⟨this.1, this.2.1⟩
  obtain ⟨q1, q2⟩ := pow_n n6
  obtain ⟨⟨b1, b2, b3, b4⟩, -⟩ := net_inv hs hbd.1
  have hpp := pop_pow ⟨p, by omega⟩
  have hlt : 2 ^ p < 2 ^ D.length := Nat.pow_lt_pow_right (by decide) hp
  have hok : okN D (maxI (row D p)) (2 ^ p) = true := by
    refine decide_eq_true (lotOf_full fun k hk => decide_eq_true ?_)
    have h1 := toI_le (D := D) (p := k) (k := p) (l := ((2 ^ p : Nat) : Int)) hp hpp.2
    have h2 := (hc p hp k hk).2.2.1
    have h3 := maxI_ge (xs := row D p) (j := k) (by rw [hsq p hp]; exact hk)
    have h4 : at2 D p k = ix (row D p) k := rfl
    omega
  have h5 := b4 (2 ^ p) Nat.one_le_two_pow hlt hok
  have h6 := pop_one ⟨netN D (maxI (row D p)), by omega⟩ b1
  have h7 : popI ((2 ^ p : Nat) : Int) = 1 := hpp.1
  have h8 : 1 ≤ popI (netN D (maxI (row D p)) : Int) := h6
  exact ⟨by unfold netB inB; rw [hs, decide_eq_true hbd]; rfl, by omega, by omega⟩
set_option maxRecDepth 100000 in
set_option maxHeartbeats 4000000 in
theorem FnNetOf_walk (A : Option Addr) (n c : Nat) (w : World) (h : Byt w A n c) :
    Calls Try.prog 7 #[.slice A n c] w fun e w' => e = .returned (.bool true) ∧ Ext w w' := by
  by_cases hz : 1048576 < n
  · have hz' : (1048576 : Int) < (n : Nat) := by omega
    go_enter Try.func7, Try.ntmps7
    go_wp2
    go_ret
    exact ⟨rfl, (by repeat (first | exact Ext.refl _ | assumption | apply Ext.drewN' | apply Ext.alloc' | refine Ext.trans ?_ (by assumption)))⟩
  have hz' : ¬ (1048576 : Int) < (n : Nat) := by omega
  go_enter Try.func7, Try.ntmps7
  go_wp2_with fail
  refine (drawNetOf_any A n c w h).mono ?_
  rintro e w1 ⟨A1, c1, D, f, rfl, hM, hx1⟩
  have HM := Lib.hid hM
  have hx : Ext w w1 := hx1
  clear hx1 hM
  have Hd := Lib.hid (show netV D f = if netB D f = true then (netN D f : Int) else -1 from rfl)
  go_wp2_with fail
  refine (q_ext (iNetOf_any A1 c1 D f _ (HM.out.ext (by repeat (first | exact Ext.refl _ | assumption | apply Ext.drewN' | apply Ext.alloc' | refine Ext.trans ?_ (by assumption)))))).mono ?_
  rintro e w2 ⟨rfl, hx2⟩
  go_wp2_with fail
  refine (q_ext (sNetOf_any A1 c1 D f _ (HM.out.ext (by repeat (first | exact Ext.refl _ | assumption | apply Ext.drewN' | apply Ext.alloc' | refine Ext.trans ?_ (by assumption)))))).mono ?_
  rintro e w3 ⟨rfl, hx3⟩
  have HM3 := Lib.hid (HM.out.ext (hx2.trans hx3))
  have hxa : Ext w w3 := (by repeat (first | exact Ext.refl _ | assumption | apply Ext.drewN' | apply Ext.alloc' | refine Ext.trans ?_ (by assumption)))
  clear HM hx2 hx3 hx
  cases hb : netB D f with
  | false =>
    rw [hb, if_neg (by decide)] at Hd
    rw [Hd.out]
    go_wp2_with fail
    refine (alive_any _).mono ?_
    rintro e w7 ⟨rfl, hx7⟩
    go_wp2
    go_ret
    exact ⟨rfl, (by repeat (first | exact Ext.refl _ | assumption | apply Ext.drewN' | apply Ext.alloc' | refine Ext.trans ?_ (by assumption)))⟩
  | true =>
    rw [hb, if_pos rfl] at Hd
    rw [Hd.out]
    have hb2 : spB D = true ∧ inB f 0 60 = true := by unfold netB at hb; simpa using hb
    obtain ⟨hs, hi⟩ := hb2
    have hf0 : 0 ≤ f := (of_decide_eq_true hi).1
    obtain ⟨n1, n6⟩ := spB_len hs
    obtain ⟨⟨b1, b2, b3, b4⟩, -⟩ := net_inv hs hf0
    obtain ⟨N, hN⟩ : ∃ N : Nat, 2 ^ D.length = N := ⟨_, rfl⟩
    obtain ⟨N1, N64⟩ : 1 ≤ N ∧ N ≤ 64 := by rw [← hN]; exact pow_n n6
    obtain ⟨P, hP⟩ : ∃ P : Int, (2 : Int) ^ D.length = P := ⟨_, rfl⟩
    have hPN : P = (N : Int) := by rw [← hP, ← hN]; simp
    have HAR := Lib.hid (fun (k : Nat) (k1 : 1 ≤ k) (hk : k < N) W (q : Mat W A1 c1 D) => (show Calls Try.prog 15 #[.slice A1 D.length c1, .int .i64 k, .int .i64 f] W fun e w' => e = .returned (.int .i64 (arI D k f)) ∧ ∃ m, w' = W.drewN m from by
      have := iAroundSet_any A1 c1 D k f W q
      rw [show arV D k f = arI D k f from if_pos ⟨by unfold setB; rw [hs, hP, hPN, decide_eq_true (by omega)]; rfl, hi⟩] at this
      exact this))
    rw [hN] at b2 b4
    have HOK := Lib.hid (fun k => (show okN D f k = decide (arI D k f = P - 1) by unfold okN; rw [hP]))
    have HMIN := Lib.hid b4
    have HB3 := Lib.hid (show arI D (netN D f) f = P - 1 from by
      have := HOK.out (netN D f)
      rw [b3] at this
      exact of_decide_eq_true this.symm)
    have HRD := Lib.hid (fun p hp => radius_one hs (p := p) hp)
    have HRC := Lib.hid (fun W (q : Mat W A1 c1 D) => iRadiusOf_any A1 c1 D W q hs)
    have HNV := Lib.hid (fun g (hg : netB D g = true) => (show netV D g = (netN D g : Int) from if_pos hg))
    obtain ⟨o, ho⟩ : ∃ o : Nat, netN D f = o := ⟨_, rfl⟩
    rw [ho] at b1 b2 HMIN HB3
    rw [ho]
    have w5 : wrap64 P = P := IntWalk.wrap64_in _ ⟨by omega, by omega⟩
    have w6 : wrap64 (P - 1) = P - 1 := IntWalk.wrap64_in _ ⟨by omega, by omega⟩
    have n6' : (D.length : Int) ≤ 6 := by omega
    have P1 : 1 ≤ P := by omega
    have P64 : P ≤ 64 := by omega
    have HPN := Lib.hid hPN
    clear hs hi hN hPN hf0 b3 b4 hb ho Hd
    go_wp2
    go_loopg [10] (N - 1) (fun g s10 wr => ∃ (k : Nat), k + g = N ∧ 1 ≤ k ∧ s10 = .int .i64 k ∧ Ext w3 wr)
    case atStart => exact ⟨1, by omega, Nat.le_refl _, rfl, Ext.refl _⟩
    case round =>
      obtain ⟨k, hk, k1, rfl, hxr⟩ := hrel
      by_cases hin : k < N
      · obtain ⟨g', rfl⟩ : ∃ g', gk = g' + 1 := ⟨gk - 1, by omega⟩
        have hin' : (k : Int) ≤ P - 1 := by have := HPN.out; omega
        by_cases hp : popI k < popI o
        · have hne : (arI D k f == P - 1) = false := by
            have h1 := HOK.out k
            have h2 := HMIN.out k k1 hin
            refine beq_eq_false_iff_ne.2 fun e => ?_
            rw [decide_eq_true e] at h1
            have := h2 h1
            omega
          go_wp2_with fail
          refine (bitsOf_any k (by omega) _).mono ?_
          rintro e u1 ⟨rfl, m1, rfl⟩
          go_wp2_with fail
          refine (bitsOf_any o (by omega) _).mono ?_
          rintro e u2 ⟨rfl, m2, rfl⟩
          go_wp2_with fail
          refine (HAR.out k k1 hin _ (HM3.out.ext (by repeat (first | exact Ext.refl _ | assumption | apply Ext.drewN' | apply Ext.alloc' | refine Ext.trans ?_ (by assumption))))).mono ?_
          rintro e u3 ⟨rfl, m3, rfl⟩
          go_wp2
          go_roundg g'
          case measure => omega
          case rel => exact ⟨k + 1, by omega, by omega, by go_num, (by repeat (first | exact Ext.refl _ | assumption | apply Ext.drewN' | apply Ext.alloc' | refine Ext.trans ?_ (by assumption)))⟩
        · go_wp2_with fail
          refine (bitsOf_any k (by omega) _).mono ?_
          rintro e u1 ⟨rfl, m1, rfl⟩
          go_wp2_with fail
          refine (bitsOf_any o (by omega) _).mono ?_
          rintro e u2 ⟨rfl, m2, rfl⟩
          go_wp2
          go_roundg g'
          case measure => omega
          case rel => exact ⟨k + 1, by omega, by omega, by go_num, (by repeat (first | exact Ext.refl _ | assumption | apply Ext.drewN' | apply Ext.alloc' | refine Ext.trans ?_ (by assumption)))⟩
      · have hin' : ¬ (k : Int) ≤ P - 1 := by have := HPN.out; omega
        clear HOK HMIN
        go_wp2_with fail
        refine (HRC.out _ (HM3.out.ext (by repeat (first | exact Ext.refl _ | assumption | apply Ext.drewN' | apply Ext.alloc' | refine Ext.trans ?_ (by assumption))))).mono ?_
        rintro e u1 ⟨p, hp, rfl, m1, rfl⟩
        obtain ⟨r1, r2, r3⟩ := HRD.out p hp
        obtain ⟨r, hr⟩ : ∃ r, maxI (row D p) = r := ⟨_, rfl⟩
        rw [hr] at r1 r2 r3
        rw [hr]
        have HV := Lib.hid (HNV.out r r1)
        have R1 := Lib.hid r1
        have R2 := Lib.hid r2
        clear hr r1 r2
        go_wp2_with fail
        refine (q_ext (iNetOf_any A1 c1 D r _ (HM3.out.ext (by repeat (first | exact Ext.refl _ | assumption | apply Ext.drewN' | apply Ext.alloc' | refine Ext.trans ?_ (by assumption)))))).mono ?_
        rintro e u2 ⟨rfl, hy2⟩
        rw [HV.out, R1.out]
        go_wp2_with fail
        refine (HAR.out o b1 b2 _ (HM3.out.ext (by repeat (first | exact Ext.refl _ | assumption | apply Ext.drewN' | apply Ext.alloc' | refine Ext.trans ?_ (by assumption))))).mono ?_
        rintro e u3 ⟨rfl, m3, rfl⟩
        rw [HB3.out]
        go_wp2_with fail
        refine (bitsOf_any (netN D r) r3 _).mono ?_
        rintro e u4 ⟨rfl, m4, rfl⟩
        rw [R2.out]
        go_wp2
        go_ret
        exact ⟨rfl, hxa.trans (by repeat (first | exact Ext.refl _ | assumption | apply Ext.drewN' | apply Ext.alloc' | refine Ext.trans ?_ (by assumption)))⟩
section
open Go.ChangeShapes Go.WideShapes Go.ChangeAt Go.Deep
set_option maxRecDepth 100000 in
theorem FnNetOf_contract (H : Type) (enc : TypeId × Value → H) (W : World) (base : Nat) (args : Array Value) (ds gs : List (DataW H)) (before : List MemPlace)
    (hval : ∀ (j : Nat) t v, Try.f7.params[j]? = some t → args[j]? = some v → Value.okWide Try.prog W .any base t v)
    (hW : DataW.Whole enc Try.prog Try.f7.params.toList Rows.fnNetOfSpec.vars false W args.toList ds gs before) :
    Calls Try.prog 7 args W fun e W' => ∃ v, e = .returned v ∧ Rows.fnNetOfSpec.post enc Try.prog Try.f7 false true false false W args v W' := by
  have hW' := hW
  obtain ⟨p, q, hA0, hV, rfl, hfz, hnd⟩ := hW
  have hA : DataW.TrodAll enc Try.prog W 0 (fun _ => true) true Try.f7.params.toList args.toList ds p := hA0
  rw [Try.params7] at hA hval
  obtain ⟨v0, vs0, d0, ds0, p0, q0, hargs0, rfl, rfl, h0, r0⟩ := trodAll_cons hA
  obtain ⟨hargsn, rfl, rfl⟩ := trodAll_nil r0
  obtain rfl : args = #[v0] := by cases args; simp_all
  obtain ⟨rfl, rfl⟩ := trodVars_none hV
  clear hA0
  obtain ⟨A0, code, c0, rfl, M0⟩ := read_bytes (hval 0 22 v0 rfl rfl) h0
  refine (FnNetOf_walk A0 code c0 W M0).mono fun e W' ⟨he, hx⟩ => ⟨_, he, post_law laidOut (by rw [Try.params7]; decide +kernel) rfl rfl Try.underlying4 hW' rfl hx⟩
set_option maxRecDepth 100000 in
theorem FnNetOf_lifted (os : Os) (started : os.Started) (H : Type) (enc : TypeId × Value → H) :
    ReturnsInHanded {} Try.checked os 7 .any (Rows.fnNetOfSpec.pre6 enc Try.prog Try.f7 Rows.fnNetOfRow.domain false) (Rows.fnNetOfSpec.post enc Try.prog Try.f7 false true false false) := by
  refine returnsInHanded_of_change (C := Try.checked) own started (by kernel_rfl) Try.func7
    (ChangeSpec.witness6 (enc := enc) (C := Try.checked) false ⟨#[], #[.slice none 0 0], []⟩ 8 (by kernel_rfl) (by kernel_rfl) (by kernel_rfl) (by kernel_rfl) rfl) ?_
  intro W base args ds gs before hval hW _ _
  exact FnNetOf_contract H enc W base args ds gs before hval hW
theorem FnNetOf_holds : Rows.FnNetOfSaid :=
  OpenClaim.holds_of_wide 7 Try.f7 rfl rfl rfl rfl rfl rfl rfl ⟨rfl, rfl, rfl, rfl, rfl⟩ rfl rfl rfl rfl rfl (by kernel_rfl) Try.func7 (by kernel_rfl)
    (of_decide_eq_true (by kernel_rfl)) (by unfold Func.isWrapper; first | (rw [if_pos (by decide +kernel)]; kernel_rfl) | (rw [if_neg (by decide +kernel)]; exact ⟨rfl, rfl⟩))
    (fun os started H enc _ => FnNetOf_lifted os started H enc)
end
end Go.Proofs.Ytjaigidlpfdfiaa
