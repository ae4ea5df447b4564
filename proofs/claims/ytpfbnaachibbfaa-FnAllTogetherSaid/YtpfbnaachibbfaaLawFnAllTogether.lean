/- What is proved: the law FnAllTogether returns true for every input, and its argument reads behind the call as before. No condition. -/
import Derived.Test.YtpfbnaachibbfaaOpen
import Derived.Test.YtpfbnaachibbfaaDrSpc
import Derived.Test.YtpfbnaachibbfaaAlive
import Derived.Test.YtpfbnaachibbfaaPl1
namespace Go.Proofs.Ytpfbnaachibbfaa
open Go.RowKit
theorem selN_all (p : Nat → Bool) : ∀ n : Nat, (∀ x ∈ selN p n, ∃ k, k < n ∧ x = (k : Int) ∧ p k = true) ∧ ((∃ k, k < n ∧ p k = true) → 0 < (selN p n).length)
  | 0 => ⟨fun x hx => (by rw [show selN p 0 = [] from rfl] at hx; cases hx), fun ⟨k, hk, _⟩ => absurd hk (by omega)⟩
  | n + 1 => by
    obtain ⟨h1, h2⟩ := selN_all p n
    rw [selN_succ]
    refine ⟨fun x hx => ?_, fun ⟨k, hk, hp⟩ => ?_⟩
    · rcases List.mem_append.1 hx with hx | hx
      · obtain ⟨k, hk, e, hp⟩ := h1 x hx
        exact ⟨k, by omega, e, hp⟩
      · by_cases q : p n = true
        · rw [if_pos q, List.mem_singleton] at hx
          exact ⟨n, by omega, hx, q⟩
        · rw [if_neg q] at hx; cases hx
    · by_cases q : p n = true
      · rw [if_pos q]; simp
      · have : k < n := by
          by_cases e : k = n
          · subst e; exact absurd hp q
          · omega
        have := h2 ⟨k, this, hp⟩
        simp; omega
theorem together_plain {D : List (List Int)} {ws : List Int} (hs : spB D = true) (hw : ∀ k, k < ws.length → ix ws k = 1) (hl : ws.length = D.length) :
    ∃ (j : Nat) (s P1 P2 : Int), j < D.length ∧ 0 < (medsV D ws).length ∧ ix (medsV D ws) 0 = (j : Int) ∧ sumV D ws j = s ∧ ((D.length : Int) - 1) * s = P1 ∧ (D.length : Int) * s = P2 ∧ 0 ≤ P1 ∧ P1 ≤ 30000 ∧ 0 ≤ P2 ∧ P2 ≤ 30000 ∧ allT D ≤ P1 ∧ P2 ≤ 2 * allT D := by
  obtain ⟨n1, n6⟩ := spB_len hs
  have hW : weightsB D ws = true := by
    unfold weightsB wtB
    rw [hs, decide_eq_true hl, (allR_all _ _).2 fun i hi => by rw [hw i hi]; rfl]
    rfl
  have hm : medsV D ws = selN (medP D ws) D.length := by unfold medsV; rw [if_pos hW]
  obtain ⟨hall, hex⟩ := selN_all (medP D ws) D.length
  obtain ⟨k, hk, hke⟩ := (least_spec (sumP D ws) D.length (by omega)).2
  have hpos : 0 < (medsV D ws).length := by
    rw [hm]
    exact hex ⟨k, hk, decide_eq_true hke.symm⟩
  obtain ⟨j, hj, hje, hjp⟩ := hall (ix (medsV D ws) 0) (by rw [ix_of hpos]; rw [← hm]; exact List.getElem_mem _)
  have hjl : sumP D ws j = leastS D ws := of_decide_eq_true hjp
  have hsum : sumV D ws j = sumP D ws j := by
    unfold sumV
    rw [if_pos ⟨hW, by unfold pointB; rw [hs, decide_eq_true (by omega)]; rfl⟩]
    simp
  have hbd := sumP_bd hW hj
  have h1 := all_le hs hj
  rw [← sumP_ones hw hl] at h1
  have h2 := all_ge hs (s := sumP D ws j) fun i hi => by
    rw [← sumP_ones hw hl i, hjl]
    exact least_le (by omega) hi
  have e1 : ((D.length : Int) - 1) * sumP D ws j = (D.length : Int) * sumP D ws j - sumP D ws j := by rw [Int.sub_mul]; omega
  have hp : 0 ≤ ((D.length : Int) - 1) * sumP D ws j := Int.mul_nonneg (by omega) hbd.1
  have hq : (D.length : Int) * sumP D ws j ≤ 6 * 3240 := Int.mul_le_mul (by omega) hbd.2 hbd.1 (by omega)
  have hq0 : 0 ≤ (D.length : Int) * sumP D ws j := Int.mul_nonneg (by omega) hbd.1
  exact ⟨j, _, _, _, hj, hpos, hje, rfl, rfl, rfl, by rw [hsum]; omega, by rw [hsum]; omega, by rw [hsum]; omega, by rw [hsum]; omega, by rw [hsum]; omega, by rw [hsum]; omega⟩
set_option maxHeartbeats 1000000 in
theorem drawAllTogether_any (A : Option Addr) (n c : Nat) (w : World) (h : Byt w A n c) :
    Calls Try.prog 27 #[.slice A n c] w fun e w' => ∃ A' c' D, e = .returned (.slice A' (List.length D) c') ∧ Mat w' A' c' D ∧ Ext w w' := by
  go_enter Try.func27, Try.ntmps27
  go_wp2_with fail
  refine (open_any A n c w h).mono ?_
  rintro e w1 ⟨g, rfl, hx1, hg, hR⟩
  have HR := Lib.hid hR
  have HX := Lib.hid hx1
  clear hR hx1
  go_wp2_with fail
  refine (l20Space_any HR.out (Nat.le_refl _) (by omega) 6 9 (by omega) (by omega) (by omega) (by omega)).mono ?_
  rintro e w2 ⟨A', c', V, D, rfl, hO, h6, hR2, hX2⟩
  have HM := Lib.hid hO.mat
  have HX3 := Lib.hid (hX2.ext HX.out hg)
  clear hO hR2 hX2
  go_wp2
  go_ret
  exact ⟨_, _, D, rfl, HM.out, HX3.out⟩
/-- k ones, collected -/
def Ones (w0 : World) (v : Value) (k : Nat) (W : World) : Prop := Acc w0 W 3 v ((List.replicate k (1 : Int)).map (Value.int .i64))
theorem Ones.push {P : Program} {ops : Array Oper} {rest : List Oper} {o : Oper} {a : Act} {Q : Exit → Act → World → Prop} {w0 W : World} {T E : TypeId} {k : Nat} (hE : E = 3)
    (ht : P.underlying T = some (.slice E)) (hinfo : (P.info? E).map (fun i => (i.zero, i.size, i.bytes)) = some (some (.int .i64 0), 1, 8))
    (hgd : o.guard = none) (s x : Operand) (ho : o.op = .call { callee := .builtin .append, args := #[s, x], argTypes := #[T, T] })
    (v : Value) (hs : a.eval s = v) (hx : a.eval x = .slice (some ⟨W.heap.size, 0, none⟩) 1 1) (h : Ones w0 v k W) (hl : k ≤ 1000)
    (hk : ∀ v' w', Ones w0 v' (k + 1) w' → wpList P ops Q rest (a.put o.dst v') w') :
    wpList P ops Q (o :: rest) a (W.alloc (.cells #[.int .i64 1] E)) := by
  subst hE
  refine wp_app ht hinfo rfl (by decide) hgd s x ho v (.int .i64 1) _ hs hx rfl h (by simp; omega) fun v' w' ha hb hst => hk v' w' ?_
  unfold Ones
  rw [List.replicate_succ', List.map_append]
  exact ha
theorem Ones.done {w0 W : World} {v : Value} {k : Nat} (h : Ones w0 v k W) : ∃ A c, v = .slice A k c ∧ Ints W A c (List.replicate k (1 : Int)) := by
  obtain ⟨A, c, e, hI⟩ := (Leaf.of_own h.2).1.ints
  rw [List.length_replicate] at e
  exact ⟨A, c, e, hI⟩
set_option maxHeartbeats 4000000 in
theorem FnAllTogether_walk (A : Option Addr) (n c : Nat) (w : World) (h : Byt w A n c) :
    Calls Try.prog 4 #[.slice A n c] w fun e w' => e = .returned (.bool true) ∧ Ext w w' := by
  by_cases hz : 1048576 < n
  · have hz' : (1048576 : Int) < (n : Nat) := by omega
    go_enter Try.func4, Try.ntmps4
    go_wp2
    go_ret
    exact ⟨rfl, (by repeat (first | exact Ext.refl _ | assumption | apply Ext.drewN' | apply Ext.alloc' | refine Ext.trans ?_ (by assumption)))⟩
  have hz' : ¬ (1048576 : Int) < (n : Nat) := by omega
  go_enter Try.func4, Try.ntmps4
  go_wp2_with fail
  refine (drawAllTogether_any A n c w h).mono ?_
  rintro e w1 ⟨A1, c1, D, rfl, hM, hx1⟩
  have HM := Lib.hid hM
  have hx : Ext w w1 := hx1
  clear hM hx1
  go_wp2_with fail
  refine (q_ext (iAllTogether_any A1 c1 D _ (HM.out.ext (by repeat (first | exact Ext.refl _ | assumption | apply Ext.drewN' | apply Ext.alloc' | refine Ext.trans ?_ (by assumption)))))).mono ?_
  rintro e w2 ⟨rfl, hx2⟩
  go_wp2_with fail
  refine (q_ext (sAllTogether_any A1 c1 D _ (HM.out.ext (by repeat (first | exact Ext.refl _ | assumption | apply Ext.drewN' | apply Ext.alloc' | refine Ext.trans ?_ (by assumption)))))).mono ?_
  rintro e w3 ⟨rfl, hx3⟩
  have Hd := Lib.hid (show allTV D = if spB D = true then allT D else -1 from rfl)
  cases hs : spB D with
  | false =>
    rw [hs] at Hd
    have HV := Lib.hid (show allTV D = -1 from Hd.out)
    rw [HV.out]
    clear hs
    go_wp2_with fail
    refine (alive_any _).mono ?_
    rintro e w4 ⟨rfl, hx4⟩
    go_wp2
    go_ret
    exact ⟨rfl, (by repeat (first | exact Ext.refl _ | assumption | apply Ext.drewN' | apply Ext.alloc' | refine Ext.trans ?_ (by assumption)))⟩
  | true =>
    have HV := Lib.hid (show allTV D = allT D by rw [Hd.out, hs]; rfl)
    rw [HV.out]
    obtain ⟨n1, n6⟩ := spB_len hs
    obtain ⟨j, s, P1, P2, hj, hpos, hix, hsum, hP1, hP2, p1, p2, p3, p4, p5, p6⟩ := together_plain (ws := List.replicate D.length 1) hs (fun k hk => by rw [ix_of hk]; simp) (by simp)
    have HJ := Lib.hid (And.intro hj (And.intro hpos (And.intro hix hsum)))
    have hT0 : 0 ≤ allT D := by omega
    clear hj hpos hix hsum Hd HV hs
    go_wp2
    go_loopg [5, 6] D.length (fun gm s5 s6 wr => ∃ k : Nat, k + gm = D.length ∧ s6 = .int .i64 k ∧ Hid (Ones w3 s5 k wr))
    case atStart => exact ⟨0, by omega, rfl, Lib.hid (Acc.empty _ (Ext.refl _))⟩
    case round =>
      obtain ⟨k, hk, rfl, HO⟩ := hrel
      by_cases hkn : k < D.length
      · obtain ⟨g1, rfl⟩ : ∃ g', gk = g' + 1 := ⟨gk - 1, by omega⟩
        have hkn' : (k : Int) < (D.length : Nat) := by omega
        go_wp2_with (at_builtin; refine Ones.push rfl Try.underlying23 infoI rfl (.tmp 34) (.tmp 35) rfl _ rfl rfl HO.out (by omega) ?_; intro v' w' hacc; have HO' := Lib.hid hacc; clear hacc)
        go_roundg g1
        case measure => omega
        case rel => exact ⟨k + 1, by omega, by go_num, HO'⟩
      · have hkn' : ¬ (k : Int) < (D.length : Nat) := by omega
        have hx4 : Ext w3 wr := HO.out.1
        obtain rfl : k = D.length := by omega
        obtain ⟨A5, c5, rfl, hI⟩ := HO.out.done
        have HI := Lib.hid hI
        clear hI HO hk hkn
        have hlr : (List.replicate D.length (1 : Int)).length = D.length := by simp
        have HC := Lib.hid (fun W (q : Mat W A1 c1 D) (q2 : Ints W A5 c5 (List.replicate D.length 1)) => iMediansOf_any A1 c1 D A5 c5 (List.replicate D.length 1) W q q2)
        have HC2 := Lib.hid (fun W p (q : Mat W A1 c1 D) (q2 : Ints W A5 c5 (List.replicate D.length 1)) => iSumFrom_any A1 c1 D A5 c5 (List.replicate D.length 1) p W q q2)
        rw [hlr] at HC HC2
        clear hlr
        go_wp2_with fail
        refine (HC.out _ (HM.out.ext (by repeat (first | exact Ext.refl _ | assumption | apply Ext.drewN' | apply Ext.alloc' | refine Ext.trans ?_ (by assumption)))) (HI.out.ext (by repeat (first | exact Ext.refl _ | assumption | apply Ext.drewN' | apply Ext.alloc' | refine Ext.trans ?_ (by assumption))))).mono ?_
        rintro e w5 ⟨v, rfl, hL, -, hx5⟩
        obtain ⟨A7, c7, rfl, hI7⟩ := hL.ints
        obtain ⟨l1, l2, b7, o7, hA7, hc7⟩ := hI7
        obtain ⟨hj, hpos, hix, hsum⟩ := HJ.out
        unfold maxLen at l2
        obtain rfl := hA7 hpos
        have c0 := hc7 0 hpos
        rw [hix, Nat.add_zero] at c0
        have hne : (((medsV D (List.replicate D.length 1)).length : Int) == 0) = false := beq_eq_false_iff_ne.2 (by omega)
        have hpos' : (0 : Int) < ((medsV D (List.replicate D.length 1)).length : Nat) := by omega
        clear hL hc7 hA7 hix hpos
        go_wp2_with fail
        refine (HC2.out _ (j : Int) (HM.out.ext (by repeat (first | exact Ext.refl _ | assumption | apply Ext.drewN' | apply Ext.alloc' | refine Ext.trans ?_ (by assumption)))) (HI.out.ext (by repeat (first | exact Ext.refl _ | assumption | apply Ext.drewN' | apply Ext.alloc' | refine Ext.trans ?_ (by assumption))))).mono ?_
        rintro e w6 ⟨rfl, m6, rfl⟩
        rw [hsum]
        clear hsum hne hpos' c0 HJ HC HC2
        go_wp2
        go_ret
        exact ⟨ret_bool (by simp <;> omega), (by repeat (first | exact Ext.refl _ | assumption | apply Ext.drewN' | apply Ext.alloc' | refine Ext.trans ?_ (by assumption)))⟩
section
open Go.ChangeShapes Go.WideShapes Go.ChangeAt Go.Deep
theorem FnAllTogether_contract (H : Type) (enc : TypeId × Value → H) (W : World) (base : Nat) (args : Array Value) (ds gs : List (DataW H)) (before : List MemPlace)
    (hval : ∀ (j : Nat) t v, Try.f4.params[j]? = some t → args[j]? = some v → Value.okWide Try.prog W .any base t v)
    (hW : DataW.Whole enc Try.prog Try.f4.params.toList Rows.fnAllTogetherSpec.vars false W args.toList ds gs before) :
    Calls Try.prog 4 args W fun e W' => ∃ v, e = .returned v ∧ Rows.fnAllTogetherSpec.post enc Try.prog Try.f4 false true false false W args v W' := by
  have hW' := hW
  obtain ⟨p, q, hA0, hV, rfl, hfz, hnd⟩ := hW
  have hA : DataW.TrodAll enc Try.prog W 0 (fun _ => true) true Try.f4.params.toList args.toList ds p := hA0
  rw [Try.params4] at hA hval
  obtain ⟨v0, vs0, d0, ds0, p0, q0, hargs0, rfl, rfl, h0, r0⟩ := trodAll_cons hA
  obtain ⟨hargsn, rfl, rfl⟩ := trodAll_nil r0
  obtain rfl : args = #[v0] := by cases args; simp_all
  obtain ⟨rfl, rfl⟩ := trodVars_none hV
  clear hA0
  obtain ⟨A0, code, c0, rfl, M0⟩ := read_bytes (hval 0 32 v0 rfl rfl) h0
  refine (FnAllTogether_walk A0 code c0 W M0).mono fun e W' ⟨he, hx⟩ => ⟨_, he, post_law laidOut (by rw [Try.params4]; decide +kernel) rfl rfl Try.underlying4 hW' rfl hx⟩
set_option maxRecDepth 100000 in
theorem FnAllTogether_lifted (os : Os) (started : os.Started) (H : Type) (enc : TypeId × Value → H) :
    ReturnsInHanded {} Try.checked os 4 .any (Rows.fnAllTogetherSpec.pre6 enc Try.prog Try.f4 Rows.fnAllTogetherRow.domain false) (Rows.fnAllTogetherSpec.post enc Try.prog Try.f4 false true false false) := by
  refine returnsInHanded_of_change (C := Try.checked) own started (by kernel_rfl) Try.func4
    (ChangeSpec.witness6 (enc := enc) (C := Try.checked) false ⟨#[], #[.slice none 0 0], []⟩ 8 (by kernel_rfl) (by kernel_rfl) (by kernel_rfl) (by kernel_rfl) rfl) ?_
  intro W base args ds gs before hval hW _ _
  exact FnAllTogether_contract H enc W base args ds gs before hval hW
theorem FnAllTogether_holds : Rows.FnAllTogetherSaid :=
  OpenClaim.holds_of_wide 4 Try.f4 rfl rfl rfl rfl rfl rfl rfl ⟨rfl, rfl, rfl, rfl, rfl⟩ rfl rfl rfl rfl rfl (by kernel_rfl) Try.func4 (by kernel_rfl)
    (of_decide_eq_true (by kernel_rfl)) (by unfold Func.isWrapper; first | (rw [if_pos (by decide +kernel)]; kernel_rfl) | (rw [if_neg (by decide +kernel)]; exact ⟨rfl, rfl⟩))
    (fun os started H enc _ => FnAllTogether_lifted os started H enc)
end
end Go.Proofs.Ytpfbnaachibbfaa
