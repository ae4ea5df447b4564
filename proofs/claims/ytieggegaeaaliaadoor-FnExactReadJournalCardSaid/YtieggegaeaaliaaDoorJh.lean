/- What is proved: heldDeedS finds the marks of markDeedS; sizes of journals that are read. Conditions: sizes. -/
import Derived.Test.YtieggegaeaaliaaDoorRw3
import Derived.Test.YtieggegaeaaliaaDoorJr
namespace Go.Proofs.YtieggegaeaaliaaDoor
open Go.RowKit
set_option maxRecDepth 100000 in
set_option maxHeartbeats 4000000 in
theorem heldDeedS_any (A : Option Addr) (c : Nat) (ds : List (Int × List Int)) (k : Int) (w : World) (h : DeedsM w A c (markD ds k)) (hk0 : 0 ≤ k) (hk1 : k ≤ 800000000000) (hz : preD ds ds.length ≤ 10000000) :
    Calls Tryd.prog 9 #[.slice A ds.length c, .int .i64 k] w fun e w' => e = .returned (.int .i64 (k + preD ds ds.length)) ∧ Ext w w' := by
  obtain ⟨bX, oX, RX, rX, hA, hk, hx, hi⟩ := h.parts
  have hc2 := h.2.1
  have hc1 := h.1
  unfold maxLen at hc2
  rw [markD_len] at hA hk hx hi hc1
  have HRX := Lib.hid (fun W (q : Ext w W) i (hlt : i < ds.length) => And.intro (q.cell (hk i hlt)) (And.intro (q.cell (hx i hlt)) ((hi i hlt).ext q)))
  have HP := Lib.hid (preD_le ds)
  clear h hk hx hi
  go_enter Tryd.func9, Tryd.ntmps9
  go_wp2
  go_loopg [1, 5] ds.length (fun g s1 s5 wr => ∃ (i : Nat) (s : Int), i + g = ds.length ∧ s5 = .int .i64 i ∧ s1 = .int .i64 s ∧ 0 ≤ s ∧ s ≤ 900000000000 ∧ Hid (s = k + preD ds i ∧ Ext w wr))
  case atStart => exact ⟨0, _, by omega, rfl, rfl, by omega, by omega, Lib.hid ⟨by simp [preD], Ext.refl _⟩⟩
  case round =>
    obtain ⟨i, s, hi, rfl, rfl, hs0, hs1, HW⟩ := hrel
    by_cases hin : i < ds.length
    · obtain ⟨g1, rfl⟩ : ∃ g', gk = g' + 1 := ⟨gk - 1, by omega⟩
      have hin' : (i : Int) < (ds.length : Nat) := by omega
      obtain rfl := hA (by omega)
      obtain ⟨r1, r2, r3⟩ := HRX.out wr HW.out.2 i hin
      obtain ⟨m1, m2⟩ := markD_at (k := k) hin
      have hp1 := HP.out (i + 1) ds.length (by omega)
      have hps : preD ds (i + 1) = preD ds i + 1 + (dx ds i).length := rfl
      have es := HW.out.1
      have hml : (dx (markD ds k) i).length = (dx ds i).length := by rw [m2]; simp [mk]
      rw [hml] at r2
      rw [m2] at r3
      rw [m1, ← es] at r1
      rw [← es] at r3
      obtain ⟨n, hn⟩ : ∃ x, (dx ds i).length = x := ⟨_, rfl⟩
      rw [hn] at r2 r3 hps
      have hI := heldIntS_any (RX i) (rX i) (mk (s + 1) n) (s + 1) wr r3 (by omega) (by omega) (by rw [mk_len]; omega)
      rw [heldI_mk, mk_len] at hI
      have HC := Lib.hid hI
      have hbd : s + 1 + (n : Nat) ≤ 900000000000 := by omega
      have hbn : ¬ s + 1 + (n : Int) < 0 := by omega
      have HE : Hid (s + 1 + (n : Nat) = k + preD ds (i + 1)) := Lib.hid (by rw [hps, es]; omega)
      have HBD := Lib.hid hbd
      clear m1 m2 hp1 hps es hml hn r3 hI
      go_wp2_with fail
      refine HC.out.mono ?_
      rintro e w1 ⟨rfl, mm, rfl⟩
      go_wp2
      go_roundg g1
      case measure => omega
      case rel => exact ⟨i + 1, s + 1 + (n : Nat), by omega, by go_num, by first | rfl | go_num, by omega, HBD.out, Lib.hid ⟨HE.out, by apply Ext.drewN'; exact HW.out.2⟩⟩
    · have hin' : ¬ (i : Int) < (ds.length : Nat) := by omega
      obtain rfl : i = ds.length := by omega
      clear hA
      go_wp2
      go_ret
      exact ⟨ret_int (by rw [HW.out.1]), HW.out.2⟩
theorem dtx_small {k : Int} {xs : List Int} (h : dtx k xs ≠ []) : xs.length ≤ 6 := by
  obtain ⟨hb, -⟩ := dtx_parts (L := dtx k xs) rfl h
  unfold dtB at hb
  simp only [Bool.and_eq_true, Bool.or_eq_true, decide_eq_true_eq] at hb
  omega
theorem jL_two : ∀ {ds : List (Int × List Int)}, AllT ds → 2 * ds.length ≤ (jL ds).length
  | [], _ => Nat.zero_le _
  | a :: r, h => by
    have ih := jL_two (ds := r) (fun b hb => h b (List.mem_cons_of_mem _ hb))
    have ha := List.length_pos_iff.2 (h a (List.mem_cons_self))
    show 2 * (a :: r).length ≤ (dtx a.1 a.2 ++ 10 :: jL r).length
    rw [List.length_append, List.length_cons, List.length_cons]
    omega
theorem jn_len (L : List UInt8) : 2 * (jn L).1.length ≤ L.length := by
  obtain ⟨h1, h2, h3⟩ := jL_jn L.length L (Nat.le_refl _)
  have := jL_two h1
  rw [h2, List.length_take] at this
  omega
theorem dx_mem {ds : List (Int × List Int)} {i : Nat} (h : i < ds.length) : ∃ a ∈ ds, dk ds i = a.1 ∧ dx ds i = a.2 :=
  ⟨ds[i], List.getElem_mem h, by unfold dk; rw [List.getD_eq_getElem?_getD, List.getElem?_eq_getElem h]; rfl, by unfold dx; rw [List.getD_eq_getElem?_getD, List.getElem?_eq_getElem h]; rfl⟩
theorem allT_six {ds : List (Int × List Int)} (h : AllT ds) : ∀ i, i < ds.length → (dx ds i).length ≤ 6 := fun i hi => by
  obtain ⟨a, ha, -, e⟩ := dx_mem hi
  rw [e]
  exact dtx_small (h a ha)
theorem preD_six {ds : List (Int × List Int)} (h : ∀ i, i < ds.length → (dx ds i).length ≤ 6) : ∀ i, i ≤ ds.length → preD ds i ≤ 7 * i := by
  intro i
  induction i with
  | zero => intro _; simp [preD]
  | succ i ih =>
    intro hi
    have h1 := ih (by omega)
    have h2 := h i (by omega)
    show preD ds i + 1 + (dx ds i).length ≤ _
    omega
theorem jn_pre_bd (L : List UInt8) (hl : L.length ≤ 1048576) : preD (jn L).1 (jn L).1.length ≤ 10000000 := by
  have h1 := jn_len L
  have h2 := preD_six (allT_six (jL_jn L.length L (Nat.le_refl _)).1) _ (Nat.le_refl _)
  omega
end Go.Proofs.YtieggegaeaaliaaDoor
