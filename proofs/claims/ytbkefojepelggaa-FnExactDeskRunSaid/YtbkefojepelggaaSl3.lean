/- What is proved: marks and reads of desks and deeds with all leaves apart (markDesk, heldDesk, toDeed, szDeed, eqDeed, markDeed). Conditions: those of each contract. -/
import Derived.Test.YtbkefojepelggaaSl2
import Derived.Test.YtbkefojepelggaaDdl
namespace Go.Proofs.Ytbkefojepelggaa
open Go.RowKit
set_option maxHeartbeats 2000000 in
theorem markDesk_v (v : Value) (D : List (List Int)) (L : List (List (List Int))) (Z : Nat → Value) (V : Nat → Nat → Value) (k : Int) (w : World) (h : DkV w v D L Z V) (hk0 : 0 ≤ k) (hk1 : k ≤ 100000000000) (hD : D.length ≤ 10000000) (hT : total D ≤ 10000000) (hz : preS L L.length ≤ 10000000) (hn : ∀ i, i < L.length → (nth L i).length ≤ 10000000) :
    Calls Try.prog 27 #[v, .int .i64 k] w fun e w' => e = .returned (.int .i64 (k + total D + preS L L.length)) ∧ DkV w' v (markM D k) (markS L (k + total D)) Z V ∧ ExtS (LD D L Z V) w w' := by
  obtain ⟨A, c, B, d, rfl, hM, hMd, hS, hSc, hap⟩ := h
  have H1 := Lib.hid hM
  have H2 := Lib.hid hS
  have H3 := Lib.hid (And.intro hMd (And.intro hSc hap))
  have hx0 : Ext w (w.alloc (.cells #[.slice A D.length c, .slice B L.length d] 26)) := Ext.alloc _ _
  have HC := Lib.hid (markIntSS_any A c D Z k _ (hM.ext hx0) hMd hk0 (by omega) hD hT)
  have HCS := Lib.hid (fun W (q : MatSV W B d L V) => markIntSSS_v B d L V (k + total D) W q hSc (by omega) (by omega) hz hn)
  clear hM hS hMd hSc hap hn
  go_enter Try.func27, Try.ntmps27
  go_wp2_with fail
  refine HC.out.mono ?_
  rintro e w1 ⟨rfl, hm, ho⟩
  have hI : ∀ g, LV D.length Z g → ∃ cs, (w.alloc (.cells #[.slice A D.length c, .slice B L.length d] 26)).heap[g]? = some (.cells cs 3 (0, 0)) := fun g hg => (H1.out.ext hx0).isI hg
  have hb : w1.heap[w.heap.size]? = some (.cells #[.slice A D.length c, .slice B L.length d] 26 (0, 0)) := by
    rw [ho.2.2.2.2 _ (fun ⟨i, hi, hg⟩ => absurd (H1.out.lt hi hg) (by omega))]
    exact heap_alloc_new w _
  have c1 : w1.cell? ⟨w.heap.size, 1, none⟩ = some (.slice B L.length d) := by rw [cell_cells hb]; rfl
  have HS1 := Lib.hid ((H2.out.keepT (KeepT.of_ext hx0)).only ho (fun g hg hg2 => H3.out.2.2 g hg2 hg) hI)
  have HM := Lib.hid hm
  have HO := Lib.hid ho
  clear hm ho hb hI HC
  go_wp2_with fail
  refine (HCS.out _ HS1.out).mono ?_
  rintro e w2 ⟨rfl, hm2, ho2⟩
  have HM2 := Lib.hid hm2
  have HO2 := Lib.hid ho2
  clear hm2 ho2 c1
  go_wp2
  go_ret
  have hap : ∀ g, LV (markM D k).length Z g → ¬ LS L V g := fun g hg => by rw [markM_len] at hg; exact H3.out.2.2 g hg
  refine ⟨rfl, ⟨A, c, B, d, by rw [markM_len, show (markS L (k + total D)).length = L.length from mixS_len _ _ _], HM.out.only HO2.out hap (fun g hg => HS1.out.isI hg), by rw [markM_len]; exact H3.out.1, HM2.out, fun i j hi hj hne p hp q hq => ?_, fun g hg hg2 => hap g hg (LS_mix.1 hg2)⟩, ?_⟩
  · have li : i < L.length := by rw [show (markS L (k + total D)).length = L.length from mixS_len _ _ _] at hi; exact hi
    have lj : j < L.length := by rw [show (markS L (k + total D)).length = L.length from mixS_len _ _ _] at hj; exact hj
    exact H3.out.2.1 i j li lj hne p (by rw [← nth_mixS_len (k := k + total D) (i := L.length) li]; exact hp) q (by rw [← nth_mixS_len (k := k + total D) (i := L.length) lj]; exact hq)
  · exact ((ExtS.of hx0).trans ((ExtS.only HO.out).mono fun g hg => .inl hg)).trans ((ExtS.only HO2.out).mono fun g hg => .inr hg)
set_option maxHeartbeats 2000000 in
theorem heldDesk_v (v : Value) (D : List (List Int)) (L : List (List (List Int))) (Z : Nat → Value) (V : Nat → Nat → Value) (k : Int) (w : World) (h : DkV w v (markM D k) (markS L (k + total D)) Z V) (hk0 : 0 ≤ k) (hk1 : k ≤ 100000000000) (hD : D.length ≤ 10000000) (hT : total D ≤ 10000000) (hz : preS L L.length ≤ 10000000) (hn : ∀ i, i < L.length → (nth L i).length ≤ 10000000) :
    Calls Try.prog 29 #[v, .int .i64 k] w fun e w' => e = .returned (.int .i64 (k + total D + preS L L.length)) ∧ Ext w w' := by
  obtain ⟨A, c, B, d, rfl, hM, -, hS, -⟩ := h
  rw [markM_len, show (markS L (k + total D)).length = L.length from mixS_len _ _ _]
  have HC := Lib.hid (fun W (q : Ext w W) => heldmkM_any A c D Z k W (hM.ext q) hk0 (by omega) hD hT)
  have HCS := Lib.hid (fun W (q : Ext w W) => heldIntSSS_v B d L V (k + total D) W (hS.keepT (KeepT.of_ext q)) (by omega) (by omega) hz hn)
  have hn1 : ¬ k + (total D : Nat) < 0 := by omega
  have hn2 : ¬ k + (total D : Nat) + (preS L L.length : Nat) < 0 := by omega
  clear hM hS hn
  go_enter Try.func29, Try.ntmps29
  go_wp2_with fail
  refine (HC.out _ (Ext.alloc _ _)).mono ?_
  rintro e w1 ⟨rfl, m1, rfl⟩
  go_wp2_with fail
  refine (HCS.out _ ((Ext.alloc _ _).drewN' _)).mono ?_
  rintro e w2 ⟨rfl, m2, rfl⟩
  go_wp2
  go_ret
  exact ⟨rfl, by repeat (first | exact Ext.refl _ | apply Ext.drewN' | apply Ext.alloc')⟩
end Go.Proofs.Ytbkefojepelggaa
