/- What is proved: impl.gapOf, impl.worstGap and impl.TreeOk: where a space lies in a tree, the four-point condition holds. Conditions: those of each contract. -/
import Derived.Test.YtimelegkgaimjaaIsoS
import Derived.Test.YtimelegkgaimjaaMeds
import Derived.Test.YtimelegkgaimjaaBD2
import Derived.Test.YtimelegkgaimjaaSrt
namespace Go.Proofs.Ytimelegkgaimjaa
open Go.RowKit
theorem psL_bd {D : List (List Int)} (hf : farB D = true) {a b c e : Nat} (ha : a < D.length) (hb : b < D.length) (hc : c < D.length) (he : e < D.length) : ∀ x ∈ psL D a b c e, 0 ≤ x ∧ x ≤ 120 := by
  obtain ⟨_, _, hcells⟩ := farB_parts hf
  obtain ⟨p1, p1', -, -⟩ := hcells a ha b hb
  obtain ⟨p2, p2', -, -⟩ := hcells c hc e he
  obtain ⟨p3, p3', -, -⟩ := hcells a ha c hc
  obtain ⟨p4, p4', -, -⟩ := hcells b hb e he
  obtain ⟨p5, p5', -, -⟩ := hcells a ha e he
  obtain ⟨p6, p6', -, -⟩ := hcells b hb c hc
  intro x hx
  unfold psL at hx
  simp only [List.mem_cons, List.not_mem_nil, or_false] at hx
  rcases hx with rfl | rfl | rfl <;> omega
/-- by how much the two greatest sums differ -/
def gapI (D : List (List Int)) (a b c e : Nat) : Int := ix (srt (psL D a b c e)) 2 - ix (srt (psL D a b c e)) 1
def wg1 (D : List (List Int)) (a b c : Nat) : Nat → Nat → Int → Int := itR (fun e s => max s (gapI D a b c e))
def wg2 (D : List (List Int)) (a b : Nat) : Nat → Nat → Int → Int := itR (fun c s => wg1 D a b c D.length 0 s)
def wg3 (D : List (List Int)) (a : Nat) : Nat → Nat → Int → Int := itR (fun b s => wg2 D a b D.length 0 s)
def wgI (D : List (List Int)) : Int := itR (fun a s => wg3 D a D.length 0 s) D.length 0 0
theorem itR_up {f : Nat → Int → Int} {S : Nat → Int → Prop} (n : Nat) (s : Int) (hf : ∀ k, k < n → ∀ s, s ≤ f k s ∧ ∀ x, S k x → x ≤ f k s) : s ≤ itR f n 0 s ∧ ∀ x, (∃ k, k < n ∧ S k x) → x ≤ itR f n 0 s := by
  have := itR_inv (f := f) (fun j (t : Int) => s ≤ t ∧ ∀ x, (∃ k, k < j ∧ S k x) → x ≤ t) n 0 s ⟨Int.le_refl _, fun x ⟨k, hk, _⟩ => absurd hk (by omega)⟩ (fun j t _ hj h => by
    obtain ⟨g1, g2⟩ := hf j (by omega) t
    refine ⟨by omega, fun x ⟨k, hk, hx⟩ => ?_⟩
    by_cases e : k = j
    · subst e; exact g2 x hx
    · have := h.2 x ⟨k, by omega, hx⟩; omega)
  simpa using this
theorem wgI_up (D : List (List Int)) {a b c e : Nat} (ha : a < D.length) (hb : b < D.length) (hc : c < D.length) (he : e < D.length) : gapI D a b c e ≤ wgI D := by
  have h1 : ∀ a b c s, s ≤ wg1 D a b c D.length 0 s ∧ ∀ x, (∃ e, e < D.length ∧ x = gapI D a b c e) → x ≤ wg1 D a b c D.length 0 s := fun a b c s =>
    itR_up (S := fun e x => x = gapI D a b c e) _ _ fun e _ s => ⟨by show s ≤ max s _; omega, fun x hx => by show x ≤ max s _; omega⟩
  have h2 : ∀ a b s, s ≤ wg2 D a b D.length 0 s ∧ ∀ x, (∃ c, c < D.length ∧ ∃ e, e < D.length ∧ x = gapI D a b c e) → x ≤ wg2 D a b D.length 0 s := fun a b s =>
    itR_up (S := fun c x => ∃ e, e < D.length ∧ x = gapI D a b c e) _ _ fun c _ s => h1 a b c s
  have h3 : ∀ a s, s ≤ wg3 D a D.length 0 s ∧ ∀ x, (∃ b, b < D.length ∧ ∃ c, c < D.length ∧ ∃ e, e < D.length ∧ x = gapI D a b c e) → x ≤ wg3 D a D.length 0 s := fun a s =>
    itR_up (S := fun b x => ∃ c, c < D.length ∧ ∃ e, e < D.length ∧ x = gapI D a b c e) _ _ fun b _ s => h2 a b s
  exact (itR_up (S := fun a x => ∃ b, b < D.length ∧ ∃ c, c < D.length ∧ ∃ e, e < D.length ∧ x = gapI D a b c e) _ _ fun a _ s => h3 a s).2 _ ⟨a, ha, b, hb, c, hc, e, he, rfl⟩
theorem gapI_bd {D : List (List Int)} (hf : farB D = true) {a b c e : Nat} (ha : a < D.length) (hb : b < D.length) (hc : c < D.length) (he : e < D.length) : 0 ≤ gapI D a b c e ∧ gapI D a b c e ≤ 240 := by
  have h1 := srt_bd (xs := psL D a b c e) rfl (psL_bd hf ha hb hc he)
  have h2 := srt3 (at2 D a b + at2 D c e) (at2 D a c + at2 D b e) (at2 D a e + at2 D b c)
  have h3 : ix (srt (psL D a b c e)) 1 ≤ ix (srt (psL D a b c e)) 2 := h2.2.1
  unfold gapI
  omega
/-- a space lies in a tree -/
def treeB (D : List (List Int)) : Bool := spB D && decide (wgI D = 0)
theorem tree_four {D : List (List Int)} (h : treeB D = true) : FourE D.length (at2 D) := by
  unfold treeB at h
  simp only [Bool.and_eq_true, decide_eq_true_eq] at h
  intro x hx y hy z hz w hw
  have h1 := wgI_up D hx hy hz hw
  rw [h.2] at h1
  have h2 := srt3 (at2 D x y + at2 D z w) (at2 D x z + at2 D y w) (at2 D x w + at2 D y z)
  obtain ⟨q1, q2, q3, q4, q5⟩ := h2
  have h3 : ix (srt [at2 D x y + at2 D z w, at2 D x z + at2 D y w, at2 D x w + at2 D y z]) 2 - ix (srt [at2 D x y + at2 D z w, at2 D x z + at2 D y w, at2 D x w + at2 D y z]) 1 ≤ 0 := h1
  omega
set_option maxRecDepth 100000 in
set_option maxHeartbeats 2000000 in
theorem gapOf_any (A : Option Addr) (cp : Nat) (D : List (List Int)) (a b c e : Nat) (w : World) (h : Mat w A cp D) (hf : farB D = true) (ha : a < D.length) (hb : b < D.length) (hc : c < D.length) (he : e < D.length) :
    Calls Try.prog 69 #[.slice A D.length cp, .int .i64 a, .int .i64 b, .int .i64 c, .int .i64 e] w fun e' w' => e' = .returned (.int .i64 (gapI D a b c e)) ∧ Ext w w' := by
  have HC := Lib.hid (pairSums_any A cp D a b c e w h hf ha hb hc he)
  have hbd := psL_bd hf ha hb hc he
  have H3 := Lib.hid (show (psL D a b c e).length = 3 from rfl)
  have Hd := Lib.hid (show gapI D a b c e = ix (srt (psL D a b c e)) 2 - ix (srt (psL D a b c e)) 1 from rfl)
  obtain ⟨xs, hxs⟩ : ∃ xs, psL D a b c e = xs := ⟨_, rfl⟩
  rw [hxs] at HC hbd H3 Hd
  have HB := Lib.hid hbd
  clear h hf hbd hxs
  go_enter Try.func69, Try.ntmps69
  go_wp2_with fail
  refine HC.out.mono ?_
  rintro e1 w1 ⟨v, rfl, hL, hF, hx1⟩
  obtain ⟨blk, c1, cs, rfl, hge, hblk, hcs⟩ := leaf_three hL hF H3.out
  have hx : Ext w w1 := hx1
  have HL := Lib.hid hL
  clear hL hF hx1
  go_wp2_with fail
  refine (sort3_any blk c1 cs xs w1 H3.out hblk hcs).mono ?_
  rintro e2 w2 ⟨rfl, hc1, hc2, hO⟩
  have hbb := srt_bd H3.out HB.out
  obtain ⟨⟨b1, b1'⟩, ⟨b2, b2'⟩⟩ := hbb
  have hx2 := Lib.hid (hO w hx hge)
  clear hO hblk hcs
  go_wp2
  go_quiet (fail)
  go_wp2
  go_ret
  exact ⟨ret_int Hd.out.symm, hx2.out.drewN' _⟩
set_option maxRecDepth 100000 in
set_option maxHeartbeats 8000000 in
theorem worstGap_any (A : Option Addr) (cp : Nat) (D : List (List Int)) (w : World) (h : Mat w A cp D) (hf : farB D = true) :
    Calls Try.prog 53 #[.slice A D.length cp] w fun e w' => e = .returned (.int .i64 (wgI D)) ∧ Ext w w' := by
  have HM := Lib.hid h
  have n6 := (farB_parts hf).1.2
  have HC := Lib.hid (fun (a b c e : Nat) (ha : a < D.length) (hb : b < D.length) (hc : c < D.length) (he : e < D.length) W (k : Mat W A cp D) => gapOf_any A cp D a b c e W k hf ha hb hc he)
  have HB := Lib.hid (fun (a b c e : Nat) (ha : a < D.length) (hb : b < D.length) (hc : c < D.length) (he : e < D.length) => gapI_bd hf ha hb hc he)
  clear hf h
  go_enter Try.func53, Try.ntmps53
  go_wp2
  go_loopg [10, 3] (D.length) (fun g s10 s3 wr => ∃ (a : Nat) (t1 : Int), a + g = D.length ∧ s10 = .int .i64 a ∧ s3 = .int .i64 t1 ∧ Ext w wr ∧ 0 ≤ t1 ∧ t1 ≤ 240 ∧ Hid (itR (fun a s => wg3 D a D.length 0 s) g a t1 = wgI D))
  case atStart => exact ⟨0, _, by omega, rfl, rfl, by repeat (first | exact Ext.refl _ | assumption | apply Ext.drewN' | apply Ext.alloc' | refine Ext.trans ?_ (by assumption)), by omega, by omega, Lib.hid (rfl)⟩
  case round =>
    obtain ⟨a, t1, ha, rfl, rfl, hxa, ht1, ht1', Ha⟩ := hrel
    by_cases hina : a < D.length
    · obtain ⟨ga, rfl⟩ : ∃ g', gk = g' + 1 := ⟨gk - 1, by omega⟩
      have hina' : (a : Int) < (D.length : Nat) := by omega
      go_wp2
      go_loopg [15, 3] (D.length) (fun g s15 s3 wr => ∃ (b : Nat) (t2 : Int), b + g = D.length ∧ s15 = .int .i64 b ∧ s3 = .int .i64 t2 ∧ Ext w wr ∧ 0 ≤ t2 ∧ t2 ≤ 240 ∧ Hid (wg3 D a g b t2 = wg3 D a D.length 0 t1))
      case atStart => exact ⟨0, _, by omega, rfl, rfl, by repeat (first | exact Ext.refl _ | assumption | apply Ext.drewN' | apply Ext.alloc' | refine Ext.trans ?_ (by assumption)), by omega, by omega, Lib.hid (rfl)⟩
      case round =>
        obtain ⟨b, t2, hb, rfl, rfl, hxb, ht2, ht2', Hb⟩ := hrel
        by_cases hinb : b < D.length
        · obtain ⟨gb, rfl⟩ : ∃ g', gk = g' + 1 := ⟨gk - 1, by omega⟩
          have hinb' : (b : Int) < (D.length : Nat) := by omega
          go_wp2
          go_loopg [20, 3] (D.length) (fun g s20 s3 wr => ∃ (c : Nat) (t3 : Int), c + g = D.length ∧ s20 = .int .i64 c ∧ s3 = .int .i64 t3 ∧ Ext w wr ∧ 0 ≤ t3 ∧ t3 ≤ 240 ∧ Hid (wg2 D a b g c t3 = wg2 D a b D.length 0 t2))
          case atStart => exact ⟨0, _, by omega, rfl, rfl, by repeat (first | exact Ext.refl _ | assumption | apply Ext.drewN' | apply Ext.alloc' | refine Ext.trans ?_ (by assumption)), by omega, by omega, Lib.hid (rfl)⟩
          case round =>
            obtain ⟨c, t3, hc, rfl, rfl, hxc, ht3, ht3', Hc⟩ := hrel
            by_cases hinc : c < D.length
            · obtain ⟨gc, rfl⟩ : ∃ g', gk = g' + 1 := ⟨gk - 1, by omega⟩
              have hinc' : (c : Int) < (D.length : Nat) := by omega
              go_wp2
              go_loopg [25, 3] (D.length) (fun g s25 s3 wr => ∃ (e : Nat) (t4 : Int), e + g = D.length ∧ s25 = .int .i64 e ∧ s3 = .int .i64 t4 ∧ Ext w wr ∧ 0 ≤ t4 ∧ t4 ≤ 240 ∧ Hid (wg1 D a b c g e t4 = wg1 D a b c D.length 0 t3))
              case atStart => exact ⟨0, _, by omega, rfl, rfl, by repeat (first | exact Ext.refl _ | assumption | apply Ext.drewN' | apply Ext.alloc' | refine Ext.trans ?_ (by assumption)), by omega, by omega, Lib.hid (rfl)⟩
              case round =>
                obtain ⟨e, t4, he, rfl, rfl, hxe, ht4, ht4', He⟩ := hrel
                by_cases hine : e < D.length
                · obtain ⟨ge, rfl⟩ : ∃ g', gk = g' + 1 := ⟨gk - 1, by omega⟩
                  have hine' : (e : Int) < (D.length : Nat) := by omega
                  have Hst := Lib.hid (show wg1 D a b c (ge + 1) e t4 = wg1 D a b c ge (e + 1) (max t4 (gapI D a b c e)) from rfl)
                  obtain ⟨g0, g1⟩ := HB.out a b c e hina hinb hinc hine
                  have HCk := Lib.hid (HC.out a b c e hina hinb hinc hine)
                  obtain ⟨G, hG⟩ : ∃ G, gapI D a b c e = G := ⟨_, rfl⟩
                  rw [hG] at g0 g1 HCk Hst
                  clear hG
                  go_wp2_with fail
                  refine (HCk.out _ (HM.out.ext (by repeat (first | exact Ext.refl _ | assumption | apply Ext.drewN' | apply Ext.alloc' | refine Ext.trans ?_ (by assumption))))).mono ?_
                  rintro e1 w1 ⟨rfl, hx1⟩
                  by_cases hlt : t4 < G
                  · have HE := Lib.hid (show max t4 G = G by omega)
                    go_wp2
                    go_roundg ge
                    case measure => omega
                    case rel => exact ⟨e + 1, G, by omega, by go_num, by first | rfl | go_num, by repeat (first | exact Ext.refl _ | assumption | apply Ext.drewN' | apply Ext.alloc' | refine Ext.trans ?_ (by assumption)), by omega, by omega, Lib.hid (by rw [← He.out, Hst.out, HE.out])⟩
                  · have HE := Lib.hid (show max t4 G = t4 by omega)
                    go_wp2
                    go_roundg ge
                    case measure => omega
                    case rel => exact ⟨e + 1, t4, by omega, by go_num, by first | rfl | go_num, by repeat (first | exact Ext.refl _ | assumption | apply Ext.drewN' | apply Ext.alloc' | refine Ext.trans ?_ (by assumption)), by omega, by omega, Lib.hid (by rw [← He.out, Hst.out, HE.out])⟩
                · have hine' : ¬ (e : Int) < (D.length : Nat) := by omega
                  obtain rfl : gk = 0 := by omega
                  have HT := Lib.hid (show t4 = wg1 D a b c D.length 0 t3 from He.out)
                  clear He
                  go_wp2
                  go_roundg gc
                  case measure => omega
                  case rel => exact ⟨c + 1, t4, by omega, by go_num, by first | rfl | go_num, by repeat (first | exact Ext.refl _ | assumption | apply Ext.drewN' | apply Ext.alloc' | refine Ext.trans ?_ (by assumption)), by omega, by omega, Lib.hid (by rw [← Hc.out]; show _ = wg2 D a b gc (c + 1) (wg1 D a b c D.length 0 t3); rw [← HT.out])⟩
            · have hinc' : ¬ (c : Int) < (D.length : Nat) := by omega
              obtain rfl : gk = 0 := by omega
              have HT := Lib.hid (show t3 = wg2 D a b D.length 0 t2 from Hc.out)
              clear Hc
              go_wp2
              go_roundg gb
              case measure => omega
              case rel => exact ⟨b + 1, t3, by omega, by go_num, by first | rfl | go_num, by repeat (first | exact Ext.refl _ | assumption | apply Ext.drewN' | apply Ext.alloc' | refine Ext.trans ?_ (by assumption)), by omega, by omega, Lib.hid (by rw [← Hb.out]; show _ = wg3 D a gb (b + 1) (wg2 D a b D.length 0 t2); rw [← HT.out])⟩
        · have hinb' : ¬ (b : Int) < (D.length : Nat) := by omega
          obtain rfl : gk = 0 := by omega
          have HT := Lib.hid (show t2 = wg3 D a D.length 0 t1 from Hb.out)
          clear Hb
          go_wp2
          go_roundg ga
          case measure => omega
          case rel => exact ⟨a + 1, t2, by omega, by go_num, by first | rfl | go_num, by repeat (first | exact Ext.refl _ | assumption | apply Ext.drewN' | apply Ext.alloc' | refine Ext.trans ?_ (by assumption)), by omega, by omega, Lib.hid (by rw [← Ha.out, itR, ← HT.out])⟩
    · have hina' : ¬ (a : Int) < (D.length : Nat) := by omega
      obtain rfl : gk = 0 := by omega
      go_wp2
      go_ret
      exact ⟨ret_int (by rw [← Ha.out]; rfl), (by repeat (first | exact Ext.refl _ | assumption | apply Ext.drewN' | apply Ext.alloc' | refine Ext.trans ?_ (by assumption)))⟩
set_option maxHeartbeats 1000000 in
theorem iTreeOk_any (A : Option Addr) (cp : Nat) (D : List (List Int)) (w : World) (h : Mat w A cp D) :
    Calls Try.prog 23 #[.slice A D.length cp] w fun e w' => e = .returned (.bool (treeB D)) ∧ Ext w w' := by
  have HM := Lib.hid h
  have HC := Lib.hid (isSpace_any A cp D w h)
  have Hd := Lib.hid (show treeB D = (spB D && decide (wgI D = 0)) from rfl)
  cases hs : spB D with
  | false =>
    have HF := Lib.hid (show treeB D = false by rw [Hd.out, hs]; rfl)
    rw [hs] at HC
    clear hs h
    go_enter Try.func23, Try.ntmps23
    go_wp2_with fail
    refine (HC.out).mono ?_
    rintro e w1 ⟨rfl, m1, rfl⟩
    go_wp2
    go_ret
    exact ⟨ret_bool HF.out.symm, (by repeat (first | exact Ext.refl _ | assumption | apply Ext.drewN' | apply Ext.alloc' | refine Ext.trans ?_ (by assumption)))⟩
  | true =>
    have HF := Lib.hid (show treeB D = decide (wgI D = 0) by rw [Hd.out, hs]; rfl)
    have HW := Lib.hid (fun W (k : Mat W A cp D) => worstGap_any A cp D W k (spB_far hs))
    rw [hs] at HC
    clear hs h
    obtain ⟨G, hG⟩ : ∃ G, wgI D = G := ⟨_, rfl⟩
    rw [hG] at HF HW
    clear hG
    go_enter Try.func23, Try.ntmps23
    go_wp2_with fail
    refine (HC.out).mono ?_
    rintro e w1 ⟨rfl, m1, rfl⟩
    go_wp2_with fail
    refine (HW.out _ (HM.out.ext (by repeat (first | exact Ext.refl _ | assumption | apply Ext.drewN' | apply Ext.alloc' | refine Ext.trans ?_ (by assumption))))).mono ?_
    rintro e w2 ⟨rfl, hx2⟩
    go_wp2
    go_ret
    exact ⟨ret_bool (by rw [HF.out]; by_cases q : G = 0 <;> simp [q]), (by repeat (first | exact Ext.refl _ | assumption | apply Ext.drewN' | apply Ext.alloc' | refine Ext.trans ?_ (by assumption)))⟩
end Go.Proofs.Ytimelegkgaimjaa
