/- What is proved: sizes, comparisons, marks and reads of lists of deeds (szDeedS, eqDeedS, markDeedS). Conditions: those of each contract. -/
import Derived.Test.YtieggegaeaaliaaDoorRw2
namespace Go.Proofs.YtieggegaeaaliaaDoor
open Go.RowKit
def szDsR (ds : List (Int × List Int)) : Nat → Nat → Int → Int
  | 0, _, l => l
  | g + 1, i, l => if szI (dx ds i).length l < 0 then -1 else szDsR ds g (i + 1) (szI (dx ds i).length l)
def szDs (ds : List (Int × List Int)) (l : Int) : Int := if l - ds.length < 0 then -1 else szDsR ds ds.length 0 (l - ds.length)
/-- how many numbers i deeds have -/
def preD (ds : List (Int × List Int)) : Nat → Nat
  | 0 => 0
  | i + 1 => preD ds i + 1 + (dx ds i).length
theorem preD_le (ds : List (Int × List Int)) : ∀ i j, i ≤ j → preD ds i ≤ preD ds j := by
  intro i j
  induction j with
  | zero => intro h; obtain rfl : i = 0 := by omega
            exact Nat.le_refl _
  | succ j ih =>
    intro h
    by_cases e : i = j + 1
    · subst e; exact Nat.le_refl _
    · have := ih (by omega)
      show preD ds i ≤ preD ds j + 1 + (dx ds j).length
      omega
theorem szDsR_spec (ds : List (Int × List Int)) : ∀ g i l, 0 ≤ szDsR ds g i l → szDsR ds g i l ≤ l ∧ ((preD ds (i + g) : Nat) : Int) ≤ preD ds i + g + l ∧ ∀ j, i ≤ j → j < i + g → ((dx ds j).length : Int) ≤ l := by
  intro g
  induction g with
  | zero => intro i l h; have h : 0 ≤ l := h; exact ⟨Int.le_refl _, by rw [Nat.add_zero]; omega, fun j h1 h2 => by omega⟩
  | succ g ih =>
    intro i l h
    unfold szDsR at h ⊢
    split at h
    · omega
    · rename_i hz
      rw [if_neg hz]
      have e : szI (dx ds i).length l = l - (dx ds i).length := by
        unfold szI at hz ⊢
        split at hz
        · omega
        · rename_i q; rw [if_neg q]
      obtain ⟨h0, h1, h2⟩ := ih (i + 1) _ h
      have ep : preD ds (i + 1) = preD ds i + 1 + (dx ds i).length := rfl
      rw [show i + (g + 1) = i + 1 + g by omega]
      refine ⟨by omega, by omega, fun j j1 j2 => ?_⟩
      by_cases q : j = i
      · subst q; omega
      · have := h2 j (by omega) (by omega); omega
theorem szDs_spec {ds : List (Int × List Int)} {l : Int} (hl : l ≤ 1048576) (h : ¬ szDs ds l < 0) : ds.length ≤ 1048576 ∧ (∀ j, j < ds.length → (dx ds j).length ≤ 1048576) ∧ preD ds ds.length ≤ 2097152 := by
  unfold szDs at h
  split at h
  · omega
  · obtain ⟨h0, h1, h2⟩ := szDsR_spec ds ds.length 0 (l - ds.length) (by omega)
    have e0 : preD ds 0 = 0 := rfl
    rw [Nat.zero_add] at h1
    exact ⟨by omega, fun j hj => by have := h2 j (by omega) (by omega); omega, by omega⟩
set_option maxHeartbeats 4000000 in
theorem eqDeedS_any (A B : Option Addr) (c d : Nat) (ds : List (Int × List Int)) (w : World) (h1 : DeedsM w A c ds) (h2 : DeedsM w B d ds) :
    Calls Tryd.prog 7 #[.slice A ds.length c, .slice B ds.length d] w fun e w' => e = .returned (.bool true) ∧ Ext w w' := by
  obtain ⟨bX, oX, RX, rX, hA, hk, hx, hi⟩ := h1.parts
  obtain ⟨bY, oY, RY, rY, hB, hk2, hx2, hi2⟩ := h2.parts
  have hc2 := h1.2.1
  have hc1 := h1.1
  have hd2 := h2.2.1
  have hd1 := h2.1
  unfold maxLen at hc2 hd2
  have HRX := Lib.hid (fun W (q : Ext w W) i (hlt : i < ds.length) => And.intro (q.cell (hk i hlt)) (And.intro (q.cell (hx i hlt)) ((hi i hlt).ext q)))
  have HRY := Lib.hid (fun W (q : Ext w W) i (hlt : i < ds.length) => And.intro (q.cell (hk2 i hlt)) (And.intro (q.cell (hx2 i hlt)) ((hi2 i hlt).ext q)))
  clear h1 h2 hk hx hi hk2 hx2 hi2
  go_enter Tryd.func7, Tryd.ntmps7
  go_wp2
  go_loopg [5] ds.length (fun g s5 wr => ∃ (i : Nat), i + g = ds.length ∧ s5 = .int .i64 i ∧ Hid (Ext w wr))
  case atStart => exact ⟨0, by omega, rfl, Lib.hid (Ext.refl _)⟩
  case round =>
    obtain ⟨i, hi, rfl, HW⟩ := hrel
    by_cases hin : i < ds.length
    · obtain ⟨g1, rfl⟩ : ∃ g', gk = g' + 1 := ⟨gk - 1, by omega⟩
      have hin' : (i : Int) < (ds.length : Nat) := by omega
      obtain rfl := hA (by omega)
      obtain rfl := hB (by omega)
      obtain ⟨r1, r2, r3⟩ := HRX.out wr HW.out i hin
      obtain ⟨r4, r5, r6⟩ := HRY.out wr HW.out i hin
      obtain ⟨kd, hkd⟩ : ∃ n, dk ds i = n := ⟨_, rfl⟩
      obtain ⟨xd, hxd⟩ : ∃ n, dx ds i = n := ⟨_, rfl⟩
      rw [hkd] at r1 r4
      rw [hxd] at r2 r3 r5 r6
      have HC := Lib.hid (fun W (q : Ext wr W) => eqDeed_any kd (RX i) (RY i) (rX i) (rY i) xd W (r3.ext q) (r6.ext q))
      clear r3 r6 hkd hxd
      go_wp2_with fail
      go_region_law (go_simp; go_at_call 19; refine (HC.out _ (by repeat (first | exact Ext.refl _ | apply Ext.drew' | apply Ext.alloc'))).mono ?_; rintro e w5 ⟨rfl, hx5⟩)
      all_goals
        go_wp2
        go_roundg g1
        case measure => omega
        case rel => exact ⟨i + 1, by omega, by go_num, Lib.hid ((HW.out.drew').trans hx5)⟩
    · have hin' : ¬ (i : Int) < (ds.length : Nat) := by omega
      obtain rfl : gk = 0 := by omega
      clear hA hB
      go_wp2
      go_ret
      exact ⟨rfl, HW.out⟩
/-- the blocks of a list of deeds that marks turn -/
def LDs (A : Option Addr) (n : Nat) (V : Nat → Value) (g : Nat) : Prop := LV n V g ∨ 0 < n ∧ ∃ o s, A = some ⟨g, o, s⟩
def markD (ds : List (Int × List Int)) (k : Int) : List (Int × List Int) := (List.range ds.length).map fun j => (k + preD ds j, mk (k + preD ds j + 1) (dx ds j).length)
theorem markD_len (ds : List (Int × List Int)) (k : Int) : (markD ds k).length = ds.length := by simp [markD]
theorem markD_at {ds : List (Int × List Int)} {k : Int} {j : Nat} (h : j < ds.length) : dk (markD ds k) j = k + preD ds j ∧ dx (markD ds k) j = mk (k + preD ds j + 1) (dx ds j).length := by
  have e : (markD ds k).getD j (0, []) = (k + preD ds j, mk (k + preD ds j + 1) (dx ds j).length) := by
    unfold markD
    rw [List.getD_eq_getElem?_getD, List.getElem?_map, List.getElem?_range h]
    rfl
  have e1 : dk (markD ds k) j = ((markD ds k).getD j (0, [])).1 := rfl
  have e2 : dx (markD ds k) j = ((markD ds k).getD j (0, [])).2 := rfl
  rw [e1, e2, e]
  exact ⟨rfl, rfl⟩
set_option maxHeartbeats 4000000 in
theorem markDeedS_any (A : Option Addr) (c : Nat) (ds : List (Int × List Int)) (V : Nat → Value) (k : Int) (w : World) (h : DsV w A c ds V) (hk0 : 0 ≤ k) (hk1 : k ≤ 800000000000) (hz : preD ds ds.length ≤ 10000000) :
    Calls Tryd.prog 8 #[.slice A ds.length c, .int .i64 k] w fun e w' => e = .returned (.int .i64 (k + preD ds ds.length)) ∧ DsV w' A c (markD ds k) V ∧ Only (LDs A ds.length V) w w' := by
  obtain ⟨h1, h2, h3, h4, h5⟩ := h
  have hA : 0 < ds.length → ∃ g, A = some ⟨g, 0, none⟩ := fun h0 => by
    obtain ⟨g, e, -⟩ := h3 h0
    exact ⟨g, e⟩
  unfold maxLen at h2
  have H3 := Lib.hid h3
  have H4 := Lib.hid (And.intro h4 h5)
  clear h3 h4 h5
  go_enter Tryd.func8, Tryd.ntmps8
  go_wp2
  go_loopg [1, 5] ds.length (fun g s1 s5 wr => ∃ (i : Nat) (s : Int), i + g = ds.length ∧ s5 = .int .i64 i ∧ s1 = .int .i64 s ∧ 0 ≤ s ∧ s ≤ 900000000000 ∧ Hid (s = k + preD ds i ∧ Only (LDs A ds.length V) w wr ∧
    (0 < ds.length → ∃ b, A = some ⟨b, 0, none⟩ ∧ Row2 wr b 31 ds.length (fun j => .int .i64 (if j < i then k + preD ds j else dk ds j)) V) ∧ ∀ j, j < ds.length → Leaf wr (V j) (if j < i then mk (k + preD ds j + 1) (dx ds j).length else dx ds j)))
  case atStart => exact ⟨0, _, by omega, rfl, rfl, by omega, by omega, Lib.hid ⟨by simp [preD], Only.refl _ _, by simpa using H3.out, fun j hj => by rw [if_neg (by omega)]; exact H4.out.1 j hj⟩⟩
  case round =>
    obtain ⟨i, s, hi, rfl, rfl, hs0, hs1, HW⟩ := hrel
    by_cases hin : i < ds.length
    · obtain ⟨g', rfl⟩ : ∃ g', gk = g' + 1 := ⟨gk - 1, by omega⟩
      have hin' : (i : Int) < (ds.length : Nat) := by omega
      obtain ⟨b, rfl⟩ := hA (by omega)
      obtain ⟨es, ho, hrow0, hlv⟩ := HW.out
      obtain ⟨b', eb, hrow⟩ := hrow0 (by omega)
      injection eb with eb
      injection eb with eb
      subst eb
      have hli := hlv i hin
      rw [if_neg (by omega)] at hli
      obtain ⟨Av, cv, ev, -⟩ := hli.ints
      rw [ev] at hli
      obtain ⟨xd, hxd⟩ : ∃ x, dx ds i = x := ⟨_, rfl⟩
      obtain ⟨kd, hkd⟩ : ∃ x, dk ds i = x := ⟨_, rfl⟩
      have hp1 := preD_le ds (i + 1) ds.length (by omega)
      have hps : preD ds (i + 1) = preD ds i + 1 + (dx ds i).length := rfl
      rw [hxd] at hli ev hps
      obtain ⟨c1, -⟩ := hrow.cell hin
      have f1 := hrow.frozen (i * 2)
      rw [if_neg (by omega), hkd] at c1
      have hr2 := hrow.set0 hin (.int .i64 s)
      obtain ⟨-, c2⟩ := hr2.cell hin
      rw [ev] at c2
      have hne : ∀ g ∈ lb (.slice Av xd.length cv), g ≠ b := fun g hg e => by
        subst e
        obtain ⟨cs', hb'⟩ := hli.blocks _ hg
        obtain ⟨cs2, hb2, -⟩ := hrow
        rw [hb2] at hb'
        injection hb' with hb'
        injection hb' with _ ht
        exact absurd ht (by decide)
      have hli2 : Leaf (wr.setCell ⟨b, i * 2, none⟩ (.int .i64 s)) (.slice Av xd.length cv) xd := hli.keep fun g hg => Below.heap_setCell _ _ _ _ (hne g hg)
      have HC := Lib.hid (markIntS_any Av cv xd (s + 1) _ hli2 (by omega) (by omega) (by omega))
      have ws : IntKind.i64.wrap (s + 1) = s + 1 := IntWalk.i64_in _ ⟨by omega, by omega⟩
      have HE := Lib.hid (And.intro ev (And.intro hxd (And.intro hkd (And.intro hps (And.intro hne (And.intro hr2 hli))))))
      have hbd : s + 1 + (xd.length : Nat) ≤ 900000000000 := by omega
      have HBD := Lib.hid hbd
      clear es ho hrow0 hlv hrow hli ev hxd hkd hp1 hps hr2 hne hli2 hbd hA
      go_wp2_with (go_at_call 20; refine HC.out.mono ?_; rintro e w1 ⟨rfl, hl1, ho1⟩; have HV := Lib.hid (And.intro hl1 ho1); clear hl1 ho1)
      go_roundg g'
      case measure => omega
      case rel =>
        obtain ⟨es, ho, -, hlv⟩ := HW.out
        obtain ⟨ev, hxd, hkd, hps, hne, hr2, hli⟩ := HE.out
        obtain ⟨hl1, ho1⟩ := HV.out
        have hbd := HBD.out
        have hbS : LDs (some ⟨b, 0, none⟩) ds.length V b := .inr ⟨by omega, 0, none, rfl⟩
        have hSi : ∀ g ∈ lb (.slice Av xd.length cv), LDs (some ⟨b, 0, none⟩) ds.length V g := fun g hg => .inl ⟨i, hin, by rw [ev]; exact hg⟩
        have hb1 : w1.heap[b]? = (wr.setCell ⟨b, i * 2, none⟩ (.int .i64 s)).heap[b]? := ho1.2.2.2.2 b fun hg => hne b hg rfl
        refine ⟨i + 1, s + 1 + xd.length, by omega, by go_num, by first | rfl | go_num, by omega, hbd, Lib.hid ⟨by rw [hps]; omega, (ho.trans (Only.set _ hbS _)).trans (ho1.mono hSi), fun _ => ⟨b, rfl, (hr2.of_block hb1).congr fun j hj => ⟨?_, rfl⟩⟩, fun j hj => ?_⟩⟩
        · by_cases e : j = i
          · subst e
            simp [es]
          · by_cases hlt : j < i
            · simp [e, hlt, show j < i + 1 by omega]
            · simp [e, hlt, show ¬ j < i + 1 by omega]
        · by_cases e : j = i
          · subst e
            rw [if_pos (by omega), ev, hxd, ← es]
            exact hl1
          · have h0 := hlv j hj
            have hkeep : Leaf w1 (V j) (if j < i then mk (k + preD ds j + 1) (dx ds j).length else dx ds j) := h0.keep fun g hg => by
              have hnb : g ≠ b := by
                rintro rfl
                obtain ⟨cs', hb'⟩ := h0.blocks _ hg
                obtain ⟨cs2, hb2, -⟩ := hr2
                have hb3 : (wr.setCell ⟨g, i * 2, none⟩ (.int .i64 s)).heap[g]? = _ := hb2
                simp [World.setCell, Array.getElem?_modify, hb'] at hb3
              exact (ho1.2.2.2.2 g fun hg2 => H4.out.2 j i hj hin e g hg (by rw [ev]; exact hg2)).trans (Below.heap_setCell _ _ _ _ (by show g ≠ b; exact hnb))
            by_cases hlt : j < i
            · rw [if_pos hlt] at hkeep; rw [if_pos (by omega)]; exact hkeep
            · rw [if_neg hlt] at hkeep; rw [if_neg (by omega)]; exact hkeep
    · have hin' : ¬ (i : Int) < (ds.length : Nat) := by omega
      clear hA
      go_wp2
      go_ret
      obtain ⟨es, ho, hrow, hlv⟩ := HW.out
      obtain rfl : i = ds.length := by omega
      refine ⟨ret_int (by rw [es]), ⟨by rw [markD_len]; exact h1, by unfold maxLen; exact h2, fun h0 => ?_, fun j hj => ?_, by rw [markD_len]; exact H4.out.2⟩, ho⟩
      · rw [markD_len] at h0 ⊢
        obtain ⟨b, e, hr⟩ := hrow h0
        exact ⟨b, e, hr.congr fun j hj => ⟨by rw [if_pos hj, (markD_at hj).1], rfl⟩⟩
      · rw [markD_len] at hj
        have := hlv j hj
        rw [if_pos hj] at this
        rw [(markD_at hj).2]
        exact this
theorem DsV.isI {w : World} {A : Option Addr} {c : Nat} {ds : List (Int × List Int)} {V : Nat → Value} (h : DsV w A c ds V) {g : Nat} (hg : LDs A ds.length V g) : ∃ cs t, w.heap[g]? = some (.cells cs t (0, 0)) ∧ (t = 3 ∨ t = 31) := by
  obtain ⟨h1, h2, h3, h4, h5⟩ := h
  rcases hg with ⟨i, hi, q⟩ | ⟨h0, o, s, e⟩
  · obtain ⟨cs, hb⟩ := (h4 i hi).blocks g q
    exact ⟨cs, _, hb, .inl rfl⟩
  · obtain ⟨b, e2, cs, hb, -⟩ := h3 h0
    rw [e] at e2
    injection e2 with e2
    injection e2 with e2
    subst e2
    exact ⟨cs, _, hb, .inr rfl⟩
theorem DsV.lt {w : World} {A : Option Addr} {c : Nat} {ds : List (Int × List Int)} {V : Nat → Value} (h : DsV w A c ds V) {g : Nat} (hg : LDs A ds.length V g) : g < w.heap.size := by
  obtain ⟨cs, t, hb, -⟩ := h.isI hg
  exact heap_lt hb
theorem DsV.extS {S : Nat → Prop} {w w' : World} {A : Option Addr} {c : Nat} {ds : List (Int × List Int)} {V : Nat → Value} (h : DsV w A c ds V) (k : ExtS S w w') (hs : ∀ g, LDs A ds.length V g → ¬ S g) : DsV w' A c ds V := by
  have h0 := h
  obtain ⟨h1, h2, h3, h4, h5⟩ := h
  refine ⟨h1, h2, fun q => ?_, fun i hi => (h4 i hi).keep fun g hg => k.2.2.2.2 g ((h4 i hi).lt hg) (hs g (.inl ⟨i, hi, hg⟩)), h5⟩
  obtain ⟨b, e, hr⟩ := h3 q
  exact ⟨b, e, hr.of_block (k.2.2.2.2 b hr.lt (hs b (.inr ⟨q, 0, none, e⟩)))⟩
end Go.Proofs.YtieggegaeaaliaaDoor
