/- What is proved: the laws' marks: markIntS, markIntSS write consecutive numbers into rows of one's own and into nothing else; heldIntS, heldIntSS find them. Conditions: sizes. -/
import Derived.Test.YtjpgjmhdjepfgaaDoorApp
namespace Go.Proofs.YtjpgjmhdjepfgaaDoor
open Go.RowKit

/-- nothing has turned but the blocks of S -/
def Only (S : Nat → Prop) (w w' : World) : Prop := w'.os = w.os ∧ w'.tape = w.tape ∧ w'.output = w.output ∧ w'.heap.size = w.heap.size ∧ ∀ k, ¬ S k → w'.heap[k]? = w.heap[k]?
theorem Only.refl (S : Nat → Prop) (w : World) : Only S w w := ⟨rfl, rfl, rfl, rfl, fun _ _ => rfl⟩
theorem Only.trans {S : Nat → Prop} {a b c : World} (h : Only S a b) (k : Only S b c) : Only S a c :=
  ⟨k.1.trans h.1, k.2.1.trans h.2.1, k.2.2.1.trans h.2.2.1, k.2.2.2.1.trans h.2.2.2.1, fun i hi => (k.2.2.2.2 i hi).trans (h.2.2.2.2 i hi)⟩
theorem Only.mono {S T : Nat → Prop} {a b : World} (h : Only S a b) (k : ∀ g, S g → T g) : Only T a b :=
  ⟨h.1, h.2.1, h.2.2.1, h.2.2.2.1, fun i hi => h.2.2.2.2 i fun hs => hi (k i hs)⟩
theorem Only.drewN (S : Nat → Prop) (w : World) (m : Nat) : Only S w (w.drewN m) := ⟨rfl, rfl, rfl, rfl, fun _ _ => rfl⟩
theorem Only.set {S : Nat → Prop} (w : World) {p : Addr} (hp : S p.block) (u : Value) : Only S w (w.setCell p u) :=
  ⟨rfl, rfl, rfl, by simp [World.setCell], fun k hk => Below.heap_setCell _ _ _ _ fun e => hk (by rw [e]; exact hp)⟩
/-- what wrote only to blocks that are later than the world a leaves what was there -/
theorem Only.ext {S : Nat → Prop} {a w w' : World} (h : Ext a w) (k : Only S w w') (hs : ∀ g, S g → a.heap.size ≤ g) : Ext a w' :=
  ⟨k.1.trans (Below.os h), k.2.1.trans (Below.tape h), k.2.2.1.trans (Below.output h), by rw [k.2.2.2.1]; exact h.size, fun i hi => (k.2.2.2.2 i fun hg => by have := hs i hg; omega).trans (Below.block h i hi)⟩
theorem Leaf.only {S : Nat → Prop} {w w' : World} {v : Value} {xs : List Int} (h : Leaf w v xs) (k : Only S w w') (hs : ∀ g ∈ lb v, ¬ S g) : Leaf w' v xs := h.keep fun g hg => k.2.2.2.2 g (hs g hg)

/-- consecutive numbers -/
def mk (k : Int) (n : Nat) : List Int := (List.range n).map fun j => k + (j : Nat)
theorem mk_len (k : Int) (n : Nat) : (mk k n).length = n := by simp [mk]
theorem ix_mk {k : Int} {n j : Nat} (h : j < n) : ix (mk k n) j = k + j := by rw [ix_of (by rw [mk_len]; exact h)]; simp [mk]
/-- the first i of them, and what was there -/
def mixed (k : Int) (xs : List Int) (i : Nat) : List Int := (List.range xs.length).map fun j => if j < i then k + (j : Nat) else ix xs j
theorem mixed_len (k : Int) (xs : List Int) (i : Nat) : (mixed k xs i).length = xs.length := by simp [mixed]
theorem ix_mixed {k : Int} {xs : List Int} {i j : Nat} (h : j < xs.length) : ix (mixed k xs i) j = if j < i then k + (j : Nat) else ix xs j := by
  rw [ix_of (by rw [mixed_len]; exact h)]; simp [mixed]
theorem mixed_0 (k : Int) (xs : List Int) : mixed k xs 0 = xs := ext_ix (mixed_len _ _ _) fun i hi => by rw [mixed_len] at hi; rw [ix_mixed hi, if_neg (by omega)]
theorem mixed_all (k : Int) (xs : List Int) : mixed k xs xs.length = mk k xs.length := ext_ix (by rw [mixed_len, mk_len]) fun i hi => by rw [mixed_len] at hi; rw [ix_mixed hi, if_pos hi, ix_mk hi]

theorem Leaf.mark {w : World} {g c i : Nat} {k : Int} {xs : List Int} (h : Leaf w (.slice (some ⟨g, 0, none⟩) xs.length c) (mixed k xs i)) (hi : i < xs.length) :
    w.cell? ⟨g, i, none⟩ = some (.int .i64 (ix xs i)) ∧ w.frozen? ⟨g, i, none⟩ = false ∧ g < w.heap.size ∧
    Leaf (w.setCell ⟨g, i, none⟩ (.int .i64 (k + i))) (.slice (some ⟨g, 0, none⟩) xs.length c) (mixed k xs (i + 1)) := by
  obtain ⟨A, c', e, h1, h2, h3⟩ := h
  injection e with e1 e2 e3
  subst e1; subst e3
  obtain ⟨g', cs, ea, hb, hc⟩ := h3 (by rw [mixed_len]; omega)
  injection ea with ea; injection ea with ea; subst ea
  rw [mixed_len] at h1 hc
  have hci := hc i hi
  rw [ix_mixed hi, if_neg (by omega)] at hci
  refine ⟨by rw [cell_cells hb, hci], frozen_cells hb i, heap_lt hb, _, _, by rw [mixed_len], by rw [mixed_len]; exact h1, h2, fun _ => ⟨g, cs.setIfInBounds i (.int .i64 (k + i)), rfl, ?_, fun j hj => ?_⟩⟩
  · simp [World.setCell, Array.getElem?_modify, hb]
  · rw [mixed_len] at hj
    have hsz : i < cs.size := (Array.getElem?_eq_some_iff.1 hci).1
    rw [ix_mixed hj, Array.getElem?_setIfInBounds]
    by_cases e : i = j
    · subst e; simp [hsz]
    · rw [if_neg e, hc j hj, ix_mixed hj]
      by_cases hlt : j < i
      · rw [if_pos hlt, if_pos (by omega)]
      · rw [if_neg hlt, if_neg (by omega)]

set_option maxHeartbeats 1000000 in
theorem markIntS_any (A : Option Addr) (c : Nat) (xs : List Int) (k : Int) (w : World) (h : Leaf w (.slice A xs.length c) xs) (hk0 : 0 ≤ k) (hk1 : k ≤ 1000000000000) (hn : xs.length ≤ 10000000) :
    Calls Tryd.prog 35 #[.slice A xs.length c, .int .i64 k] w fun e w' => e = .returned (.int .i64 (k + xs.length)) ∧ Leaf w' (.slice A xs.length c) (mk k xs.length) ∧ Only (· ∈ lb (.slice A xs.length c)) w w' := by
  have hA : 0 < xs.length → ∃ g, A = some ⟨g, 0, none⟩ := fun h0 => by
    obtain ⟨A', c', e, _, _, h3⟩ := h
    injection e with e1 _ _
    subst e1
    obtain ⟨g, _, e, _⟩ := h3 h0
    exact ⟨g, e⟩
  go_enter Tryd.func35, Tryd.ntmps35
  go_wp2
  go_loopg [1, 5] xs.length (fun g s1 s5 wr => ∃ i : Nat, i + g = xs.length ∧ s5 = .int .i64 i ∧ s1 = .int .i64 (k + i) ∧ Hid (Only (· ∈ lb (.slice A xs.length c)) w wr ∧ Leaf wr (.slice A xs.length c) (mixed k xs i)))
  case atStart => exact ⟨0, by omega, rfl, by go_num, Lib.hid ⟨Only.refl _ _, by rw [mixed_0]; exact h⟩⟩
  case round =>
    obtain ⟨i, hi, rfl, rfl, HW⟩ := hrel
    by_cases hin : i < xs.length
    · obtain ⟨g', rfl⟩ : ∃ g', gk = g' + 1 := ⟨gk - 1, by omega⟩
      have hin' : (i : Int) < (xs.length : Nat) := by omega
      obtain ⟨gb, rfl⟩ := hA (by omega)
      obtain ⟨c1, c2, c3, c4⟩ := Leaf.mark HW.out.2 hin
      have HL := Lib.hid c4
      clear c4 c3 hA
      go_wp2
      go_roundg g'
      case measure => omega
      case rel =>
        refine ⟨i + 1, by omega, by go_num, by first | rfl | go_num | (congr 1; omega), Lib.hid ⟨HW.out.1.trans (Only.set _ ?_ _), HL.out⟩⟩
        obtain ⟨m, hm⟩ : ∃ m, xs.length = m + 1 := ⟨xs.length - 1, by omega⟩
        rw [hm]; simp [lb]
    · have hin' : ¬ (i : Int) < (xs.length : Nat) := by omega
      clear hA
      go_wp2
      go_ret
      have e : i = xs.length := by omega
      subst e
      exact ⟨rfl, by rw [← mixed_all]; exact HW.out.2, HW.out.1⟩

def heldR (xs : List Int) : Nat → Nat → Int → Int
  | 0, _, k => k
  | g + 1, i, k => if ix xs i = k then heldR xs g (i + 1) (k + 1) else -1
def heldI (xs : List Int) (k : Int) : Int := heldR xs xs.length 0 k
theorem heldR_mk (k : Int) (n : Nat) : ∀ g i, i + g = n → heldR (mk k n) g i (k + i) = k + n
  | 0, i, h => by simp only [heldR]; omega
  | g + 1, i, h => by
    rw [heldR, if_pos (ix_mk (by omega))]
    have := heldR_mk k n g (i + 1) (by omega)
    rw [show k + (i : Int) + 1 = k + ((i + 1 : Nat) : Int) by omega]
    exact this
theorem heldI_mk (k : Int) (n : Nat) : heldI (mk k n) k = k + n := by
  have := heldR_mk k n n 0 (by omega)
  unfold heldI
  rw [mk_len]
  simpa using this
theorem heldR_bd (xs : List Int) : ∀ g i k, 0 ≤ k → -1 ≤ heldR xs g i k ∧ heldR xs g i k ≤ k + g
  | 0, i, k, h => by simp only [heldR]; omega
  | g + 1, i, k, h => by
    rw [heldR]
    split
    · have := heldR_bd xs g (i + 1) (k + 1) (by omega); omega
    · omega

set_option maxHeartbeats 1000000 in
theorem heldIntS_any (A : Option Addr) (c : Nat) (xs : List Int) (k : Int) (w : World) (h : Ints w A c xs) (hk0 : 0 ≤ k) (hk1 : k ≤ 1000000000000) (hn : xs.length ≤ 10000000) :
    Calls Tryd.prog 36 #[.slice A xs.length c, .int .i64 k] w fun e w' => e = .returned (.int .i64 (heldI xs k)) ∧ ∃ m, w' = w.drewN m := by
  obtain ⟨h1, h2, b, o, hA, hc⟩ := h
  unfold maxLen at h2
  go_enter Tryd.func36, Tryd.ntmps36
  go_wp2
  go_loopg [5, 1] (xs.length) (fun g s5 s1 wr => ∃ (i m : Nat) (s : Int), i + g = xs.length ∧ s5 = .int .i64 i ∧ s1 = .int .i64 s ∧ wr = w.drewN m ∧ 0 ≤ s ∧ s ≤ 1000000000000 + i ∧ Hid (heldR xs g i s = heldI xs k))
  case atStart => exact ⟨0, _, _, by omega, rfl, rfl, by first | rfl | exact drewN_0 _ | exact drewN_add _ _ _, by omega, by omega, Lib.hid (rfl)⟩
  case round =>
    obtain ⟨i, mi, s, hi, rfl, rfl, rfl, hs0, hs1, Hi⟩ := hrel
    by_cases hini : i < xs.length
    · obtain ⟨gi, rfl⟩ : ∃ g', gk = g' + 1 := ⟨gk - 1, by omega⟩
      have hini' : (i : Int) < (xs.length : Nat) := by omega
      obtain rfl := hA (by omega)
      have c1 := hc i hini
      clear hc
      have Hstep := Lib.hid (show heldR xs (gi + 1) i s = if ix xs i = s then heldR xs gi (i + 1) (s + 1) else -1 from rfl)
      by_cases e : ix xs i = s
      · have e' : (ix xs i != s) = false := by simp [e]
        have E1 := Lib.hid e
        clear e
        go_wp2
        go_roundg gi
        case measure => omega
        case rel => exact ⟨i + 1, _, s + 1, by omega, by go_num, by first | rfl | go_num, by first | rfl | exact drewN_0 _ | exact drewN_add _ _ _, by omega, by omega, Lib.hid (by rw [← Hi.out, Hstep.out, if_pos E1.out])⟩
      · have e' : (ix xs i != s) = true := by simp [e]
        have E1 := Lib.hid e
        clear e
        go_wp2
        go_ret
        exact ⟨ret_int (by rw [← Hi.out, Hstep.out, if_neg E1.out]), _, rfl⟩
    · have hini' : ¬ (i : Int) < (xs.length : Nat) := by omega
      obtain rfl : gk = 0 := by omega
      clear hc
      go_wp2
      go_ret
      exact ⟨ret_int (by rw [← Hi.out]; rfl), _, rfl⟩

theorem leafI {w : World} {A : Option Addr} {c : Nat} {xs : List Int} (h : Leaf w (.slice A xs.length c) xs) : Ints w A c xs := by
  obtain ⟨A', c', e, hI⟩ := h.ints
  injection e with e1 e2 e3
  subst e1; subst e3
  exact hI
theorem leafmk {w : World} {A : Option Addr} {c n : Nat} {k : Int} (h : Leaf w (.slice A n c) (mk k n)) : Leaf w (.slice A (mk k n).length c) (mk k n) := by rw [mk_len]; exact h
/-- the leaves of rows -/
def LV (n : Nat) (V : Nat → Value) (g : Nat) : Prop := ∃ i, i < n ∧ g ∈ lb (V i)
theorem MatL.only {S : Nat → Prop} {w w' : World} {A : Option Addr} {c : Nat} {D : List (List Int)} {V : Nat → Value} (h : MatL w A c D V) (k : Only S w w') (hs : ∀ g, LV D.length V g → ¬ S g)
    (hI : ∀ g, S g → ∃ cs, w.heap[g]? = some (.cells cs 3 (0, 0))) : MatL w' A c D V := by
  obtain ⟨h1, h2, b, o, hA, hc⟩ := h
  have hb : 0 < D.length → ¬ S b := fun h0 hS => by
    obtain ⟨_, cs, fz, hb⟩ := hA h0
    obtain ⟨cs', hb'⟩ := hI b hS
    rw [hb] at hb'
    injection hb' with hb'
    injection hb' with _ ht
    exact absurd ht (by decide)
  refine ⟨h1, h2, b, o, fun h0 => ?_, fun i hi => ?_⟩
  · obtain ⟨e, cs, fz, hbb⟩ := hA h0
    exact ⟨e, cs, fz, (k.2.2.2.2 b (hb h0)).trans hbb⟩
  · obtain ⟨e, hl⟩ := hc i hi
    refine ⟨?_, hl.only k fun g hg => hs g ⟨i, hi, hg⟩⟩
    rw [World.cell?_of_block (w := w) (k.2.2.2.2 b (hb (by omega)))]
    exact e
theorem MatL.isI {w : World} {A : Option Addr} {c : Nat} {D : List (List Int)} {V : Nat → Value} (h : MatL w A c D V) {g : Nat} (hg : LV D.length V g) : ∃ cs, w.heap[g]? = some (.cells cs 3 (0, 0)) := by
  obtain ⟨i, hi, hm⟩ := hg
  obtain ⟨_, _, b, o, _, hc⟩ := h
  exact (hc i hi).2.blocks g hm

/-- how many numbers the first rows hold -/
def pre (D : List (List Int)) (i : Nat) : Nat := total (D.take i)
theorem total_cons (r : List Int) (D : List (List Int)) : total (r :: D) = r.length + total D := by show ((r.length :: D.map List.length).sum) = _; rw [List.sum_cons]; rfl
theorem total_app (D E : List (List Int)) : total (D ++ E) = total D + total E := by
  induction D with
  | nil => simp [total]
  | cons r D ih => rw [List.cons_append, total_cons, total_cons, ih]; omega
theorem pre_succ {D : List (List Int)} {i : Nat} (h : i < D.length) : pre D (i + 1) = pre D i + (row D i).length := by
  unfold pre
  rw [List.take_succ_eq_append_getElem h, total_app, total_cons, row_of h]
  simp [total]
theorem pre_0 (D : List (List Int)) : pre D 0 = 0 := by simp [pre, total]
theorem pre_all (D : List (List Int)) : pre D D.length = total D := by simp [pre]
theorem pre_le {D : List (List Int)} (i : Nat) : pre D i ≤ total D := by
  have : total D = total (D.take i) + total (D.drop i) := by rw [← total_app, List.take_append_drop]
  unfold pre; omega
/-- rows of marks, the first i of them written -/
def mixM (D : List (List Int)) (k : Int) (i : Nat) : List (List Int) := (List.range D.length).map fun j => if j < i then mk (k + pre D j) (row D j).length else row D j
def markM (D : List (List Int)) (k : Int) : List (List Int) := mixM D k D.length
theorem mixM_len (D : List (List Int)) (k : Int) (i : Nat) : (mixM D k i).length = D.length := by simp [mixM]
theorem row_mixM {D : List (List Int)} {k : Int} {i j : Nat} (h : j < D.length) : row (mixM D k i) j = if j < i then mk (k + pre D j) (row D j).length else row D j := by
  rw [row_of (by rw [mixM_len]; exact h)]; simp [mixM]
theorem mixM_0 (D : List (List Int)) (k : Int) : mixM D k 0 = D := ext_row (mixM_len _ _ _) fun i hi => by rw [mixM_len] at hi; rw [row_mixM hi, if_neg (by omega)]
theorem row_mixM_len {D : List (List Int)} {k : Int} {i j : Nat} (h : j < D.length) : (row (mixM D k i) j).length = (row D j).length := by
  rw [row_mixM h]; split
  · rw [mk_len]
  · rfl

def heldRR (D : List (List Int)) : Nat → Nat → Int → Int
  | 0, _, k => k
  | g + 1, i, k => if heldI (row D i) k < 0 then -1 else heldRR D g (i + 1) (heldI (row D i) k)
def heldM (D : List (List Int)) (k : Int) : Int := heldRR D D.length 0 k
theorem heldM_mark (D : List (List Int)) (k : Int) (hk : 0 ≤ k) : heldM (markM D k) k = k + total D := by
  have key : ∀ g i, i + g = D.length → heldRR (markM D k) g i (k + pre D i) = k + total D := by
    intro g
    induction g with
    | zero => intro i h; have e : i = D.length := by omega
              subst e; rw [heldRR, pre_all]
    | succ g ih =>
      intro i h
      have hi : i < D.length := by omega
      have e : heldI (row (markM D k) i) (k + pre D i) = k + pre D (i + 1) := by
        unfold markM
        rw [row_mixM hi, if_pos hi, heldI_mk, pre_succ hi]; omega
      rw [heldRR, e, if_neg (by omega)]
      exact ih (i + 1) (by omega)
  have := key D.length 0 (by omega)
  unfold heldM
  rw [show (markM D k).length = D.length from mixM_len _ _ _]
  rw [pre_0] at this
  simpa using this

theorem heldmk_any (A : Option Addr) (c n : Nat) (k : Int) (w : World) (h : Leaf w (.slice A n c) (mk k n)) (hk0 : 0 ≤ k) (hk1 : k ≤ 1000000000000) (hn : n ≤ 10000000) :
    Calls Tryd.prog 36 #[.slice A n c, .int .i64 k] w fun e w' => e = .returned (.int .i64 (k + n)) ∧ ∃ m, w' = w.drewN m := by
  have := heldIntS_any A c (mk k n) k w (leafI (leafmk h)) hk0 hk1 (by rw [mk_len]; exact hn)
  rw [mk_len, heldI_mk] at this
  exact this
theorem total_le_of {D E : List (List Int)} (h : D.length = E.length) (hl : ∀ i, i < D.length → (row D i).length = (row E i).length) : total D = total E := by
  have e : D.map List.length = E.map List.length := List.ext_getElem (by simp [h]) fun i h1 h2 => by
    simp at h1 h2
    have := hl i h1
    rw [row_of h1, row_of h2] at this
    simpa using this
  unfold total
  rw [e]
theorem markM_total (D : List (List Int)) (k : Int) : total (markM D k) = total D :=
  total_le_of (mixM_len _ _ _) fun i hi => row_mixM_len (by rw [← mixM_len D k D.length]; exact hi)
end Go.Proofs.YtjpgjmhdjepfgaaDoor
