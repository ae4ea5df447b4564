/- What is proved: plain laws of pairs of two spaces: exchange, widths; pairs exchanged row by row. No condition. -/
import Derived.Test.YtpkiodpocggfbaaUnlS
import Derived.Test.YtpkiodpocggfbaaStep
namespace Go.Proofs.Ytpkiodpocggfbaa
open Go.RowKit
/-- pairs exchanged -/
def swP (P : List (List Int)) : List (List Int) := P.map fun r => [ix r 1, ix r 0]
theorem swP_len (P : List (List Int)) : (swP P).length = P.length := by simp [swP]
theorem swP_row {P : List (List Int)} {k : Nat} (hk : k < P.length) : row (swP P) k = [at2 P k 1, at2 P k 0] := by
  rw [row_of (by rw [swP_len]; exact hk)]
  simp only [swP, List.getElem_map]
  rw [← row_of hk]
  rfl
theorem swP_at {P : List (List Int)} {k : Nat} (hk : k < P.length) : at2 (swP P) k 0 = at2 P k 1 ∧ at2 (swP P) k 1 = at2 P k 0 := by
  constructor
  · unfold at2; rw [swP_row hk]; rfl
  · unfold at2; rw [swP_row hk]; rfl
theorem swP_pair {P : List (List Int)} (h : PairP P) : PairP (swP P) := by
  refine ⟨by rw [swP_len]; exact h.1, fun k hk => ?_⟩
  rw [swP_len] at hk
  obtain ⟨h1, h2, h3⟩ := h.2 k hk
  obtain ⟨e0, e1⟩ := swP_at hk
  rw [e0, e1, swP_row hk]
  exact ⟨rfl, h3, h2⟩
theorem itR_congr {S : Type} {f g : Nat → S → S} (n : Nat) (s : S) (h : ∀ k, k < n → ∀ s, f k s = g k s) : itR f n 0 s = itR g n 0 s := by
  have key : ∀ m k s, k + m ≤ n → itR f m k s = itR g m k s := by
    intro m
    induction m with
    | zero => intro k s _; rfl
    | succ m ih => intro k s hk; rw [itR, itR, h k (by omega) s]; exact ih _ _ (by omega)
  exact key n 0 s (by omega)
theorem swP_msk (P : List (List Int)) : mskI (swP P) 0 = mskI P 1 ∧ mskI (swP P) 1 = mskI P 0 := by
  unfold mskI mskG
  rw [swP_len]
  exact ⟨itR_congr _ _ fun k hk s => by rw [(swP_at hk).1], itR_congr _ _ fun k hk s => by rw [(swP_at hk).2]⟩
theorem swP_dif {D E P : List (List Int)} {k j : Nat} (hk : k < P.length) (hj : j < P.length) : dif E D (swP P) k j = -(dif D E P k j) := by
  unfold dif
  rw [(swP_at hk).1, (swP_at hk).2, (swP_at hj).1, (swP_at hj).2]
  omega
theorem swP_unl (D E P : List (List Int)) : unlI E D (swP P) = unlI D E P := by
  obtain ⟨a1, a2, a3⟩ := unlI_most D E P
  obtain ⟨b1, b2, b3⟩ := unlI_most E D (swP P)
  rw [swP_len] at b2 b3
  refine Int.le_antisymm ?_ ?_
  · rcases b3 with b3 | ⟨k, hk, j, hj, hx⟩
    · omega
    · rw [swP_dif hk hj] at hx
      exact a2 _ ⟨k, hk, j, hj, by omega⟩
  · rcases a3 with a3 | ⟨k, hk, j, hj, hx⟩
    · omega
    · refine b2 _ ⟨k, hk, j, hj, ?_⟩
      rw [swP_dif hk hj]
      omega
theorem swP_ok {D E P : List (List Int)} (h : okU D E P) : okU E D (swP P) := by
  obtain ⟨h1, h2, h3⟩ := h
  obtain ⟨m0, m1⟩ := swP_msk P
  refine ⟨fun k hk => ?_, by rw [m0]; exact h3, by rw [m1]; exact h2⟩
  rw [swP_len] at hk
  obtain ⟨q1, q2, q3⟩ := h1 k hk
  obtain ⟨e0, e1⟩ := swP_at hk
  rw [e0, e1, swP_row hk]
  exact ⟨rfl, q3, q2⟩
theorem or_in : ∀ s : Fin 64, ∀ a x : Fin 6, bitI (bits .or .i64 (s.val : Int) (2 ^ a.val)) x.val = 1 → x.val = a.val ∨ bitI (s.val : Int) x.val = 1 := by decide +kernel
/-- each point is in a pair -/
theorem cov {P : List (List Int)} {c n : Nat} (hn : n ≤ 6) (hP : ∀ k, k < P.length → 0 ≤ at2 P k c ∧ at2 P k c < n) (h : mskI P c = 2 ^ n - 1) {x : Nat} (hx : x < n) : ∃ k, k < P.length ∧ at2 P k c = x := by
  have key := itR_inv (f := fun k s => bits .or .i64 s (2 ^ (at2 P k c).toNat)) (fun j (s : Int) => (0 ≤ s ∧ s < 64) ∧ ∀ y, y < 6 → bitI s y = 1 → ∃ k, k < j ∧ at2 P k c = y) P.length 0 0 ⟨by omega, fun y _ hy => by unfold bitI at hy; simp at hy⟩ (fun j s _ hj hs => by
    obtain ⟨⟨s0, s1⟩, s2⟩ := hs
    obtain ⟨p0, p1⟩ := hP j (by omega)
    refine ⟨or_bd s0 s1 (a := (at2 P j c).toNat) (by omega), fun y hy hb => ?_⟩
    have := or_in ⟨s.toNat, by omega⟩ ⟨(at2 P j c).toNat, by omega⟩ ⟨y, hy⟩
    simp only [Int.toNat_of_nonneg s0] at this
    rcases this hb with q | q
    · exact ⟨j, by omega, by omega⟩
    · obtain ⟨k, hk, e⟩ := s2 y hy q
      exact ⟨k, by omega, e⟩)
  have hfull : ∀ n : Fin 7, ∀ y : Fin 6, y.val < n.val → bitI (2 ^ n.val - 1) y.val = 1 := by decide +kernel
  have hb : bitI (mskI P c) x = 1 := by rw [h]; exact hfull ⟨n, by omega⟩ ⟨x, by omega⟩ hx
  obtain ⟨k, hk, e⟩ := key.2 x (by omega) hb
  exact ⟨k, by omega, e⟩
/-- the widths differ by no more -/
theorem wid_le {D E P : List (List Int)} (hs : spB D = true) (ht : spB E = true) (h : okU D E P) : widI D - widI E ≤ unlI D E P := by
  obtain ⟨⟨n1, n6⟩, hsq, hc⟩ := farB_parts (spB_far hs)
  obtain ⟨⟨m1, m6⟩, hsqE, hcE⟩ := farB_parts (spB_far ht)
  obtain ⟨a1, a2, a3⟩ := widI_most D
  obtain ⟨b1, b2, b3⟩ := widI_most E
  obtain ⟨c1, c2, c3⟩ := unlI_most D E P
  obtain ⟨h1, h2, h3⟩ := h
  rcases a3 with a3 | ⟨i, hi, hx⟩
  · omega
  · obtain ⟨j, hj, hjx⟩ : ∃ j, j < D.length ∧ maxI (row D i) = at2 D i j := by
      have hl := hsq i hi
      have := itR_inv (f := fun k s => max s (ix (row D i) k)) (fun k (s : Int) => ∃ j, j < D.length ∧ s = at2 D i j) ((row D i).length - 1) 1 (ix (row D i) 0) ⟨0, by omega, rfl⟩ (fun k s _ hk hs => by
        obtain ⟨j, hj, e⟩ := hs
        show ∃ j, j < D.length ∧ max s (ix (row D i) k) = at2 D i j
        rcases Int.le_total s (ix (row D i) k) with q | q
        · exact ⟨k, by omega, by rw [Int.max_eq_right q]; rfl⟩
        · exact ⟨j, hj, by rw [Int.max_eq_left q]; exact e⟩)
      exact this
    obtain ⟨p, hp, ep⟩ := cov n6 (fun k hk => (h1 k hk).2.1) h2 hi
    obtain ⟨q, hq, eq⟩ := cov n6 (fun k hk => (h1 k hk).2.1) h2 hj
    have hd := c2 _ ⟨p, hp, q, hq, .inl rfl⟩
    obtain ⟨-, -, ⟨u0, u1⟩⟩ := h1 p hp
    obtain ⟨-, -, ⟨v0, v1⟩⟩ := h1 q hq
    have hE := b2 _ ⟨(at2 P p 1).toNat, by omega, rfl⟩
    have hE2 := maxI_ge (xs := row E (at2 P p 1).toNat) (j := (at2 P q 1).toNat) (by rw [hsqE _ (by omega)]; omega)
    have e2 : at2 E (at2 P p 1).toNat (at2 P q 1).toNat = ix (row E (at2 P p 1).toNat) (at2 P q 1).toNat := rfl
    have e3 : dif D E P p q = at2 D i j - at2 E (at2 P p 1).toNat (at2 P q 1).toNat := by
      unfold dif
      rw [ep, eq]
      simp
    omega
theorem unl_bd {D E P : List (List Int)} (hs : spB D = true) (ht : spB E = true) (h : okP D E P) : 0 ≤ unlI D E P ∧ unlI D E P ≤ 60 := by
  obtain ⟨c1, c2, c3⟩ := unlI_most D E P
  refine ⟨c1, ?_⟩
  rcases c3 with c3 | ⟨k, hk, j, hj, hx⟩
  · omega
  · obtain ⟨-, ⟨a0, a1⟩, ⟨b0, b1⟩⟩ := h k hk
    obtain ⟨-, ⟨d0, d1⟩, ⟨e0, e1⟩⟩ := h j hj
    have h1 := (farB_parts (spB_far hs)).2.2 (at2 P k 0).toNat (by omega) (at2 P j 0).toNat (by omega)
    have h2 := (farB_parts (spB_far ht)).2.2 (at2 P k 1).toNat (by omega) (at2 P j 1).toNat (by omega)
    obtain ⟨x1, x2, -, -⟩ := h1
    obtain ⟨y1, y2, -, -⟩ := h2
    unfold dif at hx
    omega
theorem wid_bd {D : List (List Int)} (hs : spB D = true) : 0 ≤ widI D ∧ widI D ≤ 60 := by
  obtain ⟨⟨n1, n6⟩, hsq, hc⟩ := farB_parts (spB_far hs)
  obtain ⟨a1, a2, a3⟩ := widI_most D
  refine ⟨a1, ?_⟩
  rcases a3 with a3 | ⟨i, hi, hx⟩
  · omega
  · have := maxI_bd (xs := row D i) (a := 0) (b := 60) (by rw [hsq i hi]; omega) fun j hj => by
      rw [hsq i hi] at hj
      have := hc i hi j hj
      exact ⟨this.1, this.2.1⟩
    omega
theorem Ext.drew2' {a w : World} (h : Ext a w) : Ext a w.drew := h.drewN' 1
/-- pairs exchanged, under way -/
def RowsW (P : List (List Int)) (w0 W : World) (v : Value) (k : Nat) : Prop := ∃ V, AccM w0 W v ((swP P).take k) V
theorem RowsW.x {P : List (List Int)} {w0 W : World} {v : Value} {k : Nat} (h : RowsW P w0 W v k) : Ext w0 W := by
  obtain ⟨V, h1⟩ := h
  exact h1.x
theorem sw_run {Q : Program} {w0 wr : World} {T E ty : TypeId} (hE : E = 28)
    (ht : Q.underlying T = some (.slice E)) (hinfo : (Q.info? E).map (fun i => (i.zero, i.size, i.bytes)) = some (some (.slice none 0 0), 1, 24)) {P : List (List Int)} {v : Value} {k : Nat}
    (h : RowsW P w0 wr v k) (hk : k < P.length) (h9 : P.length ≤ 9) :
    ∃ v' w', (Builtin.append_ #[T, T] ty #[v, .slice (some ⟨wr.heap.size + 1, 0, none⟩) 1 1]).run Q ((wr.alloc (.cells #[.int .i64 (at2 P k 1), .int .i64 (at2 P k 0)] 3)).alloc (.cells #[.slice (some ⟨wr.heap.size, 0, none⟩) 2 2] E)).drew = .ok v' w' ∧ RowsW P w0 w' v' (k + 1) := by
  obtain ⟨V, h1⟩ := h
  have hlen : ((swP P).take k).length = k := by rw [List.length_take, swP_len]; omega
  have hsz : (wr.alloc (.cells #[.int .i64 (at2 P k 1), .int .i64 (at2 P k 0)] 3)).heap.size = wr.heap.size + 1 := by simp
  have hc := cell_new0 (wr.alloc (.cells #[.int .i64 (at2 P k 1), .int .i64 (at2 P k 0)] 3)) (.slice (some ⟨wr.heap.size, 0, none⟩) 2 2) E
  rw [hsz] at hc
  have hx : Ext wr ((wr.alloc (.cells #[.int .i64 (at2 P k 1), .int .i64 (at2 P k 0)] 3)).alloc (.cells #[.slice (some ⟨wr.heap.size, 0, none⟩) 2 2] E)).drew := ((Ext.alloc _ _).alloc' _).drewN' 1
  have hleaf := (leaf_two wr (at2 P k 1) (at2 P k 0)).ext ((Ext.alloc (wr.alloc (.cells #[.int .i64 (at2 P k 1), .int .i64 (at2 P k 0)] 3)) (.cells #[.slice (some ⟨wr.heap.size, 0, none⟩) 2 2] E)).drewN' 1)
  have hs := h1.x.size
  obtain ⟨v', w', hr, hA⟩ := appM_run (P := Q) (w0 := w0) (W := ((wr.alloc (.cells #[.int .i64 (at2 P k 1), .int .i64 (at2 P k 0)] 3)).alloc (.cells #[.slice (some ⟨wr.heap.size, 0, none⟩) 2 2] E)).drew) (ty := ty) hE ht hinfo v (.slice (some ⟨wr.heap.size, 0, none⟩) 2 2) ((swP P).take k) [at2 P k 1, at2 P k 0] V ⟨wr.heap.size + 1, 0, none⟩ 1 rfl hc (h1.on hx) hleaf
    (fun q hq => by
      have : q = wr.heap.size := by simp [lb] at hq; exact hq
      subst this
      refine ⟨hs, fun i hi hq' => ?_⟩
      have := (h1.2.1 i hi).lt hq'
      omega) (by omega)
  have e : (swP P).take (k + 1) = (swP P).take k ++ [[at2 P k 1, at2 P k 0]] := by
    rw [List.take_add_one, ← swP_row hk, row_of (by rw [swP_len]; exact hk), List.getElem?_eq_getElem (by rw [swP_len]; exact hk)]
    rfl
  rw [← e] at hA
  exact ⟨v', w', hr, _, hA⟩
end Go.Proofs.Ytpkiodpocggfbaa
