/- What is proved: impl.ordersOf returns the orders of at most five points, in new memory; append of a slice of numbers. Conditions: those of each contract. -/
import Derived.Test.YtbkefojepelggaaCmp
import Derived.Test.YtbkefojepelggaaStep
import Derived.Test.YtbkefojepelggaaShelf
namespace Go.Proofs.Ytbkefojepelggaa
open Go.RowKit
theorem Acc.low {w0 w1 W : World} {E : TypeId} {v : Value} {xs : List Value} (h : Acc w1 W E v xs) (k : Ext w0 w1) : Acc w0 W E v xs := ⟨k.trans h.1, h.2.1, h.2.2.imp id fun ⟨g, cap, cur, h1, h2, h3⟩ => ⟨g, cap, cur, h1, Nat.le_trans k.size h2, h3⟩⟩
theorem AccM.low {w0 w1 W : World} {v : Value} {D : List (List Int)} {V : Nat → Value} (h : AccM w1 W v D V) (k : Ext w0 w1) : AccM w0 W v D V :=
  ⟨h.1.low k, h.2.1, h.2.2.1, fun i hi g hg => Nat.le_trans k.size (h.2.2.2 i hi g hg)⟩
/-- rows under way -/
def AccR (w0 W : World) (v : Value) (D : List (List Int)) : Prop := ∃ V, AccM w0 W v D V
theorem AccR.x {w0 W : World} {v : Value} {D : List (List Int)} (h : AccR w0 W v D) : Ext w0 W := by
  obtain ⟨V, h⟩ := h
  exact h.x
theorem AccR.on {w0 W W' : World} {v : Value} {D : List (List Int)} (h : AccR w0 W v D) (k : Ext W W') : AccR w0 W' v D := by
  obtain ⟨V, h⟩ := h
  exact ⟨V, h.on k⟩
theorem AccR.low {w0 w1 W : World} {v : Value} {D : List (List Int)} (h : AccR w1 W v D) (k : Ext w0 w1) : AccR w0 W v D := by
  obtain ⟨V, h⟩ := h
  exact ⟨V, h.low k⟩
theorem AccR.empty {w0 w : World} (h : Ext w0 w) : AccR w0 (w.alloc (.cells #[] 31)) (.slice (some ⟨w.heap.size, 0, none⟩) 0 0) [] := ⟨fun _ => .slice none 0 0, AccM.empty h _⟩
theorem AccR.nil {w0 w : World} (h : Ext w0 w) : AccR w0 w (.slice none 0 0) [] := ⟨fun _ => .slice none 0 0, AccM.nil h _⟩
theorem AccR.fresh {w0 W : World} {v : Value} {D : List (List Int)} (h : AccR w0 W v D) : FreshM w0 D (.returned v) W := by
  obtain ⟨V, h⟩ := h
  exact h.done
theorem AccR.mat {w0 W : World} {v : Value} {D : List (List Int)} (h : AccR w0 W v D) : ∃ A c, v = .slice A D.length c ∧ Mat W A c D := by
  obtain ⟨A, c, V', e, hL, -, -, -⟩ := h.fresh
  exact ⟨A, c, by injection e, hL.mat⟩
/-- rows in new memory -/
def FreshR (w : World) (D : List (List Int)) (e : Ending) (w' : World) : Prop := ∃ v, e = .returned v ∧ AccR w w' v D
theorem FreshR.fresh {w : World} {D : List (List Int)} {e : Ending} {w' : World} (h : FreshR w D e w') : FreshM w D e w' := by
  obtain ⟨v, rfl, h⟩ := h
  exact h.fresh
/-- a row that is empty, in a list of its own -/
theorem AccR.one {w0 w : World} (h : Ext w0 w) : AccR w0 ((w.alloc (.cells #[] 3)).alloc (.cells #[.slice (some ⟨w.heap.size, 0, none⟩) 0 0] 31)) (.slice (some ⟨w.heap.size + 1, 0, none⟩) 1 1) [[]] := by
  have hsz : (w.alloc (.cells #[] 3)).heap.size = w.heap.size + 1 := by simp
  have ho := World.ownsRow_lit (base := w0.heap.size) (e := 31) (size := 1) (w.alloc (.cells #[] 3)) #[.slice (some ⟨w.heap.size, 0, none⟩) 0 0] 1 (by rw [hsz]; have := h.size; omega) (by unfold maxLen; omega) rfl
  rw [hsz] at ho
  refine ⟨fun _ => .slice (some ⟨w.heap.size, 0, none⟩) 0 0, ⟨⟨(h.alloc' _).alloc' _, ho⟩, fun i hi => ?_, fun i j hi hj hij => ?_, fun i hi g hg => ?_⟩⟩
  · have : i = 0 := by simpa using hi
    subst this
    exact Leaf.nil _ _ _ (Nat.zero_le _)
  · simp at hi hj
    omega
  · simp [lb] at hg
/-- 'append(v, xs...)': v of one's own, xs to be read -/
theorem appI_run {P : Program} {w0 W : World} {T E ty : TypeId} (_hE : E = 3)
    (ht : P.underlying T = some (.slice E)) (hinfo : (P.info? E).map (fun i => (i.zero, i.size, i.bytes)) = some (some (.int .i64 0), 1, 8))
    {v : Value} {ys xs : List Int} {A : Option Addr} {c : Nat} (hX : Acc w0 W E v (ys.map (Value.int .i64))) (hI : Ints W A c xs) (hlen : ys.length + xs.length ≤ 10000000) :
    ∃ v' w', (Builtin.append_ #[T, T] ty #[v, .slice A xs.length c]).run P W = .ok v' w' ∧ (Acc w0 w' E v' ((ys ++ xs).map (Value.int .i64)) ∧ Beside v W w' ∧ Stays v v' W.heap.size) := by
  obtain ⟨h1, h2, b, o, hA, hc⟩ := hI
  by_cases h0 : 0 < xs.length
  · obtain rfl := hA h0
    rw [List.map_append]
    exact app_run ht hinfo rfl (by decide) v _ ⟨b, o, none⟩ xs.length c (xs.map (Value.int .i64)) (by simp) (ints_news rfl hc) (map_one xs) hX (by simpa using hlen)
  · have hx : xs = [] := List.eq_nil_of_length_eq_zero (by omega)
    subst hx
    rw [List.append_nil]
    cases A with
    | none =>
      obtain ⟨i0, hi, hz, hsz, hb⟩ := info_parts hinfo
      have hr : (Builtin.append_ #[T, T] ty #[v, .slice none 0 c]).run P W = .ok v W := by
        rcases hX.2.2 with ⟨rfl, _⟩ | ⟨g, cap, cur, rfl, _, _, hnc, _⟩
        · simp [Builtin.append_, run_underlying ht, sizeOf, typeInfo, hi, Builtin.lenOf, Builtin.firstCells]
        · simp only [List.length_map] at hnc
          simp [Builtin.append_, run_underlying ht, sizeOf, typeInfo, hi, Builtin.lenOf, Builtin.firstCells, hnc, storeCells]
      exact ⟨v, W, hr, hX, ⟨Nat.le_refl _, fun _ _ _ => rfl⟩, .inl rfl⟩
    | some ad =>
      have := app_run (ty := ty) ht hinfo rfl (by decide) v _ ad 0 c [] rfl (fun j y hj => by simp at hj) (fun u hu => by cases hu) hX (by simpa using hlen)
      simpa using this
/-- one row more, a slice of numbers of one's own -/
theorem accR_run {P : Program} {w0 wr W W' : World} {T E ty : TypeId} (hE : E = 31)
    (ht : P.underlying T = some (.slice E)) (hinfo : (P.info? E).map (fun i => (i.zero, i.size, i.bytes)) = some (some (.slice none 0 0), 1, 24))
    {v u : Value} {D : List (List Int)} {xs : List Int} (ad : Addr) (c : Nat) (had : ad.spot = none) (h : AccR w0 wr v D) (hr : Acc wr W 3 u (xs.map (Value.int .i64))) (hW : Ext W W') (hc : W'.cell? ad = some u) (hl : D.length ≤ 1000000) :
    ∃ v' w', (Builtin.append_ #[T, T] ty #[v, .slice (some ad) 1 c]).run P W' = .ok v' w' ∧ AccR w0 w' v' (D ++ [xs]) := by
  obtain ⟨V, h1⟩ := h
  have hlt : ∀ i, i < D.length → ∀ g ∈ lb (V i), g < wr.heap.size := fun i hi g hg => (h1.2.1 i hi).lt hg
  have hx0 := h1.x.size
  obtain ⟨hleaf, hge⟩ := Leaf.of_own hr.2
  obtain ⟨v', w', hrun, ha⟩ := appM_run (ty := ty) hE ht hinfo v u D xs V ad c had hc (h1.on (hr.1.trans hW)) (hleaf.ext hW) (fun g hg => ⟨by have := hge g hg; omega, fun i hi hg' => by have := hlt i hi g hg'; have := hge g hg; omega⟩) (by omega)
  exact ⟨v', w', hrun, _, ha⟩
theorem contI_any (A : Option Addr) (c : Nat) (xs : List Int) (x : Int) (w : World) (h : Ints w A c xs) : Calls Try.prog 100 #[.slice A xs.length c, .int .i64 x] w fun e w' => e = .returned (.bool (decide (x ∈ xs))) ∧ w' = w := by
  obtain ⟨h1, h2, b, o, hA, hc⟩ := h
  unfold maxLen at h2
  by_cases h0 : 0 < xs.length
  · obtain rfl := hA h0
    refine (slices_Contains_int b o xs.length c xs x w (Nat.le_refl _) (by omega) hc).mono ?_
    rintro e w' ⟨rfl, rfl⟩
    exact ⟨ret_bool (by rw [List.take_of_length_le (Nat.le_refl _)]; by_cases q : x ∈ xs <;> simp [q]), rfl⟩
  · have hx : xs = [] := List.eq_nil_of_length_eq_zero (by omega)
    subst hx
    refine (slices_Contains_int_empty A c x w).mono ?_
    rintro e w' ⟨rfl, rfl⟩
    exact ⟨ret_bool (by simp), rfl⟩
set_option maxRecDepth 100000 in
set_option maxHeartbeats 4000000 in
theorem ordersOf_any (n : Nat) (w : World) (hn : n ≤ 5) : Calls Try.prog 94 #[.int .i64 n] w (FreshM w (ordK n n)) := by
  have HF := Lib.hid (fun k (hk : k ≤ n) => ordK_facts n k hn hk)
  have HS := Lib.hid (fun k => (show ordK n (k + 1) = nxi n (ordK n k) (ordK n k).length from rfl))
  have HSi := Lib.hid (fun (L : List (List Int)) i => (show nxi n L (i + 1) = nxx (row L i) (nxi n L i) n from rfl))
  have HSx := Lib.hid (fun (l : List Int) acc x => (show nxx l acc (x + 1) = if (x : Int) ∈ l then nxx l acc x else nxx l acc x ++ [l ++ [(x : Int)]] from rfl))
  have H0 := Lib.hid (show ordK n 0 = [[]] from rfl)
  go_enter Try.func94, Try.ntmps94
  go_wp2
  go_loopg [11, 3] n (fun g s11 s3 wr => ∃ (k : Nat), k + g = n ∧ s11 = .int .i64 k ∧ Hid (AccR w wr s3 (ordK n k)))
  case atStart => exact ⟨0, by omega, rfl, Lib.hid (by rw [H0.out]; exact AccR.one (Ext.refl _))⟩
  case round =>
    obtain ⟨k, hk, rfl, HR⟩ := hrel
    by_cases hin : k < n
    · obtain ⟨gk1, rfl⟩ : ∃ g', gk = g' + 1 := ⟨gk - 1, by omega⟩
      have hin' : (k : Int) < (n : Nat) := by omega
      obtain ⟨A, c, hv, hM⟩ := HR.out.mat
      subst hv
      obtain ⟨f1, f2, f3⟩ := HF.out k (by omega)
      have HSk := Lib.hid (HS.out k)
      have hxq := HR.out.x
      obtain ⟨L, hL⟩ : ∃ L, ordK n k = L := ⟨_, rfl⟩
      rw [hL] at hM f1 f2 f3 HSk HR
      have HXW := Lib.hid hxq
      obtain ⟨h1, h2, -⟩ := id hM
      obtain ⟨b, o, R, rc, rb, ro, hA, hrow, hlen, hR, hcell, hints⟩ := hM.parts
      obtain rfl := hA (by omega)
      have HROW := Lib.hid hrow
      have HIN := Lib.hid hints
      have HLEN := Lib.hid f3
      unfold maxLen at h2
      obtain ⟨wq, hwq⟩ : ∃ wq : World, wq = wr := ⟨_, rfl⟩
      subst hwq
      rw [hL]
      clear hrow hints f3 hlen hR hcell hA hL hM hxq HR
      obtain ⟨M, hMl⟩ : ∃ M, L.length = M := ⟨_, rfl⟩
      rw [hMl] at f1 f2 h1 HROW HIN HSk HLEN
      rw [hMl]
      go_wp2
      go_loopg [16, 4] M (fun g s16 s4 wi => ∃ (i : Nat), i + g = M ∧ s16 = .int .i64 i ∧ Hid (AccR wq wi s4 (nxi n L i)))
      case atStart => exact ⟨0, by omega, rfl, Lib.hid (AccR.empty (Ext.refl _))⟩
      case round =>
        obtain ⟨i, hi, rfl, HRi⟩ := hrel
        by_cases hini : i < M
        · obtain ⟨gi1, rfl⟩ : ∃ g', gk = g' + 1 := ⟨gk - 1, by omega⟩
          have hini' : (i : Int) < (M : Nat) := by omega
          have hxi := HRi.out.x
          have c1 := hxi.cell (HROW.out i hini)
          have HIi := Lib.hid (HIN.out i hini)
          have hl5 : (row L i).length ≤ 5 := by have := (HLEN.out i hini).1; omega
          have HSi1 := Lib.hid (HSi.out L i)
          have bd := nxi_len n L hn i
          have HSxi := Lib.hid (fun x => HSx.out (row L i) (nxi n L i) x)
          have bx := Lib.hid (nxx_len (row L i) (nxi n L i))
          obtain ⟨r, hr⟩ : ∃ r, row L i = r := ⟨_, rfl⟩
          obtain ⟨acc, hacc⟩ : ∃ r, nxi n L i = r := ⟨_, rfl⟩
          rw [hr] at c1 HIi hl5 HSi1 HSxi bx
          rw [hacc] at HRi HSi1 bd HSxi bx
          clear hr hacc
          go_wp2
          go_loopg [21, 4] n (fun g s21 s4 wx => ∃ (x : Nat), x + g = n ∧ s21 = .int .i64 x ∧ Hid (AccR wq wx s4 (nxx r acc x)))
          case atStart => exact ⟨0, by omega, rfl, HRi⟩
          case round =>
            obtain ⟨x, hx, rfl, HRx⟩ := hrel
            have hxx := HRx.out.x
            by_cases hinx : x < n
            · obtain ⟨gx1, rfl⟩ : ∃ g', gk = g' + 1 := ⟨gk - 1, by omega⟩
              have hinx' : (x : Int) < (n : Nat) := by omega
              have HC := Lib.hid (fun W (q : Ext wq W) => contI_any (R i) (rc i) r x W (HIi.out.ext q))
              by_cases hm : (x : Int) ∈ r
              · rw [decide_eq_true hm] at HC
                have HN := Lib.hid (show nxx r acc (x + 1) = nxx r acc x by rw [HSxi.out, if_pos hm])
                clear hm
                go_wp2_with (go_at_call 100; refine (HC.out _ hxx).mono ?_; rintro e w1 ⟨rfl, hw⟩; rw [hw]; clear hw w1)
                go_roundg gx1
                case measure => omega
                case rel => exact ⟨x + 1, by omega, by go_num, Lib.hid (by rw [HN.out]; exact HRx.out)⟩
              · rw [decide_eq_false hm] at HC
                have HN := Lib.hid (show nxx r acc (x + 1) = nxx r acc x ++ [r ++ [(x : Int)]] by rw [HSxi.out, if_neg hm])
                have bxx := bx.out x
                clear hm
                obtain ⟨acx, hacx⟩ : ∃ q, nxx r acc x = q := ⟨_, rfl⟩
                rw [hacx] at HN bxx HRx
                clear hacx
                go_wp2_with (first
                  | (go_at_call 100; refine (HC.out _ hxx).mono ?_; rintro e w1 ⟨rfl, hw⟩; rw [hw]; clear hw w1)
                  | (at_builtin; (fail_if_success (have hq := hA1)); refine wpList_ex rfl _ _ rfl (.slice (some ⟨_, 0, none⟩) 0 0) _ rfl rfl (appI_run (w0 := wr) (ys := []) rfl Try.underlying31 infoI (accNew (Ext.alloc _ _) (heap_alloc_new _ _) (Nat.le_refl _)) (HIi.out.ext (hxx.alloc' _)) (by simp; omega)) ?_; rintro v1 W1 ⟨hA1, hB1, hS1⟩; rw [List.nil_append] at hA1)
                  | (at_builtin; (fail_if_success (have hq := hA2)); refine wpList_ex rfl _ _ rfl v1 (.slice (some ⟨_, 0, none⟩) 1 1) rfl rfl (app_run (w0 := wr) Try.underlying31 infoI rfl (by decide) v1 (r.map (Value.int .i64)) ⟨_, 0, none⟩ 1 1 [.int .i64 x] rfl (one_news (cell_new0 _ _ _) rfl) (map_one [(x : Int)]) (hA1.on (Ext.alloc _ _)) (by simp; omega)) ?_; rintro v2 W2 ⟨hA2', hB2, hS2⟩; have hA2 : Acc wr W2 3 v2 ((r ++ [(x : Int)]).map (Value.int .i64)) := (by rw [List.map_append]; exact hA2'); obtain ⟨Ar, cr, hv2, -⟩ := (Leaf.of_own hA2.2).1.ints; obtain ⟨K, hK⟩ : ∃ K, (r ++ [(x : Int)]).length = K := ⟨_, rfl⟩; rw [hK] at hv2; subst hv2; clear hK hA2')
                  | (at_builtin; refine wpList_ex rfl _ _ rfl _ (.slice (some ⟨_, 0, none⟩) 1 1) rfl rfl (accR_run (u := .slice Ar K cr) rfl Try.underlying23 infoR ⟨_, 0, none⟩ 1 rfl HRx.out hA2 (Ext.alloc _ _) (cell_new0 _ _ _) (by omega)) ?_; rintro v3 W3 hR3))
                go_roundg gx1
                case measure => omega
                case rel => exact ⟨x + 1, by omega, by go_num, Lib.hid (by rw [HN.out]; exact hR3)⟩
            · have hinx' : ¬ (x : Int) < (n : Nat) := by omega
              obtain rfl : gk = 0 := by omega
              obtain rfl : x = n := by omega
              go_wp2
              go_roundg gi1
              case measure => omega
              case rel => exact ⟨i + 1, by omega, by go_num, Lib.hid (by rw [HSi1.out]; exact HRx.out)⟩
        · have hini' : ¬ (i : Int) < (M : Nat) := by omega
          obtain rfl : gk = 0 := by omega
          obtain rfl : i = M := by omega
          go_wp2
          go_roundg gk1
          case measure => omega
          case rel => exact ⟨k + 1, by omega, by go_num, Lib.hid (by rw [HSk.out]; exact HRi.out.low HXW.out)⟩
    · have hin' : ¬ (k : Int) < (n : Nat) := by omega
      obtain rfl : gk = 0 := by omega
      obtain rfl : k = n := by omega
      have HFR := Lib.hid HR.out.fresh
      clear HR
      go_wp2
      go_ret
      exact HFR.out
end Go.Proofs.Ytbkefojepelggaa
