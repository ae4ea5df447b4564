/- What is proved: impl.compareRows compares rows, and in them numbers; with slices.CompareFunc and slices.Compare. No condition. -/
import Derived.Test.YtbkefojepelggaaOrd
namespace Go.Proofs.Ytbkefojepelggaa
open Go.RowKit
theorem isNaN_any (x : Int) (w : World) : Calls Try.prog 101 #[.int .i64 x] w fun e w' => e = .returned (.bool false) ∧ w' = w := by
  go_enter Try.func101, Try.ntmps101
  go_wp2
  go_ret
  exact ⟨ret_bool (by simp), rfl⟩
theorem cmpZ_any (x y : Int) (w : World) : Calls Try.prog 98 #[.int .i64 x, .int .i64 y] w fun e w' => e = .returned (.int .i64 (cmpZ x y)) ∧ w' = w := by
  have Hd := Lib.hid (show cmpZ x y = if x < y then -1 else if y < x then 1 else 0 from rfl)
  by_cases h1 : x < y
  · have HF := Lib.hid (show cmpZ x y = -1 by rw [Hd.out, if_pos h1])
    go_enter Try.func98, Try.ntmps98
    go_wp2_with fail
    refine (isNaN_any _ _).mono ?_
    rintro e w1 ⟨rfl, rfl⟩
    go_wp2_with fail
    refine (isNaN_any _ _).mono ?_
    rintro e w1 ⟨rfl, rfl⟩
    go_wp2
    go_ret
    exact ⟨ret_int HF.out.symm, rfl⟩
  · by_cases h2 : y < x
    · have HF := Lib.hid (show cmpZ x y = 1 by rw [Hd.out, if_neg h1, if_pos h2])
      go_enter Try.func98, Try.ntmps98
      go_wp2_with fail
      refine (isNaN_any _ _).mono ?_
      rintro e w1 ⟨rfl, rfl⟩
      go_wp2_with fail
      refine (isNaN_any _ _).mono ?_
      rintro e w1 ⟨rfl, rfl⟩
      go_wp2
      go_ret
      exact ⟨ret_int HF.out.symm, rfl⟩
    · have HF := Lib.hid (show cmpZ x y = 0 by rw [Hd.out, if_neg h1, if_neg h2])
      go_enter Try.func98, Try.ntmps98
      go_wp2_with fail
      refine (isNaN_any _ _).mono ?_
      rintro e w1 ⟨rfl, rfl⟩
      go_wp2_with fail
      refine (isNaN_any _ _).mono ?_
      rintro e w1 ⟨rfl, rfl⟩
      go_wp2
      go_ret
      exact ⟨ret_int HF.out.symm, rfl⟩
set_option maxHeartbeats 2000000 in
theorem cmpI_any (A B : Option Addr) (c d : Nat) (xs ys : List Int) (w : World) (hx : Ints w A c xs) (hy : Ints w B d ys) :
    Calls Try.prog 86 #[.slice A xs.length c, .slice B ys.length d] w fun e w' => e = .returned (.int .i64 (cmpI xs ys)) ∧ ∃ m, w' = w.drewN m := by
  obtain ⟨h1, h2, b, o, hA, hc⟩ := hx
  obtain ⟨k1, k2, b', o', hB, hd⟩ := hy
  unfold maxLen at h2 k2
  have HC := Lib.hid hc
  have HD := Lib.hid hd
  have H0 := Lib.hid (show cmpI xs ys = cmpR xs ys xs.length 0 from rfl)
  clear hc hd
  obtain ⟨n, hn⟩ : ∃ n, xs.length = n := ⟨_, rfl⟩
  obtain ⟨p, hp⟩ : ∃ n, ys.length = n := ⟨_, rfl⟩
  have HR0 := Lib.hid (show ∀ i, cmpR xs ys 0 i = if n < p then -1 else 0 from fun i => by rw [← hn, ← hp]; rfl)
  have HR1 := Lib.hid (show ∀ g i, cmpR xs ys (g + 1) i = if p ≤ i then 1 else if cmpZ (ix xs i) (ix ys i) ≠ 0 then cmpZ (ix xs i) (ix ys i) else cmpR xs ys g (i + 1) from fun g i => by rw [← hp]; rfl)
  rw [hn] at hA HC h1 H0
  rw [hp] at hB HD k1
  rw [hn, hp]
  clear hn hp
  go_enter Try.func86, Try.ntmps86
  go_wp2
  go_loopg [11] (n) (fun g s11 wr => ∃ (i m : Nat), i + g = n ∧ s11 = .int .i64 i ∧ wr = w.drewN m ∧ Hid (cmpR xs ys g i = cmpI xs ys))
  case atStart => exact ⟨0, _, by omega, rfl, by first | rfl | exact drewN_0 _ | exact drewN_add _ _ _, Lib.hid (H0.out.symm)⟩
  case round =>
    obtain ⟨i, mi, hi, rfl, rfl, Hi⟩ := hrel
    by_cases hini : i < n
    · obtain ⟨gi, rfl⟩ : ∃ g', gk = g' + 1 := ⟨gk - 1, by omega⟩
      have hini' : (i : Int) < (n : Nat) := by omega
      obtain rfl := hA (by omega)
      have c1 := HC.out i hini
      by_cases hip : i < p
      · have hip' : ¬ (p : Int) ≤ (i : Nat) := by omega
        obtain rfl := hB (by omega)
        have c2 := HD.out i hip
        have Hst := Lib.hid (show cmpR xs ys (gi + 1) i = if cmpZ (ix xs i) (ix ys i) ≠ 0 then cmpZ (ix xs i) (ix ys i) else cmpR xs ys gi (i + 1) by rw [HR1.out, if_neg (by omega)])
        have HZ := Lib.hid (fun W => cmpZ_any (ix xs i) (ix ys i) W)
        obtain ⟨z0, z1⟩ := cmpZ_bd (ix xs i) (ix ys i)
        obtain ⟨Z, hZ⟩ : ∃ Z, cmpZ (ix xs i) (ix ys i) = Z := ⟨_, rfl⟩
        rw [hZ] at Hst HZ z0 z1
        clear hZ
        obtain ⟨X, hX⟩ : ∃ Z, ix xs i = Z := ⟨_, rfl⟩
        obtain ⟨Y, hY⟩ : ∃ Z, ix ys i = Z := ⟨_, rfl⟩
        rw [hX] at c1 HZ
        rw [hY] at c2 HZ
        clear hX hY
        go_wp2_with fail
        refine (HZ.out _).mono ?_
        rintro e w1 ⟨rfl, rfl⟩
        by_cases hz : Z = 0
        · have HN := Lib.hid (show cmpR xs ys (gi + 1) i = cmpR xs ys gi (i + 1) by rw [Hst.out, if_neg (fun q => q hz)])
          go_wp2
          go_roundg gi
          case measure => omega
          case rel => exact ⟨i + 1, _, by omega, by go_num, by first | rfl | exact drewN_0 _ | exact drewN_add _ _ _, Lib.hid (by rw [← HN.out]; exact Hi.out)⟩
        · have HN := Lib.hid (show cmpR xs ys (gi + 1) i = Z by rw [Hst.out, if_pos hz])
          go_wp2
          go_ret
          exact ⟨ret_int (by rw [← Hi.out, HN.out]), _, rfl⟩
      · have hip' : (p : Int) ≤ (i : Nat) := by omega
        have HN := Lib.hid (show cmpR xs ys (gi + 1) i = 1 by rw [HR1.out, if_pos (by omega)])
        go_wp2
        go_ret
        exact ⟨ret_int (by rw [← Hi.out, HN.out]), _, rfl⟩
    · have hini' : ¬ (i : Int) < (n : Nat) := by omega
      obtain rfl : gk = 0 := by omega
      by_cases q : n < p
      · have q' : (n : Int) < (p : Nat) := by omega
        have HN := Lib.hid (show cmpR xs ys 0 i = -1 by rw [HR0.out, if_pos q])
        go_wp2
        go_ret
        exact ⟨ret_int (by rw [← Hi.out, HN.out]), _, rfl⟩
      · have q' : ¬ (n : Int) < (p : Nat) := by omega
        have HN := Lib.hid (show cmpR xs ys 0 i = 0 by rw [HR0.out, if_neg q])
        go_wp2
        go_ret
        exact ⟨ret_int (by rw [← Hi.out, HN.out]), _, rfl⟩
set_option maxHeartbeats 2000000 in
theorem cmpFn_any (A B : Option Addr) (c d : Nat) (D E : List (List Int)) (w : World) (hD : Mat w A c D) (hE : Mat w B d E) :
    Calls Try.prog 85 #[.slice A D.length c, .slice B E.length d, .func (.func 86) #[] #[]] w fun e w' => e = .returned (.int .i64 (cmpM D E)) ∧ ∃ m, w' = w.drewN m := by
  obtain ⟨h1, h2, -⟩ := id hD
  obtain ⟨k1, k2, -⟩ := id hE
  obtain ⟨b, o, R, rc, _, _, hA, hrow, -, -, -, hints⟩ := hD.parts
  obtain ⟨b', o', R', rc', _, _, hB, hrow', -, -, -, hints'⟩ := hE.parts
  unfold maxLen at h2 k2
  have HC := Lib.hid hrow
  have HD := Lib.hid hrow'
  have HK := Lib.hid (fun i j (hi : i < D.length) (hj : j < E.length) W (q : Ext w W) => cmpI_any (R i) (R' j) (rc i) (rc' j) (row D i) (row E j) W ((hints i hi).ext q) ((hints' j hj).ext q))
  have H0 := Lib.hid (show cmpM D E = cmpQ D E D.length 0 from rfl)
  clear hrow hrow' hints hints' hD hE
  obtain ⟨n, hn⟩ : ∃ n, D.length = n := ⟨_, rfl⟩
  obtain ⟨p, hp⟩ : ∃ n, E.length = n := ⟨_, rfl⟩
  have HR0 := Lib.hid (show ∀ i, cmpQ D E 0 i = if n < p then -1 else 0 from fun i => by rw [← hn, ← hp]; rfl)
  have HR1 := Lib.hid (show ∀ g i, cmpQ D E (g + 1) i = if p ≤ i then 1 else if cmpI (row D i) (row E i) ≠ 0 then cmpI (row D i) (row E i) else cmpQ D E g (i + 1) from fun g i => by rw [← hp]; rfl)
  rw [hn] at hA HC h1 H0 HK
  rw [hp] at hB HD k1 HK
  rw [hn, hp]
  clear hn hp
  go_enter Try.func85, Try.ntmps85
  go_wp2
  go_loopg [13] (n) (fun g s13 wr => ∃ (i m : Nat), i + g = n ∧ s13 = .int .i64 i ∧ wr = w.drewN m ∧ Hid (cmpQ D E g i = cmpM D E))
  case atStart => exact ⟨0, _, by omega, rfl, by first | rfl | exact drewN_0 _ | exact drewN_add _ _ _, Lib.hid (H0.out.symm)⟩
  case round =>
    obtain ⟨i, mi, hi, rfl, rfl, Hi⟩ := hrel
    by_cases hini : i < n
    · obtain ⟨gi, rfl⟩ : ∃ g', gk = g' + 1 := ⟨gk - 1, by omega⟩
      have hini' : (i : Int) < (n : Nat) := by omega
      obtain rfl := hA (by omega)
      have c1 := HC.out i hini
      by_cases hip : i < p
      · have hip' : ¬ (p : Int) ≤ (i : Nat) := by omega
        obtain rfl := hB (by omega)
        have c2 := HD.out i hip
        have Hst := Lib.hid (show cmpQ D E (gi + 1) i = if cmpI (row D i) (row E i) ≠ 0 then cmpI (row D i) (row E i) else cmpQ D E gi (i + 1) by rw [HR1.out, if_neg (by omega)])
        have HZ := Lib.hid (HK.out i i hini hip)
        obtain ⟨z0, z1⟩ := cmpR_bd (row D i) (row E i) (row D i).length 0
        change -1 ≤ cmpI (row D i) (row E i) at z0
        change cmpI (row D i) (row E i) ≤ 1 at z1
        obtain ⟨Z, hZ⟩ : ∃ Z, cmpI (row D i) (row E i) = Z := ⟨_, rfl⟩
        rw [hZ] at Hst HZ z0 z1
        clear hZ
        obtain ⟨X, hX⟩ : ∃ Z, (row D i).length = Z := ⟨_, rfl⟩
        obtain ⟨Y, hY⟩ : ∃ Z, (row E i).length = Z := ⟨_, rfl⟩
        rw [hX] at c1 HZ
        rw [hY] at c2 HZ
        clear hX hY
        by_cases hz : Z = 0
        · have HN := Lib.hid (show cmpQ D E (gi + 1) i = cmpQ D E gi (i + 1) by rw [Hst.out, if_neg (fun q => q hz)])
          go_wp2_with (go_at_call 86; refine (HZ.out _ (Ext.drewN _ _)).mono ?_; rintro e w1 ⟨rfl, m1, rfl⟩)
          go_roundg gi
          case measure => omega
          case rel => exact ⟨i + 1, _, by omega, by go_num, by first | rfl | exact drewN_0 _ | exact drewN_add _ _ _, Lib.hid (by rw [← HN.out]; exact Hi.out)⟩
        · have HN := Lib.hid (show cmpQ D E (gi + 1) i = Z by rw [Hst.out, if_pos hz])
          go_wp2_with (go_at_call 86; refine (HZ.out _ (Ext.drewN _ _)).mono ?_; rintro e w1 ⟨rfl, m1, rfl⟩)
          go_ret
          exact ⟨ret_int (by rw [← Hi.out, HN.out]), _, rfl⟩
      · have hip' : (p : Int) ≤ (i : Nat) := by omega
        have HN := Lib.hid (show cmpQ D E (gi + 1) i = 1 by rw [HR1.out, if_pos (by omega)])
        go_wp2
        go_ret
        exact ⟨ret_int (by rw [← Hi.out, HN.out]), _, rfl⟩
    · have hini' : ¬ (i : Int) < (n : Nat) := by omega
      obtain rfl : gk = 0 := by omega
      by_cases q : n < p
      · have q' : (n : Int) < (p : Nat) := by omega
        have HN := Lib.hid (show cmpQ D E 0 i = -1 by rw [HR0.out, if_pos q])
        go_wp2
        go_ret
        exact ⟨ret_int (by rw [← Hi.out, HN.out]), _, rfl⟩
      · have q' : ¬ (n : Int) < (p : Nat) := by omega
        have HN := Lib.hid (show cmpQ D E 0 i = 0 by rw [HR0.out, if_neg q])
        go_wp2
        go_ret
        exact ⟨ret_int (by rw [← Hi.out, HN.out]), _, rfl⟩
theorem compareRows_any (A B : Option Addr) (c d : Nat) (D E : List (List Int)) (w : World) (hD : Mat w A c D) (hE : Mat w B d E) :
    Calls Try.prog 69 #[.slice A D.length c, .slice B E.length d] w fun e w' => e = .returned (.int .i64 (cmpM D E)) ∧ ∃ m, w' = w.drewN m := by
  have HM := Lib.hid hD
  have HN := Lib.hid hE
  have HC := Lib.hid (cmpFn_any A B c d D E w hD hE)
  clear hD hE
  go_enter Try.func69, Try.ntmps69
  go_wp2_with (go_at_call 85; refine HC.out.mono ?_; rintro e w1 ⟨rfl, m1, rfl⟩)
  go_ret
  exact ⟨rfl, _, rfl⟩
end Go.Proofs.Ytbkefojepelggaa
