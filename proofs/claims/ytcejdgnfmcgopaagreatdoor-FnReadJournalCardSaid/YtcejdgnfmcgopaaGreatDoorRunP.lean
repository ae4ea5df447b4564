/- What is proved: plain laws of deeds one after the other: in two parts they are the same; parts of a list of deeds. Conditions: those of each theorem. -/
import Derived.Test.YtcejdgnfmcgopaaGreatDoorDl
namespace Go.Proofs.YtcejdgnfmcgopaaGreatDoor
open Go.RowKit
theorem d_take {ds : List (Int × List Int)} {n i : Nat} (h : i < n) : dk (ds.take n) i = dk ds i ∧ dx (ds.take n) i = dx ds i := by
  unfold dk dx
  simp only [List.getD_eq_getElem?_getD, List.getElem?_take, if_pos h]
  first | done | exact ⟨rfl, rfl⟩ | exact ⟨trivial, trivial⟩
theorem d_drop (ds : List (Int × List Int)) (n i : Nat) : dk (ds.drop n) i = dk ds (i + n) ∧ dx (ds.drop n) i = dx ds (i + n) := by
  unfold dk dx
  simp only [List.getD_eq_getElem?_getD, List.getElem?_drop, Nat.add_comm n i]
  first | done | exact ⟨rfl, rfl⟩ | exact ⟨trivial, trivial⟩
theorem DeedsM.take {w : World} {A : Option Addr} {c : Nat} {ds : List (Int × List Int)} (h : DeedsM w A c ds) {n : Nat} (hn : n ≤ ds.length) : DeedsM w A c (ds.take n) ∧ (ds.take n).length = n := by
  have hl : (ds.take n).length = n := by rw [List.length_take]; omega
  obtain ⟨h1, h2, b, o, h3, h4⟩ := h
  refine ⟨⟨by omega, h2, b, o, fun q => h3 (by omega), fun i hi => ?_⟩, hl⟩
  rw [(d_take (by omega)).1, (d_take (by omega)).2]
  exact h4 i (by omega)
theorem DeedsM.drop {w : World} {q o : Nat} {c : Nat} {ds : List (Int × List Int)} (h : DeedsM w (some ⟨q, o, none⟩) c ds) {n : Nat} (hn : n ≤ ds.length) : DeedsM w (some ⟨q, o + n * 2, none⟩) (c - n) (ds.drop n) ∧ (ds.drop n).length = ds.length - n := by
  have hl : (ds.drop n).length = ds.length - n := List.length_drop
  obtain ⟨h1, h2, b, o', h3, h4⟩ := h
  refine ⟨⟨by omega, by omega, q, o + n * 2, fun _ => rfl, fun i hi => ?_⟩, hl⟩
  obtain ⟨X, cx, e1, e2, e3⟩ := h4 (i + n) (by omega)
  have he := h3 (by omega)
  injection he with he
  injection he with he1 he2
  subst he1 he2
  rw [(d_drop ds n i).1, (d_drop ds n i).2]
  refine ⟨X, cx, ?_, ?_, e3⟩
  · rw [show o + n * 2 + i * 2 = o + (i + n) * 2 by omega]; exact e1
  · rw [show o + n * 2 + i * 2 + 1 = o + (i + n) * 2 + 1 by omega]; exact e2
theorem run_halves {D : List (List Int)} {L : List (List (List Int))} {ds : List (Int × List Int)} {h : Nat} (hd : deskB D L = true) (hl : ds.length ≤ 40) (hh : h ≤ ds.length) :
    deskB (runV D L (ds.take h)).1 (runV D L (ds.take h)).2.1 = true ∧ (0 ≤ (runV D L (ds.take h)).2.2 ∧ (runV D L (ds.take h)).2.2 ≤ 40) ∧
    (runV (runV D L (ds.take h)).1 (runV D L (ds.take h)).2.1 (ds.drop h)).1 = (runV D L ds).1 ∧ (runV (runV D L (ds.take h)).1 (runV D L (ds.take h)).2.1 (ds.drop h)).2.1 = (runV D L ds).2.1 ∧
      (0 ≤ (runV (runV D L (ds.take h)).1 (runV D L (ds.take h)).2.1 (ds.drop h)).2.2 ∧ (runV (runV D L (ds.take h)).1 (runV D L (ds.take h)).2.1 (ds.drop h)).2.2 ≤ 40) ∧
      (runV D L (ds.take h)).2.2 + (runV (runV D L (ds.take h)).1 (runV D L (ds.take h)).2.1 (ds.drop h)).2.2 = (runV D L ds).2.2 := by
  have l1 : (ds.take h).length = h := by rw [List.length_take]; omega
  have l2 : (ds.drop h).length = ds.length - h := List.length_drop
  have e1 : runV D L (ds.take h) = runR ds h 0 D L 0 := by
    unfold runV
    rw [if_pos ⟨hd, by omega⟩, l1]
    have := runR_same (ds := ds) (es := ds.take h) (k := 0) h 0 D L 0 fun j _ j2 => ⟨(d_take (ds := ds) (n := h) (i := j) (by omega)).1.symm, (d_take (ds := ds) (n := h) (i := j) (by omega)).2.symm⟩
    exact this.symm
  have e2 : runV D L ds = runR ds ds.length 0 D L 0 := by unfold runV; rw [if_pos ⟨hd, hl⟩]
  rw [e1, e2]
  have hd1 := runR_desk ds h 0 D L 0 hd
  have hb1 := runR_le ds h 0 D L 0
  obtain ⟨r1, hr1⟩ : ∃ r, runR ds h 0 D L 0 = r := ⟨_, rfl⟩
  have hadd := runR_add ds h (ds.length - h) 0 D L 0
  rw [show h + (ds.length - h) = ds.length by omega, hr1] at hadd
  rw [hr1] at hd1 hb1 ⊢
  have e3 : runV r1.1 r1.2.1 (ds.drop h) = runR ds (ds.length - h) (0 + h) r1.1 r1.2.1 0 := by
    unfold runV
    rw [if_pos ⟨hd1, by omega⟩, l2]
    exact (runR_same (ds := ds) (es := ds.drop h) (k := h) (ds.length - h) 0 r1.1 r1.2.1 0 fun j _ j2 => ⟨(d_drop ds h j).1.symm, (d_drop ds h j).2.symm⟩).symm
  have hb2 := runR_le ds (ds.length - h) (0 + h) r1.1 r1.2.1 0
  have hn := runR_num ds (ds.length - h) (0 + h) r1.1 r1.2.1 0 r1.2.2
  rw [show (0 : Int) + r1.2.2 = r1.2.2 by omega, ← hadd] at hn
  rw [e3]
  refine ⟨hd1, ⟨hb1.1, by omega⟩, hn.1.symm, hn.2.1.symm, ⟨hb2.1, by omega⟩, by omega⟩
end Go.Proofs.YtcejdgnfmcgopaaGreatDoor
