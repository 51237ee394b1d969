/- RopeLeft: plain. -/
import Derived.Test.YtdgaffcfcgmfnaaF2
import Derived.Test.YtdgaffcfcgmfnaaP3
namespace Go.Proofs.Ytdgaffcfcgmfnaa
open Go.RowKit Go.Sl

theorem below_trans {x y z : Lab} (hx : inLab x) (hy : inLab y) (hz : inLab z) (h1 : belowB x y = true) (h2 : belowB y z = true) : belowB x z = true := by
  obtain ⟨xl, xc⟩ := x
  obtain ⟨yl, yc⟩ := y
  obtain ⟨zl, zc⟩ := z
  obtain ⟨hx1, hx2⟩ := hx
  obtain ⟨hy1, hy2⟩ := hy
  obtain ⟨hz1, hz2⟩ := hz
  simp only at hx1 hx2 hy1 hy2 hz1 hz2
  obtain ⟨a, rfl⟩ : ∃ a : Nat, xc = a := ⟨xc.toNat, by omega⟩
  obtain ⟨b, rfl⟩ : ∃ b : Nat, yc = b := ⟨yc.toNat, by omega⟩
  obtain ⟨c, rfl⟩ : ∃ c : Nat, zc = c := ⟨zc.toNat, by omega⟩
  unfold belowB at *
  simp only [Bool.and_eq_true, decide_eq_true_eq] at *
  refine ⟨by omega, ?_⟩
  have e1 := (andNot_bits a b (by omega) (by omega)).1 h1.2
  have e2 := (andNot_bits b c (by omega) (by omega)).1 h2.2
  exact (andNot_bits a c (by omega) (by omega)).2 fun i hi => Nat.le_trans (e1 i hi) (e2 i hi)
theorem sees_trans {p : PV} (hL : ∀ x ∈ p.labels, inLab x) {v u l : Int} (h1 : seesB p v u = true) (h2 : seesB p u l = true) : seesB p v l = true := by
  obtain ⟨a1, a2, a3, a4⟩ := seesB_lt h1
  obtain ⟨b1, b2, b3, b4⟩ := seesB_lt h2
  have hm : ∀ t : Int, 0 ≤ t → t < (p.labels.length : Int) → inLab (p.labels.getD t.toNat ⟨0, 0⟩) := fun t t0 t1 => by
    rw [List.getD_eq_getElem?_getD, List.getElem?_eq_getElem (by omega)]
    exact hL _ (List.getElem_mem _)
  unfold seesB at *
  simp only [Bool.and_eq_true, decide_eq_true_eq] at *
  exact ⟨⟨⟨⟨a1, a2⟩, b3⟩, b4⟩, below_trans (hm _ b3 b4) (hm _ a3 a4) (hm _ a1 a2) h2.2 h1.2⟩
/-- What is put stands just behind what is seen ahead of it. -/
theorem left_law {P : Pol} {v : Nat} {es : List El} {I : Nat} {x : El} (hv : P.has (v : Nat) = true) (hI : I ≤ es.length) (hx : P.see v x.label = true) :
    viewP P (v : Nat) (es.take I ++ [x] ++ es.drop I) (I : Nat) = (((seenN P v (es.take I) : Nat) : Int), 0) ∧
    (seenE P (v : Nat) (es.take I ++ [x] ++ es.drop I))[seenN P v (es.take I)]? = some x ∧
    ∀ pre a, es.take I = pre ++ [a] → P.see v a.label = true → ∃ m, seenN P v (es.take I) = m + 1 ∧ (seenE P (v : Nat) (es.take I ++ [x] ++ es.drop I))[m]? = some a := by
  have hl : (es.take I).length = I := by rw [List.length_take]; omega
  have hS : seenE P (v : Nat) (es.take I ++ [x] ++ es.drop I) = (es.take I).filter (fun e => P.see v e.label) ++ x :: (es.drop I).filter (fun e => P.see v e.label) := by
    unfold seenE
    rw [if_pos hv, Int.toNat_natCast, List.append_assoc, List.filter_append, List.filter_append]
    simp [hx]
  refine ⟨?_, ?_, ?_⟩
  · unfold viewP
    rw [if_pos hv, if_pos ⟨by omega, by simp; omega⟩, Int.toNat_natCast, Int.toNat_natCast, List.append_assoc, List.take_left' hl]
  · rw [hS]
    unfold seenN
    rw [List.getElem?_append_right (Nat.le_refl _), Nat.sub_self]; rfl
  · intro pre a hp ha
    refine ⟨(pre.filter fun e => P.see v e.label).length, ?_, ?_⟩
    · rw [hp]; unfold seenN; simp [ha]
    · rw [hS, hp, List.filter_append]
      simp [ha]
theorem rem_pos (x : Int) {N : Nat} (h0 : 0 < N) (h : N ≤ 2000000) : ∃ I : Nat, I < N ∧ wrap64 ((IntKind.u64.wrap x).tmod (N : Int)) = (I : Int) := by
  have h0' : 0 ≤ IntKind.u64.wrap x := by rw [IntKind.wrap_u64]; omega
  have h1 := Int.tmod_lt_of_pos (IntKind.u64.wrap x) (show (0 : Int) < (N : Int) by omega)
  have h2 := Int.tmod_nonneg (N : Int) h0'
  refine ⟨((IntKind.u64.wrap x).tmod (N : Int)).toNat, by omega, ?_⟩
  unfold wrap64
  omega
/-- Where a place is, and behind what. -/
theorem place_law {P : Pol} {V : Nat} {es : List El} {T : Nat} (hV : P.has (V : Nat) = true) (hT : T ≤ seenN P V es) :
    ∃ I : Nat, I ≤ es.length ∧ placeP P (V : Nat) es (T : Nat) = ((I : Int), 0) ∧
    (T = 0 ∧ I = 0 ∨ ∃ pre a m, T = m + 1 ∧ es.take I = pre ++ [a] ∧ P.see V a.label = true ∧ indexP P (V : Nat) es ((T : Int) - 1) = (((pre.length : Nat) : Int), 0) ∧ elAt es (pre.length : Nat) = a ∧ isAt es (pre.length : Nat) = true) := by
  by_cases h0 : T = 0
  · subst h0
    refine ⟨0, by omega, ?_, .inl ⟨rfl, rfl⟩⟩
    unfold placeP
    rw [if_pos hV, if_neg (by omega), if_pos (by rfl)]; rfl
  · obtain ⟨m, rfl⟩ : ∃ m, T = m + 1 := ⟨T - 1, by omega⟩
    have hsz : ((m : Nat) : Int) < sizeP P (V : Nat) es := by
      unfold sizeP
      rw [if_pos hV, Int.toNat_natCast]; omega
    obtain ⟨i, e, hi, -, -, t1, -, -, t4, t5, t6, -, t8⟩ := turned hsz
    rw [Int.toNat_natCast] at t8
    have ht : es.take (i + 1) = es.take i ++ [e] := by
      rw [List.take_add_one, List.getElem?_eq_getElem hi]
      unfold elAt at t5
      rw [if_pos (by omega), Int.toNat_natCast, List.getD_eq_getElem?_getD, List.getElem?_eq_getElem hi] at t5
      rw [← t5]; rfl
    have hl : (es.take i).length = i := by rw [List.length_take]; omega
    refine ⟨i + 1, by omega, ?_, .inr ⟨es.take i, e, m, rfl, ht, t8, ?_, ?_, ?_⟩⟩
    · rw [show (((m + 1 : Nat)) : Int) = (m : Int) + 1 by omega, t4]; rfl
    · rw [hl, show (((m + 1 : Nat)) : Int) - 1 = (m : Int) by omega, t1]
    · rw [hl]; exact t5
    · rw [hl]; exact t6
end Go.Proofs.Ytdgaffcfcgmfnaa
