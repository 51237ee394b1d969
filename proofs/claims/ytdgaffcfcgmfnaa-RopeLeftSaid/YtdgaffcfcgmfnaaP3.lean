/- RopeBack: plain. -/
import Derived.Test.YtdgaffcfcgmfnaaZp
namespace Go.Proofs.Ytdgaffcfcgmfnaa
open Go.RowKit Go.Sl

theorem badE_fit {P : Pol} : ∀ {l : List El}, Fit P l → badE P l = 0
  | [], _ => rfl
  | e :: l, h => by
    have h1 := h.lab e (List.mem_cons_self ..)
    have h2 := h.rune e (List.mem_cons_self ..)
    unfold badE
    rw [if_pos (Pol.has_iff.2 h1), if_pos h2]
    exact badE_fit ⟨fun x hx => h.lab x (List.mem_cons_of_mem _ hx), fun x hx => h.rune x (List.mem_cons_of_mem _ hx)⟩
theorem doP_len (P : Pol) (es : List El) (d : DoM) : (doP P es d).2.2.length ≤ es.length + (callL d).length := by
  unfold doP
  split
  · unfold removeP
    split
    · simp
    · simp only [List.length_append, List.length_take, List.length_drop]; omega
  · split
    · unfold relabelP
      split
      · simp
      · split
        · simp [lblAll_len]
        · simp
    · unfold insertP
      split
      · simp
      · split
        · simp only [List.length_append, List.length_take, List.length_drop]; omega
        · simp
theorem madeP_len (P : Pol) : ∀ (ds : List DoM) (es : List El), (madeP P es ds).length ≤ es.length + cntL ds
  | [], es => by simp [madeP, cntL]
  | d :: ds, es => by
    have h1 := madeP_len P ds (doP P es d).2.2
    have h2 := doP_len P es d
    have e1 : madeP P es (d :: ds) = madeP P (doP P es d).2.2 ds := rfl
    have e2 : cntL (d :: ds) = (callL d).length + cntL ds := rfl
    rw [e1, e2]; omega
theorem remove_ok {es : List El} {i n : Nat} (h : i + n ≤ es.length) : removeP es (i : Nat) (n : Nat) = ((es.drop i).take n, 0, es.take i ++ es.drop (i + n)) := by
  unfold removeP
  rw [if_neg (show ¬ badR es i n by unfold badR; omega)]
  simp
theorem insert_back {P : Pol} {es : List El} {i n : Nat} (h : i + n ≤ es.length) (hf : Fit P es) (hl : es.length ≤ 1048576) : insertP P (es.take i ++ es.drop (i + n)) (i : Nat) ((es.drop i).take n) = (0, es) := by
  have hg : Fit P ((es.drop i).take n) := ⟨fun e he => hf.lab e (List.mem_of_mem_drop (List.mem_of_mem_take he)), fun e he => hf.rune e (List.mem_of_mem_drop (List.mem_of_mem_take he))⟩
  have h1 : (es.take i ++ es.drop (i + n)).length = es.length - n := by simp; omega
  have h2 : ((es.drop i).take n).length = n := by simp; omega
  unfold insertP
  rw [if_neg (by rw [h1, h2]; omega), if_pos (badE_fit hg)]
  simp only [Int.toNat_natCast, Prod.mk.injEq, true_and]
  have e1 : (es.take i ++ es.drop (i + n)).take i = es.take i := by
    rw [List.take_append_of_le_length (by simp; omega), List.take_take, Nat.min_self]
  have e2 : (es.take i ++ es.drop (i + n)).drop i = es.drop (i + n) := by
    rw [List.drop_append, List.drop_eq_nil_of_le (by rw [List.length_take]; omega), List.length_take, Nat.min_eq_left (by omega), Nat.sub_self]; simp
  rw [e1, e2, ← List.drop_drop]
  conv => rhs; rw [← List.take_append_drop i es, ← List.take_append_drop n (es.drop i)]
  simp
theorem rem_small (x : Int) {N : Nat} (h : N ≤ 2000000) : ∃ I : Nat, I ≤ N ∧ wrap64 ((IntKind.u64.wrap x).tmod ((N : Int) + 1)) = (I : Int) := by
  have h0 : 0 ≤ IntKind.u64.wrap x := by rw [IntKind.wrap_u64]; omega
  have h1 := Int.tmod_lt_of_pos (IntKind.u64.wrap x) (show (0 : Int) < (N : Int) + 1 by omega)
  have h2 := Int.tmod_nonneg ((N : Int) + 1) h0
  refine ⟨((IntKind.u64.wrap x).tmod ((N : Int) + 1)).toNat, by omega, ?_⟩
  have := IntKind.wrap_i64 ((IntKind.u64.wrap x).tmod ((N : Int) + 1))
  unfold wrap64
  omega
theorem insert_then {P : Pol} {es l : List El} {i : Nat} (h : (insertP P es (i : Nat) l).1 = 0) : (insertP P es (i : Nat) l).2 = es.take i ++ l ++ es.drop i := by
  unfold insertP at h ⊢
  split at h
  · cases h
  · rename_i h1
    rw [if_neg h1]
    split
    · simp
    · rename_i h2; rw [if_neg h2] at h; exact absurd h h2
theorem insert_err {P : Pol} {es l : List El} {i : Int} (h : (insertP P es i l).1 ≠ 0) : (insertP P es i l).2 = es := by
  unfold insertP at h ⊢
  split
  · rfl
  · rename_i h1
    rw [if_neg h1] at h
    split
    · rename_i h2; rw [if_pos h2] at h; exact absurd rfl h
    · rfl
theorem remove_put {es l : List El} {i : Nat} (hi : i ≤ es.length) : removeP (es.take i ++ l ++ es.drop i) (i : Nat) (l.length : Nat) = (l, 0, es) := by
  have hl : (es.take i).length = i := by simp; omega
  rw [remove_ok (by simp; omega)]
  have e1 : ((es.take i ++ l ++ es.drop i).drop i) = l ++ es.drop i := by
    rw [List.append_assoc, List.drop_append, List.drop_eq_nil_of_le (by omega), hl, Nat.sub_self]; simp
  have e2 : (es.take i ++ l ++ es.drop i).take i = es.take i := by
    rw [List.append_assoc, List.take_append_of_le_length (by omega), List.take_take, Nat.min_self]
  have e3 : (es.take i ++ l ++ es.drop i).drop (i + l.length) = es.drop i := by
    rw [← List.drop_drop, e1, List.drop_append, List.drop_length, Nat.sub_self]; simp
  rw [e1, e2, e3, List.take_left]
  simp
end Go.Proofs.Ytdgaffcfcgmfnaa
