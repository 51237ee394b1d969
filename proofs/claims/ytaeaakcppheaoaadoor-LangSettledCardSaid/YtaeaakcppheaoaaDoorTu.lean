/- What is parsed may be, and so may its names. -/
import Derived.Test.YtaeaakcppheaoaaDoorTt
namespace Go.Proofs.YtaeaakcppheaoaaDoor
open Go.RowKit Go.Proofs.YtaeaakcppheaoaaDoorW.PrintWords Go.Maps

theorem namesOk_snoc {M : List ByteArray} {x : ByteArray} (h1 : NamesOk M) (hw : wordB x.data.toList = true) (hi : idxI M x < 0) : NamesOk (M ++ [x]) := by
  intro j hj
  by_cases hjM : j < M.length
  · rw [List.getElem_append_left hjM, List.take_append_of_le_length (by omega)]
    exact h1 j hjM
  · have hje : j = M.length := by rw [List.length_append, List.length_singleton] at hj; omega
    subst hje
    rw [List.getElem_append_right (Nat.le_refl _), List.take_append_of_le_length (Nat.le_refl _), List.take_length]
    simp only [Nat.sub_self, List.getElem_cons_zero]
    exact ⟨hw, hi⟩
theorem compsF_lt : ∀ (l : List (List UInt8)) (last : Int) (out c : Nat), out < 4294967296 → compsF l last out = some c → c < 4294967296
  | [], _, out, c, h, e => by injection e with e; omega
  | x :: t, last, out, c, h, e => by
    unfold compsF at e
    split at e
    · rename_i hc
      refine compsF_lt t _ _ c ?_ e
      have h1 : 2 ^ numV x < 2 ^ 32 := Nat.pow_lt_pow_right (by decide) (by omega)
      exact Nat.or_lt_two_pow (n := 32) h h1
    · cases e
/-- What a reader holds. -/
structure Held (s : St) : Prop where
  fits : s.Fits
  names : NamesOk s.names
  com : ∀ x ∈ s.labels, 0 ≤ x.com ∧ x.com ≤ 4294967295
theorem labOf_com {l : List ByteArray} {x : Lab} (h : labOf l = some x) : 0 ≤ x.com ∧ x.com ≤ 4294967295 := by
  unfold labOf at h
  split at h
  · unfold labOf6 at h
    split at h
    · rename_i hc
      injection h with h
      subst h
      obtain ⟨c, hcs⟩ := Option.isSome_iff_exists.1 hc.2.1
      have := compsF_lt _ _ _ c (by decide) (show compsF _ _ _ = some c from hcs)
      simp only [hcs, Option.getD_some]
      omega
    · cases h
  · unfold labOf4 at h
    split at h
    · injection h with h
      subst h
      exact ⟨Int.le_refl _, by show (0:Int) ≤ 4294967295; decide⟩
    · cases h
theorem held_line {s s' : St} {l : List ByteArray} (h : lineP s l = some s') (hs : Held s) : Held s' := by
  have hf := lineP_fits h hs.fits
  obtain ⟨_, hn, hc⟩ := hs
  unfold lineP at h
  split at h
  · unfold labelP at h
    split at h
    · rename_i hcond
      obtain ⟨x, hx, h⟩ := Option.bind_eq_some_iff.1 h
      unfold labelQ at h
      split at h
      · injection h with h
        subst h
        refine ⟨hf, namesOk_snoc hn hcond.2.1 hcond.2.2.2, fun y hy => ?_⟩
        rcases List.mem_append.1 hy with hy | hy
        · exact hc y hy
        · rw [List.mem_singleton.1 hy]; exact labOf_com hx
      · cases h
    · cases h
  · split at h
    · unfold quotaP at h
      split at h
      · injection h with h
        subst h
        exact ⟨hf, hn, hc⟩
      · cases h
    · split at h
      · unfold clientP at h
        split at h
        · injection h with h
          subst h
          exact ⟨hf, hn, hc⟩
        · cases h
      · cases h
theorem held_lines : ∀ (L : List ByteArray) (i : Nat) (s s' : St), linesP lineP L i s = .ok s' → Held s → Held s'
  | [], _, s, s', h, hs => by injection h with h; subst h; exact hs
  | x :: t, i, s, s', h, hs => by
    unfold linesP at h
    split at h
    · exact held_lines t _ s s' h hs
    · split at h
      · rename_i s2 h2
        exact held_lines t _ s2 s' h (held_line h2 hs)
      · cases h
theorem held_0 : Held St0 := by
  refine ⟨⟨rfl, rfl, rfl, by decide, by decide⟩, ?_, ?_⟩
  · intro k hk
    exact absurd hk (Nat.not_lt_zero k)
  · intro x hx
    cases hx
theorem namesO_self {N : List ByteArray} (hN : NamesOk N) : ∀ k, k ≤ N.length → namesO N k = some (N.take k)
  | 0, _ => by simp [namesO]
  | k + 1, hk => by
    have hkN : k < N.length := by omega
    have e : nameAt N k = N[k] := by unfold nameAt; rw [if_pos hkN, rd_getElem _ _ k hkN]
    have := hN k hkN
    unfold namesO
    rw [namesO_self hN k (by omega), take_snoc N k hkN, e]
    show (if _ then none else _) = _
    rw [if_neg]
    intro h
    rcases h with h | h
    · omega
    · rw [this.1] at h; cases h
/-- What is parsed: nothing, or a policy that may be, with names that may be. -/
theorem parse_held (s : ByteArray) : ((parseP s).err ≠ 0 ∧ (parseP s).pol = Pol0 ∧ (parseP s).names = []) ∨
    ((parseP s).err = 0 ∧ rightB (parseP s).pol = true ∧ namesO (parseP s).names (parseP s).pol.labels.length = some (parseP s).names ∧ ∀ x ∈ (parseP s).pol.labels, 0 ≤ x.com ∧ x.com ≤ 4294967295) := by
  unfold parseP
  split
  · exact .inl ⟨by decide, rfl, rfl⟩
  · cases hr : linesP lineP (spl 10 s) 0 St0 with
    | error n => exact .inl ⟨by show (90 : Int) ≠ 0; decide, rfl, rfl⟩
    | ok st =>
      have hh := held_lines _ _ _ _ hr held_0
      unfold endP
      simp only
      split
      · rename_i h0
        refine .inr ⟨rfl, ?_, ?_, hh.com⟩
        · unfold rightN at h0
          split at h0
          · assumption
          · cases h0
        · have := namesO_self hh.names st.names.length (Nat.le_refl _)
          rw [List.take_length] at this
          rw [show st.pol.labels.length = st.names.length from hh.fits.l]
          exact this
      · rename_i h0
        exact .inl ⟨h0, rfl, rfl⟩
end Go.Proofs.YtaeaakcppheaoaaDoor
