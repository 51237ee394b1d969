/- Of lines: what is cut and joined is what was; a line that is none is one of the text, and all ahead of it are taken. -/
import Derived.Test.YtaeaakcppheaoaaDoorHw
namespace Go.Proofs.YtaeaakcppheaoaaDoor
open Go.RowKit Go.Proofs.YtaeaakcppheaoaaDoorW.PrintWords

theorem cutL_step (c b : UInt8) (l : List UInt8) : cutL c (b :: l) = if b = c then [] :: cutL c l else match cutL c l with
    | [] => [[b]]
    | h :: t => (b :: h) :: t := rfl
theorem cutL_append (c : UInt8) (a b : List UInt8) (ha : c ∉ a) : cutL c (a ++ c :: b) = a :: cutL c b := by
  induction a with
  | nil => simp [cutL]
  | cons x a ih =>
    have hx : ¬ x = c := fun h => ha (h ▸ List.mem_cons_self)
    have := ih (fun h => ha (List.mem_cons_of_mem _ h))
    show cutL c (x :: (a ++ c :: b)) = _
    rw [cutL_step, if_neg hx, this]
theorem cutL_none (c : UInt8) (a : List UInt8) (ha : c ∉ a) : cutL c a = [a] := by
  induction a with
  | nil => rfl
  | cons x a ih =>
    have hx : ¬ x = c := fun h => ha (h ▸ List.mem_cons_self)
    rw [cutL_step, if_neg hx, ih (fun h => ha (List.mem_cons_of_mem _ h))]
theorem cutL_clean (c : UInt8) (l : List UInt8) : ∀ y ∈ cutL c l, c ∉ y := by
  induction l with
  | nil => intro y hy; simp [cutL] at hy; simp [hy]
  | cons b l ih =>
    intro y hy
    unfold cutL at hy
    split at hy
    · rcases List.mem_cons.1 hy with rfl | hy
      · simp
      · exact ih y hy
    · rename_i hb
      split at hy
      · rename_i h; exact absurd h (cutL_ne c l)
      · rename_i h t heq
        rcases List.mem_cons.1 hy with rfl | hy
        · intro hc
          rcases List.mem_cons.1 hc with h1 | h1
          · exact hb h1.symm
          · exact ih h (by rw [heq]; exact List.mem_cons_self) h1
        · exact ih y (by rw [heq]; exact List.mem_cons_of_mem _ hy)
theorem join_cc (x y : List UInt8) (r : List (List UInt8)) (c : UInt8) : Lib.join (x :: y :: r) [c] = x ++ c :: Lib.join (y :: r) [c] := by
  rw [Lib.join_cons, Lib.join_cons]
  simp [Lib.joinTail]
theorem cutL_join (c : UInt8) (ls : List (List UInt8)) (h0 : ls ≠ []) (h : ∀ y ∈ ls, c ∉ y) : cutL c (Lib.join ls [c]) = ls := by
  induction ls with
  | nil => exact absurd rfl h0
  | cons x r ih =>
    cases r with
    | nil => rw [Lib.join_one]; exact cutL_none c x (h x List.mem_cons_self)
    | cons y r =>
      rw [join_cc, cutL_append c x _ (h x List.mem_cons_self), ih (by simp) (fun z hz => h z (List.mem_cons_of_mem _ hz))]
theorem join_cutL (c : UInt8) (l : List UInt8) : Lib.join (cutL c l) [c] = l := by
  induction l with
  | nil => simp [cutL, Lib.join_one]
  | cons b l ih =>
    rw [cutL_step]
    split
    · rename_i hb
      subst hb
      cases hc : cutL b l with
      | nil => exact absurd hc (cutL_ne b l)
      | cons h t => rw [join_cc, ← hc, ih]; rfl
    · split
      · rename_i h; exact absurd h (cutL_ne c l)
      · rename_i h t heq
        rw [heq] at ih
        rw [Lib.join_cons] at ih ⊢
        rw [List.cons_append, ih]
theorem joinTail_app (s : List UInt8) (a b : List (List UInt8)) : Lib.joinTail s (a ++ b) = Lib.joinTail s a ++ Lib.joinTail s b := by simp [Lib.joinTail]
theorem join_take_le (c : UInt8) (ls : List (List UInt8)) (n : Nat) : (Lib.join (ls.take n) [c]).length ≤ (Lib.join ls [c]).length := by
  cases ls with
  | nil => simp
  | cons x r =>
    cases n with
    | zero => simp [Lib.join_nil]
    | succ n =>
      rw [List.take_succ_cons, Lib.join_cons, Lib.join_cons, List.length_append, List.length_append]
      have := Lib.joinTail_take_le [c] r n
      omega

/-- The lines of a text, joined again. -/
def joinB (c : UInt8) (ls : List ByteArray) : ByteArray := ofL (Lib.join (ls.map (·.data.toList)) [c])
theorem spl_data (c : UInt8) (s : ByteArray) : (spl c s).map (·.data.toList) = cutL c s.data.toList := by
  unfold spl
  rw [List.map_map]
  exact (List.map_congr_left (fun l _ => ofL_data l)).trans (List.map_id _)
theorem joinB_size (c : UInt8) (s : ByteArray) (n : Nat) : (joinB c ((spl c s).take n)).size ≤ s.size := by
  unfold joinB
  rw [Lib.size_eq, ofL_data, List.map_take, spl_data, Lib.size_eq]
  exact Nat.le_trans (join_take_le c _ n) (by rw [join_cutL]; exact Nat.le_refl _)
theorem spl_joinB (c : UInt8) (ls : List ByteArray) (h0 : ls ≠ []) (h : ∀ y ∈ ls, c ∉ y.data.toList) : spl c (joinB c ls) = ls := by
  unfold spl joinB
  rw [ofL_data, cutL_join c _ (by simpa using h0) (by intro y hy; obtain ⟨z, hz, rfl⟩ := List.mem_map.1 hy; exact h z hz), List.map_map]
  exact (List.map_congr_left (fun l _ => data_ofL l)).trans (List.map_id _)
theorem spl_clean (c : UInt8) (s y : ByteArray) (h : y ∈ spl c s) : c ∉ y.data.toList := by
  obtain ⟨l, hl, rfl⟩ := List.mem_map.1 h
  rw [ofL_data]
  exact cutL_clean c _ l hl

theorem linesP_err {line : St → List ByteArray → Option St} (ls : List ByteArray) (i n : Nat) (s : St) (h : linesP line ls i s = .error n) :
    ∃ k, ∃ hk : k < ls.length, n = i + k + 1 ∧ silentB ls[k] = false ∧ ∃ s', linesP line (ls.take k) i s = .ok s' := by
  induction ls generalizing i s with
  | nil => simp [linesP] at h
  | cons x t ih =>
    unfold linesP at h
    by_cases hs : silentB x = true
    · rw [if_pos hs] at h
      obtain ⟨k, hk, rfl, h1, s', h2⟩ := ih (i + 1) s h
      refine ⟨k + 1, by simp; omega, by omega, h1, s', ?_⟩
      rw [List.take_succ_cons]
      unfold linesP
      rw [if_pos hs]; exact h2
    · rw [if_neg hs] at h
      cases hl : line s (spl 32 x) with
      | none =>
        rw [hl] at h
        exact ⟨0, by simp, (Except.error.inj h).symm, by simpa using hs, s, rfl⟩
      | some s1 =>
        rw [hl] at h
        obtain ⟨k, hk, rfl, h1, s', h2⟩ := ih (i + 1) s1 h
        refine ⟨k + 1, by simp; omega, by omega, h1, s', ?_⟩
        rw [List.take_succ_cons]
        unfold linesP
        rw [if_neg hs, hl]; exact h2
theorem endP_ok (s : St) : ((endP rightN (.ok s)).err = 0 ∨ (endP rightN (.ok s)).err = 11) ∧ (endP rightN (.ok s)).at_ = 0 := by
  unfold endP
  simp only
  have h : rightN s.pol = 0 ∨ rightN s.pol = 11 := by
    unfold rightN
    cases rightB s.pol with
    | true => exact Or.inl rfl
    | false => exact Or.inr rfl
  rcases h with h | h
  · rw [if_pos h]; exact ⟨Or.inl rfl, rfl⟩
  · rw [if_neg (by rw [h]; decide)]; exact ⟨Or.inr h, rfl⟩
/-- A line that is told as none is one of the text, and all ahead of it are taken. -/
theorem faults (s : ByteArray) (hs : s.size ≤ 32768) :
    ((parseP s).err ≠ 90 ∧ (parseP s).at_ = 0) ∨
    ((parseP s).err = 90 ∧ ∃ k, ∃ hk : k < (spl 10 s).length, (parseP s).at_ = k + 1 ∧ silentB (spl 10 s)[k] = false ∧
      ((parseP (joinB 10 ((spl 10 s).take k))).err = 0 ∨ (parseP (joinB 10 ((spl 10 s).take k))).err = 11) ∧ (parseP (joinB 10 ((spl 10 s).take k))).at_ = 0) := by
  have he : parseP s = endP rightN (linesP lineP (spl 10 s) 0 St0) := if_neg (by omega)
  cases hl : linesP lineP (spl 10 s) 0 St0 with
  | ok st =>
    left
    rw [he, hl]
    obtain ⟨h1, h2⟩ := endP_ok st
    exact ⟨by omega, h2⟩
  | error n =>
    right
    obtain ⟨k, hk, hn, h1, s', h2⟩ := linesP_err _ _ _ _ hl
    rw [he, hl]
    refine ⟨rfl, k, hk, by show n = k + 1; omega, h1, ?_⟩
    have hj := joinB_size 10 s k
    have he2 : parseP (joinB 10 ((spl 10 s).take k)) = endP rightN (linesP lineP (spl 10 (joinB 10 ((spl 10 s).take k))) 0 St0) := if_neg (by omega)
    rw [he2]
    by_cases h0 : k = 0
    · subst h0
      exact endP_ok St0
    · rw [spl_joinB 10 _ (by intro h; have := congrArg List.length h; rw [List.length_take, Nat.min_eq_left (by omega)] at this; exact h0 this) (fun y hy => spl_clean 10 s y (List.mem_of_mem_take hy)), h2]
      exact endP_ok s'
theorem loud_facts (x : ByteArray) (hsi : silentB x = false) : ∃ _ : 0 < x.size, ¬ x.toList = [] ∧ x.toList.isEmpty = false ∧ ((x[0].toNat : Int) == 35) = false := by
  have hne : ¬ x.toList = [] := by
    intro h
    rw [silentB, toList_nil x h] at hsi; cases hsi
  have hpos : 0 < x.size := by
    rw [Lib.size_eq]
    cases h : x.data.toList with
    | nil => rw [silentB, h] at hsi; cases hsi
    | cons _ _ => simp
  refine ⟨hpos, hne, ?_, ?_⟩
  · cases h : x.toList with | nil => exact absurd h hne | cons _ _ => rfl
  · rw [silentB, Bool.or_eq_false_iff] at hsi
    have e : x.data.toList.head? = some x[0] := by
      rw [List.head?_eq_getElem?, List.getElem?_eq_getElem (by rw [← Lib.size_eq]; exact hpos)]; rfl
    rw [e] at hsi
    rw [beq_eq_false_iff_ne]
    intro h
    have h35 : x[0] = 35 := UInt8.toNat_inj.1 (by have : (35 : UInt8).toNat = 35 := rfl; omega)
    rw [h35] at hsi
    exact absurd hsi.2 (by decide)
theorem join_lines (g c k : Nat) (s : ByteArray) (w : World) (hC : Kd.C Kd.string w (some ⟨g, 0, none⟩) (spl 10 s).length (spl 10 s)) (hg : g < w.heap.size) (hk : k ≤ (spl 10 s).length) (hc : (spl 10 s).length ≤ c) (hs : s.size ≤ 32768) :
    Calls Tryd.prog 18 #[.slice (some ⟨g, 0, none⟩) k c, .string ⟨#[10]⟩] w fun e w' => e = .returned (.string (joinB 10 ((spl 10 s).take k))) ∧ Below w.heap.size w w' := by
  have hl : ((spl 10 s).take k).length = k := by rw [List.length_take, Nat.min_eq_left hk]
  have hj := joinB_size 10 s k
  have hlen : (spl 10 s).length ≤ 32769 := by
    unfold spl
    rw [List.length_map, cutL_length]
    have := List.count_le_length (a := (10 : UInt8)) (l := s.data.toList)
    rw [Lib.size_eq] at hs
    omega
  have h := Tryd.strings_Join g 0 c ((spl 10 s).take k) ⟨#[10]⟩ w ?_ hg (by omega) (by omega) ?_
  · rw [hl] at h
    exact h
  · intro j x hx
    have hj : j < (spl 10 s).length := by
      have := (List.getElem?_eq_some_iff.1 hx).1
      rw [hl] at this; omega
    rw [str_cells hC j hj, rd_getElem _ _ j hj]
    have : ((spl 10 s).take k)[j]? = some (spl 10 s)[j] := by
      rw [List.getElem?_take]
      have : j < k := by have := (List.getElem?_eq_some_iff.1 hx).1; rw [hl] at this; exact this
      rw [if_pos this, List.getElem?_eq_getElem hj]
    rw [this] at hx
    rw [Option.some.inj hx]
  · rw [joinB, Lib.size_eq, ofL_data] at hj
    exact Nat.le_trans hj (by omega)
end Go.Proofs.YtaeaakcppheaoaaDoor
