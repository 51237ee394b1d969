/- Of silent lines that are put among others: they change nothing but the numbers of lines. -/
import Derived.Test.YtaeaakcppheaoaaDoorHcat
import Derived.Test.YtaeaakcppheaoaaDoorHx
import Derived.Lib.IndexLaws
namespace Go.Proofs.YtaeaakcppheaoaaDoor
open Go.RowKit Go.Proofs.YtaeaakcppheaoaaDoorW.PrintWords

def hashN (note : ByteArray) : ByteArray := ofL (35 :: note.data.toList)
theorem hash_add (note : ByteArray) (w : World) (h : note.size ≤ 4096) : (Op.stringOp .add { data := #[35] } note).run Tryd.prog w = .ok (.string (hashN note)) w := by
  rw [run_string_add_sum w _ _ (by show 1 + note.size ≤ _; omega)]
  obtain ⟨⟨l⟩⟩ := note
  have e : (ByteArray.mk #[35] ++ ByteArray.mk l.toArray) = hashN ⟨⟨l⟩⟩ := ByteArray.mk_append_mk [35] l
  exact congrArg (fun x => Result.ok (Value.string x) w) e
/-- The lines of a text with two silent ones among them. -/
def amid (L : List ByteArray) (k : Nat) (note : ByteArray) : List ByteArray := L.take k ++ ([ofL [], hashN note] ++ L.drop k)

theorem linesP_cons (line : St → List ByteArray → Option St) (x : ByteArray) (t : List ByteArray) (i : Nat) (s : St) :
    linesP line (x :: t) i s = if silentB x then linesP line t (i + 1) s else
    match line s (spl 32 x) with
    | some s' => linesP line t (i + 1) s'
    | none => .error (i + 1) := rfl
theorem linesP_app (line : St → List ByteArray → Option St) (A B : List ByteArray) (i : Nat) (s : St) :
    linesP line (A ++ B) i s = match linesP line A i s with
      | .error n => .error n
      | .ok s' => linesP line B (i + A.length) s' := by
  induction A generalizing i s with
  | nil => rfl
  | cons x t ih =>
    rw [List.cons_append, linesP_cons, linesP_cons]
    by_cases hs : silentB x = true
    · rw [if_pos hs, if_pos hs, ih]
      cases linesP line t (i + 1) s with
      | error n => rfl
      | ok s' => simp only [List.length_cons]; rw [show i + 1 + t.length = i + (t.length + 1) by omega]
    · rw [if_neg hs, if_neg hs]
      cases line s (spl 32 x) with
      | none => rfl
      | some s1 =>
        simp only
        rw [ih]
        cases linesP line t (i + 1) s1 with
        | error n => rfl
        | ok s' => simp only [List.length_cons]; rw [show i + 1 + t.length = i + (t.length + 1) by omega]
theorem linesP_shift (line : St → List ByteArray → Option St) (B : List ByteArray) (d i : Nat) (s : St) :
    linesP line B (i + d) s = match linesP line B i s with
      | .error n => .error (n + d)
      | .ok s' => .ok s' := by
  induction B generalizing i s with
  | nil => rfl
  | cons x t ih =>
    unfold linesP
    by_cases hs : silentB x = true
    · rw [if_pos hs, if_pos hs, show i + d + 1 = (i + 1) + d by omega, ih]
    · rw [if_neg hs, if_neg hs]
      cases line s (spl 32 x) with
      | none => simp only; rw [show i + d + 1 = i + 1 + d by omega]
      | some s1 => simp only; rw [show i + d + 1 = (i + 1) + d by omega, ih]
theorem linesP_amid (line : St → List ByteArray → Option St) (L : List ByteArray) (k : Nat) (note : ByteArray) (hk : k ≤ L.length) (s : St) :
    linesP line (amid L k note) 0 s = match linesP line L 0 s with
      | .error n => .error (if k < n then n + 2 else n)
      | .ok s' => .ok s' := by
  have h1 : linesP line L 0 s = match linesP line (L.take k) 0 s with
      | .error n => .error n
      | .ok s' => linesP line (L.drop k) (0 + (L.take k).length) s' := by
    rw [← linesP_app, List.take_append_drop]
  unfold amid
  rw [linesP_app, h1]
  have hl : (L.take k).length = k := by rw [List.length_take]; omega
  cases ha : linesP line (L.take k) 0 s with
  | error n =>
    obtain ⟨j, hj, hn, _⟩ := linesP_err _ _ _ _ ha
    simp only
    rw [if_neg (by omega)]
  | ok s' =>
    simp only
    have e1 : silentB (ofL []) = true := rfl
    have e2 : silentB (hashN note) = true := by unfold silentB hashN; rw [ofL_data]; rfl
    have e : linesP line ([ofL [], hashN note] ++ L.drop k) (0 + (L.take k).length) s' = linesP line (L.drop k) ((0 + (L.take k).length) + 2) s' := by
      show linesP line (ofL [] :: hashN note :: L.drop k) _ s' = _
      conv => lhs; unfold linesP; rw [if_pos e1]; unfold linesP; rw [if_pos e2]
    rw [e, linesP_shift]
    cases hb : linesP line (L.drop k) (0 + (L.take k).length) s' with
    | error n =>
      obtain ⟨j, hj, hn, _⟩ := linesP_err _ _ _ _ hb
      simp only
      rw [if_pos (by omega)]
    | ok s'' => rfl

theorem lens_app (a b : List (List UInt8)) : Lib.lens (a ++ b) = Lib.lens a + Lib.lens b := by simp [Lib.lens]
theorem amid_data (L : List ByteArray) (k : Nat) (note : ByteArray) : (amid L k note).map (·.data.toList) = (L.map (·.data.toList)).take k ++ ([[], 35 :: note.data.toList] ++ (L.map (·.data.toList)).drop k) := by
  unfold amid
  rw [List.map_append, List.map_append, List.map_take, List.map_drop]
  simp [hashN, ofL]
theorem join_len (c : UInt8) (ls : List (List UInt8)) (h : ls ≠ []) : (Lib.join ls [c]).length + 1 = ls.length + Lib.lens ls := by
  cases ls with
  | nil => exact absurd rfl h
  | cons x r => rw [Lib.join_length]; simp; omega
theorem amid_size (s note : ByteArray) (k : Nat) : (joinB 10 (amid (spl 10 s) k note)).size = s.size + note.size + 3 := by
  unfold joinB
  rw [Lib.size_eq, ofL_data, amid_data, spl_data]
  have h1 := join_len 10 (cutL 10 s.data.toList) (cutL_ne _ _)
  rw [join_cutL] at h1
  have h2 := join_len 10 ((cutL 10 s.data.toList).take k ++ ([[], 35 :: note.data.toList] ++ (cutL 10 s.data.toList).drop k)) (by simp)
  have h3 : Lib.lens ((cutL 10 s.data.toList).take k) + Lib.lens ((cutL 10 s.data.toList).drop k) = Lib.lens (cutL 10 s.data.toList) := by rw [← lens_app, List.take_append_drop]
  have h4 : Lib.lens [[], 35 :: note.data.toList] = note.data.toList.length + 1 := by simp [Lib.lens]
  have h5 : ((cutL 10 s.data.toList).take k).length + ((cutL 10 s.data.toList).drop k).length = (cutL 10 s.data.toList).length := by rw [← List.length_append, List.take_append_drop]
  rw [lens_app, lens_app, List.length_append, List.length_append, h4] at h2
  rw [Lib.size_eq s, Lib.size_eq note]
  simp only [List.length_cons, List.length_nil] at h2
  omega
theorem no_mem (note : ByteArray) (h : Lib.indexByte note.data.toList 10 < 0) : (10 : UInt8) ∉ note.data.toList := by
  intro hm
  obtain ⟨k, hk, e⟩ := List.mem_iff_getElem.1 hm
  have := Lib.indexByte_ge note.data.toList 10
  exact Lib.indexByte_none (show Lib.indexByte note.data.toList 10 = -1 by omega) k (by rw [List.getElem?_eq_getElem hk, e])
/-- Silent lines that are put into a text change nothing but the number of a line that is none. -/
theorem silents (s note : ByteArray) (k : Nat) (hs : s.size ≤ 4096) (hn : note.size ≤ 4096) (hno : Lib.indexByte note.data.toList 10 < 0) (hk : k ≤ (spl 10 s).length) :
    (parseP (joinB 10 (amid (spl 10 s) k note))).pol = (parseP s).pol ∧ (parseP (joinB 10 (amid (spl 10 s) k note))).names = (parseP s).names ∧
    (parseP (joinB 10 (amid (spl 10 s) k note))).err = (parseP s).err ∧ (parseP (joinB 10 (amid (spl 10 s) k note))).at_ = if k < (parseP s).at_ then (parseP s).at_ + 2 else (parseP s).at_ := by
  have hz := amid_size s note k
  have h1 : parseP s = endP rightN (linesP lineP (spl 10 s) 0 St0) := if_neg (by omega)
  have h2 : parseP (joinB 10 (amid (spl 10 s) k note)) = endP rightN (linesP lineP (spl 10 (joinB 10 (amid (spl 10 s) k note))) 0 St0) := if_neg (by omega)
  have hc : ∀ y ∈ amid (spl 10 s) k note, (10 : UInt8) ∉ y.data.toList := by
    intro y hy
    rcases List.mem_append.1 hy with hy | hy
    · exact spl_clean 10 s y (List.mem_of_mem_take hy)
    · rcases List.mem_append.1 hy with hy | hy
      · rcases List.mem_cons.1 hy with rfl | hy
        · simp [ofL]
        · obtain rfl := List.mem_singleton.1 hy
          unfold hashN
          rw [ofL_data]
          intro h
          rcases List.mem_cons.1 h with h | h
          · exact absurd h (by decide)
          · exact no_mem note hno h
      · exact spl_clean 10 s y (List.mem_of_mem_drop hy)
  rw [h1, h2, spl_joinB 10 _ (by unfold amid; simp) hc, linesP_amid lineP _ _ _ hk]
  cases linesP lineP (spl 10 s) 0 St0 with
  | error n => exact ⟨rfl, rfl, rfl, rfl⟩
  | ok st =>
    refine ⟨rfl, rfl, rfl, ?_⟩
    rw [(endP_ok st).2]
    exact (if_neg (by omega)).symm

theorem at_le (s : ByteArray) : (parseP s).at_ ≤ (spl 10 s).length := by
  by_cases h : 32768 < s.size
  · unfold parseP; rw [if_pos h]; exact Nat.zero_le _
  · have h1 : parseP s = endP rightN (linesP lineP (spl 10 s) 0 St0) := if_neg h
    rw [h1]
    cases hl : linesP lineP (spl 10 s) 0 St0 with
    | error n =>
      obtain ⟨k, hk, hn, _⟩ := linesP_err _ _ _ _ hl
      show n ≤ _
      omega
    | ok st => rw [(endP_ok st).2]; exact Nat.zero_le _
theorem concat_amid (g k : Nat) (L : List ByteArray) (note : ByteArray) (w : World) (hC : Kd.C Kd.string w (some ⟨g, 0, none⟩) L.length L) (hk : k ≤ L.length) (hl : L.length ≤ 32769) :
    Calls Tryd.prog 20 #[.slice (some ⟨w.heap.size + 1, 0, none⟩) 3 3] (((w.alloc (.cells #[.string { data := #[] }, .string (hashN note)] 9)).alloc
      (.cells #[.slice (some ⟨g, 0, none⟩) k L.length, .slice (some ⟨w.heap.size, 0, none⟩) 2 2, .slice (if L.length = k then some ⟨g, 0, none⟩ else some ⟨g, k, none⟩) (L.length - k) (L.length - k)] 28)).drew)
      fun e w' => ∃ A c', e = .returned (.slice A (amid L k note).length c') ∧ Kd.C Kd.string w' A (amid L k note).length (amid L k note) ∧ (amid L k note).length ≤ c' ∧ Below w.heap.size w w' := by
  obtain ⟨W, hW⟩ : ∃ W, W = ((w.alloc (.cells #[.string { data := #[] }, .string (hashN note)] 9)).alloc
      (.cells #[.slice (some ⟨g, 0, none⟩) k L.length, .slice (some ⟨w.heap.size, 0, none⟩) 2 2, .slice (if L.length = k then some ⟨g, 0, none⟩ else some ⟨g, k, none⟩) (L.length - k) (L.length - k)] 28)).drew := ⟨_, rfl⟩
  have hB : Below w.heap.size w W := by rw [hW]; exact below_drew (below_alloc (below_alloc (Below.refl _ _) _) _)
  have b1 : W.heap[w.heap.size]? = some (.cells #[.string { data := #[] }, .string (hashN note)] 9) := by rw [hW]; exact blk_drew (blk_alloc (blk_new _ _) _)
  have b2 : W.heap[w.heap.size + 1]? = some (.cells #[.slice (some ⟨g, 0, none⟩) k L.length, .slice (some ⟨w.heap.size, 0, none⟩) 2 2, .slice (if L.length = k then some ⟨g, 0, none⟩ else some ⟨g, k, none⟩) (L.length - k) (L.length - k)] 28) := by
    rw [hW]; exact blk_drew (blk_new_at (by simp) _)
  have hCW := Kd.C_below hC hB
  rw [← hW]
  clear hW
  have hf : [L.take k, [ofL [], hashN note], L.drop k].flatten = amid L k note := by simp [amid]
  have hln : (amid L k note).length = L.length + 2 := by
    unfold amid
    rw [List.length_append, List.length_append, List.length_take, List.length_drop]
    simp only [List.length_cons, List.length_nil]
    omega
  have h := concat_any (w.heap.size + 1) 3 [L.take k, [ofL [], hashN note], L.drop k] W ?_ (by simp) (by rw [hf, hln]; omega)
  · rw [hf] at h
    refine h.mono ?_
    rintro e w' ⟨A, c', he, hc, hl', hb⟩
    exact ⟨A, c', he, hc, hl', below_then hB hB.size hb⟩
  · intro j hj
    match j, hj with
    | 0, _ =>
      have h1 := Kd.C_take hCW hk
      have hl : (L.take k).length = k := by rw [List.length_take]; omega
      refine ⟨some ⟨g, 0, none⟩, L.length, ?_, h1⟩
      show W.cell? _ = some (.slice _ (L.take k).length _)
      rw [hl]
      exact blk_cell b2 0
    | 1, _ => exact ⟨some ⟨w.heap.size, 0, none⟩, 2, blk_cell b2 1, C_block (l := [ofL [], hashN note]) b1 (by simp)⟩
    | 2, _ =>
      have h1 := Kd.C_drop hCW hk (Nat.le_refl _)
      have hl : (L.drop k).length = L.length - k := List.length_drop
      refine ⟨(if L.length = k then some ⟨g, 0, none⟩ else some ⟨g, k, none⟩), L.length - k, ?_, ?_⟩
      · show W.cell? _ = some (.slice _ (L.drop k).length _)
        rw [hl]
        exact blk_cell b2 2
      · have e : (if L.length = k then some ⟨g, 0, none⟩ else (some ⟨g, 0, none⟩ : Option Addr).map (·.add (k * Kd.string.sz))) = (if L.length = k then some ⟨g, 0, none⟩ else some ⟨g, k, none⟩) := by
          split
          · rfl
          · show some ((⟨g, 0, none⟩ : Addr).add (k * 1)) = _
            rw [add_plain, Nat.mul_one]
        rw [e] at h1
        exact h1
theorem join_amid (A : Option Addr) (c' k : Nat) (s note : ByteArray) (w : World) (hC : Kd.C Kd.string w A (amid (spl 10 s) k note).length (amid (spl 10 s) k note)) (hc : (amid (spl 10 s) k note).length ≤ c') (hs : s.size ≤ 4096) (hn : note.size ≤ 4096) (hl : (amid (spl 10 s) k note).length ≤ 100000) :
    Calls Tryd.prog 18 #[.slice A (amid (spl 10 s) k note).length c', .string ⟨#[10]⟩] w fun e w' => e = .returned (.string (joinB 10 (amid (spl 10 s) k note))) ∧ Below w.heap.size w w' := by
  have hp : 0 < (amid (spl 10 s) k note).length := by unfold amid; simp; omega
  obtain ⟨b, o, rfl, h0⟩ := str_at hC 0 hp
  have hz := amid_size s note k
  refine Tryd.strings_Join b o c' (amid (spl 10 s) k note) ⟨#[10]⟩ w ?_ (World.block_lt_of_cell? _ _ h0) (by omega) hc ?_
  · intro j x hx
    have hj := (List.getElem?_eq_some_iff.1 hx).1
    rw [str_cells hC j hj, rd_getElem _ _ j hj]
    rw [List.getElem?_eq_getElem hj] at hx
    rw [Option.some.inj hx]
  · rw [joinB, Lib.size_eq, ofL_data] at hz
    have e : (ByteArray.mk #[10]).data.toList = [10] := rfl
    rw [e, hz]
    omega
end Go.Proofs.YtaeaakcppheaoaaDoor
