/- What lang.word and lang.number answer: two functions that range over a string. -/
import Derived.Test.YtaeaakcppheaoaaDoorWWords
import Derived.Test.YtaeaakcppheaoaaDoorProg
import Derived.Laws.RangeAny
import Derived.Lib.OthersKept
import Derived.Lib.Strings
import Derived.WalkKit
import Derived.Lib.Hide
import Derived.KernelRfl
namespace Go.Proofs.YtaeaakcppheaoaaDoor
open Go.RowKit

theorem all_take_succ (s : ByteArray) (k : Nat) (h : k < s.size) (p : UInt8 → Bool) (ha : (s.data.toList.take k).all p = true) (hp : p s[k] = true) : (s.data.toList.take (k + 1)).all p = true := by
  rw [List.take_succ_eq_append_getElem (by simpa using h), List.all_append, ha]
  simp only [List.all_cons, List.all_nil, Bool.and_true, Bool.true_and]
  exact hp
theorem all_false (s : ByteArray) (k : Nat) (h : k < s.size) (p : UInt8 → Bool) (hp : ¬ p s[k] = true) : s.data.toList.all p = false := by
  rw [List.all_eq_false]
  exact ⟨s[k], List.getElem_mem (l := s.data.toList) (by simpa using h), hp⟩

def lowB (c : UInt8) : Bool := decide (97 ≤ c.toNat) && decide (c.toNat ≤ 122)
/-- Is a text a name? -/
def wordB (l : List UInt8) : Bool := l.all lowB && !l.isEmpty && decide (l.length ≤ 12)
theorem wordB_of (s : ByteArray) (h : s.data.toList.all lowB = true) : wordB s.data.toList = (!s.toList.isEmpty && decide ((s.size : Int) ≤ 12)) := by
  unfold wordB
  rw [h, Lib.toList_data, Lib.size_eq]
  simp only [Bool.true_and]
  congr 1
  simp; omega
theorem wordB_no (l : List UInt8) (h : l.all lowB = false) : wordB l = false := by
  unfold wordB
  rw [h]; rfl
theorem toList_nil (s : ByteArray) (h : s.toList = []) : s.data.toList = [] := by rw [← Lib.toList_data]; exact h
theorem ret_bool {a b : Bool} (h : a = b) : Ending.returned (.bool a) = .returned (.bool b) := by rw [h]
theorem ret_int {k : IntKind} {a b : Int} (h : a = b) : Ending.returned (.int k a) = .returned (.int k b) := by rw [h]

theorem iter_below (w : World) (s : ByteArray) (pos : Nat) : Below w.heap.size w (w.iter s pos) := (Below.refl _ _).alloc (Nat.le_refl _) _

set_option maxHeartbeats 1000000 in
theorem word_any (s : ByteArray) (w : World) :
    Calls Tryd.prog 36 #[.string s] w fun e w' => e = .returned (.bool (wordB s.data.toList)) ∧ Below w.heap.size w w' := by
  go_enter Tryd.func36, Tryd.ntmps36
  go_wp2
  go_loopw [4] (fun _ wr => ∃ pos : Nat, pos ≤ s.size ∧ wr = w.iter s pos ∧ (s.data.toList.take pos).all lowB = true) (fun _ wr => s.size - wr.iterPos w.heap.size)
  case atStart => exact ⟨0, Nat.zero_le _, rfl, rfl⟩
  case round =>
    obtain ⟨pos, hle, rfl, hall⟩ := hrel
    by_cases hp : pos < s.size
    · by_cases ha : (s[pos]'hp).toNat < 128
      · have hnx : ∀ ty, (Instr.next (.pointer (some ⟨w.heap.size, 0, none⟩)) true ty).run Tryd.prog (w.iter s pos) = _ := fun ty => run_next_ascii w s pos ty hp ha
        by_cases hl : lowB s[pos] = true
        · have hl2 := hl
          simp only [lowB, Bool.and_eq_true, decide_eq_true_eq] at hl2
          obtain ⟨h1, h2⟩ := hl2
          go_wp2
          go_roundw
          case rel => exact ⟨pos + 1, by omega, rfl, all_take_succ s pos hp _ hall hl⟩
          case measure => simp; omega
        · have hno := Lib.hid (wordB_no _ (all_false s pos hp _ hl))
          have hl2 : (s[pos].toNat : Int) < 97 ∨ 122 < (s[pos].toNat : Int) := by
            simp only [lowB, Bool.and_eq_true, decide_eq_true_eq] at hl
            omega
          clear hl
          rcases hl2 with hl2 | hl2
          all_goals
            go_wp2
            all_goals (first | (exfalso; omega) | (go_ret; exact ⟨ret_bool hno.out.symm, iter_below _ _ _⟩))
      · have hnx : ∀ ty, (Instr.next (.pointer (some ⟨w.heap.size, 0, none⟩)) true ty).run Tryd.prog (w.iter s pos) = _ := fun ty => run_next_any w s pos ty hp
        have hno := Lib.hid (wordB_no _ (all_false s pos hp lowB (by simp only [lowB, Bool.and_eq_true, decide_eq_true_eq]; omega)))
        have hd := (decode_high s pos hp (by omega)).1
        go_wp2
        all_goals (first | (exfalso; omega) | (go_ret; exact ⟨ret_bool hno.out.symm, iter_below _ _ _⟩))
    · have hnx : ∀ ty, (Instr.next (.pointer (some ⟨w.heap.size, 0, none⟩)) true ty).run Tryd.prog (w.iter s pos) = _ := fun ty => run_next_end w s pos ty hp
      have hyes := Lib.hid (wordB_of s (by rwa [List.take_of_length_le (by simp; omega)] at hall))
      go_wp2
      · rename_i he
        have h0 := toList_nil s he
        go_ret; exact ⟨ret_bool (by rw [h0]; rfl), iter_below _ _ _⟩
      · go_ret; exact ⟨ret_bool hyes.out.symm, iter_below _ _ _⟩

def digB (c : UInt8) : Bool := decide (48 ≤ c.toNat) && decide (c.toNat ≤ 57)
def valB (l : List UInt8) : Nat := l.foldl (fun n c => 10 * n + (c.toNat - 48)) 0
def formB (l : List UInt8) : Bool := !l.isEmpty && decide (l.length ≤ 4) && !(decide (1 < l.length) && l.head? == some 48)
/-- Is a text a number? -/
def numB (l : List UInt8) : Bool := formB l && l.all digB
/-- What number a text is; 0: it is none. -/
def numV (l : List UInt8) : Nat := if numB l then valB l else 0
theorem valB_snoc (l : List UInt8) (c : UInt8) : valB (l ++ [c]) = 10 * valB l + (c.toNat - 48) := by simp [valB]
theorem valB_lt : ∀ (l : List UInt8), l.all digB = true → valB l < 10 ^ l.length := by
  intro l
  induction h : l.length generalizing l with
  | zero => intro _; rw [List.length_eq_zero_iff.1 h]; decide
  | succ n ih =>
    intro ha
    obtain ⟨m, c, rfl⟩ : ∃ m c, l = m ++ [c] := ⟨l.dropLast, l.getLast (by intro e; simp [e] at h), (List.dropLast_concat_getLast _).symm⟩
    rw [List.all_append] at ha
    simp only [List.all_cons, List.all_nil, Bool.and_true, Bool.and_eq_true] at ha
    have := ih m (by simpa using h) ha.1
    have hc := ha.2
    simp only [digB, Bool.and_eq_true, decide_eq_true_eq] at hc
    rw [valB_snoc, Nat.pow_succ]
    omega
theorem numB_no1 (l : List UInt8) (h : formB l = false) : numB l = false := by unfold numB; rw [h]; rfl
theorem numB_no2 (l : List UInt8) (h : l.all digB = false) : numB l = false := by unfold numB; rw [h]; simp
theorem numV_no (l : List UInt8) (h : numB l = false) : numV l = 0 := by unfold numV; rw [h]; rfl
theorem ret_num {a b : Int} {c d : Bool} (h : a = b) (g : c = d) : Ending.returned (.tuple #[.int .i64 a, .bool c]) = .returned (.tuple #[.int .i64 b, .bool d]) := by rw [h, g]
theorem num_none (l : List UInt8) (h : numB l = false) : Ending.returned (.tuple #[.int .i64 0, .bool false]) = .returned (.tuple #[.int .i64 (numV l : Int), .bool (numB l)]) := by rw [numV_no l h, h]; rfl
theorem num_some (l : List UInt8) (h1 : formB l = true) (h2 : l.all digB = true) (n : Int) (hn : n = (valB l : Int)) : Ending.returned (.tuple #[.int .i64 n, .bool true]) = .returned (.tuple #[.int .i64 (numV l : Int), .bool (numB l)]) := by
  have : numB l = true := by unfold numB; rw [h1, h2]; rfl
  unfold numV; rw [this, if_pos rfl, hn]

theorem take_valB (s : ByteArray) (k : Nat) (h : k < s.size) : valB (s.data.toList.take (k + 1)) = 10 * valB (s.data.toList.take k) + (s[k].toNat - 48) := by
  rw [List.take_succ_eq_append_getElem (by simpa using h), valB_snoc]; rfl

theorem form_hd (s : ByteArray) (h : 0 < s.size) : (s.data.toList.head? == some 48) = ((s[0].toNat : Int) == 48) := by
  have e : s.data.toList.head? = some s[0] := by
    rw [List.head?_eq_getElem?, List.getElem?_eq_getElem (by rw [← Lib.size_eq]; exact h)]; rfl
  rw [e, Bool.eq_iff_iff]
  simp only [beq_iff_eq, Option.some.injEq]
  constructor
  · intro h; rw [h]; rfl
  · intro h; exact UInt8.toNat_inj.1 (by have : (48 : UInt8).toNat = 48 := rfl; omega)
theorem form_emp (s : ByteArray) : s.data.toList.isEmpty = s.toList.isEmpty := by rw [Lib.toList_data]
theorem form_long (s : ByteArray) (h1 : 1 < s.size) : formB s.data.toList = ((!s.toList.isEmpty && decide ((s.size : Int) ≤ 4)) && !((s[0].toNat : Int) == 48)) := by
  unfold formB
  rw [form_hd s (by omega), form_emp, ← Lib.size_eq, decide_eq_true h1, Bool.true_and]
  congr 2
  simp; omega
theorem form_short (s : ByteArray) (h1 : (s.size : Int) ≤ 1) : formB s.data.toList = (!s.toList.isEmpty && decide ((s.size : Int) ≤ 4)) := by
  unfold formB
  rw [form_emp, ← Lib.size_eq, decide_eq_false (show ¬ 1 < s.size by omega), decide_eq_true (show s.size ≤ 4 by omega), decide_eq_true (show (s.size : Int) ≤ 4 by omega)]
  simp

set_option maxHeartbeats 1000000 in
theorem number_any (s : ByteArray) (w : World) :
    Calls Tryd.prog 65 #[.string s] w fun e w' => e = .returned (.tuple #[.int .i64 (numV s.data.toList : Int), .bool (numB s.data.toList)]) ∧ Below w.heap.size w w' := by
  by_cases he : s.toList = []
  · have hf : formB s.data.toList = false := by rw [toList_nil s he]; rfl
    have Hf := Lib.hid hf
    clear hf
    go_enter Tryd.func65, Tryd.ntmps65
    go_wp2
    go_ret2
    exact ⟨num_none _ (numB_no1 _ Hf.out), Below.refl _ _⟩
  have hi : s.toList.isEmpty = false := by cases h : s.toList with | nil => exact absurd h he | cons _ _ => rfl
  by_cases h4 : (4 : Int) < (s.size : Int)
  · have hf : formB s.data.toList = false := by rw [form_long s (by omega), decide_eq_false (show ¬ (s.size : Int) ≤ 4 by omega)]; simp
    have Hf := Lib.hid hf
    clear hf
    go_enter Tryd.func65, Tryd.ntmps65
    go_wp2
    go_ret2
    exact ⟨num_none _ (numB_no1 _ Hf.out), Below.refl _ _⟩
  replace h4 : (s.size : Int) ≤ 4 := by omega
  have hstart : (1 < (s.size : Int) ∧ ∃ h : 0 < s.size, ((s[0].toNat : Int) == 48) = true) ∨ (Hid (formB s.data.toList = true) ∧ (((1 : Int) < (s.size : Int) ∧ ∃ h : 0 < s.size, ((s[0].toNat : Int) == 48) = false) ∨ (s.size : Int) ≤ 1)) := by
    by_cases h1 : (1 : Int) < (s.size : Int)
    · cases h : ((s[0].toNat : Int) == 48) with
      | true => exact .inl ⟨h1, by omega, h⟩
      | false => exact .inr ⟨Lib.hid (by rw [form_long s (by omega), hi, h, decide_eq_true h4]; rfl), .inl ⟨h1, by omega, h⟩⟩
    · exact .inr ⟨Lib.hid (by rw [form_short s (by omega), hi, decide_eq_true h4]; rfl), .inr (by omega)⟩
  rcases hstart with ⟨h1, h0, h48⟩ | ⟨Hf, hstart⟩
  · have hf : formB s.data.toList = false := by rw [form_long s (by omega), h48]; simp
    have Hf := Lib.hid hf
    clear hf
    go_enter Tryd.func65, Tryd.ntmps65
    go_wp2
    go_ret2
    exact ⟨num_none _ (numB_no1 _ Hf.out), Below.refl _ _⟩
  rcases hstart with ⟨h1, h0, h48⟩ | h1
  all_goals
    go_enter Tryd.func65, Tryd.ntmps65
    go_wp2
    go_loopw [4] (fun n wr => ∃ pos : Nat, pos ≤ s.size ∧ wr = w.iter s pos ∧ (s.data.toList.take pos).all digB = true ∧ n = .int .i64 (valB (s.data.toList.take pos) : Int)) (fun _ wr => s.size - wr.iterPos w.heap.size)
    case atStart => exact ⟨0, Nat.zero_le _, rfl, rfl, rfl⟩
    case round =>
      obtain ⟨pos, hle, rfl, hall, rfl⟩ := hrel
      have hlt := valB_lt _ hall
      have hb : valB (s.data.toList.take pos) < 10000 := by
        refine Nat.lt_of_lt_of_le hlt (Nat.le_trans (Nat.pow_le_pow_right (by omega) (show _ ≤ 4 from ?_)) (by omega))
        rw [List.length_take, ← Lib.size_eq]; omega
      clear hlt
      by_cases hp : pos < s.size
      · by_cases ha : (s[pos]'hp).toNat < 128
        · have hnx : ∀ ty, (Instr.next (.pointer (some ⟨w.heap.size, 0, none⟩)) true ty).run Tryd.prog (w.iter s pos) = _ := fun ty => run_next_ascii w s pos ty hp ha
          by_cases hl : digB s[pos] = true
          · have hl2 := hl
            simp only [digB, Bool.and_eq_true, decide_eq_true_eq] at hl2
            obtain ⟨h1, h2⟩ := hl2
            go_wp2
            go_roundw
            case rel => exact ⟨pos + 1, by omega, rfl, all_take_succ s pos hp _ hall hl, by rw [take_valB s pos hp]; go_num⟩
            case measure => simp; omega
          · have hno := Lib.hid (numB_no2 _ (all_false s pos hp _ hl))
            have hl2 : (s[pos].toNat : Int) < 48 ∨ 57 < (s[pos].toNat : Int) := by
              simp only [digB, Bool.and_eq_true, decide_eq_true_eq] at hl
              omega
            clear hl
            rcases hl2 with hl2 | hl2
            all_goals
              go_wp2
              all_goals (first | (exfalso; omega) | (go_ret2; exact ⟨num_none _ hno.out, iter_below _ _ _⟩))
        · have hnx : ∀ ty, (Instr.next (.pointer (some ⟨w.heap.size, 0, none⟩)) true ty).run Tryd.prog (w.iter s pos) = _ := fun ty => run_next_any w s pos ty hp
          have hno := Lib.hid (numB_no2 _ (all_false s pos hp digB (by simp only [digB, Bool.and_eq_true, decide_eq_true_eq]; omega)))
          have hd := (decode_high s pos hp (by omega)).1
          go_wp2
          all_goals (first | (exfalso; omega) | (go_ret2; exact ⟨num_none _ hno.out, iter_below _ _ _⟩))
      · have hnx : ∀ ty, (Instr.next (.pointer (some ⟨w.heap.size, 0, none⟩)) true ty).run Tryd.prog (w.iter s pos) = _ := fun ty => run_next_end w s pos ty hp
        have hend : s.data.toList.take pos = s.data.toList := List.take_of_length_le (by rw [← Lib.size_eq]; omega)
        have Hend := Lib.hid hend
        clear hend
        go_wp2
        go_ret2
        exact ⟨num_some _ Hf.out (by rw [← Hend.out]; exact hall) _ (by rw [Hend.out]), iter_below _ _ _⟩
end Go.Proofs.YtaeaakcppheaoaaDoor
