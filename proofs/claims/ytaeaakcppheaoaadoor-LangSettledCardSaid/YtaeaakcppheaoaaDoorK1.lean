/- What the reference's Word, number, place, At and Check answer: what the program's do. What the reference's At and split answer. What the reference's split answers: the parts between the bytes c, as the program's Split. What the reference's plain and secret answer. Of secrets as texts: what the reference's meant and words tell is what the program's meant tells. What the reference's meant and words answer. What the reference's words answer. -/
import Derived.Test.YtaeaakcppheaoaaDoorHsame
import Derived.Test.YtaeaakcppheaoaaDoorHx
namespace Go.Proofs.YtaeaakcppheaoaaDoor
open Go.RowKit Go.Proofs.YtaeaakcppheaoaaDoorW.PrintWords Go.Maps

theorem all_take_step (s : ByteArray) (k : Nat) (h : k < s.size) (p : UInt8 → Bool) : (s.data.toList.take (k + 1)).all p = ((s.data.toList.take k).all p && p s[k]) := by
  rw [List.take_succ_eq_append_getElem (by simpa using h), List.all_append]
  simp only [List.all_cons, List.all_nil, Bool.and_true]
  rfl
def okW (s : ByteArray) : Bool := decide (1 ≤ s.size) && decide (s.size ≤ 12)
theorem wordB_okW (s : ByteArray) : wordB s.data.toList = (okW s && s.data.toList.all lowB) := by
  unfold wordB okW
  rw [Lib.size_eq]
  cases h : s.data.toList with
  | nil => simp
  | cons a l => simp [Bool.and_comm]

set_option maxHeartbeats 1000000 in
theorem refword_any (s : ByteArray) (w : World) (hs : s.size ≤ 32768) :
    Calls Tryd.prog 39 #[.string s] w fun e w' => e = .returned (.bool (wordB s.data.toList)) ∧ Below w.heap.size w w' := by
  have HW := Aside0.mk (wordB_okW s)
  have hsi : (s.size : Int) ≤ 32768 := by omega
  have hstart : ((s.size : Int) < 1 ∧ Aside0 (okW s = false)) ∨ ((1 : Int) ≤ s.size ∧ (s.size : Int) ≤ 12 ∧ Aside0 (okW s = true)) ∨ ((1 : Int) ≤ s.size ∧ (12 : Int) < s.size ∧ Aside0 (okW s = false)) := by
    by_cases h1 : 1 ≤ s.size
    · by_cases h2 : s.size ≤ 12
      · exact .inr (.inl ⟨by omega, by omega, ⟨by unfold okW; rw [decide_eq_true h1, decide_eq_true h2]; rfl⟩⟩)
      · exact .inr (.inr ⟨by omega, by omega, ⟨by unfold okW; rw [decide_eq_false h2]; simp⟩⟩)
    · exact .inl ⟨by omega, ⟨by unfold okW; rw [decide_eq_false h1]; rfl⟩⟩
  rcases hstart with ⟨h1, HO⟩ | ⟨h1, h2, HO⟩ | ⟨h1, h2, HO⟩
  all_goals
    go_enter Tryd.func39, Tryd.ntmps39
    go_wp2
    go_loop [15, 3] (fun i b => ∃ k : Nat, k ≤ s.size ∧ i = .int .i64 k ∧ ∃ B : Bool, b = .bool B ∧ Aside0 (B = (okW s && (s.data.toList.take k).all lowB))) (fun i _ => s.size - (intOf i).toNat)
    case atStart => exact ⟨0, Nat.zero_le _, rfl, _, rfl, ⟨by rw [HO.out]; first | rfl | (simp; omega)⟩⟩
    case round =>
      obtain ⟨k, hk, rfl, B, rfl, HBk⟩ := hrel
      by_cases hlt : k < s.size
      · have HS := Aside0.mk (all_take_step s k hlt lowB)
        cases B with
        | false =>
          have HN := Aside0.mk (show false = (okW s && (s.data.toList.take (k + 1)).all lowB) by rw [HS.out, ← Bool.and_assoc, ← HBk.out]; rfl)
          go_wp2
          go_round
          case rel => exact ⟨k + 1, by omega, by go_num, false, rfl, HN⟩
          case measure => simp [intOf]; omega
        | true =>
          by_cases h97 : (97 : Int) ≤ (s[k].toNat : Int)
          · by_cases h122 : (s[k].toNat : Int) ≤ 122
            · have HN := Aside0.mk (show true = (okW s && (s.data.toList.take (k + 1)).all lowB) by
                rw [HS.out, ← Bool.and_assoc, ← HBk.out, lowB, decide_eq_true (show 97 ≤ s[k].toNat by omega), decide_eq_true (show s[k].toNat ≤ 122 by omega)]; rfl)
              go_wp2
              go_round
              case rel => exact ⟨k + 1, by omega, by go_num, true, by go_num, HN⟩
              case measure => simp [intOf]; omega
            · have HN := Aside0.mk (show false = (okW s && (s.data.toList.take (k + 1)).all lowB) by
                rw [HS.out, ← Bool.and_assoc, ← HBk.out, lowB, decide_eq_false (show ¬ s[k].toNat ≤ 122 by omega)]; simp)
              go_wp2
              go_round
              case rel => exact ⟨k + 1, by omega, by go_num, false, by go_num, HN⟩
              case measure => simp [intOf]; omega
          · have HN := Aside0.mk (show false = (okW s && (s.data.toList.take (k + 1)).all lowB) by
              rw [HS.out, ← Bool.and_assoc, ← HBk.out, lowB, decide_eq_false (show ¬ 97 ≤ s[k].toNat by omega)]; simp)
            go_wp2
            go_round
            case rel => exact ⟨k + 1, by omega, by go_num, false, by go_num, HN⟩
            case measure => simp [intOf]; omega
      · have HF := Aside0.mk (show wordB s.data.toList = B by
          rw [HW.out, HBk.out, List.take_of_length_le (by rw [← Lib.size_eq]; omega)])
        go_wp2
        go_ret
        exact ⟨by rw [HF.out]; rfl, Below.refl _ _⟩

/-- The number that a text is; -1: it is none. -/
def numI (l : List UInt8) : Int := if numB l then (numV l : Int) else -1
theorem numI_no {l : List UInt8} (h : numB l = false) : numI l = -1 := by unfold numI; rw [h]; rfl
theorem numI_yes {l : List UInt8} (h1 : formB l = true) (h2 : l.all digB = true) : numI l = (valB l : Int) := by
  have : numB l = true := by unfold numB; rw [h1, h2]; rfl
  unfold numI numV
  rw [this, if_pos rfl, if_pos rfl]
theorem emp_of (s : ByteArray) (h : 1 ≤ s.size) : s.toList.isEmpty = false := by
  cases h' : s.toList with
  | nil => rw [Lib.size_eq, toList_nil s h'] at h; exact absurd h (by decide)
  | cons _ _ => rfl

set_option maxHeartbeats 1000000 in
theorem refnumber_any (s : ByteArray) (w : World) :
    Calls Tryd.prog 49 #[.string s] w fun e w' => e = .returned (.int .i64 (numI s.data.toList)) ∧ w = w' := by
  by_cases h1 : s.size < 1
  · have he : s.data.toList = [] := List.eq_nil_of_length_eq_zero (by rw [← Lib.size_eq]; omega)
    have Hf := Aside0.mk (numI_no (numB_no1 s.data.toList (by rw [he]; rfl)))
    have h1i : (s.size : Int) < 1 := by omega
    go_enter Tryd.func49, Tryd.ntmps49
    go_wp2
    go_ret
    exact ⟨by rw [Hf.out]; rfl, rfl⟩
  have h1i : (1 : Int) ≤ s.size := by omega
  have hi := emp_of s (by omega)
  by_cases h4 : (4 : Int) < (s.size : Int)
  · have Hf := Aside0.mk (numI_no (numB_no1 s.data.toList (by rw [form_long s (by omega), decide_eq_false (show ¬ (s.size : Int) ≤ 4 by omega)]; simp)))
    clear hi
    go_enter Tryd.func49, Tryd.ntmps49
    go_wp2
    go_ret
    exact ⟨by rw [Hf.out]; rfl, rfl⟩
  replace h4 : (s.size : Int) ≤ 4 := by omega
  have hstart : (1 < (s.size : Int) ∧ ∃ h : 0 < s.size, ((s[0].toNat : Int) == 48) = true) ∨ (Aside0 (formB s.data.toList = true) ∧ (((1 : Int) < (s.size : Int) ∧ ∃ h : 0 < s.size, ((s[0].toNat : Int) == 48) = false) ∨ (s.size : Int) ≤ 1)) := by
    by_cases h1 : (1 : Int) < (s.size : Int)
    · cases h : ((s[0].toNat : Int) == 48) with
      | true => exact .inl ⟨h1, by omega, h⟩
      | false => exact .inr ⟨⟨by rw [form_long s (by omega), hi, h, decide_eq_true h4]; rfl⟩, .inl ⟨h1, by omega, h⟩⟩
    · exact .inr ⟨⟨by rw [form_short s (by omega), hi, decide_eq_true h4]; rfl⟩, .inr (by omega)⟩
  clear hi
  rcases hstart with ⟨h1, h0, h48⟩ | ⟨Hf, hstart⟩
  · have Hf := Aside0.mk (numI_no (numB_no1 s.data.toList (by rw [form_long s (by omega), h48]; simp)))
    go_enter Tryd.func49, Tryd.ntmps49
    go_wp2
    go_ret
    exact ⟨by rw [Hf.out]; rfl, rfl⟩
  rcases hstart with ⟨h1, h0, h48⟩ | h1
  all_goals
    go_enter Tryd.func49, Tryd.ntmps49
    go_wp2
    go_loop [25, 3] (fun i n => ∃ k : Nat, k ≤ s.size ∧ i = .int .i64 k ∧ Aside0 ((s.data.toList.take k).all digB = true) ∧ ∃ m : Nat, n = .int .i64 m ∧ Aside0 (m = valB (s.data.toList.take k))) (fun i _ => s.size - (intOf i).toNat)
    case atStart => exact ⟨0, Nat.zero_le _, rfl, ⟨rfl⟩, 0, rfl, ⟨rfl⟩⟩
    case round =>
      obtain ⟨k, hk, rfl, hall, m, rfl, hm⟩ := hrel
      have hb : m < 10000 := by
        rw [hm.out]
        refine Nat.lt_of_lt_of_le (valB_lt _ hall.out) (Nat.le_trans (Nat.pow_le_pow_right (by omega) (show _ ≤ 4 from ?_)) (by omega))
        rw [List.length_take, ← Lib.size_eq]; omega
      by_cases hlt : k < s.size
      · by_cases hl : digB s[k] = true
        · have HA := Aside0.mk (all_take_succ s k hlt _ hall.out hl)
          have hl2 := hl
          simp only [digB, Bool.and_eq_true, decide_eq_true_eq] at hl2
          obtain ⟨d1, d2⟩ := hl2
          have HV := Aside0.mk (take_valB s k hlt)
          obtain ⟨d, hd⟩ : ∃ d : Nat, s[k].toNat = 48 + d := ⟨s[k].toNat - 48, by omega⟩
          have hV : 10 * m + d = valB (s.data.toList.take (k + 1)) := by rw [HV.out, hm.out]; omega
          have HV2 := Aside0.mk hV
          have d1i : (48 : Int) ≤ (s[k].toNat : Int) := by omega
          have d2i : (s[k].toNat : Int) ≤ 57 := by omega
          have HD := Aside0.mk hd
          clear hl d1 d2 hV hd
          go_wp2
          go_round
          case rel => exact ⟨k + 1, by omega, by go_num, HA, 10 * m + d, by have := HD.out; go_num, HV2⟩
          case measure => simp [intOf]; omega
        · have Hno := Aside0.mk (numI_no (numB_no2 _ (all_false s k hlt _ hl)))
          have hl2 : (s[k].toNat : Int) < 48 ∨ ((48 : Int) ≤ (s[k].toNat : Int) ∧ 57 < (s[k].toNat : Int)) := by
            simp only [digB, Bool.and_eq_true, decide_eq_true_eq] at hl
            omega
          clear hl
          rcases hl2 with hl2 | ⟨hl1, hl2⟩
          all_goals
            go_wp2
            go_ret
            exact ⟨by rw [Hno.out]; rfl, rfl⟩
      · have hend : s.data.toList.take k = s.data.toList := List.take_of_length_le (by rw [← Lib.size_eq]; omega)
        have Hend := Aside0.mk (show numI s.data.toList = (m : Int) by rw [numI_yes Hf.out (by rw [← hend]; exact hall.out), hm.out, hend])
        clear hend
        go_wp2
        go_ret
        exact ⟨by rw [Hend.out]; rfl, rfl⟩

set_option maxHeartbeats 1000000 in
theorem place_any (g c : Nat) (A : Option Addr) (l : List ByteArray) (s : ByteArray) (w : World) (hg : w.cell? ⟨g, 3, none⟩ = some (.slice A l.length c)) (hr : Kd.C Kd.string w A l.length l) :
    Calls Tryd.prog 40 #[.pointer (some ⟨g, 0, none⟩), .string s] w fun e w' => e = .returned (.int .i64 (idxI l s)) ∧ w = w' := by
  have HR := Aside0.mk hr
  have hm := C_max hr
  clear hr
  go_enter Tryd.func40, Tryd.ntmps40
  go_wp2
  go_loop [12] (fun i => ∃ k : Nat, k ≤ l.length ∧ i = .int .i64 k ∧ Aside0 (∀ j, (hj : j < k) → (hl : j < l.length) → l[j] ≠ s)) (fun i => l.length - (intOf i).toNat)
  case atStart => exact ⟨0, Nat.zero_le _, rfl, ⟨fun j hj => absurd hj (Nat.not_lt_zero _)⟩⟩
  case round =>
    obtain ⟨k, hk, rfl, hno⟩ := hrel
    by_cases hlt : k < l.length
    · obtain ⟨b, o, rfl, hc⟩ := str_at HR.out k hlt
      cases he : (l[k].toList == s.toList) with
      | true =>
        have hx := Lib.hid (idxI_hit l s k hlt (of_decide_eq_true ((bytes_eq _ _).symm.trans he)) (fun j hj => hno.out j hj (by omega)))
        go_wp2
        go_ret
        exact ⟨ret_int hx.out.symm, rfl⟩
      | false =>
        have hx := Lib.hid (show l[k] ≠ s from fun h => by rw [h, beq_self_eq_true] at he; exact absurd he (by decide))
        go_wp2
        go_round
        case rel => exact ⟨k + 1, by omega, by go_num, ⟨fun j hj hl => by
          by_cases hjk : j = k
          · subst hjk; exact hx.out
          · exact hno.out j (by omega) hl⟩⟩
        case measure => simp [intOf]; omega
    · have hx := Lib.hid (idxI_miss l s (fun j hj => hno.out j (by omega) hj))
      go_wp2
      go_ret
      exact ⟨ret_int hx.out.symm, rfl⟩

theorem refcheck_any (x : Lab) (w : World) :
    Calls Tryd.prog 51 #[.agg #[.int .i64 x.lev, .int .u32 x.com]] w fun e w' => e = .returned (.int .i64 (checkN x)) ∧ Below w.heap.size w w' := by
  have hB := below_alloc (Below.refl _ w) (.cells #[.int .i64 x.lev, .int .u32 x.com] 66)
  have HB := Aside0.mk hB
  clear hB
  by_cases h0 : 0 ≤ x.lev
  · by_cases h1 : x.lev ≤ 15
    · have HC := Aside0.mk (show checkN x = 0 by unfold checkN; rw [if_neg (by omega)])
      go_enter Tryd.func51, Tryd.ntmps51
      go_wp2
      go_ret
      exact ⟨by rw [HC.out]; rfl, HB.out⟩
    · have HC := Aside0.mk (show checkN x = 10 by unfold checkN; rw [if_pos (by omega)])
      replace h1 : 15 < x.lev := by omega
      go_enter Tryd.func51, Tryd.ntmps51
      go_wp2
      go_ret
      exact ⟨by rw [HC.out]; rfl, HB.out⟩
  · have HC := Aside0.mk (show checkN x = 10 by unfold checkN; rw [if_pos (by omega)])
    replace h0 : x.lev < 0 := by omega
    go_enter Tryd.func51, Tryd.ntmps51
    go_wp2
    go_ret
    exact ⟨by rw [HC.out]; rfl, HB.out⟩
end Go.Proofs.YtaeaakcppheaoaaDoor
namespace Go.Proofs.YtaeaakcppheaoaaDoor
open Go.RowKit Go.Proofs.YtaeaakcppheaoaaDoorW.PrintWords Go.Maps

def atI (l : List Lab) (x : Lab) : Int := if x ∈ l then idxI l x else 0
theorem atI_hit {l : List Lab} {x : Lab} (k : Nat) (h : idxI l x = k) : atI l x = k ∧ decide (x ∈ l) = true := by
  have : x ∈ l := (idxI_ge l x).1 (by omega)
  exact ⟨by unfold atI; rw [if_pos this, h], decide_eq_true this⟩
theorem atI_miss {l : List Lab} {x : Lab} (h : idxI l x = -1) : atI l x = 0 ∧ decide (x ∈ l) = false := by
  have : x ∉ l := fun hm => by have := (idxI_ge l x).2 hm; omega
  exact ⟨by unfold atI; rw [if_neg this], decide_eq_false this⟩
section
attribute [local go_sem high] eqLab
set_option maxHeartbeats 1000000 in
theorem at_any (A A1 A2 : Option Addr) (c n1 c1 n2 c2 : Nat) (l : List Lab) (x : Lab) (w : World) (hr : Kd.C kLab w A l.length l) :
    Calls Tryd.prog 50 #[.agg #[.slice A l.length c, .slice A1 n1 c1, .slice A2 n2 c2], .agg #[.int .i64 x.lev, .int .u32 x.com]] w
      fun e w' => e = .returned (.tuple #[.int .i64 (atI l x), .bool (decide (x ∈ l))]) ∧ Below w.heap.size w w' := by
  have HR := Aside0.mk hr
  have hm := C_max hr
  clear hr
  go_enter Tryd.func50, Tryd.ntmps50
  go_wp2
  go_loopw [10] (fun i wr => ∃ k : Nat, k ≤ l.length ∧ i = .int .i64 k ∧ Aside0 (∀ j, (hj : j < k) → (hl : j < l.length) → l[j] ≠ x) ∧ Aside0 (wr.heap[w.heap.size]? = some (.cells #[.slice A l.length c, .slice A1 n1 c1, .slice A2 n2 c2] 27 (0, 0))) ∧
    Aside0 (wr.heap[w.heap.size + 1]? = some (.cells #[.int .i64 x.lev, .int .u32 x.com] 66 (0, 0))) ∧ Aside0 (Below w.heap.size w wr)) (fun i _ => l.length - (intOf i).toNat)
  case atStart => exact ⟨0, Nat.zero_le _, rfl, ⟨fun j hj => absurd hj (Nat.not_lt_zero _)⟩, ⟨blk_alloc (blk_new _ _) _⟩, ⟨blk_new_at (by simp) _⟩, ⟨below_alloc (below_alloc (Below.refl _ _) _) _⟩⟩
  case round =>
    obtain ⟨k, hk, rfl, hno, hx0, hx1, HB⟩ := hrel
    have r00 := blk_cell hx0.out 0
    have hb0 := blk_cell hx1.out 0
    have hb1 := blk_cell hx1.out 1
    by_cases hlt : k < l.length
    · obtain ⟨b, o, rfl, hc0, hc1⟩ := lab_at (Kd.C_below HR.out HB.out) k hlt
      cases he : (l[k].lev == x.lev && (l[k].com == x.com)) with
      | true =>
        have hx := idxI_hit l x k hlt (of_decide_eq_true ((lab_eq _ _).symm.trans he)) (fun j hj => hno.out j hj (by omega))
        have HX := Aside0.mk (atI_hit k hx)
        clear hx
        go_wp2
        go_quiet (fail)
        go_wp2
        go_ret2
        exact ⟨by rw [HX.out.1, HX.out.2]; rfl, pw_below_drewN HB.out _⟩
      | false =>
        have hx := Lib.hid (show l[k] ≠ x from fun h => by rw [lab_eq, h, decide_eq_true rfl] at he; exact absurd he (by decide))
        go_wp2
        go_quiet (fail)
        go_wp2
        go_roundw
        case rel => exact ⟨k + 1, by omega, by go_num, ⟨fun j hj hl => by
          by_cases hjk : j = k
          · subst hjk; exact hx.out
          · exact hno.out j (by omega) hl⟩, ⟨blk_drewN hx0.out _⟩, ⟨blk_drewN hx1.out _⟩, ⟨pw_below_drewN HB.out _⟩⟩
        case measure => simp [intOf]; omega
    · have hx := idxI_miss l x (fun j hj => hno.out j (by omega) hj)
      have HX := Aside0.mk (atI_miss hx)
      clear hx
      go_wp2
      go_ret2
      exact ⟨by rw [HX.out.1, HX.out.2]; rfl, HB.out⟩
end

theorem cutL_snoc (c b : UInt8) (l : List UInt8) : cutL c (l ++ [b]) = if b = c then cutL c l ++ [[]] else (cutL c l).dropLast ++ [(cutL c l).getLastD [] ++ [b]] := by
  induction l with
  | nil =>
    show cutL c [b] = _
    rw [cutL_step]
    by_cases h : b = c
    · rw [if_pos h, if_pos h]; rfl
    · rw [if_neg h, if_neg h]; rfl
  | cons x l ih =>
    rw [List.cons_append, cutL_step, ih, cutL_step c x l]
    cases hc : cutL c l with
    | nil => exact absurd hc (cutL_ne c l)
    | cons hd t =>
      by_cases hx : x = c
      · by_cases h : b = c
        · simp [hx, h]
        · cases t <;> simp [hx, h]
      · by_cases h : b = c
        · simp [hx, h]
        · cases t <;> simp [hx, h]
end Go.Proofs.YtaeaakcppheaoaaDoor
namespace Go.Proofs.YtaeaakcppheaoaaDoor
open Go.RowKit Go.Proofs.YtaeaakcppheaoaaDoorW.PrintWords Go.Maps

theorem R_fresh (w : World) (x : ByteArray) : Kd.R Kd.string 9 (w.alloc (.cells #[.string x] 9)) w.heap.size (fun _ => True) (.slice (some ⟨w.heap.size, 0, none⟩) 1 1) [x] := by
  refine ⟨fun _ _ => trivial, [.string x], ?_, Reps.one rfl (Reps.none _ _)⟩
  have h2 := World.ownsRow_lit (base := w.heap.size) (e := 9) (size := 1) w #[.string x] 1 (Nat.le_refl _) (by decide) rfl
  have h3 : (w.alloc (.cells #[.string x] 9)).ownsRow w.heap.size 9 1 (.slice (some ⟨w.heap.size, 0, none⟩) 1 1) 1 [.string x] := by simpa using h2
  exact h3
def byteS (s : ByteArray) (i : Int) : ByteArray := s.extract i.toNat (i + 1).toNat
theorem byteS_size (s : ByteArray) (i : Int) (h : 0 ≤ i) : (byteS s i).size ≤ 1 := by
  unfold byteS
  rw [ByteArray.size_extract]
  omega
theorem byteS_cut (w : World) (s : ByteArray) (i : Int) (h0 : 0 ≤ i) (h1 : i + 1 ≤ s.size) :
    (Instr.slice 9 (.string s) (some (.int .i64 i)) (some (.int .i64 (i + 1))) none).run Tryd.prog w = .ok (.string (byteS s i)) w :=
  run_slice_string w 9 s .i64 .i64 i (i + 1) Tryd.underlying9 h0 (by omega) h1
theorem byteS_add (w : World) (a s : ByteArray) (i : Int) (h0 : 0 ≤ i) (h : a.size ≤ 32768) : (Op.stringOp .add a (byteS s i)).run Tryd.prog w = .ok (.string (a ++ byteS s i)) w :=
  run_string_add_sum w _ _ (by have := byteS_size s i h0; omega)
theorem byteS_at (s : ByteArray) (k : Nat) (h : k < s.size) (a : List UInt8) : ofL a ++ byteS s k = ofL (a ++ [s[k]]) := by
  have e : byteS s k = ofL [s[k]] := by
    unfold byteS ofL
    obtain ⟨⟨l⟩⟩ := s
    rw [show ((k : Int) + 1).toNat = k + 1 by omega, Int.toNat_natCast, ByteArray.extract_mk]
    have hk : k < l.length := h
    have : (l.drop k).take (k + 1 - k) = [l[k]] := by
      rw [show k + 1 - k = 1 by omega, List.drop_eq_getElem_cons hk]; rfl
    rw [this]; rfl
  rw [e]
  exact ByteArray.mk_append_mk a [s[k]]
/-- The parts of a text's first k bytes. -/
def splT (c : UInt8) (s : ByteArray) (k : Nat) : List ByteArray := (cutL c (s.data.toList.take k)).map ofL
theorem splT_step (c : UInt8) (s : ByteArray) (k : Nat) (h : k < s.size) : splT c s (k + 1) = if s[k] = c then splT c s k ++ [ofL []] else (splT c s k).dropLast ++ [ofL ((cutL c (s.data.toList.take k)).getLastD [] ++ [s[k]])] := by
  unfold splT
  have e : s.data.toList.take (k + 1) = s.data.toList.take k ++ [s[k]] := List.take_succ_eq_append_getElem (by simpa using h)
  rw [e, cutL_snoc]
  split
  · rw [List.map_append]; rfl
  · rw [List.map_append, List.map_dropLast]; rfl
theorem splT_len (c : UInt8) (s : ByteArray) (k : Nat) : 0 < (splT c s k).length ∧ (splT c s k).length ≤ k + 1 := by
  unfold splT
  rw [List.length_map, cutL_length]
  have := List.count_le_length (a := c) (l := s.data.toList.take k)
  rw [List.length_take] at this
  omega
theorem splT_last (c : UInt8) (s : ByteArray) (k m : Nat) (hm : (splT c s k).length = m + 1) : (splT c s k)[m]? = some (ofL ((cutL c (s.data.toList.take k)).getLastD [])) := by
  unfold splT at hm ⊢
  rw [List.length_map] at hm
  rw [List.getElem?_map]
  generalize cutL c (s.data.toList.take k) = l at hm
  have e : l[m]? = some (l.getLastD []) := by
    rw [List.getLastD_eq_getLast?, List.getLast?_eq_getElem?, hm, Nat.add_sub_cancel, List.getElem?_eq_getElem (show m < l.length by omega)]; rfl
  rw [e]; rfl
theorem set_last {α : Type} (l : List α) (m : Nat) (x : α) (hm : l.length = m + 1) : l.set m x = l.dropLast ++ [x] := by
  have h : l ≠ [] := by intro h; rw [h] at hm; cases hm
  have e := List.dropLast_concat_getLast h
  have hd : l.dropLast.length = m := by rw [List.length_dropLast, hm]; rfl
  rw [← e, List.set_append_right m x (by omega), hd, Nat.sub_self]
  simp

section
attribute [local go_sem high] byteS_cut byteS_add
set_option maxRecDepth 100000 in
set_option maxHeartbeats 4000000 in
theorem refsplit_any (s : ByteArray) (c : UInt8) (cI : Int) (w : World) (hs : s.size ≤ 32768) (hcI : cI = (c.toNat : Int)) :
    Calls Tryd.prog 26 #[.string s, .int .u8 cI] w fun e w' => ∃ A cap, e = .returned (.slice A (spl c s).length cap) ∧ Kd.C Kd.string w' A (spl c s).length (spl c s) ∧ Below w.heap.size w w' := by
  have hsi : (s.size : Int) ≤ 32768 := by omega
  have HCI := Aside0.mk hcI
  clear hcI
  go_enter Tryd.func26, Tryd.ntmps26
  go_wp2
  go_loopw [10, 5] (fun i v wr => ∃ k : Nat, k ≤ s.size ∧ i = .int .i64 k ∧ ∃ g m cap : Nat, v = .slice (some ⟨g, 0, none⟩) (m + 1) cap ∧ Aside0 ((splT c s k).length = m + 1) ∧ Aside0 (Kd.R Kd.string 9 wr w.heap.size (fun _ => True) (.slice (some ⟨g, 0, none⟩) (m + 1) cap) (splT c s k)) ∧ Aside0 (Below w.heap.size w wr)) (fun i _ _ => s.size - (intOf i).toNat)
  case atStart => exact ⟨0, Nat.zero_le _, rfl, w.heap.size, 0, 1, rfl, ⟨rfl⟩, ⟨R_fresh w _⟩, ⟨below_alloc (Below.refl _ _) _⟩⟩
  case round =>
    obtain ⟨k, hk, rfl, g, m, cap, rfl, hm, HR, HB⟩ := hrel
    by_cases hlt : k < s.size
    · have HS := Aside0.mk (splT_step c s k hlt)
      have hlen := splT_len c s k
      have hmb : m ≤ 32768 := by have := hm.out; omega
      by_cases hb : s[k] = c
      · have hbi : ((s[k].toNat : Int) == cI) = true := by rw [HCI.out, hb]; exact beq_self_eq_true _
        have HX := Aside0.mk (show splT c s (k + 1) = splT c s k ++ [ofL []] by rw [HS.out, if_pos hb])
        clear HS hlen hb
        have hRm := hm.out
        have HRA := Aside0.mk (Kd.R_alloc HR.out (.cells #[.string { data := #[] }] 9))
        have HBA := Aside0.mk (below_alloc HB.out (.cells #[.string { data := #[] }] 9))
        go_wp2_with ((at_builtin; refine R_lies_plain Kd.string (by rfl) _ _ 28 9 (.string ⟨#[]⟩) 16 (by rfl) Tryd.underlying28 info9 rfl (by decide) w.heap.size (.slice (some ⟨g, 0, none⟩) (m + 1) cap) (splT c s k) (ofL []) [.string ⟨#[]⟩] wr.heap.size _ (by rfl) (by rfl) (blk_new _ _) rfl HRA.out HBA.out.size (by rw [hRm]; omega) (by rw [hRm]; unfold maxLen; omega) (wr.heap.size + 1) (by simp) ?_; intro gn capn w5 hR5 hgrow hat hlt5; rw [hRm] at hR5 ⊢; have HR5 := Aside0.mk hR5; have HB5 := Aside0.mk (pw_below_grown HBA.out _ HBA.out.size hgrow (Kd.R_base HRA.out)); clear hR5 hgrow hat hlt5))
        go_roundw
        case rel => exact ⟨k + 1, by omega, by go_num, gn, m + 1, capn, rfl, ⟨by rw [HX.out, List.length_append, hm.out]; rfl⟩, ⟨by rw [HX.out]; exact HR5.out⟩, HB5⟩
        case measure => simp [intOf]; omega
      · have hbi : ((s[k].toNat : Int) == cI) = false := by
          rw [HCI.out, beq_eq_false_iff_ne]
          intro h
          exact hb (UInt8.toNat_inj.1 (by omega))
        have hget := splT_last c s k m hm.out
        obtain ⟨x, hx⟩ : ∃ x, x = ofL ((cutL c (s.data.toList.take k)).getLastD []) := ⟨_, rfl⟩
        have HX := Aside0.mk (show splT c s (k + 1) = (splT c s k).set m (x ++ byteS s k) by
          rw [HS.out, if_neg hb, set_last _ m _ hm.out, hx, byteS_at s k hlt])
        have hxs : x.size ≤ 32768 := by
          rw [hx, Lib.size_eq, ofL_data]
          have h1 : (cutL c (s.data.toList.take k)).getLastD [] ∈ cutL c (s.data.toList.take k) := by
            rw [List.getLastD_eq_getLast?, List.getLast?_eq_some_getLast (cutL_ne c _)]
            exact List.getLast_mem _
          have h2 := cutL_sum c _ _ h1
          rw [List.length_take] at h2
          omega
        rw [← hx] at hget
        have hR' := HR.out
        rw [← hm.out] at hR'
        have hcell := Kd.R_cell ByteArray.empty hR' (m : Int) (by omega) (by have := hm.out; omega)
        have hput := Kd.R_put hR' (m : Int) (x ++ byteS s k)
        have hgB := Kd.R_base hR' g rfl
        rw [hm.out] at hput
        rw [Int.toNat_natCast] at hcell hput
        have hrd : rdOf ByteArray.empty (splT c s k) (m : Int) = x := by
          unfold rdOf
          rw [Int.toNat_natCast, List.getD, hget]; rfl
        rw [hrd] at hcell
        obtain ⟨hc1, hc2⟩ := hcell
        obtain ⟨hp1, hp2⟩ := hput
        have HP1 := Aside0.mk hp1
        have HB5 := Aside0.mk (HB.out.setCell (p := ⟨g, m, none⟩) hgB (.string (x ++ byteS s k)))
        have hk0 : (0 : Int) ≤ k := by omega
        have hk1 : (k : Int) + 1 ≤ s.size := by omega
        have hm0 : (m : Int) ≤ 32768 := by omega
        clear HS hlen hb hget hx hR' hgB hrd hp1 hp2
        go_wp2
        go_region
        all_goals
          go_wp2
          go_roundw
          case rel => exact ⟨k + 1, by omega, by go_num, g, m, cap, rfl, ⟨by rw [HX.out, List.length_set, hm.out]⟩, ⟨by rw [HX.out]; exact Kd.R_drew HP1.out⟩, ⟨below_drew HB5.out⟩⟩
          case measure => simp [intOf]; omega
    · have he : splT c s k = spl c s := by unfold splT spl; rw [List.take_of_length_le (by rw [← Lib.size_eq]; omega)]
      have hR' := HR.out
      have hm' := hm.out
      rw [he] at hR' hm'
      obtain ⟨A3, c3, e3, hl3, hC3⟩ := Kd.R_reads hR'
      rw [hm'] at e3
      injection e3 with e4 e5 e6
      subst e4 e6
      have HC3 := Aside0.mk hC3
      have HM := Aside0.mk hm'
      clear hR' hC3 he hm'
      go_wp2
      go_ret
      exact ⟨some ⟨g, 0, none⟩, ⟨cap, by rw [HM.out]; rfl⟩, HC3.out, HB.out⟩
end
end Go.Proofs.YtaeaakcppheaoaaDoor
namespace Go.Proofs.YtaeaakcppheaoaaDoor
open Go.RowKit Go.Proofs.YtaeaakcppheaoaaDoorW.PrintWords Go.Maps

theorem plainB_int (c : Nat) (n : Int) (h : (c : Int) = n) : plainB c = ((decide (97 ≤ n) && decide (n ≤ 122)) || (decide (65 ≤ n) && decide (n ≤ 90)) || (decide (48 ≤ n) && decide (n ≤ 57))) := by
  unfold plainB
  rw [Bool.eq_iff_iff]
  simp only [Bool.or_eq_true, Bool.and_eq_true, decide_eq_true_eq]
  omega
set_option maxHeartbeats 1000000 in
theorem refplain_any (c : Nat) (w : World) :
    Calls Tryd.prog 63 #[.int .u8 (c : Int)] w fun e w' => e = .returned (.bool (plainB c)) ∧ w' = w := by
  obtain ⟨n, hn⟩ : ∃ n : Int, (c : Int) = n := ⟨_, rfl⟩
  have HS := Aside0.mk (plainB_int c n hn)
  rw [hn]
  clear hn
  have hcases : (97 ≤ n ∧ n ≤ 122) ∨ (122 < n ∧ 97 ≤ n ∧ 90 < n ∧ 57 < n ∧ 65 ≤ n ∧ 48 ≤ n) ∨ (n < 97 ∧ 90 < n ∧ 65 ≤ n ∧ 57 < n ∧ 48 ≤ n) ∨ (n < 97 ∧ 65 ≤ n ∧ n ≤ 90) ∨ (n < 97 ∧ n < 65 ∧ 57 < n ∧ 48 ≤ n) ∨ (n < 97 ∧ n < 65 ∧ 48 ≤ n ∧ n ≤ 57) ∨ (n < 97 ∧ n < 65 ∧ n < 48) := by omega
  rcases hcases with ⟨a, b⟩ | ⟨a, b, c1, d, e1, f⟩ | ⟨a, b, c1, d, e1⟩ | ⟨a, b, c1⟩ | ⟨a, b, c1, d⟩ | ⟨a, b, c1, d⟩ | ⟨a, b, c1⟩
  all_goals
    go_enter Tryd.func63, Tryd.ntmps63
    go_wp2
    go_ret
    refine ⟨?_, rfl⟩
    rw [HS.out]
    refine ret_bool ?_
    rw [Bool.eq_iff_iff]
    simp only [Bool.or_eq_true, Bool.and_eq_true, decide_eq_true_eq]
    first | omega | (simp; omega) | (simp; done)

def hexS : ByteArray := { data := #[48, 49, 50, 51, 52, 53, 54, 55, 56, 57, 97, 98, 99, 100, 101, 102] }
def hexC (n : Nat) : UInt8 := if n < 10 then UInt8.ofNat (48 + n) else UInt8.ofNat (87 + n)
theorem hexS_at : ∀ r : Fin 16, hexS.extract r.val (r.val + 1) = ofL [hexC r.val] := by decide
def hexE (i j : Int) : ByteArray := hexS.extract i.toNat j.toNat
theorem hexE_at (k : Nat) (h : k < 16) : hexE (k : Int) ((k : Int) + 1) = ofL [hexC k] := by
  have := hexS_at ⟨k, h⟩
  unfold hexE
  rw [show ((k : Int) + 1).toNat = k + 1 by omega, Int.toNat_natCast]
  exact this
theorem hex_cut (w : World) (i : Int) (h0 : 0 ≤ i) (h2 : i ≤ 15) :
    (Instr.slice 9 (.string { data := #[48, 49, 50, 51, 52, 53, 54, 55, 56, 57, 97, 98, 99, 100, 101, 102] }) (some (.int .u8 i)) (some (.int .u8 (i + 1))) none).run Tryd.prog w = .ok (.string (hexE i (i + 1))) w :=
  run_slice_string w 9 hexS .u8 .u8 i (i + 1) Tryd.underlying9 h0 (by omega) (by show i + 1 ≤ 16; omega)
def pct (a : ByteArray) : ByteArray := a ++ ⟨#[37]⟩
def pct1 (a : ByteArray) (q : Int) : ByteArray := pct a ++ hexE q (q + 1)
def pct2 (a : ByteArray) (q r : Int) : ByteArray := pct1 a q ++ hexE r (r + 1)
theorem hexE_size (i : Int) (h : 0 ≤ i) : (hexE i (i + 1)).size ≤ 1 := by unfold hexE; rw [ByteArray.size_extract]; omega
theorem pct_size (a : ByteArray) : (pct a).size = a.size + 1 := by unfold pct; rw [ByteArray.size_append]; rfl
theorem pct1_size (a : ByteArray) (q : Int) (h : 0 ≤ q) : (pct1 a q).size ≤ a.size + 2 := by unfold pct1; rw [ByteArray.size_append, pct_size]; have := hexE_size q h; omega
theorem pct_add (w : World) (a : ByteArray) (h : a.size ≤ 32768) : (Op.stringOp .add a { data := #[37] }).run Tryd.prog w = .ok (.string (pct a)) w :=
  run_string_add_sum w _ _ (by show a.size + 1 ≤ _; omega)
theorem pct1_add (w : World) (a : ByteArray) (q : Int) (h0 : 0 ≤ q) (h : a.size ≤ 32768) : (Op.stringOp .add (pct a) (hexE q (q + 1))).run Tryd.prog w = .ok (.string (pct1 a q)) w :=
  run_string_add_sum w _ _ (by have := hexE_size q h0; rw [pct_size]; omega)
theorem pct2_add (w : World) (a : ByteArray) (q r : Int) (h0 : 0 ≤ q) (h1 : 0 ≤ r) (h : a.size ≤ 32768) : (Op.stringOp .add (pct1 a q) (hexE r (r + 1))).run Tryd.prog w = .ok (.string (pct2 a q r)) w :=
  run_string_add_sum w _ _ (by have := hexE_size r h1; have := pct1_size a q h0; omega)
/-- A byte of a secret as a text. -/
def encB (c : UInt8) : List UInt8 := if plainB c.toNat then [c] else [37, hexC (c.toNat / 16), hexC (c.toNat % 16)]
def secretL (l : List UInt8) : List UInt8 := l.flatMap encB
theorem encB_len (c : UInt8) : (encB c).length ≤ 3 := by unfold encB; split <;> simp
theorem secretL_len (l : List UInt8) : (secretL l).length ≤ 3 * l.length := by
  induction l with
  | nil => simp [secretL]
  | cons x l ih =>
    unfold secretL at ih ⊢
    rw [List.flatMap_cons, List.length_append, List.length_cons]
    have := encB_len x
    omega
theorem secretL_step (s : ByteArray) (k : Nat) (h : k < s.size) : secretL (s.data.toList.take (k + 1)) = secretL (s.data.toList.take k) ++ encB s[k] := by
  unfold secretL
  rw [List.take_succ_eq_append_getElem (by simpa using h), List.flatMap_append]
  simp only [List.flatMap_cons, List.flatMap_nil, List.append_nil]
  rfl
theorem pct2_ofL (a : List UInt8) (q r : Nat) (hq : q < 16) (hr : r < 16) : pct2 (ofL a) (q : Int) (r : Int) = ofL (a ++ [37, hexC q, hexC r]) := by
  unfold pct2 pct1 pct
  rw [hexE_at q hq, hexE_at r hr]
  have e1 : ofL a ++ (⟨#[37]⟩ : ByteArray) = ofL (a ++ [37]) := ByteArray.mk_append_mk a [37]
  have e2 : ofL (a ++ [37]) ++ ofL [hexC q] = ofL (a ++ [37] ++ [hexC q]) := ByteArray.mk_append_mk _ _
  have e3 : ofL (a ++ [37] ++ [hexC q]) ++ ofL [hexC r] = ofL (a ++ [37] ++ [hexC q] ++ [hexC r]) := ByteArray.mk_append_mk _ _
  rw [e1, e2, e3]
  simp

section
attribute [local go_sem high] byteS_cut byteS_add hex_cut pct_add pct1_add pct2_add
set_option maxRecDepth 100000 in
set_option maxHeartbeats 4000000 in
theorem refsecret_any (s : ByteArray) (w : World) (hs : s.size ≤ 4096) :
    Calls Tryd.prog 42 #[.string s] w fun e w' => e = .returned (.string (ofL (secretL s.data.toList))) ∧ Below w.heap.size w w' := by
  have hsi : (s.size : Int) ≤ 4096 := by omega
  go_enter Tryd.func42, Tryd.ntmps42
  go_wp2
  go_loopw [7, 3] (fun i v wr => ∃ k : Nat, k ≤ s.size ∧ i = .int .i64 k ∧ ∃ x : ByteArray, v = .string x ∧ Aside0 (x = ofL (secretL (s.data.toList.take k))) ∧ Aside0 (Below w.heap.size w wr)) (fun i _ _ => s.size - (intOf i).toNat)
  case atStart => exact ⟨0, Nat.zero_le _, rfl, _, rfl, ⟨rfl⟩, ⟨Below.refl _ _⟩⟩
  case round =>
    obtain ⟨k, hk, rfl, x, rfl, hx, HB⟩ := hrel
    by_cases hlt : k < s.size
    · have HS := Aside0.mk (secretL_step s k hlt)
      have hxs : x.size ≤ 32768 := by
        rw [hx.out, Lib.size_eq, ofL_data]
        have := secretL_len (s.data.toList.take k)
        rw [List.length_take] at this
        omega
      have hk0 : (0 : Int) ≤ k := by omega
      have hk1 : (k : Int) + 1 ≤ s.size := by omega
      cases hp : plainB s[k].toNat with
      | true =>
        have HE := Aside0.mk (show x ++ byteS s k = ofL (secretL (s.data.toList.take (k + 1))) by
          rw [HS.out, hx.out, byteS_at s k hlt, encB, if_pos hp])
        have HP := Aside0.mk hp
        clear hp HS
        go_wp2_with (go_at_call 63; refine (refplain_any s[k].toNat _).mono ?_; rintro e w' ⟨rfl, rfl⟩; rw [HP.out])
        go_roundw
        case rel => exact ⟨k + 1, by omega, by go_num, _, rfl, HE, HB⟩
        case measure => simp [intOf]; omega
      | false =>
        have HP := Aside0.mk hp
        obtain ⟨c, hc⟩ : ∃ c : Nat, c = s[k].toNat := ⟨_, rfl⟩
        have hc256 : c < 256 := by rw [hc]; exact s[k].toNat_lt
        obtain ⟨q, hq⟩ : ∃ q : Int, (s[k].toNat : Int) / 16 = q := ⟨_, rfl⟩
        obtain ⟨r, hr⟩ : ∃ r : Int, (s[k].toNat : Int) % 16 = r := ⟨_, rfl⟩
        have q0 : 0 ≤ q := by omega
        have q1 : q ≤ 15 := by omega
        have r0 : 0 ≤ r := by omega
        have r1 : r ≤ 15 := by omega
        have HE := Aside0.mk (show pct2 x q r = ofL (secretL (s.data.toList.take (k + 1))) by
          rw [HS.out, hx.out, encB, if_neg (by rw [hp]; decide), show q = ((s[k].toNat / 16 : Nat) : Int) by omega, show r = ((s[k].toNat % 16 : Nat) : Int) by omega, pct2_ofL _ _ _ (by omega) (by omega)])
        clear hp HS hc hc256
        go_wp2_with (go_at_call 63; refine (refplain_any s[k].toNat _).mono ?_; rintro e w' ⟨rfl, rfl⟩; rw [HP.out])
        go_quiet (fail)
        go_wp2
        go_roundw
        case rel => exact ⟨k + 1, by omega, by go_num, _, rfl, HE, ⟨pw_below_drewN HB.out _⟩⟩
        case measure => simp [intOf]; omega
    · have he : s.data.toList.take k = s.data.toList := List.take_of_length_le (by rw [← Lib.size_eq]; omega)
      have hx' := hx.out
      rw [he] at hx'
      have HX := Aside0.mk hx'
      clear hx' he
      go_wp2
      go_ret
      exact ⟨by rw [← HX.out]; rfl, HB.out⟩
end
end Go.Proofs.YtaeaakcppheaoaaDoor
namespace Go.Proofs.YtaeaakcppheaoaaDoor
open Go.RowKit Go.Proofs.YtaeaakcppheaoaaDoorW.PrintWords Go.Maps

/-- The last byte whose text is '%', h, l. -/
def decN (h l : UInt8) : Nat → Option UInt8
  | 0 => none
  | n + 1 => if encB (UInt8.ofNat n) = [37, h, l] then some (UInt8.ofNat n) else decN h l n
def decX (h l : UInt8) : Option UInt8 := decN h l 256
/-- What the reference reads. -/
def refM : List UInt8 → List UInt8 → Option (List UInt8)
  | [], out => some out
  | c :: t, out => if c ≠ 37 then refM t (out ++ [c]) else
    match t with
    | h :: l :: t' =>
      match decX h l with
      | some x => refM t' (out ++ [x])
      | none => none
    | _ => none
def lenB (t : List UInt8) : Bool := decide (1 ≤ t.length) && decide (t.length ≤ 16)
def refMeant (s : List UInt8) : ByteArray × Bool :=
  match refM s [] with
  | some t => (ofL t, lenB t)
  | none => (ofL [], false)

theorem dec_enc : ∀ n : Fin 256, plainB n.val = true ∨ decX (hexC (n.val / 16)) (hexC (n.val % 16)) = some (UInt8.ofNat n.val) := by decide +kernel
theorem hexO_hexC : ∀ n : Fin 16, hexO (hexC n.val).toNat = some n.val := by decide +kernel
theorem hexC_hexO : ∀ c : Fin 256, ∀ a : Fin 16, hexO c.val = some a.val → hexC a.val = UInt8.ofNat c.val := by decide +kernel
theorem u8_of (c : UInt8) : UInt8.ofNat c.toNat = c := by simp

theorem secretL_cons (c : UInt8) (t : List UInt8) : secretL (c :: t) = encB c ++ secretL t := rfl
theorem meantG_secret (t out : List UInt8) : meantG (secretL t) out = (ofL (out ++ t), lenB (out ++ t)) := by
  induction t generalizing out with
  | nil => show meantG [] out = _; rw [List.append_nil]; rfl
  | cons c t ih =>
    rw [secretL_cons]
    unfold encB
    have e : out ++ [c] ++ t = out ++ c :: t := by simp
    split
    · rename_i hp
      show meantG (c :: secretL t) out = _
      unfold meantG
      rw [if_pos hp, ih, e]
    · rename_i hp
      show meantG (37 :: hexC (c.toNat / 16) :: hexC (c.toNat % 16) :: secretL t) out = _
      have hc : c.toNat < 256 := c.toNat_lt
      have h1 := hexO_hexC ⟨c.toNat / 16, by omega⟩
      have h2 := hexO_hexC ⟨c.toNat % 16, by omega⟩
      simp only at h1 h2
      unfold meantG
      rw [if_neg (by decide), if_pos (by decide)]
      simp only [h1, h2]
      have h3 : 16 * (c.toNat / 16) + c.toNat % 16 = c.toNat := by omega
      rw [h3, if_neg hp, u8_of, ih, e]
theorem meantG_true (n : Nat) : ∀ (l out : List UInt8), l.length ≤ n → (meantG l out).2 = true → ∃ t, l = secretL t ∧ (meantG l out).1 = ofL (out ++ t) := by
  induction n with
  | zero =>
    intro l out hl h
    have : l = [] := List.eq_nil_of_length_eq_zero (by omega)
    subst this
    exact ⟨[], rfl, by rw [List.append_nil]; rfl⟩
  | succ n ih =>
    intro l out hl h
    cases l with
    | nil => exact ⟨[], rfl, by rw [List.append_nil]; rfl⟩
    | cons c t =>
      by_cases hp : plainB c.toNat = true
      · have e : meantG (c :: t) out = meantG t (out ++ [c]) := by
          conv => lhs; unfold meantG
          rw [if_pos hp]
        rw [e] at h ⊢
        obtain ⟨u, hu, hv⟩ := ih t (out ++ [c]) (by simp at hl; omega) h
        exact ⟨c :: u, by rw [secretL_cons, encB, if_pos hp, hu]; rfl, by rw [hv]; simp⟩
      · by_cases h37 : c.toNat = 37
        · match t, hl with
          | [], _ => unfold meantG at h; rw [if_neg hp, if_pos h37] at h; cases h
          | [_], _ => unfold meantG at h; rw [if_neg hp, if_pos h37] at h; cases h
          | x :: y :: t', hl =>
            cases hx : hexO x.toNat with
            | none => unfold meantG at h; rw [if_neg hp, if_pos h37] at h; simp only [hx] at h; cases h
            | some a =>
              cases hy : hexO y.toNat with
              | none => unfold meantG at h; rw [if_neg hp, if_pos h37] at h; simp only [hx, hy] at h; cases h
              | some b =>
                by_cases hq : plainB (16 * a + b) = true
                · unfold meantG at h; rw [if_neg hp, if_pos h37] at h; simp only [hx, hy] at h; rw [if_pos hq] at h; cases h
                · have e : meantG (c :: x :: y :: t') out = meantG t' (out ++ [UInt8.ofNat (16 * a + b)]) := by
                    conv => lhs; unfold meantG
                    rw [if_neg hp, if_pos h37]
                    simp only [hx, hy]
                    rw [if_neg hq]
                  rw [e] at h ⊢
                  obtain ⟨u, hu, hv⟩ := ih t' (out ++ [UInt8.ofNat (16 * a + b)]) (by simp at hl; omega) h
                  have ha := hexO_lt hx
                  have hb := hexO_lt hy
                  have hz : (UInt8.ofNat (16 * a + b)).toNat = 16 * a + b := by rw [UInt8.toNat_ofNat']; omega
                  refine ⟨UInt8.ofNat (16 * a + b) :: u, ?_, by rw [hv]; simp⟩
                  rw [secretL_cons, encB, hz, if_neg hq, show (16 * a + b) / 16 = a by omega, show (16 * a + b) % 16 = b by omega, hu]
                  have e1 := hexC_hexO ⟨x.toNat, x.toNat_lt⟩ ⟨a, ha⟩ hx
                  have e2 := hexC_hexO ⟨y.toNat, y.toNat_lt⟩ ⟨b, hb⟩ hy
                  simp only [u8_of] at e1 e2
                  rw [e1, e2]
                  have e3 : c = 37 := UInt8.toNat_inj.1 h37
                  rw [e3]; rfl
        · unfold meantG at h; rw [if_neg hp, if_neg h37] at h; cases h
theorem refM_secret (t out : List UInt8) : refM (secretL t) out = some (out ++ t) := by
  induction t generalizing out with
  | nil => show refM [] out = _; rw [List.append_nil]; rfl
  | cons c t ih =>
    rw [secretL_cons]
    unfold encB
    have e : out ++ [c] ++ t = out ++ c :: t := by simp
    split
    · rename_i hp
      show refM (c :: secretL t) out = _
      unfold refM
      rw [if_pos (by rintro rfl; exact absurd hp (by decide)), ih, e]
    · rename_i hp
      show refM (37 :: hexC (c.toNat / 16) :: hexC (c.toNat % 16) :: secretL t) out = _
      have h := (dec_enc ⟨c.toNat, c.toNat_lt⟩).resolve_left hp
      simp only [u8_of] at h
      unfold refM
      rw [if_neg (by simp)]
      simp only [h]
      rw [ih, e]
/-- A secret's meaning, if each of its bytes is one that may stand there, is what the program tells. -/
theorem words_law (s : List UInt8) : ((refMeant s).2 && decide (ofL (secretL (refMeant s).1.data.toList) = ofL s)) = (meantP s).2 ∧ ((meantP s).2 = true → (refMeant s).1 = (meantP s).1) := by
  cases hm : (meantP s).2 with
  | true =>
    obtain ⟨t, ht, h1⟩ := meantG_true s.length s [] (Nat.le_refl _) hm
    have h2 := meantG_secret t []
    rw [← ht] at h2
    have h3 : lenB t = true := by
      have := hm
      unfold meantP at this
      rw [h2] at this
      simpa using this
    have h4 : refMeant s = (ofL t, lenB t) := by unfold refMeant; rw [ht, refM_secret]; rfl
    rw [h4]
    refine ⟨by simp only; rw [h3, ofL_data, ← ht]; simp, fun _ => by rw [show (meantP s).1 = _ from h1]; rfl⟩
  | false =>
    refine ⟨?_, fun h => absurd h (by decide)⟩
    cases hr : (refMeant s).2 with
    | false => rfl
    | true =>
      rw [Bool.true_and, decide_eq_false]
      intro he
      have he2 : secretL (refMeant s).1.data.toList = s := by
        have := congrArg (·.data.toList) he
        simpa [ofL] using this
      obtain ⟨t, ht⟩ : ∃ t, refM s [] = some t := by
        unfold refMeant at hr
        cases h : refM s [] with
        | none => rw [h] at hr; cases hr
        | some t => exact ⟨t, rfl⟩
      have h4 : refMeant s = (ofL t, lenB t) := by unfold refMeant; rw [ht]
      rw [h4] at he2 hr
      simp only [ofL_data] at he2 hr
      have h5 := meantG_secret t []
      rw [he2] at h5
      unfold meantP at hm
      rw [h5] at hm
      simp only [List.nil_append] at hm
      rw [hr] at hm
      cases hm
end Go.Proofs.YtaeaakcppheaoaaDoor
namespace Go.Proofs.YtaeaakcppheaoaaDoor
open Go.RowKit Go.Proofs.YtaeaakcppheaoaaDoorW.PrintWords Go.Maps

theorem info5 : (Tryd.prog.info? 5).map (fun i => (i.zero, i.size, i.bytes)) = some (some (.int .u8 0), 1, 1) := by kernel_rfl
def intsL (l : List UInt8) : List Int := l.map (fun c => (c.toNat : Int))
theorem strOf_ints (l : List UInt8) : strOfNums (intsL l) = ofL l := by
  have h : (intsL l).map (fun n => UInt8.ofNat n.toNat) = l := by
    unfold intsL
    rw [List.map_map]
    exact (List.map_congr_left (fun c _ => by show UInt8.ofNat ((c.toNat : Int)).toNat = c; rw [Int.toNat_natCast, u8_of])).trans (List.map_id _)
  unfold strOfNums
  rw [h]; rfl
theorem conv_one (w : World) (n : Int) : (convert 69 9 (.slice (some ⟨w.heap.size, 0, none⟩) 1 1)).run Tryd.prog (w.alloc (.cells #[.int .u8 n] 5)) = .ok (.string (ofL [UInt8.ofNat n.toNat])) (w.alloc (.cells #[.int .u8 n] 5)) := by
  have h := World.ownsRow_lit (base := 0) (e := 5) (size := 1) w #[.int .u8 n] 1 (Nat.zero_le _) (by decide) rfl
  have h2 := own_string (P := Tryd.prog) (xs := [n]) Tryd.underlying69 Tryd.underlying5 Tryd.underlying9 (by simpa [nums] using h)
  rw [h2]
  rfl
theorem conv_row {w : World} {base : Nat} {ok : Nat → Prop} {v : Value} {l : List UInt8} (h : Kd.R (Kd.int .u8) 5 w base ok v (intsL l)) : (convert 69 9 v).run Tryd.prog w = .ok (.string (ofL l)) w := by
  have h2 := own_string (P := Tryd.prog) Tryd.underlying69 Tryd.underlying5 Tryd.underlying9 (Kd.own_of_R h)
  rw [h2, strOf_ints]
def strLen : Value → Nat
  | .string x => x.size
  | _ => 0
/-- What was found among the first j bytes. -/
def foundI (x : ByteArray) (j : Nat) : Int := if h : 3 ≤ x.size then (match decN x[1] x[2] j with | some b => (b.toNat : Int) | none => -1) else -1
theorem ofL_inj {a b : List UInt8} (h : ofL a = ofL b) : a = b := by
  have := congrArg (·.data.toList) h
  simpa [ofL] using this
theorem ext3 (x : ByteArray) (h : 3 ≤ x.size) : x.extract 0 3 = ofL [x[0], x[1], x[2]] := by
  obtain ⟨⟨l⟩⟩ := x
  match l, h with
  | a :: b :: c :: t, h =>
    show (ByteArray.mk (a :: b :: c :: t).toArray).extract 0 3 = ofL [a, b, c]
    rw [ByteArray.extract_mk]
    rfl
theorem foundI_same (x : ByteArray) (j : Nat) (h : ∀ h3 : 3 ≤ x.size, encB (UInt8.ofNat j) ≠ ([37, x[1], x[2]] : List UInt8)) : foundI x (j + 1) = foundI x j := by
  unfold foundI
  by_cases h3 : 3 ≤ x.size
  · rw [dif_pos h3, dif_pos h3]
    show (match (if encB (UInt8.ofNat j) = ([37, x[1], x[2]] : List UInt8) then some (UInt8.ofNat j) else decN x[1] x[2] j) with | some b => (b.toNat : Int) | none => -1) = _
    rw [if_neg (h h3)]
  · rw [dif_neg h3, dif_neg h3]
theorem foundI_hit (x : ByteArray) (j : Nat) (h3 : 3 ≤ x.size) (hj : j < 256) (h : encB (UInt8.ofNat j) = ([37, x[1], x[2]] : List UInt8)) : foundI x (j + 1) = j := by
  unfold foundI
  rw [dif_pos h3]
  show (match (if encB (UInt8.ofNat j) = ([37, x[1], x[2]] : List UInt8) then some (UInt8.ofNat j) else decN x[1] x[2] j) with | some b => (b.toNat : Int) | none => -1) = _
  rw [if_pos h]
  show (((UInt8.ofNat j).toNat : Nat) : Int) = j
  rw [UInt8.toNat_ofNat']
  omega
theorem refM_step1 (x : ByteArray) (o : List UInt8) (h : 0 < x.size) (hc : x[0] ≠ 37) : refM x.data.toList o = refM (x.extract 1 x.size).data.toList (o ++ [x[0]]) := by
  obtain ⟨⟨l⟩⟩ := x
  cases l with
  | nil => exact absurd h (by decide)
  | cons c t =>
    have e : ((ByteArray.mk (c :: t).toArray).extract 1 (ByteArray.mk (c :: t).toArray).size).data.toList = t := by
      rw [ByteArray.extract_mk]
      show ((c :: t).drop 1).take ((c :: t).length - 1) = t
      simp
    have e0 : (ByteArray.mk ⟨c :: t⟩)[0] = c := rfl
    rw [e0] at hc ⊢
    show refM (c :: t) o = refM ((ByteArray.mk (c :: t).toArray).extract 1 (ByteArray.mk (c :: t).toArray).size).data.toList _
    rw [e]
    conv => lhs; unfold refM
    rw [if_pos hc]
theorem refM_step2 (x : ByteArray) (o : List UInt8) (h : 3 ≤ x.size) (hc : x[0] = 37) : refM x.data.toList o = match decX x[1] x[2] with
    | some b => refM (x.extract 3 x.size).data.toList (o ++ [b])
    | none => none := by
  obtain ⟨⟨l⟩⟩ := x
  match l, h with
  | a :: b :: c :: t, h =>
    have e : ((ByteArray.mk (a :: b :: c :: t).toArray).extract 3 (ByteArray.mk (a :: b :: c :: t).toArray).size).data.toList = t := by
      rw [ByteArray.extract_mk]
      show ((a :: b :: c :: t).drop 3).take ((a :: b :: c :: t).length - 3) = t
      simp
    have ha : a = 37 := hc
    show refM (a :: b :: c :: t) o = match decX b c with
      | some b' => refM ((ByteArray.mk (a :: b :: c :: t).toArray).extract 3 (ByteArray.mk (a :: b :: c :: t).toArray).size).data.toList (o ++ [b'])
      | none => none
    rw [e]
    conv => lhs; unfold refM
    rw [if_neg (by simpa using ha)]
    all_goals rfl
theorem refM_step3 (x : ByteArray) (o : List UInt8) (h0 : 0 < x.size) (h : x.size < 3) (hc : x[0] = 37) : refM x.data.toList o = none := by
  obtain ⟨⟨l⟩⟩ := x
  match l, h0, h with
  | [a], _, _ =>
    have ha : a = 37 := hc
    show refM [a] o = none
    unfold refM
    rw [if_neg (by simpa using ha)]
  | [a, b], _, _ =>
    have ha : a = 37 := hc
    show refM [a, b] o = none
    unfold refM
    rw [if_neg (by simpa using ha)]
  | a :: b :: c :: t, _, h => exact absurd h (by show ¬ (t.length + 1 + 1 + 1 < 3); omega)

section
attribute [local go_sem high] conv_one
set_option maxRecDepth 100000 in
set_option maxHeartbeats 4000000 in
theorem refmeant_any (s : ByteArray) (w : World) (hs : s.size ≤ 32768) :
    Calls Tryd.prog 68 #[.string s] w fun e w' => e = .returned (.tuple #[.string (refMeant s.data.toList).1, .bool (refMeant s.data.toList).2]) ∧ Below w.heap.size w w' := by
  go_enter Tryd.func68, Tryd.ntmps68
  go_wp2
  go_loopw [0, 4] (fun v0 v4 wr => ∃ (x : ByteArray) (o : List UInt8), v0 = .string x ∧ Aside0 (refM s.data.toList [] = refM x.data.toList o) ∧ Aside0 (x.size + o.length ≤ s.size) ∧ Aside0 (Kd.R (Kd.int .u8) 5 wr w.heap.size (fun _ => True) v4 (intsL o)) ∧ Aside0 (Below w.heap.size w wr)) (fun v0 _ _ => strLen v0)
  case atStart => exact ⟨s, [], rfl, ⟨rfl⟩, ⟨Nat.le_refl _⟩, ⟨Kd.R_nil _ _ _ _ _⟩, ⟨Below.refl _ _⟩⟩
  case round =>
    obtain ⟨x, o, rfl, HE, HZ, HR, HB⟩ := hrel
    have hxs : (x.size : Int) ≤ 32768 := by have := HZ.out; omega
    by_cases h0 : 0 < x.size
    · have h0i : (0 : Int) < x.size := by omega
      by_cases hc : x[0] = 37
      · have hci : ((x[0].toNat : Int) != 37) = false := by rw [hc]; rfl
        have HC := Aside0.mk hc
        clear hc
        go_wp2
        go_loopw [21, 5] (fun i f wi => ∃ j : Nat, j ≤ 256 ∧ i = .int .i64 j ∧ f = .int .i64 (foundI x j) ∧ Aside0 (Below wr.heap.size wr wi)) (fun i _ _ => 256 - (intOf i).toNat)
        case atStart => exact ⟨0, Nat.zero_le _, rfl, by unfold foundI decN; simp, ⟨Below.refl _ _⟩⟩
        case round =>
          obtain ⟨j, hj, rfl, rfl, HBi⟩ := hrel
          by_cases hlt : j < 256
          · have hj0 : (0 : Int) ≤ j := by omega
            have hj1 : (j : Int) ≤ 255 := by omega
            obtain ⟨y, hy⟩ : ∃ y, y = ofL (encB (UInt8.ofNat j)) := ⟨_, rfl⟩
            have HY := Aside0.mk hy
            have hsec : secretL (ofL [UInt8.ofNat j]).data.toList = encB (UInt8.ofNat j) := by rw [ofL_data]; simp [secretL]
            have HSEC := Aside0.mk hsec
            clear hy hsec
            go_wp2_with fail
            refine (refsecret_any (ofL [UInt8.ofNat j]) _ (by show 1 ≤ 4096; decide)).mono ?_
            rintro e w3 ⟨rfl, hb3⟩
            rw [HSEC.out, ← HY.out]
            have HB3 := Aside0.mk (below_then HBi.out HBi.out.size (below_then (below_alloc (Below.refl _ _) _) (by simp) hb3))
            clear hb3
            by_cases hpl : plainB (UInt8.ofNat j).toNat = true
            · have hy1 : y.size = 1 := by rw [HY.out, encB, if_pos hpl]; rfl
              have HF := Aside0.mk (foundI_same x j (fun _ he => by rw [encB, if_pos hpl] at he; simp at he))
              have n1 : ((y.size : Int) == 3) = false := by rw [hy1]; rfl
              clear hpl hy1
              go_wp2
              go_roundw
              case rel => exact ⟨j + 1, by omega, by go_num, by rw [HF.out], HB3⟩
              case measure => simp [intOf]; omega
            · have hy1 : y.size = 3 := by rw [HY.out, encB, if_neg hpl]; rfl
              have n1 : ((y.size : Int) == 3) = true := by rw [hy1]; rfl
              clear hpl hy1
              by_cases h3 : 3 ≤ x.size
              · have h3i : (3 : Int) ≤ x.size := by omega
                have hx3 : x.extract 0 3 = ofL [37, x[1], x[2]] := by rw [ext3 x h3, HC.out]
                have HX3 := Aside0.mk hx3
                cases hq : ((x.extract 0 3).toList == y.toList) with
                | true =>
                  have he : x.extract 0 3 = y := of_decide_eq_true ((bytes_eq _ _).symm.trans hq)
                  have HF := Aside0.mk (foundI_hit x j h3 hlt (ofL_inj (by rw [← HY.out, ← he, HX3.out])))
                  clear hx3 he
                  go_wp2
                  go_roundw
                  case rel => exact ⟨j + 1, by omega, by go_num, by rw [HF.out], HB3⟩
                  case measure => simp [intOf]; omega
                | false =>
                  have HF := Aside0.mk (foundI_same x j (fun _ he => by
                    rw [bytes_eq, HX3.out, HY.out, he, decide_eq_true rfl] at hq; cases hq))
                  clear hx3
                  go_wp2
                  go_roundw
                  case rel => exact ⟨j + 1, by omega, by go_num, by rw [HF.out], HB3⟩
                  case measure => simp [intOf]; omega
              · have h3i : (x.size : Int) < 3 := by omega
                have HF := Aside0.mk (foundI_same x j (fun h _ => h3 h))
                clear h3
                go_wp2
                go_roundw
                case rel => exact ⟨j + 1, by omega, by go_num, by rw [HF.out], HB3⟩
                case measure => simp [intOf]; omega
          · obtain rfl : j = 256 := by omega
            have HB6 := Aside0.mk (below_then HB.out HB.out.size HBi.out)
            by_cases h3 : 3 ≤ x.size
            · cases hd : decX x[1] x[2] with
              | none =>
                have hf1 : foundI x 256 = -1 := by unfold foundI; rw [dif_pos h3]; unfold decX at hd; rw [hd]
                have HQ := Aside0.mk (show refMeant s.data.toList = (ofL [], false) by unfold refMeant; rw [HE.out, refM_step2 x o h3 HC.out, hd])
                clear hd
                rw [hf1]
                clear hf1
                go_wp2
                go_ret2
                exact ⟨by rw [HQ.out]; rfl, HB6.out⟩
              | some b =>
                have hf1 : foundI x 256 = (b.toNat : Int) := by unfold foundI; rw [dif_pos h3]; unfold decX at hd; rw [hd]
                have HE2 := Aside0.mk (show refM s.data.toList [] = refM (x.extract 3 x.size).data.toList (o ++ [b]) by rw [HE.out, refM_step2 x o h3 HC.out, hd])
                clear hd
                rw [hf1]
                clear hf1
                have hb0 : (0 : Int) ≤ (b.toNat : Int) := by omega
                have hb1 : (b.toNat : Int) ≤ 255 := by have := b.toNat_lt; omega
                have h3i : (3 : Int) ≤ x.size := by omega
                have HLN := Aside0.mk (show (intsL o).length = o.length by simp [intsL])
                have HOB := Aside0.mk (show o.length ≤ 32768 by have := HZ.out; omega)
                have HR6 := Aside0.mk (Kd.R_below HR.out HBi.out)
                have HRA := Aside0.mk (Kd.R_alloc HR6.out (.cells #[.int .u8 (b.toNat : Int)] 5))
                have HBA := Aside0.mk (below_alloc HB6.out (.cells #[.int .u8 (b.toNat : Int)] 5))
                have HZ3 := Aside0.mk (show (x.extract 3 x.size).size + (o ++ [b]).length ≤ s.size by rw [ByteArray.size_extract, List.length_append]; have := HZ.out; simp; omega)
                have HLT := Aside0.mk (show (x.extract 3 x.size).size < x.size by rw [ByteArray.size_extract]; omega)
                clear h3
                go_wp2_with ((at_builtin; refine R_lies_plain (Kd.int .u8) (by rfl) _ _ 69 5 (.int .u8 0) 1 (by rfl) Tryd.underlying69 info5 rfl (by decide) w.heap.size _ (intsL o) (b.toNat : Int) [.int .u8 (b.toNat : Int)] wr.heap.size _ (by rfl) (by rfl) (blk_new _ _) rfl HRA.out HBA.out.size (by rw [HLN.out]; have := HOB.out; omega) (by rw [HLN.out]; have := HOB.out; unfold maxLen; omega) (wr.heap.size + 1) (by simp) ?_; intro gn capn w5 hR5 hgrow hat hlt5; have HR5 := Aside0.mk hR5; have HB5 := Aside0.mk (pw_below_grown HBA.out _ HBA.out.size hgrow (Kd.R_base HRA.out)); clear hR5 hgrow hat hlt5))
                go_roundw
                case rel => exact ⟨_, o ++ [b], rfl, HE2, HZ3, ⟨by rw [show intsL (o ++ [b]) = intsL o ++ [(b.toNat : Int)] by simp [intsL]]; exact HR5.out⟩, HB5⟩
                case measure => exact HLT.out
            · have hf1 : foundI x 256 = -1 := by unfold foundI; rw [dif_neg h3]
              have HQ := Aside0.mk (show refMeant s.data.toList = (ofL [], false) by unfold refMeant; rw [HE.out, refM_step3 x o h0 (by omega) HC.out])
              rw [hf1]
              clear hf1
              go_wp2
              go_ret2
              exact ⟨by rw [HQ.out]; rfl, HB6.out⟩
      · have hci : ((x[0].toNat : Int) != 37) = true := by
          rw [bne_iff_ne]
          intro h
          exact hc (UInt8.toNat_inj.1 (by have : (37 : UInt8).toNat = 37 := rfl; omega))
        have HE2 := Aside0.mk (HE.out.trans (refM_step1 x o h0 hc))
        have hlen : (intsL o).length = o.length := by simp [intsL]
        have HLN := Aside0.mk hlen
        have HOB := Aside0.mk (show o.length ≤ 32768 by have := HZ.out; omega)
        have HRA := Aside0.mk (Kd.R_alloc HR.out (.cells #[.int .u8 (x[0].toNat : Int)] 5))
        have HBA := Aside0.mk (below_alloc HB.out (.cells #[.int .u8 (x[0].toNat : Int)] 5))
        clear hc hlen
        go_wp2_with ((at_builtin; refine R_lies_plain (Kd.int .u8) (by rfl) _ _ 69 5 (.int .u8 0) 1 (by rfl) Tryd.underlying69 info5 rfl (by decide) w.heap.size _ (intsL o) (x[0].toNat : Int) [.int .u8 (x[0].toNat : Int)] wr.heap.size _ (by rfl) (by rfl) (blk_new _ _) rfl HRA.out HBA.out.size (by rw [HLN.out]; have := HOB.out; omega) (by rw [HLN.out]; have := HOB.out; unfold maxLen; omega) (wr.heap.size + 1) (by simp) ?_; intro gn capn w5 hR5 hgrow hat hlt5; have HR5 := Aside0.mk hR5; have HB5 := Aside0.mk (pw_below_grown HBA.out _ HBA.out.size hgrow (Kd.R_base HRA.out)); clear hR5 hgrow hat hlt5))
        go_roundw
        case rel => exact ⟨_, o ++ [x[0]], rfl, HE2, ⟨by rw [ByteArray.size_extract, List.length_append]; have := HZ.out; simp; omega⟩, ⟨by rw [show intsL (o ++ [x[0]]) = intsL o ++ [(x[0].toNat : Int)] by simp [intsL]]; exact HR5.out⟩, HB5⟩
        case measure => simp [strLen, ByteArray.size_extract]; omega
    · have hnil : x.data.toList = [] := List.eq_nil_of_length_eq_zero (by rw [← Lib.size_eq]; omega)
      have hx0 : (x.size : Int) = 0 := by omega
      have HQ := Aside0.mk (show refMeant s.data.toList = (ofL o, lenB o) by unfold refMeant; rw [HE.out, hnil]; rfl)
      obtain ⟨A3, c3, e3, hl3, hC3⟩ := Kd.R_reads HR.out
      have hcv := conv_row HR.out
      have hlo : (intsL o).length = o.length := by simp [intsL]
      rw [hlo] at e3
      subst e3
      have HB' := HB
      clear hnil hl3 hC3
      by_cases p1 : 0 < o.length
      · have p1i : (0 : Int) < o.length := by omega
        by_cases p2 : o.length ≤ 16
        · have p2i : (o.length : Int) ≤ 16 := by omega
          have HL := Aside0.mk (show lenB o = true by unfold lenB; rw [decide_eq_true (show 1 ≤ o.length by omega), decide_eq_true p2]; rfl)
          go_wp2
          go_ret2
          exact ⟨by rw [HQ.out, HL.out]; first | rfl | (simp; omega), HB.out⟩
        · have p2i : (16 : Int) < o.length := by omega
          have HL := Aside0.mk (show lenB o = false by unfold lenB; rw [decide_eq_false p2]; simp)
          go_wp2
          go_ret2
          exact ⟨by rw [HQ.out, HL.out]; first | rfl | (simp; omega), HB.out⟩
      · have p1i : (o.length : Int) ≤ 0 := by omega
        have HL := Aside0.mk (show lenB o = false by unfold lenB; rw [decide_eq_false (show ¬ 1 ≤ o.length by omega)]; rfl)
        go_wp2
        go_ret2
        exact ⟨by rw [HQ.out, HL.out]; first | rfl | (simp; omega), HB.out⟩
end
end Go.Proofs.YtaeaakcppheaoaaDoor
namespace Go.Proofs.YtaeaakcppheaoaaDoor
open Go.RowKit Go.Proofs.YtaeaakcppheaoaaDoorW.PrintWords Go.Maps

theorem refMeant_size (s : List UInt8) (h : (refMeant s).2 = true) : (refMeant s).1.size ≤ 16 := by
  unfold refMeant at h ⊢
  cases hr : refM s [] with
  | none => rw [hr] at h; cases h
  | some t =>
    rw [hr] at h
    simp only [lenB, Bool.and_eq_true, decide_eq_true_eq] at h
    rw [Lib.size_eq, ofL_data]
    exact h.2
set_option maxHeartbeats 1000000 in
theorem refwords_any (s : ByteArray) (w : World) (hs : s.size ≤ 32768) :
    Calls Tryd.prog 52 #[.string s] w fun e w' => e = .returned (.tuple #[.string (refMeant s.data.toList).1, .bool (meantP s.data.toList).2]) ∧ Below w.heap.size w w' := by
  have hl := (words_law s.data.toList).1
  have hz := refMeant_size s.data.toList
  have hm := refmeant_any s w hs
  obtain ⟨t, ht⟩ : ∃ t, t = (refMeant s.data.toList).1 := ⟨_, rfl⟩
  obtain ⟨ok, hok⟩ : ∃ ok, ok = (refMeant s.data.toList).2 := ⟨_, rfl⟩
  rw [← ht] at hl hz hm ⊢
  rw [← hok] at hl hz hm
  rw [data_ofL] at hl
  have HM := Aside0.mk hm
  clear hm ht hok
  cases ok with
  | false =>
    have HL := Aside0.mk (show (meantP s.data.toList).2 = false by rw [← hl]; rfl)
    clear hl hz
    go_enter Tryd.func52, Tryd.ntmps52
    go_wp2_with fail
    refine HM.out.mono ?_
    rintro e w1 ⟨rfl, hb⟩
    have HB := Aside0.mk hb
    clear hb HM
    go_wp2
    go_ret2
    exact ⟨by rw [HL.out]; rfl, HB.out⟩
  | true =>
    rw [Bool.true_and] at hl
    have HZ := Aside0.mk (hz rfl)
    have HL := Aside0.mk hl
    clear hl hz
    obtain ⟨u, hu⟩ : ∃ u, u = ofL (secretL t.data.toList) := ⟨_, rfl⟩
    rw [← hu] at HL
    have HU := Aside0.mk hu
    clear hu
    go_enter Tryd.func52, Tryd.ntmps52
    go_wp2_with fail
    refine HM.out.mono ?_
    rintro e w1 ⟨rfl, hb⟩
    have HB := Aside0.mk hb
    clear hb HM
    go_wp2_with fail
    refine (refsecret_any t w1 (by have := HZ.out; omega)).mono ?_
    rintro e w2 ⟨rfl, hb⟩
    rw [← HU.out]
    have HB2 := Aside0.mk (below_then HB.out HB.out.size hb)
    clear hb
    go_wp2
    go_ret2
    exact ⟨by rw [← HL.out, ← bytes_eq]; rfl, HB2.out⟩
end Go.Proofs.YtaeaakcppheaoaaDoor
