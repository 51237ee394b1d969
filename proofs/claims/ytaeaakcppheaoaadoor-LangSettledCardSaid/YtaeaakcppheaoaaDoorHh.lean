/- What lang.meant answers: the printed function comes to a plain one. -/
import Derived.Test.YtaeaakcppheaoaaDoorHg
import Derived.Test.YtaeaakcppheaoaaDoorPLangParsesx7
import Derived.Lib.LazyBuf
namespace Go.Proofs.YtaeaakcppheaoaaDoor
open Go.RowKit Go.Proofs.YtaeaakcppheaoaaDoorW.PrintWords

def plainB (c : Nat) : Bool := (decide (97 ≤ c) && decide (c ≤ 122)) || (decide (65 ≤ c) && decide (c ≤ 90)) || (decide (48 ≤ c) && decide (c ≤ 57))
def hexO (c : Nat) : Option Nat := if 48 ≤ c ∧ c ≤ 57 then some (c - 48) else if 97 ≤ c ∧ c ≤ 102 then some (c - 87) else none
theorem hexO_lt {c n : Nat} (h : hexO c = some n) : n < 16 := by
  unfold hexO at h
  split at h
  · injection h; omega
  · split at h
    · injection h; omega
    · cases h
/-- The secret that a text stands for, behind what was read of it. -/
def meantG : List UInt8 → List UInt8 → ByteArray × Bool
  | [], out => (ofL out, decide (1 ≤ out.length) && decide (out.length ≤ 16))
  | c :: t, out =>
    if plainB c.toNat then meantG t (out ++ [c])
    else if c.toNat = 37 then
      match t with
      | h :: l :: t' =>
        match hexO h.toNat, hexO l.toNat with
        | some a, some b => if plainB (16 * a + b) then (ofL [], false) else meantG t' (out ++ [UInt8.ofNat (16 * a + b)])
        | _, _ => (ofL [], false)
      | _ => (ofL [], false)
    else (ofL [], false)
def meantP (s : List UInt8) : ByteArray × Bool := meantG s []

open PLangParses in
theorem plain_f (c : Nat) : lang_plain.f (c : Int) = some (plainB c) := by
  unfold lang_plain.f plainB
  repeat' split
  all_goals (simp only [Option.some.injEq, eq_comm (a := true), eq_comm (a := false), Bool.or_eq_true, Bool.or_eq_false_iff, Bool.and_eq_true, Bool.and_eq_false_iff, decide_eq_true_eq, decide_eq_false_iff_not])
  all_goals (try omega)
  all_goals (rw [Bool.eq_iff_iff]; simp only [Bool.or_eq_true, Bool.and_eq_true, decide_eq_true_eq]; omega)
open PLangParses in
theorem digit_f (c k : Nat) : lang_digit.f (k + 1) (c : Int) = some ((((hexO c).getD 0 : Nat) : Int), (hexO c).isSome) := by
  unfold lang_digit.f hexO
  simp only [lang_digit.j0]
  by_cases h1 : 48 ≤ c ∧ c ≤ 57
  · rw [if_pos (by omega), decide_eq_true (by omega), if_pos rfl, if_pos h1]
    simp only [Option.getD_some, Option.isSome_some, Option.some.injEq, Prod.mk.injEq, and_true]
    omega
  · rw [if_neg h1]
    have e : (if (c : Int) ≥ 48 then (if decide ((c : Int) ≤ 57) = true then (some (((c : Int) - 48) % 256, true)) else (if (c : Int) ≥ 97 then (if (c : Int) ≤ 102 then (some (((((c : Int) - 97) % 256) + 10) % 256, true)) else (some (0, false))) else (some (0, false)))) else (if false = true then (some (((c : Int) - 48) % 256, true)) else (if (c : Int) ≥ 97 then (if (c : Int) ≤ 102 then (some (((((c : Int) - 97) % 256) + 10) % 256, true)) else (some (0, false))) else (some (0, false))))) = (if (c : Int) ≥ 97 then (if (c : Int) ≤ 102 then (some (((((c : Int) - 97) % 256) + 10) % 256, true)) else (some (0, false))) else (some (0, false))) := by
      by_cases h0 : (c : Int) ≥ 48
      · rw [if_pos h0, decide_eq_false (by omega), if_neg (by decide)]
      · rw [if_neg h0, if_neg (by decide)]
    rw [e]
    by_cases h2 : 97 ≤ c ∧ c ≤ 102
    · rw [if_pos (by omega), if_pos (by omega), if_pos h2]
      simp only [Option.getD_some, Option.isSome_some, Option.some.injEq, Prod.mk.injEq, and_true]
      omega
    · rw [if_neg h2]
      by_cases h3 : (c : Int) ≥ 97
      · rw [if_pos h3, if_neg (by omega)]; rfl
      · rw [if_neg h3]; rfl
theorem bt_nat (s : ByteArray) (i : Nat) (h : i < s.size) : bt s (i : Int) = (s[i].toNat : Int) := (bt_at s i (by simpa using h)).symm
theorem hex_or (a b : Nat) (ha : a < 16) (hb : b < 16) : Go.bits .or .u8 (((a : Int) * 16) % 256) (b : Int) = ((16 * a + b : Nat) : Int) := by
  have e : ((a : Int) * 16) % 256 = ((16 * a : Nat) : Int) := by omega
  rw [e, u8_or_nat _ _ (by omega) (by omega)]
  have : 16 * a ||| b = 16 * a + b := by
    have := Nat.two_pow_add_eq_or_of_lt (i := 4) (b := b) hb a
    simpa using this.symm
  rw [this]

def nums8 (l : List UInt8) : List Int := l.map fun b => (b.toNat : Int)
theorem nums8_snoc (l : List UInt8) (c : UInt8) : nums8 l ++ [(c.toNat : Int)] = nums8 (l ++ [c]) := by simp [nums8]
def roomL (n : Nat) : Prop := n < 140737488355328
open PLangParses in
theorem j1_step (s : ByteArray) (xs : List Int) (i k : Nat) (h : i + 2 < s.size) (hs : s.size ≤ 32768) (hx : roomL xs.length) : lang_meant.j1 (k + 2) s xs (i : Int) false =
    match hexO s[i + 1].toNat, hexO s[i + 2].toNat with
    | some a, some b => if plainB (16 * a + b) then some (⟨#[]⟩, false) else lang_meant.l0 (k + 1) s (xs ++ [((16 * a + b : Nat) : Int)]) ((i + 3 : Nat) : Int)
    | _, _ => some (⟨#[]⟩, false) := by
  have hw1 : wrap64 ((i : Int) + 1) = ((i + 1 : Nat) : Int) := by unfold wrap64; omega
  have hw2 : wrap64 ((i : Int) + 2) = ((i + 2 : Nat) : Int) := by unfold wrap64; omega
  have hw3 : wrap64 (((i + 2 : Nat) : Int) + 1) = ((i + 3 : Nat) : Int) := by unfold wrap64; omega
  have g1 : (0 : Int) ≤ ((i + 1 : Nat) : Int) := by omega
  have g2 : ((i + 1 : Nat) : Int) < (s.size : Int) := by omega
  have g3 : (0 : Int) ≤ ((i + 2 : Nat) : Int) := by omega
  have g4 : ((i + 2 : Nat) : Int) < (s.size : Int) := by omega
  have b1 := bt_nat s (i + 1) (by omega)
  have b2 := bt_nat s (i + 2) h
  have d1 := digit_f s[i + 1].toNat k
  have d2 := digit_f s[i + 2].toNat k
  rw [lang_meant.j1, if_neg (by decide), hw1, hw2, if_pos g1, if_pos g2, b1, d1, Option.bind_some, if_pos g3, if_pos g4, b2, d2, Option.bind_some, hw3]
  cases ha : hexO s[i + 1].toNat with
  | none => rfl
  | some a =>
    cases hb : hexO s[i + 2].toNat with
    | none => rfl
    | some b =>
      have o1 := hex_or a b (hexO_lt ha) (hexO_lt hb)
      have o2 := plain_f (16 * a + b)
      simp only [Option.getD_some, Option.isSome_some, if_true]
      rw [o1, o2, Option.bind_some, if_pos (show xs.length < 140737488355328 from hx)]
open PLangParses in
theorem meant_l0 (s : ByteArray) (hs : s.size ≤ 32768) : ∀ (d i k : Nat) (out : List UInt8), i + d = s.size → out.length ≤ i → 2 * d + 2 ≤ k → lang_meant.l0 k s (nums8 out) (i : Int) = some (meantG (s.data.toList.drop i) out) := by
  intro d
  induction d using Nat.strongRecOn with
  | ind d ih =>
    intro i k out hi ho hk
    obtain ⟨k, rfl⟩ : ∃ m, k = m + 1 := ⟨k - 1, by omega⟩
    have hlen : (nums8 out).length = out.length := by simp [nums8]
    simp only [lang_meant.l0]
    by_cases hlt : i < s.size
    · have hd : s.data.toList.drop i = s[i] :: s.data.toList.drop (i + 1) := List.drop_eq_getElem_cons (by simpa using hlt)
      have hw1 : wrap64 ((i : Int) + 1) = ((i + 1 : Nat) : Int) := by unfold wrap64; omega
      have hw2 : wrap64 ((i : Int) + 2) = ((i + 2 : Nat) : Int) := by unfold wrap64; omega
      rw [if_pos (by omega), if_pos (by omega), bt_nat s i hlt, plain_f, hd]
      simp only [Option.bind_some]
      unfold meantG
      by_cases hp : plainB s[i].toNat = true
      · rw [if_pos hp, if_pos hp, if_pos (by omega), hw1, nums8_snoc]
        exact ih (d - 1) (by omega) (i + 1) k _ (by omega) (by simp; omega) (by omega)
      · rw [if_neg hp, if_neg hp]
        obtain ⟨k, rfl⟩ : ∃ m, k = m + 1 := ⟨k - 1, by omega⟩
        obtain ⟨k, rfl⟩ : ∃ m, k = m + 1 := ⟨k - 1, by omega⟩
        by_cases h37 : s[i].toNat = 37
        · rw [if_pos h37, if_pos (by omega), hw2]
          by_cases h2 : i + 2 < s.size
          · have hd1 : s.data.toList.drop (i + 1) = s[i + 1] :: s.data.toList.drop (i + 2) := List.drop_eq_getElem_cons (by simpa using (show i + 1 < s.size by omega))
            have hd2 : s.data.toList.drop (i + 2) = s[i + 2] :: s.data.toList.drop (i + 3) := List.drop_eq_getElem_cons (by simpa using h2)
            have hdec : decide (((i + 2 : Nat) : Int) ≥ (s.size : Int)) = false := decide_eq_false (by omega)
            rw [hdec, j1_step s _ i k h2 hs (show _ < _ by omega), hd1, hd2]
            cases ha : hexO s[i + 1].toNat with
            | none => simp only [ha]; rfl
            | some a =>
              cases hb : hexO s[i + 2].toNat with
              | none => simp only [ha, hb]; rfl
              | some b =>
                have la := hexO_lt ha
                have lb := hexO_lt hb
                simp only [ha, hb]
                by_cases hq : plainB (16 * a + b) = true
                · rw [if_pos hq, if_pos hq]; rfl
                · rw [if_neg hq, if_neg hq]
                  have e : nums8 out ++ [((16 * a + b : Nat) : Int)] = nums8 (out ++ [UInt8.ofNat (16 * a + b)]) := by
                    rw [← nums8_snoc]
                    congr 2
                    rw [UInt8.toNat_ofNat', Nat.mod_eq_of_lt (by omega)]
                  rw [e]
                  exact ih (d - 3) (by omega) (i + 3) _ _ (by omega) (by simp; omega) (by omega)
          · have hdec : decide (((i + 2 : Nat) : Int) ≥ (s.size : Int)) = true := decide_eq_true (by omega)
            rw [hdec, lang_meant.j1, if_pos rfl]
            have hsh : (s.data.toList.drop (i + 1)).length < 2 := by rw [List.length_drop, ← Lib.size_eq]; omega
            cases hdd : s.data.toList.drop (i + 1) with
            | nil => simp [ofL]
            | cons x t =>
              cases t with
              | nil => simp [ofL]
              | cons y t => rw [hdd] at hsh; simp only [List.length_cons] at hsh; omega
        · rw [if_neg h37, if_neg (by omega)]
          simp [lang_meant.j1, ofL]
    · rw [if_neg (by omega), List.drop_of_length_le (by rw [← Lib.size_eq]; omega)]
      unfold meantG
      rw [hlen]
      have hso : strOfNums (nums8 out) = ofL out := Lib.Lz.strOfNums_map out
      rw [hso]
      by_cases h1 : (out.length : Int) ≥ 1
      · rw [if_pos h1, decide_eq_true (show 1 ≤ out.length by omega), Bool.true_and]
        congr 2
        rw [decide_eq_decide]; omega
      · rw [if_neg h1, decide_eq_false (show ¬ 1 ≤ out.length by omega), Bool.false_and]

open PLangParses in
theorem meant_any (s : ByteArray) (w : World) (hs : s.size ≤ 32768) :
    Calls Tryd.prog 67 #[.string s] w fun e w' => e = .returned (.tuple #[.string (meantP s.data.toList).1, .bool (meantP s.data.toList).2]) ∧ Below w.heap.size w w' :=
  lang_meant.calls (2 * s.size + 2) s _ _ w (meant_l0 s hs s.size 0 _ [] (by omega) (by simp) (by omega))
end Go.Proofs.YtaeaakcppheaoaaDoor
