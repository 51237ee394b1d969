/- How many code points there are in a text that was made of code points. -/
import Derived.Lib.MapLaws
import Derived.Laws.Cover4
import Derived.Laws.IdiomStrings
import Derived.Laws.Runes
namespace Go.Sl

theorem decodeN_1 {n b0 b1 b2 b3 : Nat} (h : b0 < 128) : (Lib.decodeN n b0 b1 b2 b3).2 = 1 := by
  unfold Lib.decodeN
  rw [if_pos h]
theorem decodeN_2 {n b0 b1 b2 b3 : Nat} (h : b0 / 32 = 6) (h1 : 1 < n) (h2 : b1 / 64 = 2) (h3 : 128 ≤ b0 % 32 * 64 + b1 % 64) : (Lib.decodeN n b0 b1 b2 b3).2 = 2 := by
  unfold Lib.decodeN
  rw [if_neg (by omega), if_pos ⟨h, h1, h2⟩, if_pos h3]
theorem decodeN_3 {n b0 b1 b2 b3 : Nat} (h : b0 / 16 = 14) (h1 : 2 < n) (h2 : b1 / 64 = 2) (h3 : b2 / 64 = 2) (h4 : 2048 ≤ b0 % 16 * 4096 + b1 % 64 * 64 + b2 % 64)
    (h5 : b0 % 16 * 4096 + b1 % 64 * 64 + b2 % 64 < 55296 ∨ 57344 ≤ b0 % 16 * 4096 + b1 % 64 * 64 + b2 % 64) : (Lib.decodeN n b0 b1 b2 b3).2 = 3 := by
  unfold Lib.decodeN
  rw [if_neg (by omega), if_neg (by omega), if_pos ⟨h, ⟨by omega, h2⟩, h1, h3⟩, if_pos ⟨h4, by omega⟩]
theorem decodeN_4 {n b0 b1 b2 b3 : Nat} (h : b0 / 8 = 30) (h1 : 3 < n) (h2 : b1 / 64 = 2) (h3 : b2 / 64 = 2) (h4 : b3 / 64 = 2) (h5 : 65536 ≤ b0 % 8 * 262144 + b1 % 64 * 4096 + b2 % 64 * 64 + b3 % 64)
    (h6 : b0 % 8 * 262144 + b1 % 64 * 4096 + b2 % 64 * 64 + b3 % 64 ≤ 1114111) : (Lib.decodeN n b0 b1 b2 b3).2 = 4 := by
  unfold Lib.decodeN
  rw [if_neg (by omega), if_neg (by omega), if_neg (by omega), if_pos ⟨h, ⟨by omega, h2⟩, ⟨by omega, h3⟩, h1, h4⟩, if_pos ⟨h5, by omega⟩]
theorem byteN (n : Nat) (h : n < 256) : (UInt8.ofNat n).toNat = n := by
  rw [UInt8.toNat_ofNat']; exact Nat.mod_eq_of_lt h
theorem decode_enc {r : Int} (h : validRune r = true) (t : List UInt8) : (Lib.decodeL ((Utf8.encode r).data.toList ++ t)).2 = (Utf8.encode r).size := by
  have hv : (0 ≤ r ∧ r < 55296) ∨ (57343 < r ∧ r ≤ 1114111) := by simpa [validRune] using h
  have h' : Utf8.valid r = true := by rw [validRune_eq]; exact h
  obtain ⟨c, hc⟩ : ∃ c : Nat, r.toNat = c := ⟨_, rfl⟩
  have hc1 : c < 55296 ∨ (57343 < c ∧ c ≤ 1114111) := by omega
  rw [Lib.decodeL_N]
  unfold Utf8.encode
  simp only [h', if_true, hc]
  split
  case isTrue g =>
    show (Lib.decodeN _ (UInt8.ofNat c).toNat _ _ _).2 = 1
    rw [byteN _ (by omega)]
    exact decodeN_1 g
  case isFalse g =>
    split
    case isTrue g1 =>
      show (Lib.decodeN _ (UInt8.ofNat (192 + c / 64)).toNat (UInt8.ofNat (128 + c % 64)).toNat _ _).2 = 2
      rw [byteN _ (by omega), byteN _ (by omega)]
      exact decodeN_2 (by omega) (by simp) (by omega) (by omega)
    case isFalse g1 =>
      split
      case isTrue g2 =>
        show (Lib.decodeN _ (UInt8.ofNat (224 + c / 4096)).toNat (UInt8.ofNat (128 + c / 64 % 64)).toNat (UInt8.ofNat (128 + c % 64)).toNat _).2 = 3
        rw [byteN _ (by omega), byteN _ (by omega), byteN _ (by omega)]
        exact decodeN_3 (by omega) (by simp) (by omega) (by omega) (by omega) (by omega)
      case isFalse g2 =>
        show (Lib.decodeN _ (UInt8.ofNat (240 + c / 262144)).toNat (UInt8.ofNat (128 + c / 4096 % 64)).toNat (UInt8.ofNat (128 + c / 64 % 64)).toNat (UInt8.ofNat (128 + c % 64)).toNat).2 = 4
        rw [byteN _ (by omega), byteN _ (by omega), byteN _ (by omega), byteN _ (by omega)]
        exact decodeN_4 (by omega) (by simp) (by omega) (by omega) (by omega) (by omega) (by omega)
theorem len_bytes (s : ByteArray) : s.data.toList.length = s.size := by rw [Array.length_toList]; rfl
/-- The bytes of code points. -/
def encB (l : List Int) : List UInt8 := l.flatMap fun r => (Utf8.encode r).data.toList
theorem runesBytes_list (l : List Int) : (runesBytes l).data.toList = encB l := by
  have h : ∀ (l : List Int) (s : ByteArray), (l.foldl (fun r n => r ++ Utf8.encode n) s).data.toList = s.data.toList ++ encB l := by
    intro l
    induction l with
    | nil => intro s; simp [encB]
    | cons r l ih =>
      intro s
      rw [List.foldl_cons, ih]
      simp [encB]
  have := h l ByteArray.empty
  unfold runesBytes
  rw [this]
  rfl
theorem enc_pos (r : Int) : 1 ≤ (Utf8.encode r).size := by
  unfold Utf8.encode
  simp only
  repeat' split
  all_goals simp [ByteArray.size]
theorem encB_ge : ∀ l : List Int, l.length ≤ (encB l).length
  | [] => by simp [encB]
  | r :: l => by
    have h1 := enc_pos r
    have h2 := encB_ge l
    have e : encB (r :: l) = (Utf8.encode r).data.toList ++ encB l := rfl
    rw [e, List.length_append, List.length_cons]
    have e2 := len_bytes (Utf8.encode r)
    omega
theorem runesFrom_at (s : ByteArray) : ∀ (l : List Int) (bound i : Nat) (acc : Array Value), (∀ r ∈ l, validRune r = true) → s.data.toList.drop i = encB l → l.length ≤ bound → (Conv.runesFrom s bound i acc).size = acc.size + l.length
  | [], bound, i, acc, _, hd, _ => by
    have hi : ¬ i < s.size := by
      have h1 := congrArg List.length hd
      rw [List.length_drop, len_bytes] at h1
      have h2 : (encB []).length = 0 := rfl
      omega
    cases bound with
    | zero => simp [Conv.runesFrom]
    | succ b => simp [Conv.runesFrom, hi]
  | r :: l, bound, i, acc, hv, hd, hb => by
    obtain ⟨b, rfl⟩ : ∃ b, bound = b + 1 := ⟨bound - 1, by simp at hb; omega⟩
    have e : encB (r :: l) = (Utf8.encode r).data.toList ++ encB l := rfl
    rw [e] at hd
    have e2 := len_bytes (Utf8.encode r)
    have hp := enc_pos r
    have hi : i < s.size := by
      have := congrArg List.length hd
      rw [List.length_append, List.length_drop, e2, len_bytes] at this
      omega
    have hw : (Utf8.decode s i).2 = (Utf8.encode r).size := by
      rw [← Lib.decodeL_drop, hd]
      exact decode_enc (hv r (by simp)) _
    unfold Conv.runesFrom
    rw [if_pos hi]
    have ih := runesFrom_at s l b (i + (Utf8.decode s i).2) (acc.push (.int .i32 (Int.ofNat (Utf8.decode s i).1))) (fun x hx => hv x (by simp [hx])) (by
      rw [hw, ← List.drop_drop, hd, ← e2]; simp) (by simp at hb; omega)
    simp only at ih ⊢
    rw [ih]
    simp; omega
/-- So many code points has the text that was made of them. -/
theorem runes_back (l : List Int) (hv : ∀ r ∈ l, validRune r = true) : (Conv.runesFrom (runesBytes l) (runesBytes l).size 0 #[]).size = l.length := by
  have h := runesFrom_at (runesBytes l) l (runesBytes l).size 0 #[] hv (by rw [List.drop_zero]; exact runesBytes_list l) (by
    have h1 := encB_ge l
    rw [← runesBytes_list, len_bytes] at h1
    exact h1)
  simpa using h
end Go.Sl
