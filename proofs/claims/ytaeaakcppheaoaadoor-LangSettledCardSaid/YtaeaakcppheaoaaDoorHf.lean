/- strings.Split at a separator of one byte: the parts between the bytes c. -/
import Derived.Test.YtaeaakcppheaoaaDoorShelf
import Derived.Test.YtaeaakcppheaoaaDoorHe
import Derived.Lib.SplitLaws
import Derived.Lib.IndexBytes
namespace Go.Proofs.YtaeaakcppheaoaaDoor
open Go.RowKit Go.Proofs.YtaeaakcppheaoaaDoorW.PrintWords

/-- A text's parts between bytes c. -/
def cutL (c : UInt8) : List UInt8 → List (List UInt8)
  | [] => [[]]
  | b :: l => if b = c then [] :: cutL c l else match cutL c l with
    | [] => [[b]]
    | h :: t => (b :: h) :: t
theorem cutL_ne (c : UInt8) (l : List UInt8) : cutL c l ≠ [] := by
  cases l with
  | nil => simp [cutL]
  | cons b l =>
    unfold cutL
    split
    · simp
    · split <;> simp
theorem cutL_length (c : UInt8) (l : List UInt8) : (cutL c l).length = l.count c + 1 := by
  induction l with
  | nil => rfl
  | cons b l ih =>
    unfold cutL
    by_cases h : b = c
    · rw [if_pos h, List.length_cons, ih, List.count_cons, if_pos (by simpa using h)]
    · rw [if_neg h, List.count_cons, if_neg (by simpa using h)]
      cases hc : cutL c l with
      | nil => exact absurd hc (cutL_ne c l)
      | cons x t => rw [hc] at ih; simpa using ih
theorem indexByte_cons (b c : UInt8) (l : List UInt8) : Lib.index (b :: l) [c] = if b = c then 0 else if Lib.index l [c] = -1 then -1 else Lib.index l [c] + 1 := by
  rw [Lib.index]
  by_cases h : b = c
  · subst h; simp [List.isPrefixOf]
  · rw [if_neg h]
    simp [List.isPrefixOf, Ne.symm h]
theorem splitK_cutL (c : UInt8) : ∀ l : List UInt8, Lib.splitK [c] 0 (l.count c) l = cutL c l
  | [] => rfl
  | b :: l => by
    have ih := splitK_cutL c l
    by_cases h : b = c
    · subst h
      rw [List.count_cons_self, Lib.splitK, indexByte_cons, if_pos rfl]
      simp only [cutL, if_true]
      rw [if_neg (by decide)]
      simp [ih]
    · rw [List.count_cons_of_ne h]
      unfold cutL
      rw [if_neg h, ← ih]
      cases hk : l.count c with
      | zero => rfl
      | succ k =>
        have hm : c ∈ l := List.count_pos_iff.1 (by omega)
        have hix : Lib.index l [c] ≠ -1 := by
          rw [Lib.index_one]
          intro e
          have : ∀ (l : List UInt8), c ∈ l → Lib.indexByte l c ≠ -1 := by
            intro l
            induction l with
            | nil => intro h; cases h
            | cons x t iht =>
              intro hx
              unfold Lib.indexByte
              by_cases hxc : x = c
              · simp [hxc]
              · have := iht (by simpa [Ne.symm hxc] using hx)
                have hge : ∀ l, -1 ≤ Lib.indexByte l c := fun l => by rw [← Lib.index_one]; exact Lib.index_ge l [c]
                have := hge t
                simp [hxc]
                omega
          exact this l hm e
        have hge := Lib.index_ge l [c]
        rw [Lib.splitK, Lib.splitK, indexByte_cons, if_neg h, if_neg hix]
        rw [if_neg (by simp; omega), if_neg (by simpa using hix)]
        have e1 : (Lib.index l [c] + 1).toNat = (Lib.index l [c]).toNat + 1 := by omega
        rw [e1]
        simp

def ofL (l : List UInt8) : ByteArray := ⟨l.toArray⟩
theorem ofL_data (l : List UInt8) : (ofL l).data.toList = l := by simp [ofL]
theorem data_ofL (s : ByteArray) : ofL s.data.toList = s := by obtain ⟨⟨l⟩⟩ := s; rfl
def spl (c : UInt8) (s : ByteArray) : List ByteArray := (cutL c s.data.toList).map ofL
theorem splitB_one (c : UInt8) (s : ByteArray) : Lib.splitB ⟨#[c]⟩ 0 (Lib.countB s ⟨#[c]⟩) s = spl c s := by
  have h := Lib.splitB_data ⟨#[c]⟩ 0 (Lib.countB s ⟨#[c]⟩) s
  have hc : Lib.countB s ⟨#[c]⟩ = s.data.toList.count c := Lib.count_one c _
  rw [hc] at h ⊢
  have h2 : Lib.splitK (⟨#[c]⟩ : ByteArray).data.toList 0 (s.data.toList.count c) s.data.toList = cutL c s.data.toList := splitK_cutL c _
  rw [h2] at h
  unfold spl
  rw [← h, List.map_map]
  conv => lhs; rw [← List.map_id (Lib.splitB _ _ _ _)]
  exact List.map_congr_left (fun x _ => (data_ofL x).symm)
theorem spl_length (c : UInt8) (s : ByteArray) : (spl c s).length = Lib.countB s ⟨#[c]⟩ + 1 := by
  rw [spl, List.length_map, cutL_length]
  have hc : Lib.countB s ⟨#[c]⟩ = s.data.toList.count c := Lib.count_one c _
  rw [hc]

/-- Whoever reads a row of strings that lies whole in a block. -/
theorem C_block {w : World} {g : Nat} {t : TypeId} {l : List ByteArray} (h : w.heap[g]? = some (.cells (l.map Value.string).toArray t (0, 0))) (hm : l.length ≤ 9223372036854775807) : Kd.C Kd.string w (some ⟨g, 0, none⟩) l.length l := by
  refine ⟨rfl, hm, fun _ => ⟨⟨g, 0, none⟩, rfl, fun j p hp => ⟨[.string p], rfl, rfl, fun i u hu => ?_⟩⟩⟩
  have hi : i = 0 := by
    cases i with
    | zero => rfl
    | succ i => simp at hu
  subst hi
  simp only [List.getElem?_cons_zero, Option.some.injEq] at hu
  subst hu
  rw [add_plain, blk_cell h, List.getElem?_toArray, List.getElem?_map]
  simp only [Kd.string, Kd.scalar, Nat.mul_one, Nat.add_zero, hp]
  rfl

/-- strings.Split of a text of at most MaxScript bytes. -/
theorem split_any (s : ByteArray) (c : UInt8) (m : Int) (w : World) (hs : s.size ≤ 32768) (hm : w.cell? ⟨0, 0, none⟩ = some (.int .i64 m)) :
    Calls Tryd.prog 17 #[.string s, .string ⟨#[c]⟩] w fun e w' => e = .returned (.slice (some ⟨w.heap.size, 0, none⟩) (spl c s).length (spl c s).length) ∧ Below w.heap.size w w' ∧
      Kd.C Kd.string w' (some ⟨w.heap.size, 0, none⟩) (spl c s).length (spl c s) := by
  refine (Tryd.strings_Split s ⟨#[c]⟩ m w (by omega) hm (Nat.le_refl 1)).mono ?_
  rintro e w' ⟨rfl, rfl⟩
  rw [splitB_one, ← spl_length]
  have hl : (spl c s).length ≤ 32769 := by
    rw [spl, List.length_map, cutL_length]
    have := List.count_le_length (a := c) (l := s.data.toList)
    rw [← Lib.size_eq] at this
    omega
  exact ⟨rfl, (Below.refl _ _).alloc (Nat.le_refl _) _, C_block (blk_new _ _) (by omega)⟩
end Go.Proofs.YtaeaakcppheaoaaDoor
