/- Rows that are cut, wherever they lie. -/
import Derived.Test.YtdgaffcfcgmfnaaS6
namespace Go.Sl
open Go.RowKit
variable {P : Program} {w : World} {sz : Nat} {cs : List Value}
/-- Another name, that the walk does not lay open. -/
def cutBig (t : TypeId) (x : Value) (lo hi mx : Option Value) : Sem Value := Instr.sliceAt t x lo hi mx
theorem Reads.sliced {A : Option Addr} {n c i j : Nat} (h : Reads w sz (.slice A n c) n cs) (hi : i ≤ j) (hj : j ≤ n) : Reads w sz (Go.sliced A i j c sz) (j - i) ((cs.drop (i * sz)).take ((j - i) * sz)) := by
  have hl := h.len
  obtain ⟨A', c', hv, h1, h2, h3, h4⟩ := h.at_
  injection hv with e1 e2 e3
  subst e1 e3
  have hm : (j - i) * sz ≤ n * sz - i * sz := by rw [← Nat.sub_mul]; exact Nat.mul_le_mul_right sz (by omega)
  refine ⟨by rw [List.length_take, List.length_drop, hl, Nat.min_eq_left hm], _, _, rfl, by omega, by omega, fun e => ?_, fun a e => ?_⟩
  · have hA : A = none := by
      revert e
      split
      · exact id
      · cases A <;> simp
    have := h3 hA
    omega
  · have hci : j - i = 0 ∨ i < c := by omega
    rcases hci with h0 | h0
    · refine ⟨fun h => by rw [h0] at h; omega, fun j' u hu => ?_⟩
      rw [h0] at hu
      simp at hu
    · rw [if_neg (by omega)] at e
      cases A with
      | none => simp at e
      | some a0 =>
        simp only [Option.map_some, Option.some.injEq] at e
        subst e
        obtain ⟨b, o, s⟩ := a0
        obtain ⟨h5, h6⟩ := h4 _ rfl
        simp only at h5 h6
        have hspot : 0 < (j - i) * sz → s = none := fun hp => h5 (by omega)
        refine ⟨fun hp => ?_, fun j' u hu => ?_⟩
        · obtain rfl := hspot hp
          rw [addr_add]
        · rw [List.getElem?_take] at hu
          split at hu
          · rename_i hlt
            obtain rfl := hspot (by omega)
            rw [List.getElem?_drop] at hu
            rw [addr_add]
            have := h6 _ u hu
            rwa [← Nat.add_assoc] at this
          · cases hu
section
variable {t e : TypeId} (ht : P.underlying t = some (.slice e)) (hs : (P.info? e).map (·.size) = some sz) {A : Option Addr} {n c : Nat}
include ht hs
theorem cut_lh {i j : Nat} {k1 k2 : IntKind} (hi : i ≤ j) (hj : j ≤ c) (w : World) : (cutBig t (.slice A n c) (some (.int k1 (i : Nat))) (some (.int k2 (j : Nat))) none).run P w = .ok (sliced A i j c sz) w := by
  have he : P.elem t = e := by simp [Program.elem, ht]
  have ht' : P.underlying t = some (.slice (P.elem t)) := by rw [he]; exact ht
  unfold cutBig
  rw [run_sliceAt_slice (h := ht'), run_slice_lh (ht := ht') (h0 := by omega) (h1 := by omega) (h2 := by omega), he, size_run hs]
  simp
theorem cut_h {j : Nat} {k2 : IntKind} (hj : j ≤ c) (w : World) : (cutBig t (.slice A n c) none (some (.int k2 (j : Nat))) none).run P w = .ok (sliced A 0 j c sz) w := by
  have he : P.elem t = e := by simp [Program.elem, ht]
  have ht' : P.underlying t = some (.slice (P.elem t)) := by rw [he]; exact ht
  unfold cutBig
  rw [run_sliceAt_slice (h := ht'), run_slice_h (ht := ht') (h0 := by omega) (h2 := by omega), he, size_run hs]
  simp
theorem cut_l {i : Nat} {k1 : IntKind} (hi : i ≤ n) (w : World) : (cutBig t (.slice A n c) (some (.int k1 (i : Nat))) none none).run P w = .ok (sliced A i n c sz) w := by
  have he : P.elem t = e := by simp [Program.elem, ht]
  have ht' : P.underlying t = some (.slice (P.elem t)) := by rw [he]; exact ht
  unfold cutBig
  rw [run_sliceAt_slice (h := ht'), run_slice_l (ht := ht') (h0 := by omega) (h1 := by omega), he, size_run hs]
  simp
end
end Go.Sl
namespace Go.Proofs.Ytdgaffcfcgmfnaa
open Go.RowKit Go.Sl
theorem rowLike_sub {sz : Nat} {cs : List Value} {v : Value} {A : Option Addr} {n c i j : Nat} {X : Asn} (h : RowLike sz v n cs X) (hv : v = .slice A n c) (hi : i ≤ j) (hj : j ≤ n) : RowLike sz (sliced A i j c sz) (j - i) ((cs.drop (i * sz)).take ((j - i) * sz)) X := fun k w L hw => by
  subst hv
  exact (h k w L hw).sliced hi hj
end Go.Proofs.Ytdgaffcfcgmfnaa
