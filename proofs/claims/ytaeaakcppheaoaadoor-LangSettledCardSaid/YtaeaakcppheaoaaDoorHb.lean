/- What slices.Index, slices.Contains, lattice.Check and lang's names answer. -/
import Derived.Test.YtaeaakcppheaoaaDoorHa
namespace Go.Proofs.YtaeaakcppheaoaaDoor
open Go.RowKit Go.Proofs.YtaeaakcppheaoaaDoorW.PrintWords

theorem bytes_eq (a b : ByteArray) : (a.toList == b.toList) = decide (a = b) := by
  rw [Bool.eq_iff_iff, beq_iff_eq, decide_eq_true_eq, Lib.toList_data, Lib.toList_data]
  constructor
  · intro h
    obtain ⟨⟨a⟩⟩ := a
    obtain ⟨⟨b⟩⟩ := b
    simp only at h
    rw [h]
  · intro h; rw [h]

/-- Where an element stands first; -1: nowhere. -/
def idxI {α : Type} [DecidableEq α] (l : List α) (x : α) : Int := if l.idxOf x < l.length then (l.idxOf x : Int) else -1
theorem idxI_hit {α : Type} [DecidableEq α] (l : List α) (x : α) (k : Nat) (h : k < l.length) (he : l[k] = x) (hn : ∀ j, (hj : j < k) → l[j]'(by omega) ≠ x) : idxI l x = k := by
  have h1 : l.idxOf x = k := by
    have h2 := List.idxOf_lt_length_of_mem (show x ∈ l from he ▸ List.getElem_mem h)
    have h3 : l[l.idxOf x] = x := List.getElem_idxOf h2
    rcases Nat.lt_trichotomy (l.idxOf x) k with hlt | heq | hgt
    · exact absurd h3 (hn _ hlt)
    · exact heq
    · exact absurd he (List.not_of_lt_findIdx hgt |> fun hh => by simpa using hh)
  unfold idxI
  rw [h1, if_pos h]
theorem idxI_miss {α : Type} [DecidableEq α] (l : List α) (x : α) (hn : ∀ j, (hj : j < l.length) → l[j] ≠ x) : idxI l x = -1 := by
  unfold idxI
  rw [if_neg]
  intro h
  exact hn _ h (List.getElem_idxOf h)

theorem rd_getElem {α : Type} (l : List α) (z : α) (k : Nat) (h : k < l.length) : l.getD k z = l[k] := by simp [List.getD, h]

theorem cell_plain {w : World} {ad : Addr} {m : Nat} {u : Value} (h : w.cell? (ad.add m) = some u) : (ad.add m) = ⟨ad.block, ad.off + m, none⟩ := by
  have hs : (ad.add m).spot = none := World.cell?_spot h
  unfold Addr.add at hs ⊢
  split
  · rename_i h0
    rw [if_pos h0] at hs
    obtain ⟨b, o, sp⟩ := ad
    subst h0
    simp only at hs
    rw [hs]; rfl
  · rfl
theorem C_at {α : Type} {d : Kd α} {w : World} {A : Option Addr} {xs : List α} (h : d.C w A xs.length xs) (hz : 0 < d.sz) (k : Nat) (hk : k < xs.length) :
    ∃ b o cs, A = some ⟨b, o, none⟩ ∧ d.K w xs[k] cs ∧ ∀ j u, cs[j]? = some u → w.cell? ⟨b, o + (k * d.sz + j), none⟩ = some u := by
  have hgen := Kd.C_get h xs[k] 0 (by omega) (by omega)
  obtain ⟨ad0, c0, e0, hl0, _, hc0⟩ := hgen
  obtain ⟨ad, cs, e, hl, hK, hc⟩ := Kd.C_get h xs[k] (k : Int) (by omega) (by omega)
  rw [Int.toNat_natCast, rd_getElem xs _ k hk] at hK
  have hs : ad.spot = none := by
    have : ad = ad0 := by rw [e] at e0; exact Option.some.inj e0
    subst this
    have := World.cell?_spot (hc0 0 c0[0] (List.getElem?_eq_getElem (by omega)))
    simpa [Addr.add] using this
  obtain ⟨b, o, sp⟩ := ad
  simp only at hs
  subst hs
  refine ⟨b, o, cs, e, hK, fun j u hj => ?_⟩
  have h1 := hc j u hj
  rw [cell_plain h1, Int.toNat_natCast] at h1
  exact h1
theorem str_at {w : World} {A : Option Addr} {l : List ByteArray} (h : Kd.C Kd.string w A l.length l) (k : Nat) (hk : k < l.length) : ∃ b o, A = some ⟨b, o, none⟩ ∧ w.cell? ⟨b, o + k, none⟩ = some (.string l[k]) := by
  obtain ⟨b, o, cs, e, hK, hc⟩ := C_at h (by decide) k hk
  obtain rfl : cs = [.string l[k]] := hK
  refine ⟨b, o, e, ?_⟩
  have := hc 0 _ rfl
  simpa [Kd.string, Kd.scalar] using this
theorem C_max {α : Type} {d : Kd α} {w : World} {A : Option Addr} {n : Nat} {xs : List α} (h : d.C w A n xs) : n ≤ 9223372036854775807 := h.2.1

set_option maxHeartbeats 1000000 in
theorem index_names (A : Option Addr) (c : Nat) (l : List ByteArray) (s : ByteArray) (w : World) (hr : Kd.C Kd.string w A l.length l) :
    Calls Tryd.prog 59 #[.slice A l.length c, .string s] w fun e w' => e = .returned (.int .i64 (idxI l s)) ∧ w = w' := by
  have HR := Aside0.mk hr
  have hm := C_max hr
  clear hr
  go_enter Tryd.func59, Tryd.ntmps59
  go_wp2
  go_loop [8] (fun i => ∃ k : Nat, k ≤ l.length ∧ i = .int .i64 k ∧ Aside0 (∀ j, (hj : j < k) → (hl : j < l.length) → l[j] ≠ s)) (fun i => l.length - (intOf i).toNat)
  case atStart => exact ⟨0, Nat.zero_le _, rfl, ⟨fun j hj => absurd hj (Nat.not_lt_zero _)⟩⟩
  case round =>
    obtain ⟨k, hk, rfl, hno⟩ := hrel
    by_cases hlt : k < l.length
    · obtain ⟨b, o, rfl, hc⟩ := str_at HR.out k hlt
      cases he : (s.toList == l[k].toList) with
      | true =>
        have hx := Lib.hid (idxI_hit l s k hlt (of_decide_eq_true ((bytes_eq _ _).symm.trans he)).symm (fun j hj => hno.out j hj (by omega)))
        go_wp2
        go_ret
        exact ⟨ret_int hx.out.symm, rfl⟩
      | false =>
        have hx := Lib.hid (show l[k] ≠ s from fun h => by rw [h, beq_self_eq_true] at he; exact absurd he (by decide))
        go_wp2
        go_round
        case rel => exact ⟨k + 1, by omega, by go_num, ⟨fun j hj hl => by
          by_cases hjk : j = k
          · subst hjk; exact hx.out
          · exact hno.out j (by omega) hl⟩⟩
        case measure => simp [intOf]; omega
    · have hx := Lib.hid (idxI_miss l s (fun j hj => hno.out j (by omega) hj))
      go_wp2
      go_ret
      exact ⟨ret_int hx.out.symm, rfl⟩

theorem ret_ib {a b : Int} {c d : Bool} (h : a = b) (g : c = d) : Ending.returned (.tuple #[.int .i64 a, .bool c]) = .returned (.tuple #[.int .i64 b, .bool d]) := by rw [h, g]
set_option maxHeartbeats 1000000 in
theorem find_any (A : Option Addr) (c : Nat) (l : List ByteArray) (s : ByteArray) (w : World) (hr : Kd.C Kd.string w A l.length l) :
    Calls Tryd.prog 35 #[.slice A l.length c, .string s] w fun e w' => e = .returned (.tuple #[.int .i64 (idxI l s), .bool (decide (0 ≤ idxI l s))]) ∧ w = w' := by
  have HR := Aside0.mk hr
  clear hr
  go_enter Tryd.func35, Tryd.ntmps35
  go_wp2_with (go_at_call 59; refine (index_names _ _ _ _ _ HR.out).mono ?_; rintro e w' ⟨rfl, rfl⟩)
  go_ret2
  exact ⟨rfl, rfl⟩
end Go.Proofs.YtaeaakcppheaoaaDoor
