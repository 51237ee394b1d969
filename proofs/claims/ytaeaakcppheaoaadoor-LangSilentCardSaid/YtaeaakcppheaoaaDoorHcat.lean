/- What slices.Grow of nil and slices.Concat answer. -/
import Derived.Test.YtaeaakcppheaoaaDoorHsame
import Derived.Deep.DeepMust
namespace Go.Proofs.YtaeaakcppheaoaaDoor
open Go.RowKit Go.Proofs.YtaeaakcppheaoaaDoorW.PrintWords Go.Maps

theorem R_take0 {α : Type} {d : Kd α} {e base n c : Nat} {ok : Nat → Prop} {A : Option Addr} {xs : List α} {w : World} (h : Kd.R d e w base ok (.slice A n c) xs) (hn : n = xs.length) : Kd.R d e w base ok (.slice A 0 c) [] := by
  obtain ⟨h0, inner, ho, hr⟩ := h
  subst hn
  refine ⟨fun k hk => h0 k (by cases A <;> exact hk), [], ?_, Reps.none _ _⟩
  have := own_take ho (Nat.zero_le _)
  simpa using this

set_option maxHeartbeats 1000000 in
theorem grow_any (A0 : Option Addr) (n : Nat) (hn : n ≤ 1000000) (w : World) (hR0 : Kd.R Kd.string 9 w w.heap.size (fun _ => True) (.slice A0 0 0) []) : Calls Tryd.prog 34 #[.slice A0 0 0, .int .i64 n] w fun e w' =>
    ∃ A c, e = .returned (.slice A 0 c) ∧ Kd.R Kd.string 9 w' w.heap.size (fun _ => True) (.slice A 0 c) [] ∧ Below w.heap.size w w' := by
  have H0 := Aside0.mk hR0
  clear hR0
  rcases Nat.eq_zero_or_pos n with h | h
  · subst h
    go_enter Tryd.func34, Tryd.ntmps34
    go_wp2
    go_ret
    exact ⟨A0, 0, rfl, H0.out, Below.refl _ _⟩
  · have hi : (0 : Int) < n := by omega
    have hi2 : (n : Int) ≤ 1000000 := by omega
    go_enter Tryd.func34, Tryd.ntmps34
    go_wp2_with ((at_builtin; refine Kd.R_append_zeros Kd.string (w0 := w) w.heap.size rfl (.tmp 20) (.tmp 21) 28 3 9 (.string ⟨#[]⟩) 16 rfl Tryd.underlying28 Tryd.underlying3 info9 rfl (by decide) (by decide) (.slice A0 0 0) [] ⟨#[]⟩ (n : Int) (fun _ => True) rfl rfl rfl (fun _ _ => trivial) H0.out (by omega) (Below.refl _ _) (Nat.le_refl _) (by simp; omega) ?_; intro v1 w1 hR hB hg hat; rw [List.nil_append, Int.toNat_natCast] at hR; obtain ⟨A1, c1, e1⟩ := Kd.R_slice hR; rw [List.length_replicate] at e1; subst e1; have HR := Aside0.mk hR; have HB := Aside0.mk hB; clear hR hB hg hat))
    go_ret
    exact ⟨A1, c1, rfl, R_take0 HR.out (by simp), HB.out⟩
theorem take_flat {α : Type} (ls : List (List α)) (k : Nat) (hk : k < ls.length) : (ls.take (k + 1)).flatten = (ls.take k).flatten ++ ls[k] := by
  rw [List.take_succ_eq_append_getElem hk, List.flatten_append]
  simp
theorem take_flat_le {α : Type} (ls : List (List α)) (k : Nat) : (ls.take k).flatten.length ≤ ls.flatten.length := by
  conv => rhs; rw [← List.take_append_drop k ls, List.flatten_append, List.length_append]
  omega

set_option maxRecDepth 100000 in
set_option maxHeartbeats 4000000 in
theorem concat_any (g c : Nat) (ls : List (List ByteArray)) (w : World) (hc : ∀ j (hj : j < ls.length), ∃ A c, w.cell? ⟨g, j, none⟩ = some (.slice A ls[j].length c) ∧ Kd.C Kd.string w A ls[j].length ls[j])
    (hm : ls.length ≤ 1000) (hs : ls.flatten.length ≤ 100000) :
    Calls Tryd.prog 20 #[.slice (some ⟨g, 0, none⟩) ls.length c] w fun e w' => ∃ A c', e = .returned (.slice A ls.flatten.length c') ∧ Kd.C Kd.string w' A ls.flatten.length ls.flatten ∧ ls.flatten.length ≤ c' ∧ Below w.heap.size w w' := by
  have HC := Aside0.mk hc
  have HS := Aside0.mk hs
  clear hc hs
  go_enter Tryd.func20, Tryd.ntmps20
  go_wp2
  go_loop [11, 3] (fun i n => ∃ k : Nat, k ≤ ls.length ∧ i = .int .i64 k ∧ ∃ m : Nat, n = .int .i64 m ∧ Aside0 (m = (ls.take k).flatten.length)) (fun i _ => ls.length - (intOf i).toNat)
  case atStart => exact ⟨0, Nat.zero_le _, rfl, 0, rfl, ⟨by simp⟩⟩
  case round =>
    obtain ⟨k, hk, rfl, m, rfl, hm1⟩ := hrel
    by_cases hlt : k < ls.length
    · obtain ⟨A, c1, hcell, hC⟩ := HC.out k hlt
      have hf := take_flat ls k hlt
      have hf2 : (ls.take (k + 1)).flatten.length = m + ls[k].length := by rw [hf, List.length_append, hm1.out]
      have hle := take_flat_le ls (k + 1)
      have hsum : m + ls[k].length ≤ 100000 := by have := HS.out; omega
      obtain ⟨n1, hn1⟩ : ∃ n1, n1 = ls[k].length := ⟨_, rfl⟩
      rw [← hn1] at hcell hsum hf2
      clear hC hf hle hn1
      have b1 : (0 : Int) ≤ (m : Int) + n1 := by omega
      have b2 : (m : Int) + n1 ≤ 100000 := by omega
      have HF := Aside0.mk hf2
      clear hf2
      go_wp2
      go_round
      case rel => exact ⟨k + 1, by omega, by go_num, m + n1, by go_num, ⟨HF.out.symm⟩⟩
      case measure => simp [intOf]; omega
    · have e : ls.take k = ls := List.take_of_length_le (by omega)
      have hm1 := hm1.out
      rw [e] at hm1
      have hmb : m ≤ 1000000 := by have := HS.out; omega
      have HM := Aside0.mk hm1
      clear hm1
      go_wp2_with fail
      refine (grow_any none m hmb w (Kd.R_nil _ _ _ _ _)).mono ?_
      rintro e w1 ⟨A, c1, rfl, hR, hb⟩
      have HR := Aside0.mk hR
      have HB := Aside0.mk hb
      clear hR hb
      go_wp2
      go_loopw [27, 6] (fun i v wr => ∃ k : Nat, k ≤ ls.length ∧ i = .int .i64 k ∧ Aside0 (Kd.R Kd.string 9 wr w.heap.size (fun _ => True) v (ls.take k).flatten) ∧ Aside0 (Below w.heap.size w wr)) (fun i _ _ => ls.length - (intOf i).toNat)
      case atStart => exact ⟨0, Nat.zero_le _, rfl, ⟨by simpa using HR.out⟩, HB⟩
      case round =>
        obtain ⟨k2, hk2, rfl, HR2, HB2⟩ := hrel
        by_cases hlt2 : k2 < ls.length
        · obtain ⟨A2, c2, hcell, hC⟩ := HC.out k2 hlt2
          have hcw := pw_cell_below HB2.out hcell
          have HF := Aside0.mk (take_flat ls k2 hlt2)
          have HCC := Aside0.mk (Kd.C_below hC HB2.out)
          have hle := take_flat_le ls (k2 + 1)
          have hsum : (ls.take k2).flatten.length + ls[k2].length ≤ 100000 := by
            have h1 := HS.out
            rw [HF.out, List.length_append] at hle
            omega
          obtain ⟨x, hx⟩ : ∃ x, x = ls[k2] := ⟨_, rfl⟩
          rw [← hx] at hcell hcw HF HCC hsum
          clear hC hle hcell hx
          have HSUM := Aside0.mk hsum
          clear hsum
          go_wp2_with ((at_builtin; go_must (refine Kd.R_append_rows Kd.string (Rr := Kd.string.K w) (w0 := w) w.heap.size rfl (.tmp 31) (.tmp 32) 28 9 (.string ⟨#[]⟩) 16 rfl Tryd.underlying28 info9 rfl (by decide) (by decide) _ (ls.take k2).flatten x A2 x.length c2 (fun _ => True) (fun _ => False) rfl rfl HR2.out HCC.out (fun _ _ h => h) (fun _ h => h.elim) (fun _ _ => trivial) HB2.out HB2.out.size (by have := HSUM.out; omega) ?_); intro v1 w2 hR hB hg hat; rw [← HF.out] at hR; have HR3 := Aside0.mk hR; have HB3 := Aside0.mk hB; clear hR hB hg hat))
          go_roundw
          case rel => exact ⟨k2 + 1, by omega, by go_num, HR3, HB3⟩
          case measure => simp [intOf]; omega
        · have e2 : ls.take k2 = ls := List.take_of_length_le (by omega)
          have HRf := Aside0.mk (e2 ▸ HR2.out)
          obtain ⟨A3, c3, e3, hl3, hC3⟩ := Kd.R_reads HRf.out
          subst e3
          have HL3 := Aside0.mk hl3
          have HC3 := Aside0.mk hC3
          clear HR2 HRf hl3 hC3
          go_wp2
          go_ret
          exact ⟨A3, c3, rfl, HC3.out, HL3.out, HB2.out⟩
end Go.Proofs.YtaeaakcppheaoaaDoor
