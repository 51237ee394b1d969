/- What lang.Name answers, and the reference's. -/
import Derived.Test.YtaeaakcppheaoaaDoorHo
import Derived.Laws.Runes
import Derived.Laws.Concat
namespace Go.Proofs.YtaeaakcppheaoaaDoor
open Go.RowKit Go.Proofs.YtaeaakcppheaoaaDoorW.PrintWords Go.Maps

/-- The i-th name. -/
def nameN (i : Nat) : List UInt8 := if i < 26 then [UInt8.ofNat (97 + i)] else [UInt8.ofNat (96 + i / 26), UInt8.ofNat (97 + i % 26)]
def nameS (i : Int) : ByteArray := if 0 ≤ i ∧ i < 702 then ofL (nameN i.toNat) else ofL []

theorem encode_small (n : Nat) (h : n < 128) : Utf8.encode (n : Int) = ofL [UInt8.ofNat n] := by
  have hv : Utf8.valid (n : Int) = true := by simp [Utf8.valid]; omega
  unfold Utf8.encode
  simp only [hv, if_true, Int.toNat_natCast, h]
  rfl
def encR (n : Int) : ByteArray := Utf8.encode n
theorem conv_enc (w : World) (n : Int) : (convert 21 9 (.int .i32 n)).run Tryd.prog w = .ok (.string (encR n)) w := run_convert_int_string w 21 9 .i32 n (by rw [Tryd.underlying21]; rfl) Tryd.underlying9
section
attribute [local go_sem high] conv_enc
set_option maxRecDepth 100000 in
set_option maxHeartbeats 1000000 in
theorem name_any (i : Int) (w : World) :
    Calls Tryd.prog 15 #[.int .i64 i] w fun e w' => e = .returned (.string (nameS i)) ∧ Below w.heap.size w w' := by
  by_cases h : 0 ≤ i ∧ i < 702
  · obtain ⟨h0, h1⟩ := h
    obtain ⟨q, hqi⟩ : ∃ q : Int, i / 26 = q := ⟨_, rfl⟩
    obtain ⟨r, hri⟩ : ∃ r : Int, i % 26 = r := ⟨_, rfl⟩
    have q1 : 0 ≤ q := by omega
    have q2 : q ≤ 26 := by omega
    have r0 : 0 ≤ r := by omega
    have r1 : r < 26 := by omega
    have E3 := Aside0.mk (show encR (97 + r) = ofL [UInt8.ofNat (97 + r).toNat] by
      conv => lhs; rw [show 97 + r = (((97 + r).toNat : Nat) : Int) by omega]
      exact encode_small _ (by omega))
    by_cases h2 : i < 26
    · have Hn := Aside0.mk (show nameS i = ofL [UInt8.ofNat (97 + r).toNat] by
        unfold nameS nameN
        rw [if_pos ⟨h0, h1⟩, if_pos (by omega), show 97 + i.toNat = (97 + r).toNat by omega])
      go_enter Tryd.func15, Tryd.ntmps15
      go_wp2
      go_ret
      exact ⟨by rw [Hn.out, E3.out]; rfl, Below.refl _ _⟩
    · have h2' : 26 ≤ i := by omega
      have E2 := Aside0.mk (show encR (97 + q - 1) = ofL [UInt8.ofNat (97 + q - 1).toNat] by
        conv => lhs; rw [show 97 + q - 1 = (((97 + q - 1).toNat : Nat) : Int) by omega]
        exact encode_small _ (by omega))
      have Hn := Aside0.mk (show nameS i = ofL [UInt8.ofNat (97 + q - 1).toNat] ++ ofL [UInt8.ofNat (97 + r).toNat] by
        unfold nameS nameN
        rw [if_pos ⟨h0, h1⟩, if_neg (by omega), show 96 + i.toNat / 26 = (97 + q - 1).toNat by omega, show 97 + i.toNat % 26 = (97 + r).toNat by omega]
        rfl)
      go_enter Tryd.func15, Tryd.ntmps15
      go_wp2
      · rename_i hbig
        rw [E2.out, E3.out] at hbig
        exact absurd hbig (Nat.not_lt.mpr (by show 1 + 1 ≤ _; decide))
      · go_ret
        exact ⟨by rw [Hn.out, E2.out, E3.out]; rfl, Below.refl _ _⟩
  · have Hx := Aside0.mk (show nameS i = ofL [] from if_neg h)
    have h' : i < 0 ∨ (0 ≤ i ∧ 702 ≤ i) := by omega
    clear h
    rcases h' with h | ⟨h, h'⟩
    all_goals
      go_enter Tryd.func15, Tryd.ntmps15
      go_wp2
      go_ret
      exact ⟨by rw [Hx.out]; rfl, Below.refl _ _⟩
end
def abc : ByteArray := { data := #[97, 98, 99, 100, 101, 102, 103, 104, 105, 106, 107, 108, 109, 110, 111, 112, 113, 114, 115, 116, 117, 118, 119, 120, 121, 122] }
theorem abc_at : ∀ r : Fin 26, abc.extract r.val (r.val + 1) = ofL [UInt8.ofNat (97 + r.val)] := by decide
def abcE (i j : Int) : ByteArray := abc.extract i.toNat j.toNat
theorem abcE_at (r : Int) (h0 : 0 ≤ r) (h1 : r < 26) : abcE r (r + 1) = ofL [UInt8.ofNat (97 + r).toNat] := by
  obtain ⟨k, rfl⟩ := Int.eq_ofNat_of_zero_le h0
  have := abc_at ⟨k, by omega⟩
  unfold abcE
  rw [show ((k : Int) + 1).toNat = k + 1 by omega, show ((97 : Int) + k).toNat = 97 + k by omega, Int.toNat_natCast]
  exact this
theorem abc_cut (w : World) (i j : Int) (h0 : 0 ≤ i) (h1 : i ≤ j) (h2 : j ≤ 26) :
    (Instr.slice 9 (.string { data := #[97, 98, 99, 100, 101, 102, 103, 104, 105, 106, 107, 108, 109, 110, 111, 112, 113, 114, 115, 116, 117, 118, 119, 120, 121, 122] }) (some (.int .i64 i)) (some (.int .i64 j)) none).run Tryd.prog w = .ok (.string (abcE i j)) w :=
  run_slice_string w 9 abc .i64 .i64 i j Tryd.underlying9 h0 h1 h2
theorem abc_cut' (w : World) (q : Int) (h0 : 1 ≤ q) (h2 : q ≤ 26) :
    (Instr.slice 9 (.string { data := #[97, 98, 99, 100, 101, 102, 103, 104, 105, 106, 107, 108, 109, 110, 111, 112, 113, 114, 115, 116, 117, 118, 119, 120, 121, 122] }) (some (.int .i64 (q - 1))) (some (.int .i64 q)) none).run Tryd.prog w = .ok (.string (abcE (q - 1) q)) w :=
  abc_cut w _ _ (by omega) (by omega) h2

section
attribute [local go_sem high] abc_cut abc_cut'

set_option maxRecDepth 100000 in
set_option maxHeartbeats 1000000 in
theorem refname_any (i : Int) (w : World) :
    Calls Tryd.prog 16 #[.int .i64 i] w fun e w' => e = .returned (.string (nameS i)) ∧ Below w.heap.size w w' := by
  by_cases h : 0 ≤ i ∧ i < 702
  · obtain ⟨h0, h1⟩ := h
    obtain ⟨q, hqi⟩ : ∃ q : Int, i / 26 = q := ⟨_, rfl⟩
    obtain ⟨r, hri⟩ : ∃ r : Int, i % 26 = r := ⟨_, rfl⟩
    have h1' : i ≤ 701 := by omega
    have q1 : 0 ≤ q := by omega
    have q2 : q ≤ 26 := by omega
    have r0 : 0 ≤ r := by omega
    have r1 : r < 26 := by omega
    have r2 : r + 1 ≤ 26 := by omega
    have r3 : r ≤ r + 1 := by omega
    by_cases h2 : i ≤ 25
    · have Hn := Aside0.mk (show nameS i = ofL [UInt8.ofNat (97 + r).toNat] by
        unfold nameS nameN
        rw [if_pos ⟨h0, h1⟩, if_pos (by omega), show 97 + i.toNat = (97 + r).toNat by omega])
      go_enter Tryd.func16, Tryd.ntmps16
      go_wp2
      go_ret
      exact ⟨by rw [Hn.out, ← abcE_at r r0 r1]; rfl, Below.refl _ _⟩
    · have h2' : 25 < i := by omega
      have q3 : 1 ≤ q := by omega
      have Hn := Aside0.mk (show nameS i = ofL [UInt8.ofNat (97 + q - 1).toNat] ++ ofL [UInt8.ofNat (97 + r).toNat] by
        unfold nameS nameN
        rw [if_pos ⟨h0, h1⟩, if_neg (by omega), show 96 + i.toNat / 26 = (97 + q - 1).toNat by omega, show 97 + i.toNat % 26 = (97 + r).toNat by omega]
        rfl)
      go_enter Tryd.func16, Tryd.ntmps16
      go_wp2
      · rename_i hbig
        have e3 := abcE_at r r0 r1
        have e2 := abcE_at (q - 1) (by omega) (by omega)
        rw [show q - 1 + 1 = q by omega] at e2
        rw [e2, e3] at hbig
        exact absurd hbig (Nat.not_lt.mpr (by show 1 + 1 ≤ _; decide))
      · go_ret
        have e3 := abcE_at r r0 r1
        have e2 := abcE_at (q - 1) (by omega) (by omega)
        rw [show q - 1 + 1 = q by omega, show 97 + (q - 1) = 97 + q - 1 by omega] at e2
        exact ⟨by rw [Hn.out, ← e2, ← e3]; rfl, Below.refl _ _⟩
  · have Hx := Aside0.mk (show nameS i = ofL [] from if_neg h)
    have h' : i < 0 ∨ (0 ≤ i ∧ 701 < i) := by omega
    clear h
    rcases h' with h | ⟨h, h'⟩
    all_goals
      go_enter Tryd.func16, Tryd.ntmps16
      go_wp2
      go_ret
      exact ⟨by rw [Hx.out]; rfl, Below.refl _ _⟩
end
end Go.Proofs.YtaeaakcppheaoaaDoor
