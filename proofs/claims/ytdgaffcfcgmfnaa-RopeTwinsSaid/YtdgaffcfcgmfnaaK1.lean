/- slices.Clone at the sequence's nodes, and at calls. -/
import Derived.Test.YtdgaffcfcgmfnaaZp
namespace Go.Proofs.Ytdgaffcfcgmfnaa
open Go.RowKit Go.Sl

set_option maxRecDepth 100000 in
set_option maxHeartbeats 1000000 in
theorem cloneN {k w : World} {L : List Asn} {v : Value} {n : Nat} {cs : List Value} {R : Ending → World → Prop} (h : St k w L) (hr : Reads w 35 v n cs) (h1 : ∀ u ∈ cs, u.oneCell' = true) (hb : n * 312 ≤ 140737488355328)
    (hR : ∀ v' w', St k w' (rowA 107 35 v' n cs :: L) → (v' = .slice none 0 0 ↔ v = .slice none 0 0) → R (.returned v') w') :
    Calls Try.prog 74 #[v] w R := by
  have H := Lib.hid h
  have HR := Lib.hid hr
  have H1 := Lib.hid h1
  have HB := Lib.hid hb
  have HQ := Lib.hid hR
  clear h h1 hb hR
  obtain ⟨A, c, rfl, hnc, hcm, hA, -⟩ := hr.at_
  have hn : n ≤ maxLen := Nat.le_trans hnc hcm
  clear hr
  have q := fun (w : World) a n c => Lib.run_eql_slice_nil w 82 107 a n c 0 0 Try.underlying82
  cases A with
  | none =>
    obtain ⟨rfl, rfl⟩ := hA rfl
    go_enter Try.func74, Try.ntmps74
    go_wp2
    have hl := HR.out.len
    obtain rfl : cs = [] := List.eq_nil_of_length_eq_zero (by simpa using hl)
    exact HQ.out _ _ (H.out.nilA 107 35) (by simp)
  | some a =>
    clear hA
    go_enter Try.func74, Try.ntmps74
    go_wp2_with ((at_builtin; refine wpList_append rfl _ _ rfl Try.underlying82 info107 rfl (by decide) (n := 0) (cs := []) ((H.out.alloc (.cells #[] 107)).shutA (cap := 0) (sz := 35) (Nat.le_refl _) (by decide) rfl rfl) (HR.out.alloc _) rfl rfl H1.out (by simpa using hn) (by simpa using HB.out) ?_; intro v' w' h2 h3))
    refine HQ.out _ _ ?_ ?_
    · simpa using h2
    · exact h3.trans (by simp)
set_option maxRecDepth 100000 in
set_option maxHeartbeats 1000000 in
theorem cloneD {k w : World} {L : List Asn} {v : Value} {n : Nat} {cs : List Value} {R : Ending → World → Prop} (h : St k w L) (hr : Reads w 6 v n cs) (h1 : ∀ u ∈ cs, u.oneCell' = true) (hb : n * 64 ≤ 140737488355328)
    (hR : ∀ v' w', St k w' (rowA 48 6 v' n cs :: L) → (v' = .slice none 0 0 ↔ v = .slice none 0 0) → R (.returned v') w') :
    Calls Try.prog 48 #[v] w R := by
  have H := Lib.hid h
  have HR := Lib.hid hr
  have H1 := Lib.hid h1
  have HB := Lib.hid hb
  have HQ := Lib.hid hR
  clear h h1 hb hR
  obtain ⟨A, c, rfl, hnc, hcm, hA, -⟩ := hr.at_
  have hn : n ≤ maxLen := Nat.le_trans hnc hcm
  clear hr
  have q := fun (w : World) a n c => Lib.run_eql_slice_nil w 27 48 a n c 0 0 Try.underlying27
  cases A with
  | none =>
    obtain ⟨rfl, rfl⟩ := hA rfl
    go_enter Try.func48, Try.ntmps48
    go_wp2
    have hl := HR.out.len
    obtain rfl : cs = [] := List.eq_nil_of_length_eq_zero (by simpa using hl)
    exact HQ.out _ _ (H.out.nilA 48 6) (by simp)
  | some a =>
    clear hA
    go_enter Try.func48, Try.ntmps48
    go_wp2_with ((at_builtin; refine wpList_append rfl _ _ rfl Try.underlying27 info48 rfl (by decide) (n := 0) (cs := []) ((H.out.alloc (.cells #[] 48)).shutA (cap := 0) (sz := 6) (Nat.le_refl _) (by decide) rfl rfl) (HR.out.alloc _) rfl rfl H1.out (by simpa using hn) (by simpa using HB.out) ?_; intro v' w' h2 h3))
    refine HQ.out _ _ ?_ ?_
    · simpa using h2
    · exact h3.trans (by simp)
end Go.Proofs.Ytdgaffcfcgmfnaa
