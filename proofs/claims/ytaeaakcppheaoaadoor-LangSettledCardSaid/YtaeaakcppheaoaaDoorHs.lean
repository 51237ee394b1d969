/- What slices.Equal of names answers; the laws' examples. -/
import Derived.Test.YtaeaakcppheaoaaDoorHr
namespace Go.Proofs.YtaeaakcppheaoaaDoor
open Go.RowKit Go.Proofs.YtaeaakcppheaoaaDoorW.PrintWords Go.Maps

theorem str_cells {w : World} {b o : Nat} {l : List ByteArray} (h : Kd.C Kd.string w (some ⟨b, o, none⟩) l.length l) : ∀ j, j < l.length → w.cell? ⟨b, o + j, none⟩ = some (.string (l.getD j ByteArray.empty)) := by
  intro j hj
  obtain ⟨b', o', e, hc⟩ := str_at h j hj
  cases e
  rw [hc, rd_getElem l _ j hj]
theorem equal_names (A B : Option Addr) (c d : Nat) (l m : List ByteArray) (w : World) (hl : Kd.C Kd.string w A l.length l) (hm : Kd.C Kd.string w B m.length m) :
    Calls Tryd.prog 14 #[.slice A l.length c, .slice B m.length d] w fun e w' => e = .returned (.bool (decide (l = m))) ∧ Below w.heap.size w w' := by
  by_cases hn : l.length = m.length
  · by_cases h0 : l.length = 0
    · have e1 : l = [] := List.eq_nil_of_length_eq_zero h0
      have e2 : m = [] := List.eq_nil_of_length_eq_zero (by omega)
      subst e1; subst e2
      refine (Tryd.slices_Equal_string_empty A B c 0 d w (by decide)).mono ?_
      rintro e w' ⟨rfl, rfl⟩
      exact ⟨by simp, Below.refl _ _⟩
    · obtain ⟨b1, o1, rfl, _⟩ := str_at hl 0 (by omega)
      obtain ⟨b2, o2, rfl, _⟩ := str_at hm 0 (by omega)
      refine (Tryd.slices_Equal_string b1 o1 l.length c b2 o2 m.length d l m w (Nat.le_refl _) (Nat.le_refl _) (C_max hl) (C_max hm) (str_cells hl) (str_cells hm)).mono ?_
      rintro e w' ⟨rfl, q, rfl⟩
      exact ⟨by rw [List.take_length, List.take_length], pw_below_drewN (Below.refl _ _) _⟩
  · refine (Tryd.slices_Equal_string_lens A B l.length c m.length d w hn).mono ?_
    rintro e w' ⟨rfl, rfl⟩
    exact ⟨by rw [decide_eq_false (fun h => hn (by rw [h]))], Below.refl _ _⟩

def awk1 : ByteArray := { data := #[108, 97, 98, 101, 108, 32, 108, 111, 119, 32, 108, 101, 118, 101, 108, 32, 48, 10, 35, 32, 120, 10, 99, 108, 105, 101, 110, 116, 32, 108, 111, 119, 32, 115, 101, 99, 114, 101, 116, 32, 112, 37, 50, 48, 119, 32, 100, 111, 119, 110, 10] }
def awk2 : ByteArray := { data := #[99, 108, 105, 101, 110, 116, 32, 104, 105, 103, 104, 32, 115, 101, 99, 114, 101, 116, 32, 120, 10, 108, 97, 98, 101, 108, 32, 104, 105, 103, 104, 32, 108, 101, 118, 101, 108, 32, 49] }
theorem awk1_is : parseP awk1 = ⟨⟨[⟨0, 0⟩], [⟨4096, 4096, 4096⟩], [⟨0, ⟨#[112, 32, 119]⟩, true⟩]⟩, [⟨#[108, 111, 119]⟩], 0, 0⟩ := by kernel_rfl
theorem awk2_is : parseP awk2 = ⟨Pol0, [], 1, 90⟩ := by kernel_rfl

theorem parse_awk1 (m0 : Int) (w : World) (hm : w.cell? ⟨0, 0, none⟩ = some (.int .i64 m0)) : Calls Tryd.prog 11 #[.string { data := #[108, 97, 98, 101, 108, 32, 108, 111, 119, 32, 108, 101, 118, 101, 108, 32, 48, 10, 35, 32, 120, 10, 99, 108, 105, 101, 110, 116, 32, 108, 111, 119, 32, 115, 101, 99, 114, 101, 116, 32, 112, 37, 50, 48, 119, 32, 100, 111, 119, 110, 10] }] w fun e w' =>
    ∃ A0 c0 b1 o1 c1 b2 o2 c2 bn on cn, e = .returned (.tuple #[.agg #[.slice A0 1 c0, .slice (some ⟨b1, o1, none⟩) 1 c1, .slice (some ⟨b2, o2, none⟩) 1 c2],   .slice (some ⟨bn, on, none⟩) 1 cn, .int .i64 0, .int .i64 0]) ∧
      w'.cell? ⟨b1, o1 + 1, none⟩ = some (.int .i64 4096) ∧ w'.cell? ⟨b2, o2, none⟩ = some (.int .i64 0) ∧ w'.cell? ⟨b2, o2 + 1, none⟩ = some (.string ⟨#[112, 32, 119]⟩) ∧ w'.cell? ⟨b2, o2 + 2, none⟩ = some (.bool true) ∧
      w'.cell? ⟨bn, on, none⟩ = some (.string ⟨#[108, 111, 119]⟩) ∧ Below w.heap.size w w' := by
  refine (parse_any awk1 m0 w hm).mono ?_
  intro e w' hp
  rw [awk1_is] at hp
  obtain ⟨A0, c0, A1, c1, A2, c2, An, cn, rfl, h0, h1, h2, hn, _, _, _, _, hb⟩ := hp
  obtain ⟨b1, o1, rfl, q0, q1, q2⟩ := quo_at h1 0 (by decide)
  obtain ⟨b2, o2, rfl, e0, e1, e2⟩ := ent_at h2 0 (by decide)
  obtain ⟨bn, on, rfl, n0⟩ := str_at hn 0 (by decide)
  refine ⟨A0, c0, b1, o1, c1, b2, o2, c2, bn, on, cn, rfl, ?_, ?_, ?_, ?_, ?_, hb⟩
  · simpa using q1
  · simpa using e0
  · simpa using e1
  · simpa using e2
  · simpa using n0
theorem parse_awk2 (m0 : Int) (w : World) (hm : w.cell? ⟨0, 0, none⟩ = some (.int .i64 m0)) : Calls Tryd.prog 11 #[.string { data := #[99, 108, 105, 101, 110, 116, 32, 104, 105, 103, 104, 32, 115, 101, 99, 114, 101, 116, 32, 120, 10, 108, 97, 98, 101, 108, 32, 104, 105, 103, 104, 32, 108, 101, 118, 101, 108, 32, 49] }] w fun e w' =>
    ∃ A0 c0 A1 c1 A2 c2 An cn, e = .returned (.tuple #[.agg #[.slice A0 0 c0, .slice A1 0 c1, .slice A2 0 c2], .slice An 0 cn, .int .i64 1, .int .i64 90]) ∧ Below w.heap.size w w' := by
  refine (parse_any awk2 m0 w hm).mono ?_
  intro e w' hp
  rw [awk2_is] at hp
  obtain ⟨A0, c0, A1, c1, A2, c2, An, cn, rfl, _, _, _, _, _, _, _, _, hb⟩ := hp
  exact ⟨A0, c0, A1, c1, A2, c2, An, cn, rfl, hb⟩
theorem name27 (w : World) : Calls Tryd.prog 15 #[.int .i64 27] w fun e w' => e = .returned (.string ⟨#[97, 98]⟩) ∧ Below w.heap.size w w' := by
  refine (name_any 27 w).mono ?_
  rintro e w' ⟨rfl, hb⟩
  exact ⟨by kernel_rfl, hb⟩
theorem equal_low (bn on cn bm : Nat) (w : World) (h1 : w.cell? ⟨bn, on, none⟩ = some (.string ⟨#[108, 111, 119]⟩)) (h2 : w.cell? ⟨bm, 0, none⟩ = some (.string ⟨#[108, 111, 119]⟩)) :
    Calls Tryd.prog 14 #[.slice (some ⟨bn, on, none⟩) 1 cn, .slice (some ⟨bm, 0, none⟩) 1 1] w fun e w' => e = .returned (.bool true) ∧ Below w.heap.size w w' := by
  refine (Tryd.slices_Equal_string bn on 1 cn bm 0 1 1 [⟨#[108, 111, 119]⟩] [⟨#[108, 111, 119]⟩] w (by decide) (by decide) (by decide) (by decide) ?_ ?_).mono ?_
  · intro j hj
    obtain rfl : j = 0 := by simp at hj; omega
    exact h1
  · intro j hj
    obtain rfl : j = 0 := by simp at hj; omega
    exact h2
  · rintro e w' ⟨rfl, q, rfl⟩
    exact ⟨by simp, pw_below_drewN (Below.refl _ _) _⟩
theorem eqEnt (d : Nat) (w : World) (x0 y0 : Int) (x1 y1 : ByteArray) (x2 y2 : Bool) :
    (Op.equalIn (d + 2) 51 (.agg #[.int .i64 x0, .string x1, .bool x2]) (.agg #[.int .i64 y0, .string y1, .bool y2])).run Tryd.prog w = .ok (x0 == y0 && (x1.toList == y1.toList && (x2 == y2))) w := by
  refine eqA_of Tryd.underlying51 (by kernel_rfl) ?_
  refine eqf_cons (by rfl) (by go_simp; rfl) (by go_simp; rfl) (by go_simp) ?_
  refine eqf_cons (by rfl) (by go_simp; rfl) (by go_simp; rfl) (by go_simp) ?_
  exact eqf_last (by rfl) (by go_simp; rfl) (by go_simp; rfl) (by go_simp)

section
attribute [local go_sem high] eqEnt
set_option maxHeartbeats 4000000 in
theorem awake_any (m0 : Int) (w : World) (hm : w.cell? ⟨0, 0, none⟩ = some (.int .i64 m0)) :
    Calls Tryd.prog 10 #[] w fun e w' => e = .returned (.bool true) ∧ Below w.heap.size w w' := by
  have HM := Aside0.mk hm
  clear hm
  go_enter Tryd.func10, Tryd.ntmps10
  go_wp2_with (fail)
  go_at_call 11
  refine (parse_awk1 m0 _ HM.out).mono ?_
  rintro e w1 ⟨A0, c0, b1, o1, c1, b2, o2, c2, bn, on, cn, rfl, q1, e0, e1, e2, hn, hb⟩
  have Q1 := Aside0.mk q1
  have E0 := Aside0.mk e0
  have E1 := Aside0.mk e1
  have E2 := Aside0.mk e2
  have HN := Aside0.mk hn
  have HB := Aside0.mk hb
  clear q1 e0 e1 e2 hn hb
  go_wp2_with (fail)
  have hb1 := below_alloc HB.out (.cells #[.slice A0 1 c0, .slice (some ⟨b1, o1, none⟩) 1 c1, .slice (some ⟨b2, o2, none⟩) 1 c2] 27)
  refine (parse_awk2 m0 _ (pw_cell_below hb1 HM.out)).mono ?_
  rintro e w2 ⟨A3, c3, A4, c4, A5, c5, Am, cm, rfl, hb⟩
  have hb0 : Below w1.heap.size w1 (w1.alloc _) := (Below.refl _ _).alloc (Nat.le_refl _) (.cells #[.slice A0 1 c0, .slice (some ⟨b1, o1, none⟩) 1 c1, .slice (some ⟨b2, o2, none⟩) 1 c2] 27)
  have hbb : Below w1.heap.size w1 w2 := below_then hb0 hb0.size hb
  have K1 := Aside0.mk (blk_below (blk_new w1 (.cells #[.slice A0 1 c0, .slice (some ⟨b1, o1, none⟩) 1 c1, .slice (some ⟨b2, o2, none⟩) 1 c2] 27)) hb)
  have HB2 := Aside0.mk (below_then HB.out HB.out.size hbb)
  have Q1' := Aside0.mk (pw_cell_below hbb Q1.out)
  have E0' := Aside0.mk (pw_cell_below hbb E0.out)
  have E1' := Aside0.mk (pw_cell_below hbb E1.out)
  have E2' := Aside0.mk (pw_cell_below hbb E2.out)
  have HN' := Aside0.mk (pw_cell_below hbb HN.out)
  clear hb hb0 hb1 hbb
  go_wp2_with (fail)
  obtain ⟨w3, hw3⟩ : ∃ w3, w3 = (w2.alloc (.cells #[.slice A3 0 c3, .slice A4 0 c4, .slice A5 0 c5] 27)).alloc (.cells #[.string { data := #[108, 111, 119] }] 9) := ⟨_, rfl⟩
  have hb3 : Below w2.heap.size w2 w3 := by rw [hw3]; exact below_alloc (below_alloc (Below.refl _ _) _) _
  have hc3 : w3.cell? ⟨w2.heap.size + 1, 0, none⟩ = some (.string ⟨#[108, 111, 119]⟩) := by
    rw [hw3]; exact blk_cell (blk_new_at (by simp) _) 0
  rw [← hw3]
  refine (equal_low _ _ _ _ _ (pw_cell_below hb3 HN'.out) hc3).mono ?_
  rintro e w4 ⟨rfl, hb4⟩
  have hbb : Below w2.heap.size w2 w4 := below_then hb3 hb3.size hb4
  have q1 := pw_cell_below hbb Q1'.out
  have e0 := pw_cell_below hbb E0'.out
  have e1 := pw_cell_below hbb E1'.out
  have e2 := pw_cell_below hbb E2'.out
  have k1 := blk_below K1.out hbb
  have k10 := blk_cell k1 0
  have k11 := blk_cell k1 1
  have k12 := blk_cell k1 2
  have HB4 := Aside0.mk (below_then HB2.out HB2.out.size hbb)
  clear hbb hb4 hc3 hb3 hw3 k1
  go_wp2_with (fail)
  refine (name27 w4).mono ?_
  rintro e w5 ⟨rfl, hb5⟩
  have HB5 := Aside0.mk (below_then HB4.out HB4.out.size hb5)
  go_wp2
  go_ret
  exact ⟨rfl, HB5.out⟩
end
end Go.Proofs.YtaeaakcppheaoaaDoor
