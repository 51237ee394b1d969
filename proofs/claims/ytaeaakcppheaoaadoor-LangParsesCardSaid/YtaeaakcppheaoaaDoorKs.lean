/- A label's line of four words. A label's line of six words. A label's line that is none. What the reference's line does. -/
import Derived.Test.YtaeaakcppheaoaaDoorKr
namespace Go.Proofs.YtaeaakcppheaoaaDoor
open Go.RowKit Go.Proofs.YtaeaakcppheaoaaDoorW.PrintWords Go.Maps

set_option maxRecDepth 100000 in
set_option maxHeartbeats 16000000 in
theorem reflabel_4 (base g N : Nat) (s : St) (A : Option Addr) (c : Nat) (l : List ByteArray) (w : World) (hR : RRd w base g N s) (hf : s.Fits) (hN : N ≤ w.heap.size) (hbase : base ≤ N)
    (hr : Kd.C Kd.string w A l.length l) (hsz : ∀ x ∈ l, x.size ≤ 32768) (h4 : 4 ≤ l.length) (h0 : l.getD 0 (ofL []) = ofL [108, 97, 98, 101, 108]) (hG : goodL s l) (hn4 : l.length = 4) :
    Calls Tryd.prog 27 #[.pointer (some ⟨g, 0, none⟩), .slice A l.length c] w (RefPost base g w s (labelP s l)) := by
  have HR := Aside0.mk hR
  have Hr := Aside0.mk hr
  have HF := Aside0.mk hf
  have HS := Aside0.mk hsz
  clear hR hr hf hsz
  obtain ⟨b, o, rfl, hc1⟩ := str_at Hr.out 1 (by omega)
  have hat : ∀ k, k < l.length → w.cell? ⟨b, o + k, none⟩ = some (.string (l.getD k (ofL []))) := by
    intro k hk
    obtain ⟨b2, o2, hA, hc2⟩ := str_at Hr.out k hk
    injection hA with hA
    injection hA with h1 h2
    subst h1 h2
    rw [rd_getElem l _ k hk]; exact hc2
  obtain ⟨x0, hx0⟩ : ∃ x, x = l.getD 0 (ofL []) := ⟨_, rfl⟩
  obtain ⟨x1, hx1⟩ : ∃ x, x = l.getD 1 (ofL []) := ⟨_, rfl⟩
  obtain ⟨x2, hx2⟩ : ∃ x, x = l.getD 2 (ofL []) := ⟨_, rfl⟩
  obtain ⟨x3, hx3⟩ : ∃ x, x = l.getD 3 (ofL []) := ⟨_, rfl⟩
  obtain ⟨x4, hx4⟩ : ∃ x, x = l.getD 4 (ofL []) := ⟨_, rfl⟩
  obtain ⟨x5, hx5⟩ : ∃ x, x = l.getD 5 (ofL []) := ⟨_, rfl⟩
  have c0 : w.cell? ⟨b, o, none⟩ = some (.string x0) := by rw [hx0]; exact hat 0 (by omega)
  have c1 : w.cell? ⟨b, o + 1, none⟩ = some (.string x1) := by rw [hx1]; exact hat 1 (by omega)
  have c2 : w.cell? ⟨b, o + 2, none⟩ = some (.string x2) := by rw [hx2]; exact hat 2 (by omega)
  have c3 : w.cell? ⟨b, o + 3, none⟩ = some (.string x3) := by rw [hx3]; exact hat 3 (by omega)
  have C4 := Aside0.mk (show 5 ≤ l.length → w.cell? ⟨b, o + 4, none⟩ = some (.string x4) from fun h => by rw [hx4]; exact hat 4 (by omega))
  have C5 := Aside0.mk (show 6 ≤ l.length → w.cell? ⟨b, o + 5, none⟩ = some (.string x5) ∧ x5.size ≤ 32768 from fun h => ⟨by rw [hx5]; exact hat 5 (by omega), by
    rw [hx5, rd_getElem l _ 5 (by omega)]
    exact HS.out _ (List.getElem_mem _)⟩)
  have hsz1 : x1.size ≤ 32768 := by
    rw [hx1, rd_getElem l _ 1 (by omega)]
    exact HS.out _ (List.getElem_mem _)
  obtain ⟨n, hn⟩ : ∃ n, n = l.length := ⟨_, rfl⟩
  have hnm : n ≤ 9223372036854775807 := by rw [hn]; exact C_max Hr.out
  obtain ⟨i, hi⟩ : ∃ i, idxI s.names x1 = i := ⟨_, rfl⟩
  have hilt : i < 32 := by
    have hn := HF.out.n
    rw [← hi]
    unfold idxI
    split <;> omega
  have hige : -1 ≤ i := by
    rw [← hi]
    unfold idxI
    split <;> omega
  obtain ⟨wb, hwb⟩ : ∃ v, wordB x1.data.toList = v := ⟨_, rfl⟩
  obtain ⟨n3, hn3⟩ : ∃ v, numI x3.data.toList = v := ⟨_, rfl⟩
  obtain ⟨e2, he2⟩ : ∃ v, (x2.toList == [108, 101, 118, 101, 108]) = v := ⟨_, rfl⟩
  obtain ⟨e4, he4⟩ : ∃ v, (x4.toList == [99, 111, 109, 112, 115]) = v := ⟨_, rfl⟩
  have f3 := numI_facts x3.data.toList
  rw [hn3] at f3
  have HD := Aside0.mk (show labelP s l = if wb = true ∧ i < 0 ∧ e2 = true ∧ 0 ≤ n3 ∧ (n = 4 ∨ n = 6 ∧ e4 = true) then (if n = 6 then (compsO x5.data.toList).bind fun c => labelQ s x1 ⟨n3, (c : Int)⟩ else labelQ s x1 ⟨n3, 0⟩) else none by
    unfold labelP labOf labOf4 labOf6
    rw [← hx1, ← hx2, ← hx3, ← hx4, ← hx5, ← hn, hi, hwb]
    have d2 : (x2 = ofL [108, 101, 118, 101, 108]) ↔ e2 = true := by rw [← he2, str_eq, decide_eq_true_eq]
    have d4 : (x4 = ofL [99, 111, 109, 112, 115]) ↔ e4 = true := by rw [← he4, str_eq, decide_eq_true_eq]
    simp only [d2, d4]
    by_cases hb : numB x3.data.toList = true
    · have hv := f3.2.1 hb
      have h03 := f3.1.1 hb
      by_cases h6 : n = 6
      · subst h6
        rw [if_pos rfl, if_pos rfl]
        cases wb <;> cases e2 <;> cases e4 <;> by_cases hi0 : i < 0 <;> cases compsO x5.data.toList <;> simp [hb, h03, hi0, ← hv]
      · by_cases h4 : n = 4
        · subst h4
          cases wb <;> cases e2 <;> by_cases hi0 : i < 0 <;> simp [hb, h03, hi0, ← hv]
        · simp [h4, h6]
    · have h03 : ¬ 0 ≤ n3 := fun h => hb (f3.1.2 h)
      rw [if_neg (c := wb = true ∧ i < 0 ∧ e2 = true ∧ 0 ≤ n3 ∧ (n = 4 ∨ n = 6 ∧ e4 = true)) (fun h => h03 h.2.2.2.1)]
      simp [hb])
  obtain ⟨-, -, l3, u3⟩ := f3
  have hgd : goodL s l ↔ (wb = true ∧ i < 0 ∧ e2 = true ∧ 0 ≤ n3 ∧ (n = 4 ∨ n = 6 ∧ e4 = true)) := by
    unfold goodL
    rw [← hx1, ← hx2, ← hx3, ← hx4, ← hn, hi, hwb, hn3, he2, he4]
  have Hi := Aside0.mk hi
  have HW := Aside0.mk (refword_is x1 · hsz1 wb hwb)
  have HNUM := Aside0.mk (refnum_is x3 · n3 hn3)
  rw [← hx0] at h0
  have z1 : (x0.toList == [108, 97, 98, 101, 108]) = true := by rw [str_eq, h0, decide_eq_true rfl]
  rw [← hn] at C4 C5 h4 hn4 ⊢
  clear hat hc1 hx0 hx1 hx2 hx3 hx4 hx5 hi hn h0 hsz1 hwb hn3
  have h4' : (4 : Int) ≤ n := by omega
  have hlb : b < w.heap.size := World.block_lt_of_cell? _ _ c1
  obtain ⟨An, cn, hgn, hCn⟩ := ref_names HR.out
  have HP := Aside0.mk (place_is g cn An s.names x1 w i Hi.out hgn hCn)
  clear hCn hgn
  have HNo := Aside0.mk (show ¬ (wb = true ∧ i < 0 ∧ e2 = true ∧ 0 ≤ n3 ∧ (n = 4 ∨ n = 6 ∧ e4 = true)) → labelP s l = none from fun h => by rw [HD.out, if_neg h])
  have hok := hgd.1 hG
  clear hgd hG
  obtain ⟨rfl, hi0, rfl, hn0, hnn⟩ := hok
  have HD2 := Aside0.mk (show labelP s l = (if n = 6 then (compsO x5.data.toList).bind fun c => labelQ s x1 ⟨n3, (c : Int)⟩ else labelQ s x1 ⟨n3, 0⟩) by rw [HD.out, if_pos ⟨rfl, hi0, rfl, hn0, hnn⟩])
  have HD6 := Aside0.mk (show n = 6 → labelP s l = (compsO x5.data.toList).bind fun c => labelQ s x1 ⟨n3, (c : Int)⟩ from fun h => by rw [HD2.out, if_pos h])
  have HD4 := Aside0.mk (show n = 4 → labelP s l = labelQ s x1 ⟨n3, 0⟩ from fun h => by rw [HD2.out, if_neg (by omega)])
  clear HD HNo HD2
  rcases hnn with rfl | ⟨rfl, rfl⟩
  · replace HD4 := HD4.out rfl
    have HD4' := Aside0.mk HD4
    clear HD4 HD6
    go_enter Tryd.func27, Tryd.ntmps27
    go_wp2_with fail
    refine HP.out.mono ?_
    rintro e w' ⟨rfl, rfl⟩
    go_wp2_with fail
    refine (HNUM.out w).mono ?_
    rintro e w' ⟨rfl, rfl⟩
    go_wp2_with fail
    obtain ⟨W0, hW⟩ : ∃ W, W = w.alloc (.cells #[.int .i64 n3, .int .u32 0] 66) := ⟨_, rfl⟩
    have HB0 := Aside0.mk (show Below w.heap.size w W0 by rw [hW]; exact (Below.refl _ _).alloc (Nat.le_refl _) _)
    have Hbx0 := Aside0.mk (show W0.heap[w.heap.size]? = some (.cells #[.int .i64 n3, .int .u32 0] 66 (0, 0)) by rw [hW]; exact blk_new _ _)
    rw [← hW]
    clear hW
    refine (HW.out W0).mono ?_
    rintro e W ⟨rfl, hbW⟩
    have HBW := Aside0.mk (below_step HB0.out hbW)
    have Hbx := Aside0.mk (blk_below Hbx0.out hbW)
    have c2' := pw_cell_below HBW.out c2
    have r0 := blk_cell Hbx.out 0
    clear hbW HB0 Hbx0
    go_wp2
    obtain ⟨xl, hxl⟩ : ∃ xl : Lab, xl = ⟨n3, 0⟩ := ⟨_, rfl⟩
    have Hq := Aside0.mk (show labelP s l = labelQ s x1 xl by rw [HD4'.out, hxl])
    have Hbx2 := Aside0.mk (show W.heap[w.heap.size]? = some (.cells #[.int .i64 xl.lev, .int .u32 xl.com] 66 (0, 0)) by rw [hxl]; exact Hbx.out)
    clear hxl Hbx r0 c2'
    generalize hbx : w.heap.size = bx at Hbx2 ⊢
    have hwbx : w.heap.size ≤ bx := by omega
    clear hbx
    have hgb2 : base ≤ w.heap.size := by omega
    have HRW := Aside0.mk (HR.out.keep HBW.out)
    obtain ⟨Al, cl, Aq, nq, cq, Ae, ne, ce, p0, p1, p2, hCl⟩ := ref_pol HRW.out
    obtain ⟨Ann, cnn, p3, hCnn⟩ := ref_names HRW.out
    have HCl := Aside0.mk hCl
    have s0 : ∀ n : Later W, n.w.cell? ⟨bx, 0, none⟩ = some (.int .i64 xl.lev) := later_cell (blk_cell Hbx2.out 0)
    have s1 : ∀ n : Later W, n.w.cell? ⟨bx, 1, none⟩ = some (.int .u32 xl.com) := later_cell (blk_cell Hbx2.out 1)
    have s2 : ∀ n : Later W, n.w.cell? ⟨g, 0, none⟩ = _ := later_cell p0
    have s3 : ∀ n : Later W, n.w.cell? ⟨g, 1, none⟩ = _ := later_cell p1
    have s4 : ∀ n : Later W, n.w.cell? ⟨g, 2, none⟩ = _ := later_cell p2
    clear hCl hCnn p0 p1 p2
    have Hq0 := Aside0.mk (show ¬ (checkN xl = 0 ∧ xl ∉ s.labels ∧ s.labels.length < 32) → labelP s l = none from fun h => by
      rw [Hq.out]; unfold labelQ; rw [if_neg h])
    obtain ⟨ai, hai⟩ : ∃ v, atI s.labels xl = v := ⟨_, rfl⟩
    have Hai := Aside0.mk hai
    clear hai
    cases hcon : decide (xl ∈ s.labels) with
    | true =>
      have Hcon := Aside0.mk hcon
      have Hfin := Aside0.mk (Hq0.out (fun h => h.2.1 (of_decide_eq_true hcon)))
      clear hcon p3
      refine wp_region_later (by kernel_rfl) (by kernel_rfl) ?_
      repeat (go_big_quiet_step (exact calls_later (at_is _ _ _ _ _ _ _ _ _ _ _ (later_C HCl.out _) _ _ Hai.out Hcon.out)))
      refine wpQuiet_nil (later_elim fun w4 hb4 => ?_)
      go_wp2
      go_ret
      exact ref_fails Hfin.out HR.out (below_step HBW.out hb4) hgb2
    | false =>
      have Hcon := Aside0.mk hcon
      clear hcon
      refine wp_region_later (by kernel_rfl) (by kernel_rfl) ?_
      repeat (go_big_quiet_step (exact calls_later (at_is _ _ _ _ _ _ _ _ _ _ _ (later_C HCl.out _) _ _ Hai.out Hcon.out)))
      refine wpQuiet_nil (later_elim fun w4 hb4 => ?_)
      have HB4 := Aside0.mk (below_step HBW.out hb4)
      have Hbx4 := Aside0.mk (blk_below Hbx2.out hb4)
      have b0 := blk_cell Hbx4.out 0
      have b1 := blk_cell Hbx4.out 1
      have p3' := pw_cell_below hb4 p3
      clear s0 s1 s2 s3 s4 HCl HRW hb4 Hbx2 HBW p3
      go_wp2_with fail
      obtain ⟨cv, hcv⟩ : ∃ v, checkN xl = v := ⟨_, rfl⟩
      refine (refcheck_is xl w4 cv hcv).mono ?_
      rintro e w5 ⟨rfl, hb5⟩
      have HB5 := Aside0.mk (below_step HB4.out hb5)
      have Hbx5 := Aside0.mk (blk_below Hbx4.out hb5)
      have p3 := pw_cell_below hb5 p3'
      clear b0 b1 p3' Hbx4 HB4 hb5
      have hfn := HF.out.n
      have hfl := HF.out.l
      by_cases hc0 : cv = 0
      · subst hc0
        by_cases hn32 : s.names.length = 32
        · have Hfin := Aside0.mk (Hq0.out (fun h => by have := h.2.2; omega))
          rw [hn32] at p3
          clear hfn hfl hn32 hcv
          go_wp2
          go_ret
          exact ref_fails Hfin.out HR.out HB5.out hgb2
        · have hne : ((s.names.length : Int) == 32) = false := beq_eq_false_iff_ne.2 (by omega)
          have Hsuc := Aside0.mk (show labelP s l = some ⟨s.names ++ [x1], s.labels ++ [xl], s.quotas ++ [⟨4096, 4096, 4096⟩], s.entries, s.told ++ [false]⟩ by
            rw [Hq.out]; unfold labelQ; rw [if_pos ⟨hcv, of_decide_eq_false Hcon.out, by omega⟩])
          clear hn32 hcv Hq0 hfl
          have hnlt : s.names.length < 32 := by have := beq_eq_false_iff_ne.1 hne; omega
          go_upto_region 29 with (fail)
          exact label_puts base g N _ b o _ c s x1 xl w5 _ _ _ _ _ _ _ _ _ _ _ _ _ _ _ _ _ _ _ _ _ _ _ _ _ _ _ _ _ _ _ _ _ _ _ _ _ _ _ _ _ _ _ _ _ _ _ _ _ _ _ _ _ _ _ _ _ _ _ _ _ _ _ _ _ _ _ _ _ _ _ _ _ _ _ _ _ _ _ _ _ _ _ _ _ _ _ _ _ _ _ _ _ _ _ _ _ _ _ _ _ _ _ _ _ _ _ _ _ _ _ _ _ _ _ _ _ _ _ _ _ _ _ _ _ _ _ _ _ _ _ _ _ _ _ _ _ _ _ _ _ _ _ _ _ _ _ _ _ _ _ _ _ _ _ _ _ _ _ _ _ _ _ _ _ _ _ _ _ _ _ _ _ _ _ _ _ _ _ _ _ _ _ _ _ _ _ _ _ _ _ _ _ _ _ _ _ _ _ _ _ _ _ _ _ _ _ _ _ _ _ _ _ _ _ _ _ _ _ _ _ _ _ _ _ _ _ _ _ _ _ _ _ _ _ _ _ _ _ _ _ _ _ _ _ _ _ _ _ _ _ _ _ _ _ _ _ _ _ _ _ _ _ _ _ _ _ _ _ _ _ _ _ _ _ _ _ _ _ _ _ _ _ _ _ _ _ _ _ _ _ _ _ _ _ _ _ _ _ _ _ _ _ _ _ _ _ _ _ _ _ _ _ _ _ _ _ _ _ _ _ _ _ _ _ _ _ _ (RefPost base g w s (labelP s l)) ⟨HR.out.keep HB5.out⟩ HF hnlt Hbx5 (by omega) (by omega) (pw_cell_below HB5.out c1) (Nat.le_trans hgb2 HB5.out.size) (fun w' hR hK => ⟨by rw [Hsuc.out]; rfl, by rw [Hsuc.out]; exact hR, (Keep2.below HB5.out hgb2).trans hK⟩) (by assumption)
      · have Hfin := Aside0.mk (Hq0.out (fun h => hc0 (hcv.symm.trans h.1)))
        have hc10 : cv = 10 := by
          rw [← hcv]; unfold checkN; split
          · rfl
          · exact absurd (hcv.symm.trans (by unfold checkN; rw [if_neg (by assumption)])) hc0
        subst hc10
        clear hc0 hcv
        go_wp2
        go_ret
        exact ref_fails Hfin.out HR.out HB5.out hgb2
  · omega
end Go.Proofs.YtaeaakcppheaoaaDoor
namespace Go.Proofs.YtaeaakcppheaoaaDoor
open Go.RowKit Go.Proofs.YtaeaakcppheaoaaDoorW.PrintWords Go.Maps

set_option maxRecDepth 100000 in
set_option maxHeartbeats 16000000 in
theorem reflabel_6 (base g N : Nat) (s : St) (A : Option Addr) (c : Nat) (l : List ByteArray) (w : World) (hR : RRd w base g N s) (hf : s.Fits) (hN : N ≤ w.heap.size) (hbase : base ≤ N)
    (hr : Kd.C Kd.string w A l.length l) (hsz : ∀ x ∈ l, x.size ≤ 32768) (h4 : 4 ≤ l.length) (h0 : l.getD 0 (ofL []) = ofL [108, 97, 98, 101, 108]) (hG : goodL s l) (hn6 : l.length = 6) :
    Calls Tryd.prog 27 #[.pointer (some ⟨g, 0, none⟩), .slice A l.length c] w (RefPost base g w s (labelP s l)) := by
  have HR := Aside0.mk hR
  have Hr := Aside0.mk hr
  have HF := Aside0.mk hf
  have HS := Aside0.mk hsz
  clear hR hr hf hsz
  obtain ⟨b, o, rfl, hc1⟩ := str_at Hr.out 1 (by omega)
  have hat : ∀ k, k < l.length → w.cell? ⟨b, o + k, none⟩ = some (.string (l.getD k (ofL []))) := by
    intro k hk
    obtain ⟨b2, o2, hA, hc2⟩ := str_at Hr.out k hk
    injection hA with hA
    injection hA with h1 h2
    subst h1 h2
    rw [rd_getElem l _ k hk]; exact hc2
  obtain ⟨x0, hx0⟩ : ∃ x, x = l.getD 0 (ofL []) := ⟨_, rfl⟩
  obtain ⟨x1, hx1⟩ : ∃ x, x = l.getD 1 (ofL []) := ⟨_, rfl⟩
  obtain ⟨x2, hx2⟩ : ∃ x, x = l.getD 2 (ofL []) := ⟨_, rfl⟩
  obtain ⟨x3, hx3⟩ : ∃ x, x = l.getD 3 (ofL []) := ⟨_, rfl⟩
  obtain ⟨x4, hx4⟩ : ∃ x, x = l.getD 4 (ofL []) := ⟨_, rfl⟩
  obtain ⟨x5, hx5⟩ : ∃ x, x = l.getD 5 (ofL []) := ⟨_, rfl⟩
  have c0 : w.cell? ⟨b, o, none⟩ = some (.string x0) := by rw [hx0]; exact hat 0 (by omega)
  have c1 : w.cell? ⟨b, o + 1, none⟩ = some (.string x1) := by rw [hx1]; exact hat 1 (by omega)
  have c2 : w.cell? ⟨b, o + 2, none⟩ = some (.string x2) := by rw [hx2]; exact hat 2 (by omega)
  have c3 : w.cell? ⟨b, o + 3, none⟩ = some (.string x3) := by rw [hx3]; exact hat 3 (by omega)
  have C4 := Aside0.mk (show 5 ≤ l.length → w.cell? ⟨b, o + 4, none⟩ = some (.string x4) from fun h => by rw [hx4]; exact hat 4 (by omega))
  have C5 := Aside0.mk (show 6 ≤ l.length → w.cell? ⟨b, o + 5, none⟩ = some (.string x5) ∧ x5.size ≤ 32768 from fun h => ⟨by rw [hx5]; exact hat 5 (by omega), by
    rw [hx5, rd_getElem l _ 5 (by omega)]
    exact HS.out _ (List.getElem_mem _)⟩)
  have hsz1 : x1.size ≤ 32768 := by
    rw [hx1, rd_getElem l _ 1 (by omega)]
    exact HS.out _ (List.getElem_mem _)
  obtain ⟨n, hn⟩ : ∃ n, n = l.length := ⟨_, rfl⟩
  have hnm : n ≤ 9223372036854775807 := by rw [hn]; exact C_max Hr.out
  obtain ⟨i, hi⟩ : ∃ i, idxI s.names x1 = i := ⟨_, rfl⟩
  have hilt : i < 32 := by
    have hn := HF.out.n
    rw [← hi]
    unfold idxI
    split <;> omega
  have hige : -1 ≤ i := by
    rw [← hi]
    unfold idxI
    split <;> omega
  obtain ⟨wb, hwb⟩ : ∃ v, wordB x1.data.toList = v := ⟨_, rfl⟩
  obtain ⟨n3, hn3⟩ : ∃ v, numI x3.data.toList = v := ⟨_, rfl⟩
  obtain ⟨e2, he2⟩ : ∃ v, (x2.toList == [108, 101, 118, 101, 108]) = v := ⟨_, rfl⟩
  obtain ⟨e4, he4⟩ : ∃ v, (x4.toList == [99, 111, 109, 112, 115]) = v := ⟨_, rfl⟩
  have f3 := numI_facts x3.data.toList
  rw [hn3] at f3
  have HD := Aside0.mk (show labelP s l = if wb = true ∧ i < 0 ∧ e2 = true ∧ 0 ≤ n3 ∧ (n = 4 ∨ n = 6 ∧ e4 = true) then (if n = 6 then (compsO x5.data.toList).bind fun c => labelQ s x1 ⟨n3, (c : Int)⟩ else labelQ s x1 ⟨n3, 0⟩) else none by
    unfold labelP labOf labOf4 labOf6
    rw [← hx1, ← hx2, ← hx3, ← hx4, ← hx5, ← hn, hi, hwb]
    have d2 : (x2 = ofL [108, 101, 118, 101, 108]) ↔ e2 = true := by rw [← he2, str_eq, decide_eq_true_eq]
    have d4 : (x4 = ofL [99, 111, 109, 112, 115]) ↔ e4 = true := by rw [← he4, str_eq, decide_eq_true_eq]
    simp only [d2, d4]
    by_cases hb : numB x3.data.toList = true
    · have hv := f3.2.1 hb
      have h03 := f3.1.1 hb
      by_cases h6 : n = 6
      · subst h6
        rw [if_pos rfl, if_pos rfl]
        cases wb <;> cases e2 <;> cases e4 <;> by_cases hi0 : i < 0 <;> cases compsO x5.data.toList <;> simp [hb, h03, hi0, ← hv]
      · by_cases h4 : n = 4
        · subst h4
          cases wb <;> cases e2 <;> by_cases hi0 : i < 0 <;> simp [hb, h03, hi0, ← hv]
        · simp [h4, h6]
    · have h03 : ¬ 0 ≤ n3 := fun h => hb (f3.1.2 h)
      rw [if_neg (c := wb = true ∧ i < 0 ∧ e2 = true ∧ 0 ≤ n3 ∧ (n = 4 ∨ n = 6 ∧ e4 = true)) (fun h => h03 h.2.2.2.1)]
      simp [hb])
  obtain ⟨-, -, l3, u3⟩ := f3
  have hgd : goodL s l ↔ (wb = true ∧ i < 0 ∧ e2 = true ∧ 0 ≤ n3 ∧ (n = 4 ∨ n = 6 ∧ e4 = true)) := by
    unfold goodL
    rw [← hx1, ← hx2, ← hx3, ← hx4, ← hn, hi, hwb, hn3, he2, he4]
  have Hi := Aside0.mk hi
  have HW := Aside0.mk (refword_is x1 · hsz1 wb hwb)
  have HNUM := Aside0.mk (refnum_is x3 · n3 hn3)
  rw [← hx0] at h0
  have z1 : (x0.toList == [108, 97, 98, 101, 108]) = true := by rw [str_eq, h0, decide_eq_true rfl]
  rw [← hn] at C4 C5 h4 hn6 ⊢
  clear hat hc1 hx0 hx1 hx2 hx3 hx4 hx5 hi hn h0 hsz1 hwb hn3
  have h4' : (4 : Int) ≤ n := by omega
  have hlb : b < w.heap.size := World.block_lt_of_cell? _ _ c1
  obtain ⟨An, cn, hgn, hCn⟩ := ref_names HR.out
  have HP := Aside0.mk (place_is g cn An s.names x1 w i Hi.out hgn hCn)
  clear hCn hgn
  have HNo := Aside0.mk (show ¬ (wb = true ∧ i < 0 ∧ e2 = true ∧ 0 ≤ n3 ∧ (n = 4 ∨ n = 6 ∧ e4 = true)) → labelP s l = none from fun h => by rw [HD.out, if_neg h])
  have hok := hgd.1 hG
  clear hgd hG
  obtain ⟨rfl, hi0, rfl, hn0, hnn⟩ := hok
  have HD2 := Aside0.mk (show labelP s l = (if n = 6 then (compsO x5.data.toList).bind fun c => labelQ s x1 ⟨n3, (c : Int)⟩ else labelQ s x1 ⟨n3, 0⟩) by rw [HD.out, if_pos ⟨rfl, hi0, rfl, hn0, hnn⟩])
  have HD6 := Aside0.mk (show n = 6 → labelP s l = (compsO x5.data.toList).bind fun c => labelQ s x1 ⟨n3, (c : Int)⟩ from fun h => by rw [HD2.out, if_pos h])
  have HD4 := Aside0.mk (show n = 4 → labelP s l = labelQ s x1 ⟨n3, 0⟩ from fun h => by rw [HD2.out, if_neg (by omega)])
  clear HD HNo HD2
  rcases hnn with rfl | ⟨rfl, rfl⟩
  · omega
  · have HD6' := Aside0.mk (HD6.out rfl)
    clear HD4 HD6
    go_enter Tryd.func27, Tryd.ntmps27
    have c4 := C4.out (by omega)
    obtain ⟨c5, hs5⟩ := C5.out (by omega)
    go_wp2_with fail
    refine HP.out.mono ?_
    rintro e w' ⟨rfl, rfl⟩
    go_wp2_with fail
    refine (HNUM.out w).mono ?_
    rintro e w' ⟨rfl, rfl⟩
    go_wp2_with fail
    obtain ⟨W0, hW⟩ : ∃ W, W = w.alloc (.cells #[.int .i64 n3, .int .u32 0] 66) := ⟨_, rfl⟩
    have HB0 := Aside0.mk (show Below w.heap.size w W0 by rw [hW]; exact (Below.refl _ _).alloc (Nat.le_refl _) _)
    have Hbx0 := Aside0.mk (show W0.heap[w.heap.size]? = some (.cells #[.int .i64 n3, .int .u32 0] 66 (0, 0)) by rw [hW]; exact blk_new _ _)
    rw [← hW]
    clear hW
    refine (HW.out W0).mono ?_
    rintro e W ⟨rfl, hbW⟩
    have HBW0 := Aside0.mk (below_step HB0.out hbW)
    have Hbx1 := Aside0.mk (blk_below Hbx0.out hbW)
    have c2' := pw_cell_below HBW0.out c2
    have c4' := pw_cell_below HBW0.out c4
    have c5' := pw_cell_below HBW0.out c5
    have r0 := blk_cell Hbx1.out 0
    clear hbW HB0 Hbx0
    go_wp2_with fail
    generalize hbx : w.heap.size = bx at Hbx1 ⊢
    have hwbx : w.heap.size ≤ bx := by omega
    clear hbx
    refine (refsplit_any x5 44 44 W hs5 rfl).mono ?_
    rintro e w1 ⟨Ac, capc, rfl, hCc, hbc⟩
    have HB1 := Aside0.mk (below_step HBW0.out hbc)
    have Hbx2 := Aside0.mk (blk_below Hbx1.out hbc)
    have HCc := Aside0.mk hCc
    have hLm := C_max hCc
    have hLp := spl_pos 44 x5
    have hes : compsO x5.data.toList = compsF ((spl 44 x5).map (·.data.toList)) (-1) 0 := by
      rw [spl, List.map_map]
      unfold compsO
      congr 1
      conv => lhs; rw [← List.map_id (cutL _ _)]
      exact (List.map_congr_left (fun x _ => ofL_data x)).symm
    obtain ⟨L, hL⟩ : ∃ L, L = spl 44 x5 := ⟨_, rfl⟩
    rw [← hL] at HCc hLm hLp hes ⊢
    have HES := Aside0.mk hes
    clear hL hCc hbc hes c2' c4' c5' r0 Hbx1 HBW0 c4 c5 hs5
    obtain ⟨bA, oA, rfl, hcA⟩ := str_at HCc.out 0 hLp
    have hbA : bA ≠ bx := by
      intro e
      have h2 := blk_cell Hbx2.out (oA + 0)
      rw [← e, hcA] at h2
      have hlt : oA + 0 = 0 ∨ oA + 0 = 1 ∨ 2 ≤ oA + 0 := by omega
      rcases hlt with h | h | h
      · rw [h] at h2; cases h2
      · rw [h] at h2; cases h2
      · rw [Array.getElem?_eq_none (by simpa using h)] at h2
        cases h2
    clear hcA
    go_wp2
    go_loopw [8, 81] (fun a i wr => ∃ (k out : Nat) (last : Int), k ≤ L.length ∧ i = .int .i64 k ∧ a = .int .i64 last ∧ -1 ≤ last ∧ last ≤ 31 ∧ Aside0 (out < 2 ^ (last + 1).toNat) ∧ Aside0 (compsO x5.data.toList = compsF ((L.drop k).map (·.data.toList)) last out) ∧ Aside0 (wr.heap[bx]? = some (.cells #[.int .i64 n3, .int .u32 (out : Int)] 66 (0, 0))) ∧ Aside0 (Below w.heap.size w wr) ∧ Aside0 (wr.heap[bA]? = w1.heap[bA]?)) (fun _ i _ => L.length - (intOf i).toNat)
    case atStart => exact ⟨0, 0, -1, by omega, rfl, rfl, by omega, by omega, ⟨by decide⟩, ⟨by rw [List.drop_zero]; exact HES.out⟩, Hbx2, HB1, ⟨rfl⟩⟩
    case round =>
      obtain ⟨k, out, last, hk, rfl, rfl, l0, l1, hout, he, hbxr, HBr, hbA2⟩ := hrel
      have HCr := Aside0.mk (C_str_move HCc.out hbA2.out)
      by_cases hlt : k < L.length
      · obtain ⟨bz, oz, hAz, hcz⟩ := str_at HCr.out k hlt
        injection hAz with hAz
        injection hAz with hA1 hA2
        subst hA1 hA2
        obtain ⟨x, hx⟩ : ∃ x, x = L[k] := ⟨_, rfl⟩
        obtain ⟨nI, hnI⟩ : ∃ v, numI x.data.toList = v := ⟨_, rfl⟩
        have HE2 := Aside0.mk (show compsO x5.data.toList = if last < nI ∧ nI ≤ 31 then compsF ((L.drop (k + 1)).map (·.data.toList)) nI (out ||| 2 ^ nI.toNat) else none by
          rw [he.out, List.drop_eq_getElem_cons hlt, ← hx, List.map_cons]
          exact compsF_step _ _ _ _ _ l0 hnI)
        rw [← hx] at hcz
        have fI := numI_facts x.data.toList
        rw [hnI] at fI
        obtain ⟨-, -, nl, nu⟩ := fI
        have HNI := Aside0.mk (refnum_is x · nI hnI)
        clear hnI hx
        by_cases hgo : last < nI ∧ nI ≤ 31
        · obtain ⟨g1, g2⟩ := hgo
          have HE3 := Aside0.mk (HE2.out.trans (if_pos ⟨g1, g2⟩))
          clear HE2
          have hn00 : 0 ≤ nI := by omega
          go_wp2_with fail
          refine (HNI.out wr).mono ?_
          rintro e w' ⟨rfl, rfl⟩
          go_wp2
          go_loop [12, 95] (fun p i => ∃ (j P : Nat), (j : Int) ≤ nI ∧ i = .int .i64 j ∧ p = .int .u32 (P : Int) ∧ 1 ≤ P ∧ P ≤ 2147483648 ∧ Aside0 (P = 2 ^ j)) (fun _ i => nI.toNat - (intOf i).toNat)
          case atStart => exact ⟨0, 1, by omega, rfl, rfl, by omega, by omega, ⟨rfl⟩⟩
          case round =>
            obtain ⟨j, P, hj, rfl, rfl, hP1, hP2, hP⟩ := hrel
            by_cases hjn : (j : Int) < nI
            · have hP3 : P ≤ 1073741824 := by
                rw [hP.out]
                exact Nat.le_trans (Nat.pow_le_pow_right (by decide) (show j ≤ 30 by omega)) (by decide)
              have HP4 := Aside0.mk (show 2 * P = 2 ^ (j + 1) by rw [hP.out, Nat.pow_succ]; omega)
              go_wp2
              go_round
              case rel => exact ⟨j + 1, 2 * P, by omega, by go_num, by go_num, by omega, by omega, HP4⟩
              case measure => simp [intOf]; omega
            · have hjn2 : nI.toNat = j := by omega
              have hout2 : out < P := by
                rw [hP.out]
                exact Nat.lt_of_lt_of_le hout.out (Nat.pow_le_pow_right (by decide) (by omega))
              have HE4 := Aside0.mk (show compsO x5.data.toList = compsF ((L.drop (k + 1)).map (·.data.toList)) nI (out + P) by
                rw [HE3.out, hjn2, or_add _ _ (by rw [← hP.out]; exact hout2), hP.out])
              have HO := Aside0.mk (show out + P < 2 ^ (nI + 1).toNat by
                rw [show (nI + 1).toNat = j + 1 by omega, Nat.pow_succ, ← hP.out]; omega)
              have hsum : (out : Int) + (P : Int) ≤ 4294967295 := by omega
              have hsum0 : (0 : Int) ≤ (out : Int) + (P : Int) := by omega
              have q1 := blk_cell hbxr.out 1
              have q1f := blk_frozen hbxr.out 1
              clear hjn2 hout2
              go_wp2
              go_roundw
              case rel => exact ⟨k + 1, out + P, nI, by omega, by go_num, by go_num, by omega, by omega, HO, HE4, ⟨by have := blk_set hbxr.out 1 (.int .u32 ((out : Int) + (P : Int))); simpa using this⟩, ⟨HBr.out.setCell hwbx _⟩, ⟨(Below.heap_setCell wr ⟨bx, 1, none⟩ _ bA hbA).trans hbA2.out⟩⟩
              case measure => simp [intOf]; omega
        · have Hq := Aside0.mk (show labelP s l = none by rw [HD6'.out, HE2.out, if_neg hgo]; rfl)
          have hcase : nI ≤ last ∨ (last < nI ∧ 31 < nI) := by omega
          clear hgo HE2
          rcases hcase with h | ⟨h, h2⟩
          all_goals
            go_wp2_with fail
            refine (HNI.out wr).mono ?_
            rintro e w' ⟨rfl, rfl⟩
            go_wp2
            go_ret
            exact ref_fails Hq.out HR.out HBr.out (by omega)
      · have hkn : k = L.length := by omega
        obtain ⟨xl, hxl⟩ : ∃ xl : Lab, xl = ⟨n3, (out : Int)⟩ := ⟨_, rfl⟩
        have Hq := Aside0.mk (show labelP s l = labelQ s x1 xl by
          rw [HD6'.out, he.out, List.drop_of_length_le (by omega), hxl]; rfl)
        clear Hbx2
        have Hbx2 := Aside0.mk (show wr.heap[bx]? = some (.cells #[.int .i64 xl.lev, .int .u32 xl.com] 66 (0, 0)) by rw [hxl]; exact hbxr.out)
        have HBW := Aside0.mk HBr.out
        clear hxl hbxr he hout HBr HCr HB1 HES
        go_wp2
        have hgb2 : base ≤ w.heap.size := by omega
        have HRW := Aside0.mk (HR.out.keep HBW.out)
        obtain ⟨Al, cl, Aq, nq, cq, Ae, ne, ce, p0, p1, p2, hCl⟩ := ref_pol HRW.out
        obtain ⟨Ann, cnn, p3, hCnn⟩ := ref_names HRW.out
        have HCl := Aside0.mk hCl
        have s0 : ∀ n : Later wr, n.w.cell? ⟨bx, 0, none⟩ = some (.int .i64 xl.lev) := later_cell (blk_cell Hbx2.out 0)
        have s1 : ∀ n : Later wr, n.w.cell? ⟨bx, 1, none⟩ = some (.int .u32 xl.com) := later_cell (blk_cell Hbx2.out 1)
        have s2 : ∀ n : Later wr, n.w.cell? ⟨g, 0, none⟩ = _ := later_cell p0
        have s3 : ∀ n : Later wr, n.w.cell? ⟨g, 1, none⟩ = _ := later_cell p1
        have s4 : ∀ n : Later wr, n.w.cell? ⟨g, 2, none⟩ = _ := later_cell p2
        clear hCl hCnn p0 p1 p2
        have Hq0 := Aside0.mk (show ¬ (checkN xl = 0 ∧ xl ∉ s.labels ∧ s.labels.length < 32) → labelP s l = none from fun h => by
          rw [Hq.out]; unfold labelQ; rw [if_neg h])
        obtain ⟨ai, hai⟩ : ∃ v, atI s.labels xl = v := ⟨_, rfl⟩
        have Hai := Aside0.mk hai
        clear hai
        cases hcon : decide (xl ∈ s.labels) with
        | true =>
          have Hcon := Aside0.mk hcon
          have Hfin := Aside0.mk (Hq0.out (fun h => h.2.1 (of_decide_eq_true hcon)))
          clear hcon p3
          refine wp_region_later (by kernel_rfl) (by kernel_rfl) ?_
          repeat (go_big_quiet_step (exact calls_later (at_is _ _ _ _ _ _ _ _ _ _ _ (later_C HCl.out _) _ _ Hai.out Hcon.out)))
          refine wpQuiet_nil (later_elim fun w4 hb4 => ?_)
          go_wp2
          go_ret
          exact ref_fails Hfin.out HR.out (below_step HBW.out hb4) hgb2
        | false =>
          have Hcon := Aside0.mk hcon
          clear hcon
          refine wp_region_later (by kernel_rfl) (by kernel_rfl) ?_
          repeat (go_big_quiet_step (exact calls_later (at_is _ _ _ _ _ _ _ _ _ _ _ (later_C HCl.out _) _ _ Hai.out Hcon.out)))
          refine wpQuiet_nil (later_elim fun w4 hb4 => ?_)
          have HB4 := Aside0.mk (below_step HBW.out hb4)
          have Hbx4 := Aside0.mk (blk_below Hbx2.out hb4)
          have b0 := blk_cell Hbx4.out 0
          have b1 := blk_cell Hbx4.out 1
          have p3' := pw_cell_below hb4 p3
          clear s0 s1 s2 s3 s4 HCl HRW hb4 Hbx2 HBW p3
          go_wp2_with fail
          obtain ⟨cv, hcv⟩ : ∃ v, checkN xl = v := ⟨_, rfl⟩
          refine (refcheck_is xl w4 cv hcv).mono ?_
          rintro e w5 ⟨rfl, hb5⟩
          have HB5 := Aside0.mk (below_step HB4.out hb5)
          have Hbx5 := Aside0.mk (blk_below Hbx4.out hb5)
          have p3 := pw_cell_below hb5 p3'
          clear b0 b1 p3' Hbx4 HB4 hb5
          have hfn := HF.out.n
          have hfl := HF.out.l
          by_cases hc0 : cv = 0
          · subst hc0
            by_cases hn32 : s.names.length = 32
            · have Hfin := Aside0.mk (Hq0.out (fun h => by have := h.2.2; omega))
              rw [hn32] at p3
              clear hfn hfl hn32 hcv
              go_wp2
              go_ret
              exact ref_fails Hfin.out HR.out HB5.out hgb2
            · have hne : ((s.names.length : Int) == 32) = false := beq_eq_false_iff_ne.2 (by omega)
              have Hsuc := Aside0.mk (show labelP s l = some ⟨s.names ++ [x1], s.labels ++ [xl], s.quotas ++ [⟨4096, 4096, 4096⟩], s.entries, s.told ++ [false]⟩ by
                rw [Hq.out]; unfold labelQ; rw [if_pos ⟨hcv, of_decide_eq_false Hcon.out, by omega⟩])
              clear hn32 hcv Hq0 hfl
              have hnlt : s.names.length < 32 := by have := beq_eq_false_iff_ne.1 hne; omega
              go_upto_region 29 with (fail)
              exact label_puts base g N _ b o _ c s x1 xl w5 _ _ _ _ _ _ _ _ _ _ _ _ _ _ _ _ _ _ _ _ _ _ _ _ _ _ _ _ _ _ _ _ _ _ _ _ _ _ _ _ _ _ _ _ _ _ _ _ _ _ _ _ _ _ _ _ _ _ _ _ _ _ _ _ _ _ _ _ _ _ _ _ _ _ _ _ _ _ _ _ _ _ _ _ _ _ _ _ _ _ _ _ _ _ _ _ _ _ _ _ _ _ _ _ _ _ _ _ _ _ _ _ _ _ _ _ _ _ _ _ _ _ _ _ _ _ _ _ _ _ _ _ _ _ _ _ _ _ _ _ _ _ _ _ _ _ _ _ _ _ _ _ _ _ _ _ _ _ _ _ _ _ _ _ _ _ _ _ _ _ _ _ _ _ _ _ _ _ _ _ _ _ _ _ _ _ _ _ _ _ _ _ _ _ _ _ _ _ _ _ _ _ _ _ _ _ _ _ _ _ _ _ _ _ _ _ _ _ _ _ _ _ _ _ _ _ _ _ _ _ _ _ _ _ _ _ _ _ _ _ _ _ _ _ _ _ _ _ _ _ _ _ _ _ _ _ _ _ _ _ _ _ _ _ _ _ _ _ _ _ _ _ _ _ _ _ _ _ _ _ _ _ _ _ _ _ _ _ _ _ _ _ _ _ _ _ _ _ _ _ _ _ _ _ _ _ _ _ _ _ _ _ _ _ _ _ _ _ _ _ _ _ _ _ _ _ _ _ (RefPost base g w s (labelP s l)) ⟨HR.out.keep HB5.out⟩ HF hnlt Hbx5 (by omega) (by omega) (pw_cell_below HB5.out c1) (Nat.le_trans hgb2 HB5.out.size) (fun w' hR hK => ⟨by rw [Hsuc.out]; rfl, by rw [Hsuc.out]; exact hR, (Keep2.below HB5.out hgb2).trans hK⟩) (by assumption)
          · have Hfin := Aside0.mk (Hq0.out (fun h => hc0 (hcv.symm.trans h.1)))
            have hc10 : cv = 10 := by
              rw [← hcv]; unfold checkN; split
              · rfl
              · exact absurd (hcv.symm.trans (by unfold checkN; rw [if_neg (by assumption)])) hc0
            subst hc10
            clear hc0 hcv
            go_wp2
            go_ret
            exact ref_fails Hfin.out HR.out HB5.out hgb2
end Go.Proofs.YtaeaakcppheaoaaDoor
namespace Go.Proofs.YtaeaakcppheaoaaDoor
open Go.RowKit Go.Proofs.YtaeaakcppheaoaaDoorW.PrintWords Go.Maps

set_option maxRecDepth 100000 in
set_option maxHeartbeats 16000000 in
theorem reflabel_bad (base g N : Nat) (s : St) (A : Option Addr) (c : Nat) (l : List ByteArray) (w : World) (hR : RRd w base g N s) (hf : s.Fits) (hN : N ≤ w.heap.size) (hbase : base ≤ N)
    (hr : Kd.C Kd.string w A l.length l) (hsz : ∀ x ∈ l, x.size ≤ 32768) (h4 : 4 ≤ l.length) (h0 : l.getD 0 (ofL []) = ofL [108, 97, 98, 101, 108]) (hG : ¬ goodL s l) :
    Calls Tryd.prog 27 #[.pointer (some ⟨g, 0, none⟩), .slice A l.length c] w (RefPost base g w s (labelP s l)) := by
  have HR := Aside0.mk hR
  have Hr := Aside0.mk hr
  have HF := Aside0.mk hf
  have HS := Aside0.mk hsz
  clear hR hr hf hsz
  obtain ⟨b, o, rfl, hc1⟩ := str_at Hr.out 1 (by omega)
  have hat : ∀ k, k < l.length → w.cell? ⟨b, o + k, none⟩ = some (.string (l.getD k (ofL []))) := by
    intro k hk
    obtain ⟨b2, o2, hA, hc2⟩ := str_at Hr.out k hk
    injection hA with hA
    injection hA with h1 h2
    subst h1 h2
    rw [rd_getElem l _ k hk]; exact hc2
  obtain ⟨x0, hx0⟩ : ∃ x, x = l.getD 0 (ofL []) := ⟨_, rfl⟩
  obtain ⟨x1, hx1⟩ : ∃ x, x = l.getD 1 (ofL []) := ⟨_, rfl⟩
  obtain ⟨x2, hx2⟩ : ∃ x, x = l.getD 2 (ofL []) := ⟨_, rfl⟩
  obtain ⟨x3, hx3⟩ : ∃ x, x = l.getD 3 (ofL []) := ⟨_, rfl⟩
  obtain ⟨x4, hx4⟩ : ∃ x, x = l.getD 4 (ofL []) := ⟨_, rfl⟩
  obtain ⟨x5, hx5⟩ : ∃ x, x = l.getD 5 (ofL []) := ⟨_, rfl⟩
  have c0 : w.cell? ⟨b, o, none⟩ = some (.string x0) := by rw [hx0]; exact hat 0 (by omega)
  have c1 : w.cell? ⟨b, o + 1, none⟩ = some (.string x1) := by rw [hx1]; exact hat 1 (by omega)
  have c2 : w.cell? ⟨b, o + 2, none⟩ = some (.string x2) := by rw [hx2]; exact hat 2 (by omega)
  have c3 : w.cell? ⟨b, o + 3, none⟩ = some (.string x3) := by rw [hx3]; exact hat 3 (by omega)
  have C4 := Aside0.mk (show 5 ≤ l.length → w.cell? ⟨b, o + 4, none⟩ = some (.string x4) from fun h => by rw [hx4]; exact hat 4 (by omega))
  have C5 := Aside0.mk (show 6 ≤ l.length → w.cell? ⟨b, o + 5, none⟩ = some (.string x5) ∧ x5.size ≤ 32768 from fun h => ⟨by rw [hx5]; exact hat 5 (by omega), by
    rw [hx5, rd_getElem l _ 5 (by omega)]
    exact HS.out _ (List.getElem_mem _)⟩)
  have hsz1 : x1.size ≤ 32768 := by
    rw [hx1, rd_getElem l _ 1 (by omega)]
    exact HS.out _ (List.getElem_mem _)
  obtain ⟨n, hn⟩ : ∃ n, n = l.length := ⟨_, rfl⟩
  have hnm : n ≤ 9223372036854775807 := by rw [hn]; exact C_max Hr.out
  obtain ⟨i, hi⟩ : ∃ i, idxI s.names x1 = i := ⟨_, rfl⟩
  have hilt : i < 32 := by
    have hn := HF.out.n
    rw [← hi]
    unfold idxI
    split <;> omega
  have hige : -1 ≤ i := by
    rw [← hi]
    unfold idxI
    split <;> omega
  obtain ⟨wb, hwb⟩ : ∃ v, wordB x1.data.toList = v := ⟨_, rfl⟩
  obtain ⟨n3, hn3⟩ : ∃ v, numI x3.data.toList = v := ⟨_, rfl⟩
  obtain ⟨e2, he2⟩ : ∃ v, (x2.toList == [108, 101, 118, 101, 108]) = v := ⟨_, rfl⟩
  obtain ⟨e4, he4⟩ : ∃ v, (x4.toList == [99, 111, 109, 112, 115]) = v := ⟨_, rfl⟩
  have f3 := numI_facts x3.data.toList
  rw [hn3] at f3
  have HD := Aside0.mk (show labelP s l = if wb = true ∧ i < 0 ∧ e2 = true ∧ 0 ≤ n3 ∧ (n = 4 ∨ n = 6 ∧ e4 = true) then (if n = 6 then (compsO x5.data.toList).bind fun c => labelQ s x1 ⟨n3, (c : Int)⟩ else labelQ s x1 ⟨n3, 0⟩) else none by
    unfold labelP labOf labOf4 labOf6
    rw [← hx1, ← hx2, ← hx3, ← hx4, ← hx5, ← hn, hi, hwb]
    have d2 : (x2 = ofL [108, 101, 118, 101, 108]) ↔ e2 = true := by rw [← he2, str_eq, decide_eq_true_eq]
    have d4 : (x4 = ofL [99, 111, 109, 112, 115]) ↔ e4 = true := by rw [← he4, str_eq, decide_eq_true_eq]
    simp only [d2, d4]
    by_cases hb : numB x3.data.toList = true
    · have hv := f3.2.1 hb
      have h03 := f3.1.1 hb
      by_cases h6 : n = 6
      · subst h6
        rw [if_pos rfl, if_pos rfl]
        cases wb <;> cases e2 <;> cases e4 <;> by_cases hi0 : i < 0 <;> cases compsO x5.data.toList <;> simp [hb, h03, hi0, ← hv]
      · by_cases h4 : n = 4
        · subst h4
          cases wb <;> cases e2 <;> by_cases hi0 : i < 0 <;> simp [hb, h03, hi0, ← hv]
        · simp [h4, h6]
    · have h03 : ¬ 0 ≤ n3 := fun h => hb (f3.1.2 h)
      rw [if_neg (c := wb = true ∧ i < 0 ∧ e2 = true ∧ 0 ≤ n3 ∧ (n = 4 ∨ n = 6 ∧ e4 = true)) (fun h => h03 h.2.2.2.1)]
      simp [hb])
  obtain ⟨-, -, l3, u3⟩ := f3
  have hgd : goodL s l ↔ (wb = true ∧ i < 0 ∧ e2 = true ∧ 0 ≤ n3 ∧ (n = 4 ∨ n = 6 ∧ e4 = true)) := by
    unfold goodL
    rw [← hx1, ← hx2, ← hx3, ← hx4, ← hn, hi, hwb, hn3, he2, he4]
  have Hi := Aside0.mk hi
  have HW := Aside0.mk (refword_is x1 · hsz1 wb hwb)
  have HNUM := Aside0.mk (refnum_is x3 · n3 hn3)
  rw [← hx0] at h0
  have z1 : (x0.toList == [108, 97, 98, 101, 108]) = true := by rw [str_eq, h0, decide_eq_true rfl]
  rw [← hn] at C4 C5 h4 ⊢
  clear hat hc1 hx0 hx1 hx2 hx3 hx4 hx5 hi hn h0 hsz1 hwb hn3
  have h4' : (4 : Int) ≤ n := by omega
  have hlb : b < w.heap.size := World.block_lt_of_cell? _ _ c1
  obtain ⟨An, cn, hgn, hCn⟩ := ref_names HR.out
  have HP := Aside0.mk (place_is g cn An s.names x1 w i Hi.out hgn hCn)
  clear hCn hgn
  have HNo := Aside0.mk (show ¬ (wb = true ∧ i < 0 ∧ e2 = true ∧ 0 ≤ n3 ∧ (n = 4 ∨ n = 6 ∧ e4 = true)) → labelP s l = none from fun h => by rw [HD.out, if_neg h])
  have hok := fun h => hG (hgd.2 h)
  clear hgd hG
  have Hq := Aside0.mk (HNo.out hok)
  have hcase : wb = false ∨ (wb = true ∧ 0 ≤ i) ∨ (wb = true ∧ i < 0 ∧ e2 = false) ∨ (wb = true ∧ i < 0 ∧ e2 = true ∧ n3 < 0) ∨ (wb = true ∧ i < 0 ∧ e2 = true ∧ 0 ≤ n3 ∧ n ≠ 4 ∧ n ≠ 6) ∨ (wb = true ∧ i < 0 ∧ e2 = true ∧ 0 ≤ n3 ∧ n = 6 ∧ e4 = false) := by
    cases wb <;> cases e2 <;> cases e4 <;> simp at hok ⊢ <;> omega
  clear hok
  have hcase2 : (wb = false) ∨ (wb = true ∧ 0 ≤ i) ∨ (wb = true ∧ i < 0 ∧ e2 = false) ∨ (wb = true ∧ i < 0 ∧ e2 = true ∧ n3 < 0) ∨ (wb = true ∧ i < 0 ∧ e2 = true ∧ 0 ≤ n3 ∧ ((n : Int) == 4) = false ∧ ((n : Int) == 6) = false) ∨ (wb = true ∧ i < 0 ∧ e2 = true ∧ 0 ≤ n3 ∧ n = 6 ∧ e4 = false) := by
    rcases hcase with h | h | h | h | ⟨h1, h2, h3, h4, h5, h6⟩ | h
    · exact .inl h
    · exact .inr (.inl h)
    · exact .inr (.inr (.inl h))
    · exact .inr (.inr (.inr (.inl h)))
    · exact .inr (.inr (.inr (.inr (.inl ⟨h1, h2, h3, h4, beq_eq_false_iff_ne.2 (by omega), beq_eq_false_iff_ne.2 (by omega)⟩))))
    · exact .inr (.inr (.inr (.inr (.inr h))))
  clear hcase
  rcases hcase2 with rfl | ⟨rfl, h⟩ | ⟨rfl, h, rfl⟩ | ⟨rfl, h, rfl, h3⟩ | ⟨rfl, h, rfl, h3, h5, h6⟩ | ⟨rfl, h, rfl, h3, rfl, rfl⟩
  all_goals
    try have c4 := C4.out (by omega)
    go_enter Tryd.func27, Tryd.ntmps27
    go_wp2_with fail
    refine HP.out.mono ?_
    rintro e w' ⟨rfl, rfl⟩
    go_wp2_with fail
    refine (HNUM.out w).mono ?_
    rintro e w' ⟨rfl, rfl⟩
    go_wp2_with fail
    obtain ⟨W0, hW⟩ : ∃ W, W = w.alloc (.cells #[.int .i64 n3, .int .u32 0] 66) := ⟨_, rfl⟩
    have HB0 := Aside0.mk (show Below w.heap.size w W0 by rw [hW]; exact (Below.refl _ _).alloc (Nat.le_refl _) _)
    have Hbx0 := Aside0.mk (show W0.heap[w.heap.size]? = some (.cells #[.int .i64 n3, .int .u32 0] 66 (0, 0)) by rw [hW]; exact blk_new _ _)
    rw [← hW]
    clear hW
    refine (HW.out W0).mono ?_
    rintro e W ⟨rfl, hbW⟩
    have HBW := Aside0.mk (below_step HB0.out hbW)
    have Hbx := Aside0.mk (blk_below Hbx0.out hbW)
    have c2' := pw_cell_below HBW.out c2
    have r0 := blk_cell Hbx.out 0
    try have c4' := pw_cell_below HBW.out c4
    clear hbW HB0 Hbx0
    go_wp2
    go_ret
    exact ref_fails Hq.out HR.out HBW.out (by omega)
end Go.Proofs.YtaeaakcppheaoaaDoor
namespace Go.Proofs.YtaeaakcppheaoaaDoor
open Go.RowKit Go.Proofs.YtaeaakcppheaoaaDoorW.PrintWords Go.Maps

theorem reflabel_line (base g N : Nat) (s : St) (A : Option Addr) (c : Nat) (l : List ByteArray) (w : World) (hR : RRd w base g N s) (hf : s.Fits) (hN : N ≤ w.heap.size) (hbase : base ≤ N)
    (hr : Kd.C Kd.string w A l.length l) (hsz : ∀ x ∈ l, x.size ≤ 32768) (h4 : 4 ≤ l.length) (h0 : l.getD 0 (ofL []) = ofL [108, 97, 98, 101, 108]) :
    Calls Tryd.prog 27 #[.pointer (some ⟨g, 0, none⟩), .slice A l.length c] w (RefPost base g w s (labelP s l)) := by
  by_cases hG : goodL s l
  · rcases hG.2.2.2.2 with h | ⟨h, _⟩
    · exact reflabel_4 base g N s A c l w hR hf hN hbase hr hsz h4 h0 hG h
    · exact reflabel_6 base g N s A c l w hR hf hN hbase hr hsz h4 h0 hG h
  · exact reflabel_bad base g N s A c l w hR hf hN hbase hr hsz h4 h0 hG
theorem refline_short {s : St} {l : List ByteArray} (h : l.length < 4) : lineP s l = none := by
  unfold lineP labelP quotaP clientP
  split
  · rw [if_neg (by omega)]
  · split
    · rw [if_neg (by omega)]
    · split
      · rw [if_neg (by omega)]
      · rfl
set_option maxRecDepth 100000 in
set_option maxHeartbeats 4000000 in
theorem refline_any (base g N : Nat) (s : St) (A : Option Addr) (c : Nat) (l : List ByteArray) (w : World) (hR : RRd w base g N s) (hf : s.Fits) (hN : N ≤ w.heap.size) (hbase : base ≤ N)
    (hr : Kd.C Kd.string w A l.length l) (hsz : ∀ x ∈ l, x.size ≤ 32768) (hl : 0 < l.length) :
    Calls Tryd.prog 27 #[.pointer (some ⟨g, 0, none⟩), .slice A l.length c] w (RefPost base g w s (lineP s l)) := by
  by_cases h4 : 4 ≤ l.length
  · by_cases z1 : l.getD 0 (ofL []) = ofL [108, 97, 98, 101, 108]
    · rw [show lineP s l = labelP s l by unfold lineP; rw [if_pos z1]]
      exact reflabel_line base g N s A c l w hR hf hN hbase hr hsz h4 z1
    · by_cases z2 : l.getD 0 (ofL []) = ofL [113, 117, 111, 116, 97]
      · rw [show lineP s l = quotaP s l by unfold lineP; rw [if_neg z1, if_pos z2]]
        exact refquota_line base g N s A c l w hR hf hN hbase hr h4 z2
      · by_cases z3 : l.getD 0 (ofL []) = ofL [99, 108, 105, 101, 110, 116]
        · rw [show lineP s l = clientP s l by unfold lineP; rw [if_neg z1, if_neg z2, if_pos z3]]
          exact refclient_line base g N s A c l w hR hf hN hbase hr hsz h4 z3
        · have Hq := Aside0.mk (show lineP s l = none by unfold lineP; rw [if_neg z1, if_neg z2, if_neg z3])
          have HR := Aside0.mk hR
          obtain ⟨b, o, rfl, hc1⟩ := str_at hr 1 (by omega)
          obtain ⟨b2, o2, hA, hc0⟩ := str_at hr 0 (by omega)
          injection hA with hA
          injection hA with q1 q2
          subst q1 q2
          rw [Nat.add_zero] at hc0
          rw [← rd_getElem l (ofL []) 0 (by omega)] at hc0
          rw [← rd_getElem l (ofL []) 1 (by omega)] at hc1
          obtain ⟨x0, hx0⟩ : ∃ x, x = l.getD 0 (ofL []) := ⟨_, rfl⟩
          obtain ⟨x1, hx1⟩ : ∃ x, x = l.getD 1 (ofL []) := ⟨_, rfl⟩
          rw [← hx0] at hc0 z1 z2 z3
          rw [← hx1] at hc1
          have y1 : (x0.toList == [108, 97, 98, 101, 108]) = false := by rw [str_eq, decide_eq_false z1]
          have y2 : (x0.toList == [113, 117, 111, 116, 97]) = false := by rw [str_eq, decide_eq_false z2]
          have y3 : (x0.toList == [99, 108, 105, 101, 110, 116]) = false := by rw [str_eq, decide_eq_false z3]
          obtain ⟨An, cn, hgn, hCn⟩ := ref_names hR
          obtain ⟨i, hi⟩ : ∃ i, idxI s.names x1 = i := ⟨_, rfl⟩
          have HP := Aside0.mk (place_is g cn An s.names x1 w i hi hgn hCn)
          have hnm := C_max hr
          have h4' : (4 : Int) ≤ l.length := by omega
          obtain ⟨n, hn⟩ : ∃ n, n = l.length := ⟨_, rfl⟩
          rw [← hn] at hnm h4' ⊢
          clear hR hf hr hsz hl h4 z1 z2 z3 hx0 hx1 hCn hgn hi hn
          go_enter Tryd.func27, Tryd.ntmps27
          go_wp2_with fail
          refine HP.out.mono ?_
          rintro e w' ⟨rfl, rfl⟩
          go_wp2
          go_ret
          exact ref_fails Hq.out HR.out (Below.refl _ _) (by omega)
  · have Hq := Aside0.mk (refline_short (s := s) (l := l) (by omega))
    have HR := Aside0.mk hR
    have h4' : (l.length : Int) < 4 := by omega
    obtain ⟨n, hn⟩ : ∃ n, n = l.length := ⟨_, rfl⟩
    rw [← hn] at h4' ⊢
    clear hR hf hr hsz hl h4 hn
    go_enter Tryd.func27, Tryd.ntmps27
    go_wp2
    go_ret
    exact ref_fails Hq.out HR.out (Below.refl _ _) (by omega)
end Go.Proofs.YtaeaakcppheaoaaDoor
