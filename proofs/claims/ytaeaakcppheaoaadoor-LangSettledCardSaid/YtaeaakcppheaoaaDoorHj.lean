/- What the reader's method label does. -/
import Derived.Test.YtaeaakcppheaoaaDoorHi
import Derived.Test.YtaeaakcppheaoaaDoorHk
import Derived.Deep.DeepCutAuto
import Derived.Deep.CutBlock
namespace Go.Proofs.YtaeaakcppheaoaaDoor
open Go.RowKit Go.Proofs.YtaeaakcppheaoaaDoorW.PrintWords Go.Maps

theorem word_is (s : ByteArray) (w : World) (b : Bool) (h : wordB s.data.toList = b) :
    Calls Tryd.prog 36 #[.string s] w fun e w' => e = .returned (.bool b) ∧ Below w.heap.size w w' := by
  rw [← h]; exact word_any s w

def LinePost (base g m : Nat) (w : World) (s : St) (o : Option St) (e : Ending) (w' : World) : Prop :=
  e = .returned (.int .i64 (errOf o)) ∧ Rdr w' base g m w'.heap.size (o.getD s) ∧ Keep2 base g m w w'
theorem line_fails {base g m N : Nat} {w w' : World} {s : St} {o : Option St} (ho : o = none) (hR : Rdr w base g m N s) (hb : Below w.heap.size w w') (hbase : base ≤ w.heap.size) : LinePost base g m w s o (.returned (.int .i64 90)) w' := by
  subst ho
  exact ⟨rfl, hR.below hb, Keep2.below hb hbase⟩
theorem rdr_names {w : World} {base g m N : Nat} {s : St} (h : Rdr w base g m N s) : ∃ A c, w.cell? ⟨g, 0, none⟩ = some (.slice A s.names.length c) ∧ Kd.C Kd.string w A s.names.length s.names := by
  obtain ⟨vn, vl, vq, ve, D, n, hg, hn, hl, hq, he, hm, hc, hD⟩ := h
  obtain ⟨A, c, rfl, _, hC⟩ := Kd.R_reads hn
  exact ⟨A, c, blk_cell hg 0, hC⟩
theorem rdr_labels {w : World} {base g m N : Nat} {s : St} (h : Rdr w base g m N s) : ∃ A c, w.cell? ⟨g, 1, none⟩ = some (.slice A s.labels.length c) ∧ Kd.C kLab w A s.labels.length s.labels := by
  obtain ⟨vn, vl, vq, ve, D, n, hg, hn, hl, hq, he, hm, hc, hD⟩ := h
  obtain ⟨A, c, rfl, _, hC⟩ := Kd.R_reads hl
  exact ⟨A, c, blk_cell hg 1, hC⟩
theorem str_eq (s : ByteArray) (l : List UInt8) : (s.toList == l) = decide (s = ofL l) := by
  rw [show l = (ofL l).toList by rw [Lib.toList_data, ofL_data], bytes_eq, show (ofL l).toList = l by rw [Lib.toList_data, ofL_data]]
theorem find_is (A : Option Addr) (c : Nat) (l : List ByteArray) (s : ByteArray) (w : World) (hr : Kd.C Kd.string w A l.length l) (b : Bool) (h : decide (0 ≤ idxI l s) = b) :
    Calls Tryd.prog 35 #[.slice A l.length c, .string s] w fun e w' => e = .returned (.tuple #[.int .i64 (idxI l s), .bool b]) ∧ Below w.heap.size w w' := by
  rw [← h]
  exact (find_any A c l s w hr).mono fun e w' ⟨he, hw⟩ => ⟨he, hw ▸ Below.refl _ _⟩

theorem contains_is (A : Option Addr) (c : Nat) (l : List Lab) (x : Lab) (w : World) (hr : Kd.C kLab w A l.length l) (r : Bool) (h : decide (x ∈ l) = r) :
    Calls Tryd.prog 44 #[.slice A l.length c, .agg #[.int .i64 x.lev, .int .u32 x.com]] w fun e w' => e = .returned (.bool r) ∧ Below w.heap.size w w' := by
  rw [← h]; exact contains_labs A c l x w hr
theorem comps_is (s : ByteArray) (m : Int) (w : World) (hs : s.size ≤ 32768) (hm : w.cell? ⟨0, 0, none⟩ = some (.int .i64 m)) (v : Nat) (b : Bool) (h1 : (compsO s.data.toList).getD 0 = v) (h2 : (compsO s.data.toList).isSome = b) :
    Calls Tryd.prog 66 #[.string s] w fun e w' => e = .returned (.tuple #[.int .u32 (v : Int), .bool b]) ∧ Below w.heap.size w w' := by
  rw [← h1, ← h2]; exact comps_any s m w hs hm

set_option maxRecDepth 100000 in
set_option maxHeartbeats 4000000 in
theorem label_any (base g m N : Nat) (s : St) (A : Option Addr) (c : Nat) (l : List ByteArray) (m0 : Int) (w : World) (hR : Rdr w base g m N s) (hf : s.Fits) (hN : N ≤ w.heap.size) (hbase : base ≤ N)
    (hr : Kd.C Kd.string w A l.length l) (hA : ∀ b o, A = some ⟨b, o, none⟩ → N ≤ b) (hsz : ∀ x ∈ l, x.size ≤ 32768) (hm : w.cell? ⟨0, 0, none⟩ = some (.int .i64 m0)) :
    Calls Tryd.prog 46 #[.pointer (some ⟨g, 0, none⟩), .slice A l.length c] w (LinePost base g m w s (labelP s l)) := by
  have HR := Aside0.mk hR
  have Hr := Aside0.mk hr
  have HM := Aside0.mk hm
  have HA := Aside0.mk hA
  have HF := Aside0.mk hf
  have HS := Aside0.mk hsz
  clear hR hr hm hA hf hsz
  by_cases hl : l.length = 4 ∨ l.length = 6
  · obtain ⟨b, o, rfl, hc1⟩ := str_at Hr.out 1 (by omega)
    have hat : ∀ k, k < l.length → w.cell? ⟨b, o + k, none⟩ = some (.string (l.getD k (ofL []))) := by
      intro k hk
      obtain ⟨b2, o2, hA, hc2⟩ := str_at Hr.out k hk
      injection hA with hA
      injection hA with h1 h2
      subst h1 h2
      rw [rd_getElem l _ k hk]; exact hc2
    have HAT := Aside0.mk hat
    clear hat hc1
    obtain ⟨x1, hx1⟩ : ∃ x, x = l.getD 1 (ofL []) := ⟨_, rfl⟩
    obtain ⟨x2, hx2⟩ : ∃ x, x = l.getD 2 (ofL []) := ⟨_, rfl⟩
    obtain ⟨x3, hx3⟩ : ∃ x, x = l.getD 3 (ofL []) := ⟨_, rfl⟩
    have c1 : w.cell? ⟨b, o + 1, none⟩ = some (.string x1) := by rw [hx1]; exact HAT.out 1 (by omega)
    have c2 : w.cell? ⟨b, o + 2, none⟩ = some (.string x2) := by rw [hx2]; exact HAT.out 2 (by omega)
    have c3 : w.cell? ⟨b, o + 3, none⟩ = some (.string x3) := by rw [hx3]; exact HAT.out 3 (by omega)
    have X1 := Aside0.mk hx1
    have X2 := Aside0.mk hx2
    have X3 := Aside0.mk hx3
    clear hx1 hx2 hx3
    have hspec : ∃ n, n = l.length := ⟨_, rfl⟩
    obtain ⟨n, hn⟩ := hspec
    have HL := Aside0.mk hn
    rw [← hn] at hl ⊢
    clear hn
    have hfail1 : ¬ (wordB x1.data.toList = true ∧ x2 = ofL [108, 101, 118, 101, 108] ∧ idxI s.names x1 < 0) → labelP s l = none := by
      intro h
      unfold labelP
      rw [← X1.out, ← X2.out, if_neg (fun h2 => h h2.2)]
    have F1 := Aside0.mk hfail1
    clear hfail1
    cases hw : wordB x1.data.toList with
    | false =>
      have Hw := Aside0.mk hw
      have Hfin := Aside0.mk (F1.out (by rw [hw]; simp))
      clear hw
      rcases hl with rfl | rfl
      all_goals
        go_enter Tryd.func46, Tryd.ntmps46
        go_wp2_with (go_at_call 36; refine (word_is _ _ false Hw.out).mono ?_; rintro e w1 ⟨rfl, hb⟩)
        go_ret
        exact line_fails Hfin.out HR.out hb (by omega)
    | true =>
      have Hw := Aside0.mk hw
      clear hw
      cases h2 : (x2.toList == [108, 101, 118, 101, 108]) with
      | false =>
        have Hfin := Aside0.mk (F1.out (by
          rw [str_eq] at h2
          intro h
          rw [decide_eq_true h.2.1] at h2; cases h2))
        rcases hl with rfl | rfl
        all_goals
          go_enter Tryd.func46, Tryd.ntmps46
          go_wp2_with (go_at_call 36; refine (word_is _ _ true Hw.out).mono ?_; rintro e w1 ⟨rfl, hb⟩; have c2' := pw_cell_below hb c2)
          go_ret
          exact line_fails Hfin.out HR.out hb (by omega)
      | true =>
        have Hx2 := Aside0.mk (show x2 = ofL [108, 101, 118, 101, 108] by rw [str_eq] at h2; exact of_decide_eq_true h2)
        cases hfi : decide (0 ≤ idxI s.names x1) with
        | true =>
          have Hfi := Aside0.mk hfi
          have Hfin := Aside0.mk (F1.out (by
            have := of_decide_eq_true hfi
            intro h; omega))
          clear hfi
          rcases hl with rfl | rfl
          all_goals
            go_enter Tryd.func46, Tryd.ntmps46
            go_wp2_with (go_at_call 36; refine (word_is _ _ true Hw.out).mono ?_; rintro e w1 ⟨rfl, hb⟩; have c2' := pw_cell_below hb c2; have c1' := pw_cell_below hb c1)
            have HR1 := Aside0.mk (HR.out.below hb)
            obtain ⟨An, cn, hgn, hCn⟩ := rdr_names HR1.out
            have HCn := Aside0.mk hCn
            have s0 : ∀ n : Later w1, n.w.cell? ⟨g, 0, none⟩ = some (.slice An s.names.length cn) := later_cell hgn
            have s1 : ∀ n : Later w1, n.w.cell? ⟨b, o + 1, none⟩ = some (.string x1) := later_cell c1'
            clear hCn hgn
            refine wp_region_later (by kernel_rfl) (by kernel_rfl) ?_
            repeat (go_big_quiet_step (exact calls_later (find_is _ _ _ _ _ (later_C HCn.out _) _ Hfi.out)))
            refine wpQuiet_nil ?_
            rintro _ ⟨⟨w2, hb2⟩, rfl⟩
            go_wp2
            go_ret
            exact line_fails Hfin.out HR.out (below_step hb hb2) (by omega)
        | false =>
          have Hfi := Aside0.mk hfi
          clear hfi
          have hspec2 : labelP s l = (labOf l).bind (labelQ s x1) := by
            unfold labelP
            rw [← X1.out, ← X2.out, if_pos ⟨by rw [← HL.out]; exact hl, Hw.out, Hx2.out, by have := of_decide_eq_false Hfi.out; omega⟩]
          have HS2 := Aside0.mk hspec2
          clear hspec2
          rcases hl with rfl | rfl
          rotate_left
          obtain ⟨x4, hx4⟩ : ∃ x, x = l.getD 4 (ofL []) := ⟨_, rfl⟩
          obtain ⟨x5, hx5⟩ : ∃ x, x = l.getD 5 (ofL []) := ⟨_, rfl⟩
          have c4 : w.cell? ⟨b, o + 4, none⟩ = some (.string x4) := by rw [hx4]; exact HAT.out 4 (by rw [← HL.out]; omega)
          have c5 : w.cell? ⟨b, o + 5, none⟩ = some (.string x5) := by rw [hx5]; exact HAT.out 5 (by rw [← HL.out]; omega)
          have X4 := Aside0.mk hx4
          have X5 := Aside0.mk hx5
          clear hx4 hx5
          rotate_left
          all_goals
            go_enter Tryd.func46, Tryd.ntmps46
            go_wp2_with (go_at_call 36; refine (word_is _ _ true Hw.out).mono ?_; rintro e w1 ⟨rfl, hb⟩; have c2' := pw_cell_below hb c2; have c1' := pw_cell_below hb c1)
            have HR1 := Aside0.mk (HR.out.below hb)
            obtain ⟨An, cn, hgn, hCn⟩ := rdr_names HR1.out
            have HCn := Aside0.mk hCn
            have s0 : ∀ n : Later w1, n.w.cell? ⟨g, 0, none⟩ = some (.slice An s.names.length cn) := later_cell hgn
            have s1 : ∀ n : Later w1, n.w.cell? ⟨b, o + 1, none⟩ = some (.string x1) := later_cell c1'
            clear hCn hgn c1' c2'
            refine wp_region_later (by kernel_rfl) (by kernel_rfl) ?_
            repeat (go_big_quiet_step (exact calls_later (find_is _ _ _ _ _ (later_C HCn.out _) _ Hfi.out)))
            refine wpQuiet_nil ?_
            rintro _ ⟨⟨w2, hb2⟩, rfl⟩
            have HB2 := Aside0.mk (below_step hb hb2)
            clear s0 s1 hb2 HCn HR1
            have c3' := pw_cell_below HB2.out c3
            have hsz3 : x3.size ≤ 32768 := by
              rw [X3.out, rd_getElem l _ 3 (by rw [← HL.out]; omega)]
              exact HS.out _ (List.getElem_mem _)
            have Hb0 := Aside0.mk (show ∀ v b, numV x3.data.toList = v → numB x3.data.toList = b → numV x3.data.toList = v ∧ numB x3.data.toList = b from fun _ _ h1 h2 => ⟨h1, h2⟩)
            obtain ⟨nv, hnv⟩ : ∃ nv, numV x3.data.toList = nv := ⟨_, rfl⟩
            obtain ⟨nb, hnb⟩ : ∃ nb, numB x3.data.toList = nb := ⟨_, rfl⟩
            have Hnv := Aside0.mk hnv
            have Hnb := Aside0.mk hnb
            clear hnv hnb Hb0
            go_wp2_with (go_at_call 65; refine (number_is _ _ nv nb Hnv.out Hnb.out).mono ?_; rintro e w3 ⟨rfl, hb3⟩; have HB3 := Aside0.mk (below_step HB2.out hb3); clear hb3; (try (have c5' := pw_cell_below HB3.out c5; have hbl := World.block_lt_of_cell? _ _ c5')))
          -- four words
          · have Hlo := Aside0.mk (show labOf l = labOf4 x3 by unfold labOf; rw [← HL.out, if_neg (by decide), ← X3.out])
            obtain ⟨W, hW⟩ : ∃ W, W = w3.alloc (.cells #[.int .i64 (nv : Int), .int .u32 0] 66) := ⟨_, rfl⟩
            have HBW := Aside0.mk (show Below w.heap.size w W by rw [hW]; exact HB3.out.alloc HB3.out.size _)
            have Hbx := Aside0.mk (show W.heap[w3.heap.size]? = some (.cells #[.int .i64 (nv : Int), .int .u32 0] 66 (0, 0)) by rw [hW]; exact blk_new _ _)
            rw [← hW]
            clear hW HB3 HB2 c3'
            cases nb with
            | false =>
              have Hfin := Aside0.mk (show labelP s l = none by rw [HS2.out, Hlo.out]; unfold labOf4; rw [if_neg (by rw [Hnb.out]; decide)]; rfl)
              refine wp_region_later (by kernel_rfl) (by kernel_rfl) ?_
              repeat (go_big_quiet_step (fail))
              refine wpQuiet_nil ?_
              rintro _ ⟨⟨w4, hb4⟩, rfl⟩
              go_wp2
              go_ret
              exact line_fails Hfin.out HR.out (below_step HBW.out hb4) (by omega)
            | true =>
              obtain ⟨xl, hxl⟩ : ∃ xl : Lab, xl = ⟨(nv : Int), 0⟩ := ⟨_, rfl⟩
              have Hq := Aside0.mk (show labelP s l = labelQ s x1 xl by
                rw [HS2.out, Hlo.out]; unfold labOf4; rw [if_pos Hnb.out, Hnv.out, hxl]; rfl)
              have Hbx2 := Aside0.mk (show W.heap[w3.heap.size]? = some (.cells #[.int .i64 xl.lev, .int .u32 xl.com] 66 (0, 0)) by rw [hxl]; exact Hbx.out)
              clear hxl Hbx
--TAIL1
              generalize w3.heap.size = bx at Hbx2 ⊢
              have HRW := Aside0.mk (HR.out.below HBW.out)
              obtain ⟨Al, cl, hgl, hCl⟩ := rdr_labels HRW.out
              have HCl := Aside0.mk hCl
              have s0 : ∀ n : Later W, n.w.cell? ⟨bx, 0, none⟩ = some (.int .i64 xl.lev) := later_cell (blk_cell Hbx2.out 0)
              have s1 : ∀ n : Later W, n.w.cell? ⟨bx, 1, none⟩ = some (.int .u32 xl.com) := later_cell (blk_cell Hbx2.out 1)
              have s2 : ∀ n : Later W, n.w.cell? ⟨g, 1, none⟩ = some (.slice Al s.labels.length cl) := later_cell hgl
              clear hCl hgl
              have hq0 : ¬ (checkN xl = 0 ∧ xl ∉ s.labels ∧ s.labels.length < 32) → labelP s l = none := fun h => by
                rw [Hq.out]; unfold labelQ; rw [if_neg h]
              have Hq0 := Aside0.mk hq0
              clear hq0
              by_cases hck : checkN xl = 0
              · have Hck := Aside0.mk hck
                clear hck
                cases hcon : decide (xl ∈ s.labels) with
                | true =>
                  have Hcon := Aside0.mk hcon
                  have Hfin := Aside0.mk (Hq0.out (fun h => h.2.1 (of_decide_eq_true hcon)))
                  clear hcon
                  refine wp_region_later (by kernel_rfl) (by kernel_rfl) ?_
                  repeat (go_big_quiet_step (first | exact calls_later (check_ok _ _ Hck.out) | exact calls_later (contains_is _ _ _ _ _ (later_C HCl.out _) _ Hcon.out)))
                  refine wpQuiet_nil ?_
                  rintro _ ⟨⟨w4, hb4⟩, rfl⟩
                  go_wp2
                  go_ret
                  exact line_fails Hfin.out HR.out (below_step HBW.out hb4) (by omega)
                | false =>
                  have Hcon := Aside0.mk hcon
                  clear hcon
                  by_cases hlen : (s.labels.length : Int) < 32
                  · refine wp_region_later (by kernel_rfl) (by kernel_rfl) ?_
                    repeat (go_big_quiet_step (first | exact calls_later (check_ok _ _ Hck.out) | exact calls_later (contains_is _ _ _ _ _ (later_C HCl.out _) _ Hcon.out)))
                    refine wpQuiet_nil (later_elim fun w4 hb4 => ?_)
                    have Hsuc := Aside0.mk (show labelP s l = some ⟨s.names ++ [x1], s.labels ++ [xl], s.quotas ++ [⟨4096, 4096, 4096⟩], s.entries, s.told ++ [false]⟩ by
                      rw [Hq.out]; unfold labelQ; rw [if_pos ⟨Hck.out, of_decide_eq_false Hcon.out, by omega⟩])
                    go_wp2
                    clear s0 s1 s2 HCl HRW
                    have HB4 := Aside0.mk (below_step HBW.out hb4)
                    have hbN : N ≤ b := HA.out b o rfl
                    have hN4 : N ≤ w4.heap.size := Nat.le_trans hN HB4.out.size
                    have Hbx4 := Aside0.mk (blk_below Hbx2.out hb4)
                    have HR4 := Aside0.mk (HR.out.keep HB4.out)
                    have c1'' := pw_cell_below HB4.out c1
                    have hlb : b < w4.heap.size := World.block_lt_of_cell? _ _ c1''
                    clear hb4 Hbx2 HBW
                    go_cut [] (fun wc => Aside0 (Rdr wc base g m wc.heap.size { s with names := s.names ++ [x1] }) ∧ Aside0 (Keep2 base g m w4 wc) ∧ Aside0 (wc.heap[bx]? = some (.cells #[.int .i64 xl.lev, .int .u32 xl.com] 66 (0, 0))))
                    case first =>
                      obtain ⟨vn, vl, vq, ve, D, nD, hg4, hn4, hl4, hq4, he4, hm4, hcnt, hD⟩ := HR4.out
                      have g0 := blk_cell hg4 0
                      have g0f := blk_frozen hg4 0
                      have hlg : g < w4.heap.size := blk_lt hg4
                      have ng1 : vn.ownBlock ≠ some g := fun e => Kd.R_ne hn4 hg4 (by decide) e.symm
                      have Hn4 := Aside0.mk (Kd.R_mono hn4 (ok' := fun _ => True) (fun _ _ => trivial))
                      have hlen1 : s.names.length ≤ 32 := HF.out.n
                      have P := Aside0.mk (fun (o : Obj) (w1 : World) (v1 : Value) => rdr_put_names (s := s) (x := x1) (o := o) (w1 := w1) (v1 := v1) hg4 hn4 hl4 hq4 he4 hm4 hcnt hD)
                      clear hg4 hn4 hl4 hq4 he4 hm4 hD
                      go_region_law ((refine R_lies Kd.string (by rfl) _ _ 54 9 (.string ⟨#[]⟩) 16 (by rfl) Tryd.underlying54 info9 rfl (by decide) base vn s.names x1 [.string x1] w4.heap.size _ (by rfl) (by rfl) (blk_new _ _) rfl (Kd.R_alloc Hn4.out _) (by simp; omega) (by omega) (by unfold maxLen; omega) (w4.heap.size + 1) (by simp) ?_; intro gn capn w5 hR5 hgrow hat hlt; have k0 := (hgrow.cell_far ⟨g, 0, none⟩ (by simp; omega) (Ne.symm ng1)); have k0f := (hgrow.frozen_far ⟨g, 0, none⟩ (by simp; omega) (Ne.symm ng1))))
                      all_goals
                        go_wp2
                        go_meet
                        case rel =>
                          have hgrow2 : (w4.alloc (.cells #[.string x1] 9)).grownBy w5 vn.ownBlock := ⟨hgrow.os, hgrow.tape, hgrow.output, hgrow.size, hgrow.block⟩
                          obtain ⟨q1, q2, q3⟩ := P.out _ _ _ hR5 hgrow2 (by omega)
                          exact ⟨⟨q1⟩, ⟨q2⟩, ⟨(q3 _ _ Hbx4.out).2⟩⟩
                    case rest =>
                      obtain ⟨HRa, HKa, Hbxa⟩ := hcut
                      clear HR4 Hbx4
                      obtain ⟨wa, hwa⟩ : ∃ w', w' = wc := ⟨_, rfl⟩
                      subst hwa
                      have hsa : w4.heap.size ≤ wa.heap.size := HKa.out.size
                      go_wp2
                      go_cut [] (fun wc => Aside0 (Rdr wc base g m wc.heap.size { s with names := s.names ++ [x1], labels := s.labels ++ [xl] }) ∧ Aside0 (Keep2 base g m wa wc))
                      case first =>
                        obtain ⟨vn, vl, vq, ve, D, nD, hg4, hn4, hl4, hq4, he4, hm4, hcnt, hD⟩ := HRa.out
                        have g0 := blk_cell hg4 1
                        have g0f := blk_frozen hg4 1
                        have b0 := blk_cell Hbxa.out 0
                        have b1 := blk_cell Hbxa.out 1
                        have hlg : g < wa.heap.size := blk_lt hg4
                        have ng1 : vl.ownBlock ≠ some g := fun e => Kd.R_ne hl4 hg4 (by decide) e.symm
                        have Hl4 := Aside0.mk (Kd.R_mono hl4 (ok' := fun _ => True) (fun _ _ => trivial))
                        have P := Aside0.mk (fun (o : Obj) (w1 : World) (v1 : Value) => rdr_put_labels (s := { s with names := s.names ++ [x1] }) (x := xl) (o := o) (w1 := w1) (v1 := v1) hg4 hn4 hl4 hq4 he4 hm4 hcnt hD)
                        clear hg4 hn4 hl4 hq4 he4 hm4 hD
                        go_region_law ((refine R_lies kLab (by rfl) _ _ 23 66 (.agg #[.int .i64 0, .int .u32 0]) 16 (by rfl) Tryd.underlying23 info66 rfl (by decide) base vl s.labels xl [.int .i64 xl.lev, .int .u32 xl.com] wa.heap.size _ (by rfl) (by rfl) (blk_new _ _) (kLab_mk _ _ _ _) (Kd.R_alloc Hl4.out _) (by simp; omega) (by omega) (by unfold maxLen; omega) (wa.heap.size + 1) (by simp) ?_; intro gn capn w5 hR5 hgrow hat hlt; have k0 := (hgrow.cell_far ⟨g, 1, none⟩ (by simp; omega) (Ne.symm ng1)); have k0f := (hgrow.frozen_far ⟨g, 1, none⟩ (by simp; omega) (Ne.symm ng1))))
                        all_goals
                          go_wp2
                          go_meet
                          case rel =>
                            have hgrow2 : (wa.alloc (.cells #[.int .i64 xl.lev, .int .u32 xl.com] 66)).grownBy w5 vl.ownBlock := ⟨hgrow.os, hgrow.tape, hgrow.output, hgrow.size, hgrow.block⟩
                            obtain ⟨q1, q2, q3⟩ := P.out _ _ _ hR5 hgrow2 (by omega)
                            exact ⟨⟨q1⟩, ⟨q2⟩⟩
                      case rest =>
                        obtain ⟨HRb, HKb⟩ := hcut
                        clear HRa Hbxa
                        have hsb : wa.heap.size ≤ wc.heap.size := HKb.out.size
                        obtain ⟨vn, vl, vq, ve, D, nD, hg4, hn4, hl4, hq4, he4, hm4, hcnt, hD⟩ := HRb.out
                        have g0 := blk_cell hg4 2
                        have g0f := blk_frozen hg4 2
                        have hlg : g < wc.heap.size := blk_lt hg4
                        have ng1 : vq.ownBlock ≠ some g := fun e => Kd.R_ne hq4 hg4 (by decide) e.symm
                        have Hq4 := Aside0.mk (Kd.R_mono hq4 (ok' := fun _ => True) (fun _ _ => trivial))
                        have hlen2 : s.quotas.length ≤ 32 := by rw [HF.out.q]; exact HF.out.n
                        have P := Aside0.mk (fun (o : Obj) (w1 : World) (v1 : Value) => rdr_put_quotas (s := { s with names := s.names ++ [x1], labels := s.labels ++ [xl] }) (x := ⟨4096, 4096, 4096⟩) (o := o) (w1 := w1) (v1 := v1) hg4 hn4 hl4 hq4 he4 hm4 hcnt hD)
                        clear hg4 hn4 hl4 hq4 he4 hm4 hD
                        go_wp2_with ((at_builtin; refine R_lies_plain kQuo (by rfl) _ _ 24 49 (.agg #[.int .i64 0, .int .i64 0, .int .i64 0]) 24 (by rfl) Tryd.underlying24 info49 rfl (by decide) base vq s.quotas ⟨4096, 4096, 4096⟩ [.int .i64 4096, .int .i64 4096, .int .i64 4096] wc.heap.size _ (by rfl) (by rfl) (blk_new _ _) (kQuo_mk _ _ _ ⟨4096, 4096, 4096⟩) (Kd.R_alloc Hq4.out _) (by simp; omega) (by omega) (by unfold maxLen; omega) (wc.heap.size + 1) (by simp) ?_; intro gn capn w5 hR5 hgrow hat hlt; have k0 := (hgrow.cell_far ⟨g, 2, none⟩ (by simp; omega) (Ne.symm ng1)); have k0f := (hgrow.frozen_far ⟨g, 2, none⟩ (by simp; omega) (Ne.symm ng1))))
                        go_ret
                        have hgrow2 : (wc.alloc (.cells #[.int .i64 4096, .int .i64 4096, .int .i64 4096] 49)).grownBy w5 vq.ownBlock := ⟨hgrow.os, hgrow.tape, hgrow.output, hgrow.size, hgrow.block⟩
                        obtain ⟨q1, q2, q3⟩ := P.out _ _ _ hR5 hgrow2 (by omega)
                        refine ⟨by rw [Hsuc.out]; rfl, by rw [Hsuc.out]; exact q1.told, ?_⟩
                        exact (Keep2.below HB4.out (by omega)).trans (HKa.out.trans (HKb.out.trans q2))
                  · have Hfin := Aside0.mk (Hq0.out (fun h => hlen (by have := h.2.2; omega)))
                    replace hlen : 32 ≤ (s.labels.length : Int) := by omega
                    refine wp_region_later (by kernel_rfl) (by kernel_rfl) ?_
                    repeat (go_big_quiet_step (first | exact calls_later (check_ok _ _ Hck.out) | exact calls_later (contains_is _ _ _ _ _ (later_C HCl.out _) _ Hcon.out)))
                    refine wpQuiet_nil ?_
                    rintro _ ⟨⟨w4, hb4⟩, rfl⟩
                    go_wp2
                    go_ret
                    exact line_fails Hfin.out HR.out (below_step HBW.out hb4) (by omega)
              · have Hfin := Aside0.mk (Hq0.out (fun h => hck h.1))
                refine wp_region_later (by kernel_rfl) (by kernel_rfl) ?_
                repeat (go_big_quiet_step (exact calls_later (check_bad _ _ hck)))
                refine wpQuiet_nil ?_
                rintro _ ⟨⟨w4, hb4⟩, rfl⟩
                go_wp2
                go_ret
                exact line_fails Hfin.out HR.out (below_step HBW.out hb4) (by omega)
--END1
          -- six words
          · obtain ⟨W0, hW⟩ : ∃ W, W = w3.alloc (.cells #[.int .i64 (nv : Int), .int .u32 0] 66) := ⟨_, rfl⟩
            have HB0 := Aside0.mk (show Below w.heap.size w W0 by rw [hW]; exact HB3.out.alloc HB3.out.size _)
            have Hbx0 := Aside0.mk (show W0.heap[w3.heap.size]? = some (.cells #[.int .i64 (nv : Int), .int .u32 0] 66 (0, 0)) by rw [hW]; exact blk_new _ _)
            rw [← hW]
            clear hW HB2 c3' c5' hbl
            have hle : w.heap.size ≤ w3.heap.size := HB3.out.size
            have hlo : labOf l = labOf6 x3 x4 x5 := by unfold labOf; rw [← HL.out, if_pos rfl, ← X3.out, ← X4.out, ← X5.out]
            have Hlo := Aside0.mk hlo
            clear hlo HB3
            have hs5 : x5.size ≤ 32768 := by
              rw [X5.out, rd_getElem l _ 5 (by rw [← HL.out]; omega)]
              exact HS.out _ (List.getElem_mem _)
            obtain ⟨cv, hcv⟩ : ∃ cv, (compsO x5.data.toList).getD 0 = cv := ⟨_, rfl⟩
            obtain ⟨cb, hcb⟩ : ∃ cb, (compsO x5.data.toList).isSome = cb := ⟨_, rfl⟩
            have Hcv := Aside0.mk hcv
            have Hcb := Aside0.mk hcb
            clear hcv hcb
            refine (comps_is x5 m0 W0 hs5 (pw_cell_below HB0.out HM.out) cv cb Hcv.out Hcb.out).mono ?_
            rintro e W ⟨rfl, hbW⟩
            have HBW := Aside0.mk (below_step HB0.out hbW)
            have Hbx := Aside0.mk (blk_below Hbx0.out hbW)
            have c4' := pw_cell_below HBW.out c4
            have q1 := blk_cell Hbx.out 1
            have q1f := blk_frozen Hbx.out 1
            clear hbW HB0 Hbx0
            have hfail : ¬ (nb = true ∧ cb = true ∧ (x4.toList == [99, 111, 109, 112, 115]) = true) → labelP s l = none := by
              intro h
              rw [HS2.out, Hlo.out]
              unfold labOf6
              rw [if_neg]
              · rfl
              · rintro ⟨h1, h2, h3⟩
                refine h ⟨Hnb.out.symm.trans h1, Hcb.out.symm.trans h2, ?_⟩
                rw [str_eq, decide_eq_true h3]
            have HF6 := Aside0.mk hfail
            clear hfail
            cases hx4 : (x4.toList == [99, 111, 109, 112, 115])
            all_goals
              cases nb
              all_goals
                cases cb
                all_goals
                  go_wp2
            rotate_right
            · obtain ⟨xl, hxl⟩ : ∃ xl : Lab, xl = ⟨(nv : Int), (cv : Int)⟩ := ⟨_, rfl⟩
              have Hq := Aside0.mk (show labelP s l = labelQ s x1 xl by
                rw [HS2.out, Hlo.out]; unfold labOf6
                rw [if_pos ⟨Hnb.out, Hcb.out, by rw [str_eq] at hx4; exact of_decide_eq_true hx4⟩, Hnv.out, Hcv.out, hxl]; rfl)
              obtain ⟨W2, hW2⟩ : ∃ W2, W2 = W.setCell ⟨w3.heap.size, 1, none⟩ (.int .u32 (cv : Int)) := ⟨_, rfl⟩
              have Hbx2 := Aside0.mk (show W2.heap[w3.heap.size]? = some (.cells #[.int .i64 xl.lev, .int .u32 xl.com] 66 (0, 0)) by rw [hW2, hxl]; exact blk_set Hbx.out 1 _)
              have HBW2 := Aside0.mk (show Below w.heap.size w W2 by rw [hW2]; exact HBW.out.setCell hle _)
              rw [← hW2]
              clear hW2 HBW Hbx c4' q1 q1f hxl
--TAIL2
              generalize w3.heap.size = bx at Hbx2 ⊢
              have HRW := Aside0.mk (HR.out.below HBW2.out)
              obtain ⟨Al, cl, hgl, hCl⟩ := rdr_labels HRW.out
              have HCl := Aside0.mk hCl
              have s0 : ∀ n : Later W2, n.w.cell? ⟨bx, 0, none⟩ = some (.int .i64 xl.lev) := later_cell (blk_cell Hbx2.out 0)
              have s1 : ∀ n : Later W2, n.w.cell? ⟨bx, 1, none⟩ = some (.int .u32 xl.com) := later_cell (blk_cell Hbx2.out 1)
              have s2 : ∀ n : Later W2, n.w.cell? ⟨g, 1, none⟩ = some (.slice Al s.labels.length cl) := later_cell hgl
              clear hCl hgl
              have hq0 : ¬ (checkN xl = 0 ∧ xl ∉ s.labels ∧ s.labels.length < 32) → labelP s l = none := fun h => by
                rw [Hq.out]; unfold labelQ; rw [if_neg h]
              have Hq0 := Aside0.mk hq0
              clear hq0
              by_cases hck : checkN xl = 0
              · have Hck := Aside0.mk hck
                clear hck
                cases hcon : decide (xl ∈ s.labels) with
                | true =>
                  have Hcon := Aside0.mk hcon
                  have Hfin := Aside0.mk (Hq0.out (fun h => h.2.1 (of_decide_eq_true hcon)))
                  clear hcon
                  refine wp_region_later (by kernel_rfl) (by kernel_rfl) ?_
                  repeat (go_big_quiet_step (first | exact calls_later (check_ok _ _ Hck.out) | exact calls_later (contains_is _ _ _ _ _ (later_C HCl.out _) _ Hcon.out)))
                  refine wpQuiet_nil ?_
                  rintro _ ⟨⟨w4, hb4⟩, rfl⟩
                  go_wp2
                  go_ret
                  exact line_fails Hfin.out HR.out (below_step HBW2.out hb4) (by omega)
                | false =>
                  have Hcon := Aside0.mk hcon
                  clear hcon
                  by_cases hlen : (s.labels.length : Int) < 32
                  · refine wp_region_later (by kernel_rfl) (by kernel_rfl) ?_
                    repeat (go_big_quiet_step (first | exact calls_later (check_ok _ _ Hck.out) | exact calls_later (contains_is _ _ _ _ _ (later_C HCl.out _) _ Hcon.out)))
                    refine wpQuiet_nil (later_elim fun w4 hb4 => ?_)
                    have Hsuc := Aside0.mk (show labelP s l = some ⟨s.names ++ [x1], s.labels ++ [xl], s.quotas ++ [⟨4096, 4096, 4096⟩], s.entries, s.told ++ [false]⟩ by
                      rw [Hq.out]; unfold labelQ; rw [if_pos ⟨Hck.out, of_decide_eq_false Hcon.out, by omega⟩])
                    go_wp2
                    clear s0 s1 s2 HCl HRW
                    have HB4 := Aside0.mk (below_step HBW2.out hb4)
                    have hbN : N ≤ b := HA.out b o rfl
                    have hN4 : N ≤ w4.heap.size := Nat.le_trans hN HB4.out.size
                    have Hbx4 := Aside0.mk (blk_below Hbx2.out hb4)
                    have HR4 := Aside0.mk (HR.out.keep HB4.out)
                    have c1'' := pw_cell_below HB4.out c1
                    have hlb : b < w4.heap.size := World.block_lt_of_cell? _ _ c1''
                    clear hb4 Hbx2 HBW2
                    go_cut [] (fun wc => Aside0 (Rdr wc base g m wc.heap.size { s with names := s.names ++ [x1] }) ∧ Aside0 (Keep2 base g m w4 wc) ∧ Aside0 (wc.heap[bx]? = some (.cells #[.int .i64 xl.lev, .int .u32 xl.com] 66 (0, 0))))
                    case first =>
                      obtain ⟨vn, vl, vq, ve, D, nD, hg4, hn4, hl4, hq4, he4, hm4, hcnt, hD⟩ := HR4.out
                      have g0 := blk_cell hg4 0
                      have g0f := blk_frozen hg4 0
                      have hlg : g < w4.heap.size := blk_lt hg4
                      have ng1 : vn.ownBlock ≠ some g := fun e => Kd.R_ne hn4 hg4 (by decide) e.symm
                      have Hn4 := Aside0.mk (Kd.R_mono hn4 (ok' := fun _ => True) (fun _ _ => trivial))
                      have hlen1 : s.names.length ≤ 32 := HF.out.n
                      have P := Aside0.mk (fun (o : Obj) (w1 : World) (v1 : Value) => rdr_put_names (s := s) (x := x1) (o := o) (w1 := w1) (v1 := v1) hg4 hn4 hl4 hq4 he4 hm4 hcnt hD)
                      clear hg4 hn4 hl4 hq4 he4 hm4 hD
                      go_region_law ((refine R_lies Kd.string (by rfl) _ _ 54 9 (.string ⟨#[]⟩) 16 (by rfl) Tryd.underlying54 info9 rfl (by decide) base vn s.names x1 [.string x1] w4.heap.size _ (by rfl) (by rfl) (blk_new _ _) rfl (Kd.R_alloc Hn4.out _) (by simp; omega) (by omega) (by unfold maxLen; omega) (w4.heap.size + 1) (by simp) ?_; intro gn capn w5 hR5 hgrow hat hlt; have k0 := (hgrow.cell_far ⟨g, 0, none⟩ (by simp; omega) (Ne.symm ng1)); have k0f := (hgrow.frozen_far ⟨g, 0, none⟩ (by simp; omega) (Ne.symm ng1))))
                      all_goals
                        go_wp2
                        go_meet
                        case rel =>
                          have hgrow2 : (w4.alloc (.cells #[.string x1] 9)).grownBy w5 vn.ownBlock := ⟨hgrow.os, hgrow.tape, hgrow.output, hgrow.size, hgrow.block⟩
                          obtain ⟨q1, q2, q3⟩ := P.out _ _ _ hR5 hgrow2 (by omega)
                          exact ⟨⟨q1⟩, ⟨q2⟩, ⟨(q3 _ _ Hbx4.out).2⟩⟩
                    case rest =>
                      obtain ⟨HRa, HKa, Hbxa⟩ := hcut
                      clear HR4 Hbx4
                      obtain ⟨wa, hwa⟩ : ∃ w', w' = wc := ⟨_, rfl⟩
                      subst hwa
                      have hsa : w4.heap.size ≤ wa.heap.size := HKa.out.size
                      go_wp2
                      go_cut [] (fun wc => Aside0 (Rdr wc base g m wc.heap.size { s with names := s.names ++ [x1], labels := s.labels ++ [xl] }) ∧ Aside0 (Keep2 base g m wa wc))
                      case first =>
                        obtain ⟨vn, vl, vq, ve, D, nD, hg4, hn4, hl4, hq4, he4, hm4, hcnt, hD⟩ := HRa.out
                        have g0 := blk_cell hg4 1
                        have g0f := blk_frozen hg4 1
                        have b0 := blk_cell Hbxa.out 0
                        have b1 := blk_cell Hbxa.out 1
                        have hlg : g < wa.heap.size := blk_lt hg4
                        have ng1 : vl.ownBlock ≠ some g := fun e => Kd.R_ne hl4 hg4 (by decide) e.symm
                        have Hl4 := Aside0.mk (Kd.R_mono hl4 (ok' := fun _ => True) (fun _ _ => trivial))
                        have P := Aside0.mk (fun (o : Obj) (w1 : World) (v1 : Value) => rdr_put_labels (s := { s with names := s.names ++ [x1] }) (x := xl) (o := o) (w1 := w1) (v1 := v1) hg4 hn4 hl4 hq4 he4 hm4 hcnt hD)
                        clear hg4 hn4 hl4 hq4 he4 hm4 hD
                        go_region_law ((refine R_lies kLab (by rfl) _ _ 23 66 (.agg #[.int .i64 0, .int .u32 0]) 16 (by rfl) Tryd.underlying23 info66 rfl (by decide) base vl s.labels xl [.int .i64 xl.lev, .int .u32 xl.com] wa.heap.size _ (by rfl) (by rfl) (blk_new _ _) (kLab_mk _ _ _ _) (Kd.R_alloc Hl4.out _) (by simp; omega) (by omega) (by unfold maxLen; omega) (wa.heap.size + 1) (by simp) ?_; intro gn capn w5 hR5 hgrow hat hlt; have k0 := (hgrow.cell_far ⟨g, 1, none⟩ (by simp; omega) (Ne.symm ng1)); have k0f := (hgrow.frozen_far ⟨g, 1, none⟩ (by simp; omega) (Ne.symm ng1))))
                        all_goals
                          go_wp2
                          go_meet
                          case rel =>
                            have hgrow2 : (wa.alloc (.cells #[.int .i64 xl.lev, .int .u32 xl.com] 66)).grownBy w5 vl.ownBlock := ⟨hgrow.os, hgrow.tape, hgrow.output, hgrow.size, hgrow.block⟩
                            obtain ⟨q1, q2, q3⟩ := P.out _ _ _ hR5 hgrow2 (by omega)
                            exact ⟨⟨q1⟩, ⟨q2⟩⟩
                      case rest =>
                        obtain ⟨HRb, HKb⟩ := hcut
                        clear HRa Hbxa
                        have hsb : wa.heap.size ≤ wc.heap.size := HKb.out.size
                        obtain ⟨vn, vl, vq, ve, D, nD, hg4, hn4, hl4, hq4, he4, hm4, hcnt, hD⟩ := HRb.out
                        have g0 := blk_cell hg4 2
                        have g0f := blk_frozen hg4 2
                        have hlg : g < wc.heap.size := blk_lt hg4
                        have ng1 : vq.ownBlock ≠ some g := fun e => Kd.R_ne hq4 hg4 (by decide) e.symm
                        have Hq4 := Aside0.mk (Kd.R_mono hq4 (ok' := fun _ => True) (fun _ _ => trivial))
                        have hlen2 : s.quotas.length ≤ 32 := by rw [HF.out.q]; exact HF.out.n
                        have P := Aside0.mk (fun (o : Obj) (w1 : World) (v1 : Value) => rdr_put_quotas (s := { s with names := s.names ++ [x1], labels := s.labels ++ [xl] }) (x := ⟨4096, 4096, 4096⟩) (o := o) (w1 := w1) (v1 := v1) hg4 hn4 hl4 hq4 he4 hm4 hcnt hD)
                        clear hg4 hn4 hl4 hq4 he4 hm4 hD
                        go_wp2_with ((at_builtin; refine R_lies_plain kQuo (by rfl) _ _ 24 49 (.agg #[.int .i64 0, .int .i64 0, .int .i64 0]) 24 (by rfl) Tryd.underlying24 info49 rfl (by decide) base vq s.quotas ⟨4096, 4096, 4096⟩ [.int .i64 4096, .int .i64 4096, .int .i64 4096] wc.heap.size _ (by rfl) (by rfl) (blk_new _ _) (kQuo_mk _ _ _ ⟨4096, 4096, 4096⟩) (Kd.R_alloc Hq4.out _) (by simp; omega) (by omega) (by unfold maxLen; omega) (wc.heap.size + 1) (by simp) ?_; intro gn capn w5 hR5 hgrow hat hlt; have k0 := (hgrow.cell_far ⟨g, 2, none⟩ (by simp; omega) (Ne.symm ng1)); have k0f := (hgrow.frozen_far ⟨g, 2, none⟩ (by simp; omega) (Ne.symm ng1))))
                        go_ret
                        have hgrow2 : (wc.alloc (.cells #[.int .i64 4096, .int .i64 4096, .int .i64 4096] 49)).grownBy w5 vq.ownBlock := ⟨hgrow.os, hgrow.tape, hgrow.output, hgrow.size, hgrow.block⟩
                        obtain ⟨q1, q2, q3⟩ := P.out _ _ _ hR5 hgrow2 (by omega)
                        refine ⟨by rw [Hsuc.out]; rfl, by rw [Hsuc.out]; exact q1.told, ?_⟩
                        exact (Keep2.below HB4.out (by omega)).trans (HKa.out.trans (HKb.out.trans q2))
                  · have Hfin := Aside0.mk (Hq0.out (fun h => hlen (by have := h.2.2; omega)))
                    replace hlen : 32 ≤ (s.labels.length : Int) := by omega
                    refine wp_region_later (by kernel_rfl) (by kernel_rfl) ?_
                    repeat (go_big_quiet_step (first | exact calls_later (check_ok _ _ Hck.out) | exact calls_later (contains_is _ _ _ _ _ (later_C HCl.out _) _ Hcon.out)))
                    refine wpQuiet_nil ?_
                    rintro _ ⟨⟨w4, hb4⟩, rfl⟩
                    go_wp2
                    go_ret
                    exact line_fails Hfin.out HR.out (below_step HBW2.out hb4) (by omega)
              · have Hfin := Aside0.mk (Hq0.out (fun h => hck h.1))
                refine wp_region_later (by kernel_rfl) (by kernel_rfl) ?_
                repeat (go_big_quiet_step (exact calls_later (check_bad _ _ hck)))
                refine wpQuiet_nil ?_
                rintro _ ⟨⟨w4, hb4⟩, rfl⟩
                go_wp2
                go_ret
                exact line_fails Hfin.out HR.out (below_step HBW2.out hb4) (by omega)
--END2
            all_goals
              have Hfin := Aside0.mk (HF6.out (by rw [hx4]; simp))
              refine wp_region_later (by kernel_rfl) (by kernel_rfl) ?_
              repeat (go_big_quiet_step (fail))
              refine wpQuiet_nil ?_
              rintro _ ⟨⟨w4, hb4⟩, rfl⟩
              go_wp2
              go_ret
              exact line_fails Hfin.out HR.out (below_step HBW.out hb4) (by omega)
  · have Hfin := Aside0.mk (show labelP s l = none by
      unfold labelP
      rw [if_neg (fun h => hl h.1)])
    have h4 : ((l.length : Int) == 4) = false := beq_eq_false_iff_ne.2 (by omega)
    have h6 : ((l.length : Int) == 6) = false := beq_eq_false_iff_ne.2 (by omega)
    have h4' : ((l.length : Int) != 4) = true := by rw [bne, h4]; rfl
    have h6' : ((l.length : Int) != 6) = true := by rw [bne, h6]; rfl
    clear hl
    go_enter Tryd.func46, Tryd.ntmps46
    go_wp2
    go_ret
    exact line_fails Hfin.out HR.out (Below.refl _ _) (by omega)
end Go.Proofs.YtaeaakcppheaoaaDoor
