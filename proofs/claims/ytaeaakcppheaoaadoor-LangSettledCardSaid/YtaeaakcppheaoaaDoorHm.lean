/- What the reader's methods client and line do. -/
import Derived.Test.YtaeaakcppheaoaaDoorHl
namespace Go.Proofs.YtaeaakcppheaoaaDoor
open Go.RowKit Go.Proofs.YtaeaakcppheaoaaDoorW.PrintWords Go.Maps

theorem rdr_entries {w : World} {base g m N : Nat} {s : St} (h : Rdr w base g m N s) : ∃ A c, w.cell? ⟨g, 3, none⟩ = some (.slice A s.entries.length c) ∧ Kd.C kEnt w A s.entries.length s.entries := by
  obtain ⟨vn, vl, vq, ve, D, n, hg, hn, hl, hq, he, hm, hc, hD⟩ := h
  obtain ⟨A, c, rfl, _, hC⟩ := Kd.R_reads he
  exact ⟨A, c, blk_cell hg 3, hC⟩
theorem meant_is (s : ByteArray) (w : World) (hs : s.size ≤ 32768) (r : ByteArray) (b : Bool) (h1 : (meantP s.data.toList).1 = r) (h2 : (meantP s.data.toList).2 = b) :
    Calls Tryd.prog 67 #[.string s] w fun e w' => e = .returned (.tuple #[.string r, .bool b]) ∧ Below w.heap.size w w' := by
  rw [← h1, ← h2]; exact meant_any s w hs

set_option maxRecDepth 100000 in
set_option maxHeartbeats 4000000 in
theorem client_line (base g m N : Nat) (s : St) (A : Option Addr) (c : Nat) (l : List ByteArray) (w : World) (hR : Rdr w base g m N s) (hf : s.Fits) (hN : N ≤ w.heap.size) (hbase : base ≤ N)
    (hr : Kd.C Kd.string w A l.length l) (hsz : ∀ x ∈ l, x.size ≤ 32768) :
    Calls Tryd.prog 48 #[.pointer (some ⟨g, 0, none⟩), .slice A l.length c] w (LinePost base g m w s (clientP s l)) := by
  have HR := Aside0.mk hR
  have Hr := Aside0.mk hr
  have HF := Aside0.mk hf
  have HS := Aside0.mk hsz
  clear hR hr hf hsz
  by_cases hl : l.length = 4 ∨ l.length = 5
  · obtain ⟨b, o, rfl, hc1⟩ := str_at Hr.out 1 (by omega)
    have hat : ∀ k, k < l.length → w.cell? ⟨b, o + k, none⟩ = some (.string (l.getD k (ofL []))) := by
      intro k hk
      obtain ⟨b2, o2, hA, hc2⟩ := str_at Hr.out k hk
      injection hA with hA
      injection hA with h1 h2
      subst h1 h2
      rw [rd_getElem l _ k hk]; exact hc2
    obtain ⟨x1, hx1⟩ : ∃ x, x = l.getD 1 (ofL []) := ⟨_, rfl⟩
    obtain ⟨x2, hx2⟩ : ∃ x, x = l.getD 2 (ofL []) := ⟨_, rfl⟩
    obtain ⟨x3, hx3⟩ : ∃ x, x = l.getD 3 (ofL []) := ⟨_, rfl⟩
    obtain ⟨x4, hx4⟩ : ∃ x, x = l.getD 4 (ofL []) := ⟨_, rfl⟩
    have c1 : w.cell? ⟨b, o + 1, none⟩ = some (.string x1) := by rw [hx1]; exact hat 1 (by omega)
    have c2 : w.cell? ⟨b, o + 2, none⟩ = some (.string x2) := by rw [hx2]; exact hat 2 (by omega)
    have c3 : w.cell? ⟨b, o + 3, none⟩ = some (.string x3) := by rw [hx3]; exact hat 3 (by omega)
    have C4 := Aside0.mk (show l.length = 5 → w.cell? ⟨b, o + 4, none⟩ = some (.string x4) by intro h; rw [hx4]; exact hat 4 (by omega))
    have hsz3 : x3.size ≤ 32768 := by
      rw [hx3, rd_getElem l _ 3 (by omega)]
      exact HS.out _ (List.getElem_mem _)
    obtain ⟨n, hn⟩ : ∃ n, n = l.length := ⟨_, rfl⟩
    obtain ⟨i, hi⟩ : ∃ i, idxI s.names x1 = i := ⟨_, rfl⟩
    obtain ⟨sv, hsv⟩ : ∃ v, (meantP x3.data.toList).1 = v := ⟨_, rfl⟩
    obtain ⟨sb, hsb⟩ : ∃ v, (meantP x3.data.toList).2 = v := ⟨_, rfl⟩
    obtain ⟨e2, he2⟩ : ∃ v, (x2.toList == [115, 101, 99, 114, 101, 116]) = v := ⟨_, rfl⟩
    obtain ⟨e4, he4⟩ : ∃ v, (x4.toList == [100, 111, 119, 110]) = v := ⟨_, rfl⟩
    have HD := Aside0.mk (show clientP s l = if (n = 4 ∨ n = 5 ∧ e4 = true) ∧ e2 = true ∧ s.entries.length < 8 ∧ 0 ≤ i ∧ sb = true then some { s with entries := s.entries ++ [⟨i, sv, decide (n = 5)⟩] } else none by
      unfold clientP
      rw [← hx1, ← hx2, ← hx3, ← hx4, ← hn, hi, hsv, hsb]
      have d2 : (x2 = ofL [115, 101, 99, 114, 101, 116]) ↔ e2 = true := by rw [← he2, str_eq, decide_eq_true_eq]
      have d4 : (x4 = ofL [100, 111, 119, 110]) ↔ e4 = true := by rw [← he4, str_eq, decide_eq_true_eq]
      simp only [d2, d4])
    have Hi := Aside0.mk hi
    have Hsv := Aside0.mk (And.intro hsv hsb)
    rw [← hn] at hl ⊢
    have C4' := Aside0.mk (show n = 5 → w.cell? ⟨b, o + 4, none⟩ = some (.string x4) from fun h => C4.out (hn.symm.trans h))
    clear hat hc1 hx1 hx2 hx3 hx4 hi hsv hsb hn C4
    obtain ⟨Ae, ce, hge, hCe⟩ := rdr_entries HR.out
    clear hCe
    have hnone : ¬ ((n = 4 ∨ n = 5 ∧ e4 = true) ∧ e2 = true ∧ s.entries.length < 8 ∧ 0 ≤ i ∧ sb = true) → clientP s l = none := fun h => by rw [HD.out, if_neg h]
    have HN := Aside0.mk hnone
    clear hnone
    by_cases hhead : (n = 4 ∨ n = 5 ∧ e4 = true) ∧ e2 = true ∧ s.entries.length < 8
    · obtain ⟨hh, rfl, h8⟩ := hhead
      have h8' : (s.entries.length : Int) < 8 := by omega
      cases hb : decide (0 ≤ i)
      all_goals
        have Hb := Aside0.mk hb
        clear hb
      · have Hq := Aside0.mk (HN.out (fun h => of_decide_eq_false Hb.out h.2.2.2.1))
        rcases hh with rfl | ⟨rfl, rfl⟩
        all_goals
          try have c4 := C4'.out rfl
          go_enter Tryd.func48, Tryd.ntmps48
          go_wp2
          obtain ⟨An, cn, hgn, hCn⟩ := rdr_names HR.out
          have HCn := Aside0.mk hCn
          have s0 : ∀ n : Later w, n.w.cell? ⟨g, 0, none⟩ = some (.slice An s.names.length cn) := later_cell hgn
          have s1 : ∀ n : Later w, n.w.cell? ⟨b, o + 1, none⟩ = some (.string x1) := later_cell c1
          clear hCn hgn
          refine wp_region_later (by kernel_rfl) (by kernel_rfl) ?_
          repeat (go_big_quiet_step (exact calls_later (find_at _ _ _ _ _ (later_C HCn.out _) _ _ Hi.out Hb.out)))
          refine wpQuiet_nil (later_elim fun w2 hb2 => ?_)
          have HB2 := Aside0.mk hb2
          have c3' := pw_cell_below HB2.out c3
          clear s0 s1 hb2 HCn
          go_wp2_with fail
          refine (meant_is _ _ hsz3 sv sb Hsv.out.1 Hsv.out.2).mono ?_
          rintro e w3 ⟨rfl, hb3⟩
          have HB3 := Aside0.mk (below_step HB2.out hb3)
          clear hb3 HB2 c3'
          go_wp2
          go_ret
          exact line_fails Hq.out HR.out HB3.out (by omega)
      · rcases hh with rfl | ⟨rfl, rfl⟩
        all_goals
          have HNF := Aside0.mk (show sb = false → clientP s l = none from fun h => HN.out (fun h2 => by rw [h] at h2; cases h2.2.2.2.2))
          first
          | have HNS := Aside0.mk (show sb = true → clientP s l = some { s with entries := s.entries ++ [⟨i, sv, false⟩] } from fun h => by rw [HD.out, if_pos ⟨.inl rfl, rfl, h8, of_decide_eq_true Hb.out, h⟩]; rfl)
          | have HNS := Aside0.mk (show sb = true → clientP s l = some { s with entries := s.entries ++ [⟨i, sv, true⟩] } from fun h => by rw [HD.out, if_pos ⟨.inr ⟨rfl, rfl⟩, rfl, h8, of_decide_eq_true Hb.out, h⟩]; rfl)
          try have c4 := C4'.out rfl
          go_enter Tryd.func48, Tryd.ntmps48
          go_wp2
          obtain ⟨An, cn, hgn, hCn⟩ := rdr_names HR.out
          have HCn := Aside0.mk hCn
          have s0 : ∀ n : Later w, n.w.cell? ⟨g, 0, none⟩ = some (.slice An s.names.length cn) := later_cell hgn
          have s1 : ∀ n : Later w, n.w.cell? ⟨b, o + 1, none⟩ = some (.string x1) := later_cell c1
          clear hCn hgn
          refine wp_region_later (by kernel_rfl) (by kernel_rfl) ?_
          repeat (go_big_quiet_step (exact calls_later (find_at _ _ _ _ _ (later_C HCn.out _) _ _ Hi.out Hb.out)))
          refine wpQuiet_nil (later_elim fun w2 hb2 => ?_)
          have HB2 := Aside0.mk hb2
          have c3' := pw_cell_below HB2.out c3
          clear s0 s1 hb2 HCn
          go_wp2_with fail
          refine (meant_is _ _ hsz3 sv sb Hsv.out.1 Hsv.out.2).mono ?_
          rintro e w3 ⟨rfl, hb3⟩
          have HB3 := Aside0.mk (below_step HB2.out hb3)
          clear hb3 HB2 c3' hge
          cases sb with
          | false =>
            have Hq := Aside0.mk (HNF.out rfl)
            go_wp2
            go_ret
            exact line_fails Hq.out HR.out HB3.out (by omega)
          | true =>
            have HS2 := Aside0.mk (HNS.out rfl)
            obtain ⟨vn, vl, vq, ve, D, nD, hg4, hn4, hl4, hq4, he4, hm4, hcnt, hD⟩ := HR.out.keep HB3.out
            have g0 := blk_cell hg4 3
            have g0f := blk_frozen hg4 3
            have hlg : g < w3.heap.size := blk_lt hg4
            have hws : w.heap.size ≤ w3.heap.size := HB3.out.size
            have ng1 : ve.ownBlock ≠ some g := fun e => Kd.R_ne he4 hg4 (by decide) e.symm
            have He4 := Aside0.mk (Kd.R_mono he4 (ok' := fun _ => True) (fun _ _ => trivial))
            have P := Aside0.mk (fun (e : Ent) (o : Obj) (w1 : World) (v1 : Value) => rdr_put_entries (s := s) (x := e) (o := o) (w1 := w1) (v1 := v1) hg4 hn4 hl4 hq4 he4 hm4 hcnt hD)
            clear hg4 hn4 hl4 hq4 he4 hm4 hD
            first
            | (go_wp2_with ((at_builtin; refine R_lies_plain kEnt (by rfl) _ _ 25 51 (.agg #[.int .i64 0, .string ⟨#[]⟩, .bool false]) 32 (by rfl) Tryd.underlying25 info51 rfl (by decide) base ve s.entries ⟨i, sv, false⟩ [.int .i64 i, .string sv, .bool false] w3.heap.size _ (by rfl) (by rfl) (blk_new _ _) (kEnt_mk _ _ _ ⟨i, sv, false⟩) (Kd.R_alloc He4.out _) (by simp; omega) (by omega) (by unfold maxLen; omega) (w3.heap.size + 1) (by simp) ?_; intro gn capn w5 hR5 hgrow hat hlt; have k0 := (hgrow.cell_far ⟨g, 3, none⟩ (by simp; omega) (Ne.symm ng1)); have k0f := (hgrow.frozen_far ⟨g, 3, none⟩ (by simp; omega) (Ne.symm ng1))))
               go_ret
               have hgrow2 : (w3.alloc (.cells #[.int .i64 i, .string sv, .bool false] 51)).grownBy w5 ve.ownBlock := ⟨hgrow.os, hgrow.tape, hgrow.output, hgrow.size, hgrow.block⟩
               obtain ⟨q1, q2, q3⟩ := P.out _ _ _ _ hR5 hgrow2 (by omega)
               exact ⟨by rw [HS2.out]; rfl, by rw [HS2.out]; exact q1, (Keep2.below HB3.out (by omega)).trans q2⟩)
            | (go_wp2_with ((at_builtin; refine R_lies_plain kEnt (by rfl) _ _ 25 51 (.agg #[.int .i64 0, .string ⟨#[]⟩, .bool false]) 32 (by rfl) Tryd.underlying25 info51 rfl (by decide) base ve s.entries ⟨i, sv, true⟩ [.int .i64 i, .string sv, .bool true] w3.heap.size _ (by rfl) (by rfl) (blk_new _ _) (kEnt_mk _ _ _ ⟨i, sv, true⟩) (Kd.R_alloc He4.out _) (by simp; omega) (by omega) (by unfold maxLen; omega) (w3.heap.size + 1) (by simp) ?_; intro gn capn w5 hR5 hgrow hat hlt; have k0 := (hgrow.cell_far ⟨g, 3, none⟩ (by simp; omega) (Ne.symm ng1)); have k0f := (hgrow.frozen_far ⟨g, 3, none⟩ (by simp; omega) (Ne.symm ng1))))
               go_ret
               have hgrow2 : (w3.alloc (.cells #[.int .i64 i, .string sv, .bool true] 51)).grownBy w5 ve.ownBlock := ⟨hgrow.os, hgrow.tape, hgrow.output, hgrow.size, hgrow.block⟩
               obtain ⟨q1, q2, q3⟩ := P.out _ _ _ _ hR5 hgrow2 (by omega)
               exact ⟨by rw [HS2.out]; rfl, by rw [HS2.out]; exact q1, (Keep2.below HB3.out (by omega)).trans q2⟩)
    · have Hq := Aside0.mk (HN.out (fun h => hhead ⟨h.1, h.2.1, h.2.2.1⟩))
      have hcase : (n = 5 ∧ e4 = false) ∨ (n = 5 ∧ e4 = true ∧ e2 = false) ∨ (n = 4 ∧ e2 = false) ∨ (n = 5 ∧ e4 = true ∧ e2 = true ∧ 8 ≤ (s.entries.length : Int)) ∨ (n = 4 ∧ e2 = true ∧ 8 ≤ (s.entries.length : Int)) := by
        rcases hl with h | h
        · cases e2
          · exact .inr (.inr (.inl ⟨h, rfl⟩))
          · refine .inr (.inr (.inr (.inr ⟨h, rfl, ?_⟩)))
            have : ¬ s.entries.length < 8 := fun h3 => hhead ⟨.inl h, rfl, h3⟩
            omega
        · cases e4
          · exact .inl ⟨h, rfl⟩
          · cases e2
            · exact .inr (.inl ⟨h, rfl, rfl⟩)
            · refine .inr (.inr (.inr (.inl ⟨h, rfl, rfl, ?_⟩)))
              have : ¬ s.entries.length < 8 := fun h3 => hhead ⟨.inr ⟨h, rfl⟩, rfl, h3⟩
              omega
      clear hhead hl
      rcases hcase with ⟨rfl, rfl⟩ | ⟨rfl, rfl, rfl⟩ | ⟨rfl, rfl⟩ | ⟨rfl, rfl, rfl, h8⟩ | ⟨rfl, rfl, h8⟩
      all_goals
        try have c4 := C4'.out rfl
        go_enter Tryd.func48, Tryd.ntmps48
        go_wp2
        go_ret
        exact line_fails Hq.out HR.out (Below.refl _ _) (by omega)
  · have Hq := Aside0.mk (show clientP s l = none from if_neg (fun h => hl (by rcases h.1 with h | h; exact .inl h; exact .inr h.1)))
    have h4 : ((l.length : Int) == 4) = false := beq_eq_false_iff_ne.2 (by omega)
    have h4' : ((l.length : Int) != 4) = true := by rw [bne, h4]; rfl
    have h5 : ((l.length : Int) == 5) = false := beq_eq_false_iff_ne.2 (by omega)
    have h5' : ((l.length : Int) != 5) = true := by rw [bne, h5]; rfl
    clear hl
    go_enter Tryd.func48, Tryd.ntmps48
    go_wp2
    go_ret
    exact line_fails Hq.out HR.out (Below.refl _ _) (by omega)
end Go.Proofs.YtaeaakcppheaoaaDoor
