/- What the reference's line does with a quota's line. -/
import Derived.Test.YtaeaakcppheaoaaDoorK2
import Derived.Deep.RegionHeld3
namespace Go.Proofs.YtaeaakcppheaoaaDoor
open Go.RowKit Go.Proofs.YtaeaakcppheaoaaDoorW.PrintWords Go.Maps

theorem refnum_is (s : ByteArray) (w : World) (n : Int) (h : numI s.data.toList = n) :
    Calls Tryd.prog 49 #[.string s] w fun e w' => e = .returned (.int .i64 n) ∧ w = w' := by
  rw [← h]; exact refnumber_any s w
theorem numI_facts (l : List UInt8) : (numB l = true ↔ 0 ≤ numI l) ∧ (numB l = true → numI l = (numV l : Int)) ∧ -1 ≤ numI l ∧ numI l ≤ 9999 := by
  unfold numI
  cases h : numB l with
  | false => simp
  | true =>
    simp
    unfold numV
    rw [h, if_pos rfl]
    have h2 := h
    unfold numB formB at h2
    simp only [Bool.and_eq_true, decide_eq_true_eq] at h2
    have := valB_lt l h2.2
    have h3 : 10 ^ l.length ≤ 10 ^ 4 := Nat.pow_le_pow_right (by decide) h2.1.1.2
    omega

set_option maxRecDepth 100000 in
set_option maxHeartbeats 8000000 in
theorem refquota_line (base g N : Nat) (s : St) (A : Option Addr) (c : Nat) (l : List ByteArray) (w : World) (hR : RRd w base g N s) (hf : s.Fits) (hN : N ≤ w.heap.size) (hbase : base ≤ N)
    (hr : Kd.C Kd.string w A l.length l) (h4 : 4 ≤ l.length) (h0 : l.getD 0 (ofL []) = ofL [113, 117, 111, 116, 97]) :
    Calls Tryd.prog 27 #[.pointer (some ⟨g, 0, none⟩), .slice A l.length c] w (RefPost base g w s (quotaP s l)) := by
  have HR := Aside0.mk hR
  have Hr := Aside0.mk hr
  have HF := Aside0.mk hf
  clear hR hr hf
  obtain ⟨b, o, rfl, hc1⟩ := str_at Hr.out 1 (by omega)
  have hat : ∀ k, k < l.length → w.cell? ⟨b, o + k, none⟩ = some (.string (l.getD k (ofL []))) := by
    intro k hk
    obtain ⟨b2, o2, hA, hc2⟩ := str_at Hr.out k hk
    injection hA with hA
    injection hA with h1 h2
    subst h1 h2
    rw [rd_getElem l _ k hk]; exact hc2
  have HX := Aside0.mk (show ¬ (l.length = 8 ∧ l.getD 2 (ofL []) = ofL [99, 104, 97, 114, 115] ∧ l.getD 4 (ofL []) = ofL [111, 112, 115] ∧ l.getD 6 (ofL []) = ofL [115, 101, 97, 116, 115] ∧
      0 ≤ idxI s.names (l.getD 1 (ofL [])) ∧ numB (l.getD 3 (ofL [])).data.toList = true ∧ numB (l.getD 5 (ofL [])).data.toList = true ∧ numB (l.getD 7 (ofL [])).data.toList = true ∧
      s.told.getD (idxI s.names (l.getD 1 (ofL []))).toNat false = false ∧
      numV (l.getD 3 (ofL [])).data.toList ≤ 4096 ∧ numV (l.getD 5 (ofL [])).data.toList ≤ 4096 ∧ numV (l.getD 7 (ofL [])).data.toList ≤ 4096) → quotaP s l = none from fun h => if_neg h)
  obtain ⟨x0, hx0⟩ : ∃ x, x = l.getD 0 (ofL []) := ⟨_, rfl⟩
  obtain ⟨x1, hx1⟩ : ∃ x, x = l.getD 1 (ofL []) := ⟨_, rfl⟩
  obtain ⟨x2, hx2⟩ : ∃ x, x = l.getD 2 (ofL []) := ⟨_, rfl⟩
  obtain ⟨x3, hx3⟩ : ∃ x, x = l.getD 3 (ofL []) := ⟨_, rfl⟩
  obtain ⟨x4, hx4⟩ : ∃ x, x = l.getD 4 (ofL []) := ⟨_, rfl⟩
  obtain ⟨x5, hx5⟩ : ∃ x, x = l.getD 5 (ofL []) := ⟨_, rfl⟩
  obtain ⟨x6, hx6⟩ : ∃ x, x = l.getD 6 (ofL []) := ⟨_, rfl⟩
  obtain ⟨x7, hx7⟩ : ∃ x, x = l.getD 7 (ofL []) := ⟨_, rfl⟩
  have c0 : w.cell? ⟨b, o, none⟩ = some (.string x0) := by rw [hx0]; exact hat 0 (by omega)
  have c1 : w.cell? ⟨b, o + 1, none⟩ = some (.string x1) := by rw [hx1]; exact hat 1 (by omega)
  have C2 := Aside0.mk (show w.cell? ⟨b, o + 2, none⟩ = some (.string x2) by rw [hx2]; exact hat 2 (by omega))
  have C38 := Aside0.mk (show l.length = 8 → (w.cell? ⟨b, o + 3, none⟩ = some (.string x3) ∧ w.cell? ⟨b, o + 4, none⟩ = some (.string x4) ∧ w.cell? ⟨b, o + 5, none⟩ = some (.string x5) ∧ w.cell? ⟨b, o + 6, none⟩ = some (.string x6) ∧ w.cell? ⟨b, o + 7, none⟩ = some (.string x7)) by
    intro h
    rw [hx3, hx4, hx5, hx6, hx7]
    exact ⟨hat 3 (by omega), hat 4 (by omega), hat 5 (by omega), hat 6 (by omega), hat 7 (by omega)⟩)
  have HD := Aside0.mk (show quotaP s l = if l.length = 8 ∧ x2 = ofL [99, 104, 97, 114, 115] ∧ x4 = ofL [111, 112, 115] ∧ x6 = ofL [115, 101, 97, 116, 115] ∧
      0 ≤ idxI s.names x1 ∧ numB x3.data.toList = true ∧ numB x5.data.toList = true ∧ numB x7.data.toList = true ∧
      s.told.getD (idxI s.names x1).toNat false = false ∧
      numV x3.data.toList ≤ 4096 ∧ numV x5.data.toList ≤ 4096 ∧ numV x7.data.toList ≤ 4096 then
      some { s with quotas := s.quotas.set (idxI s.names x1).toNat ⟨numV x3.data.toList, numV x5.data.toList, numV x7.data.toList⟩, told := s.told.set (idxI s.names x1).toNat true } else none by
      rw [hx1, hx2, hx3, hx4, hx5, hx6, hx7]; rfl)
  obtain ⟨i, hi⟩ : ∃ i, idxI s.names x1 = i := ⟨_, rfl⟩
  have hilt : i < (s.names.length : Int) := by
    rw [← hi]
    unfold idxI
    split <;> omega
  have hige : -1 ≤ i := by
    rw [← hi]
    unfold idxI
    split <;> omega
  have hn32 := HF.out.n
  have Hi := Aside0.mk hi
  rw [← hx0] at h0
  have z1 : (x0.toList == [108, 97, 98, 101, 108]) = false := by rw [str_eq, h0, decide_eq_false (ofL_ne (by decide))]
  have z2 : (x0.toList == [113, 117, 111, 116, 97]) = true := by rw [str_eq, h0, decide_eq_true rfl]
  obtain ⟨An, cn, hgn, hCn⟩ := ref_names HR.out
  have HP := Aside0.mk (place_is g cn An s.names x1 w i Hi.out hgn hCn)
  have hnm : l.length ≤ 9223372036854775807 := C_max Hr.out
  clear hat hc1 hx0 hx1 hx2 hx3 hx4 hx5 hx6 hx7 hi h0 hCn hgn HX
  have h4' : (4 : Int) ≤ l.length := by omega
  have hlb : b < w.heap.size := World.block_lt_of_cell? _ _ c1
  by_cases hl : l.length = 8
  · obtain ⟨c3, c4, c5, c6, c7⟩ := C38.out hl
    have c2 := C2.out
    have HL := Aside0.mk hl
    rw [hl]
    clear hl h4 h4' hnm
    by_cases hform : (x2.toList == [99, 104, 97, 114, 115]) = true ∧ (x4.toList == [111, 112, 115]) = true ∧ (x6.toList == [115, 101, 97, 116, 115]) = true
    · obtain ⟨e2, e4, e6⟩ := hform
      have E := Aside0.mk (show x2 = ofL [99, 104, 97, 114, 115] ∧ x4 = ofL [111, 112, 115] ∧ x6 = ofL [115, 101, 97, 116, 115] by
        rw [str_eq] at e2 e4 e6; exact ⟨of_decide_eq_true e2, of_decide_eq_true e4, of_decide_eq_true e6⟩)
      by_cases hi0 : 0 ≤ i
      · obtain ⟨k, rfl⟩ := Int.eq_ofNat_of_zero_le hi0
        have hkt : k < s.told.length := by rw [HF.out.t]; omega
        have hkq : k < s.quotas.length := by rw [HF.out.q]; omega
        obtain ⟨vl, vq, ve, vn, vt, hg, hRl, hRq, hRe, hRn, hRt⟩ := HR.out
        obtain ⟨gt, capt, rfl, hgtb, hgtlt, cellst, hct⟩ := Kd.R_form hRt (by omega)
        have hcell := Kd.R_cell false hRt (k : Int) (by omega) (by omega)
        rw [Int.toNat_natCast] at hcell
        obtain ⟨t0, t0f⟩ := hcell
        obtain ⟨tb, htb⟩ : ∃ tb, tb = rdOf false s.told (k : Int) := ⟨_, rfl⟩
        have htb2 : s.told.getD k false = tb := by rw [htb]; unfold rdOf; rw [Int.toNat_natCast]
        rw [← htb] at t0
        replace t0 : w.cell? ⟨gt, k, none⟩ = some (.bool tb) := t0
        have g2 := blk_cell hg 2
        have g4 : w.cell? ⟨g, 4, none⟩ = _ := blk_cell hg 4
        have hkl' : (k : Int) < s.told.length := by omega
        have hk0 : (0 : Int) ≤ k := by omega
        have htl : s.told.length ≤ 32 := by rw [HF.out.t]; exact hn32
        have Hg := Aside0.mk hg
        have HRl := Aside0.mk hRl
        have HRq := Aside0.mk hRq
        have HRe := Aside0.mk hRe
        have HRn := Aside0.mk hRn
        have HRt := Aside0.mk hRt
        have HT := Aside0.mk htb2
        clear hg hRl hRq hRe hRn hRt htb htb2 hct
        cases tb with
        | true =>
          have Hq := Aside0.mk (show quotaP s l = none by
            rw [HD.out, if_neg]
            rintro ⟨_, _, _, _, _, _, _, _, hn, _⟩
            rw [Hi.out, Int.toNat_natCast, HT.out] at hn
            cases hn)
          go_enter Tryd.func27, Tryd.ntmps27
          go_wp2_with fail
          refine HP.out.mono ?_
          rintro e w' ⟨rfl, rfl⟩
          go_wp2
          go_ret
          exact ref_fails Hq.out HR.out (Below.refl _ _) (by omega)
        | false =>
          obtain ⟨n3, hn3⟩ : ∃ v, numI x3.data.toList = v := ⟨_, rfl⟩
          obtain ⟨n5, hn5⟩ : ∃ v, numI x5.data.toList = v := ⟨_, rfl⟩
          obtain ⟨n7, hn7⟩ : ∃ v, numI x7.data.toList = v := ⟨_, rfl⟩
          have f3 := numI_facts x3.data.toList
          have f5 := numI_facts x5.data.toList
          have f7 := numI_facts x7.data.toList
          rw [hn3] at f3
          rw [hn5] at f5
          rw [hn7] at f7
          have N3 := Aside0.mk hn3
          have N5 := Aside0.mk hn5
          have N7 := Aside0.mk hn7
          have HD2 := Aside0.mk (show quotaP s l = if (0 ≤ n3 ∧ n3 ≤ 4096) ∧ (0 ≤ n5 ∧ n5 ≤ 4096) ∧ (0 ≤ n7 ∧ n7 ≤ 4096) then some { s with quotas := s.quotas.set k ⟨n3, n5, n7⟩, told := s.told.set k true } else none by
            rw [HD.out, Hi.out, Int.toNat_natCast]
            by_cases h : (0 ≤ n3 ∧ n3 ≤ 4096) ∧ (0 ≤ n5 ∧ n5 ≤ 4096) ∧ (0 ≤ n7 ∧ n7 ≤ 4096)
            · obtain ⟨⟨a1, a2⟩, ⟨a3, a4⟩, ⟨a5, a6⟩⟩ := h
              have b3 := f3.1.2 a1
              have b5 := f5.1.2 a3
              have b7 := f7.1.2 a5
              have v3 := f3.2.1 b3
              have v5 := f5.2.1 b5
              have v7 := f7.2.1 b7
              rw [if_pos ⟨HL.out, E.out.1, E.out.2.1, E.out.2.2, hk0, b3, b5, b7, HT.out, by omega, by omega, by omega⟩, if_pos ⟨⟨a1, a2⟩, ⟨a3, a4⟩, ⟨a5, a6⟩⟩, v3, v5, v7]
            · rw [if_neg h, if_neg]
              rintro ⟨_, _, _, _, _, b3, b5, b7, _, q3, q5, q7⟩
              have v3 := f3.2.1 b3
              have v5 := f5.2.1 b5
              have v7 := f7.2.1 b7
              exact h ⟨⟨by omega, by omega⟩, ⟨by omega, by omega⟩, ⟨by omega, by omega⟩⟩)
          obtain ⟨-, -, l3, u3⟩ := f3
          obtain ⟨-, -, l5, u5⟩ := f5
          obtain ⟨-, -, l7, u7⟩ := f7
          clear hn3 hn5 hn7
          go_enter Tryd.func27, Tryd.ntmps27
          go_wp2_with fail
          refine HP.out.mono ?_
          rintro e w' ⟨rfl, rfl⟩
          go_wp2
          go_cut [15] (fun v wc => v = .pointer (some ⟨w.heap.size, 0, none⟩) ∧ wc = (w.alloc (.cells #[.int .i64 n3, .int .i64 n5, .int .i64 n7] 49)).drew)
          case first =>
            go_region_held3 (fun w' => w'.cell? ⟨b, o + 3, none⟩ = some (.string x3) ∧ w'.cell? ⟨b, o + 5, none⟩ = some (.string x5) ∧ w'.cell? ⟨b, o + 7, none⟩ = some (.string x7)) (simp [go_sem, World.cell?_alloc_past, *]) (first | ((with_reducible refine (refnum_is x3 _ n3 N3.out).mono ?_); rintro e w' ⟨rfl, rfl⟩) | ((with_reducible refine (refnum_is x5 _ n5 N5.out).mono ?_); rintro e w' ⟨rfl, rfl⟩) | ((with_reducible refine (refnum_is x7 _ n7 N7.out).mono ?_); rintro e w' ⟨rfl, rfl⟩))
            all_goals
              go_wp2
              go_meet
              case rel => exact ⟨rfl, rfl⟩
          case rest =>
            obtain ⟨rfl, hwc⟩ := hcut
            have HBW := Aside0.mk (show Below w.heap.size w wc by rw [hwc]; exact below_drew ((Below.refl _ _).alloc (Nat.le_refl _) _))
            have Hbx := Aside0.mk (show wc.heap[w.heap.size]? = some (.cells #[.int .i64 n3, .int .i64 n5, .int .i64 n7] 49 (0, 0)) by rw [hwc]; exact blk_drew (blk_new _ _))
            clear hwc
            obtain ⟨W, hW⟩ : ∃ W', W' = wc := ⟨_, rfl⟩
            subst hW
            have e0 := blk_cell Hbx.out 0
            have e1 := blk_cell Hbx.out 1
            have e2' := blk_cell Hbx.out 2
            have hgb2 : base ≤ w.heap.size := by omega
            by_cases hok : (0 ≤ n3 ∧ n3 ≤ 4096) ∧ (0 ≤ n5 ∧ n5 ≤ 4096) ∧ (0 ≤ n7 ∧ n7 ≤ 4096)
            · have HS2 := Aside0.mk (HD2.out.trans (if_pos hok))
              obtain ⟨⟨a1, a2⟩, ⟨a3, a4⟩, ⟨a5, a6⟩⟩ := hok
              have g4' := pw_cell_below HBW.out g4
              have t0' := pw_cell_below HBW.out t0
              have t0f' : W.frozen? ⟨gt, k, none⟩ = false := (HBW.out.frozen (p := ⟨gt, k, none⟩) hgtlt).trans t0f
              clear g2 g4 t0 t0f HD2
              go_wp2
              have HT2 := ref_set_told (k := k) true (blk_below Hg.out HBW.out) (Kd.R_below HRl.out HBW.out) (Kd.R_below HRq.out HBW.out) (Kd.R_below HRe.out HBW.out) (Kd.R_below HRn.out HBW.out) (Kd.R_below HRt.out HBW.out)
              have hbx2 := blk_far Hbx.out (p := ⟨gt, k, none⟩) (show w.heap.size ≠ gt by omega) (.bool true)
              obtain ⟨W2, hW2⟩ : ∃ W2, W2 = W.setCell ⟨gt, k, none⟩ (.bool true) := ⟨_, rfl⟩
              rw [← hW2] at HT2 hbx2 ⊢
              clear hW2 e0 e1 e2' g4' t0' t0f'
              obtain ⟨hR2, hK2⟩ := HT2
              have HK2 := Aside0.mk hK2
              have b0 := blk_cell hbx2 0
              have b1 := blk_cell hbx2 1
              have b2 := blk_cell hbx2 2
              obtain ⟨vl2, vq2, ve2, vn2, vt2, hg2, hl2, hq2, he2, hn2, ht2⟩ := hR2
              replace hq2 : Kd.R kQuo 49 W2 base (fun z => z < W2.heap.size) vq2 s.quotas := hq2
              obtain ⟨gq, capq, rfl, hgqb, hgqlt, cellsq, hcq⟩ := Kd.R_form hq2 (by omega)
              obtain ⟨cq, hcql, hMq, hccq, hfrq⟩ := Kd.R_elem hq2 ⟨0, 0, 0⟩ (k : Int) (by omega) (by omega)
              rw [Int.toNat_natCast] at hccq hfrq hMq
              obtain rfl := kQuo_open (kQuo.K_of_M hMq)
              have q0 : W2.cell? ⟨gq, k * 3, none⟩ = _ := hccq 0 _ rfl
              have q1 : W2.cell? ⟨gq, k * 3 + 1, none⟩ = _ := hccq 1 _ rfl
              have q2 : W2.cell? ⟨gq, k * 3 + 2, none⟩ = _ := hccq 2 _ rfl
              have f0 : W2.frozen? ⟨gq, k * 3, none⟩ = false := hfrq 0
              have f1 : W2.frozen? ⟨gq, k * 3 + 1, none⟩ = false := hfrq 1
              have f2 : W2.frozen? ⟨gq, k * 3 + 2, none⟩ = false := hfrq 2
              have p1 := blk_cell hg2 1
              have hkq' : (k : Int) < s.quotas.length := by omega
              have hnq : s.quotas.length ≤ 32 := by rw [HF.out.q]; exact hn32
              have hW2s : base ≤ W2.heap.size := Nat.le_trans hgb2 (Nat.le_trans HBW.out.size hK2.size)
              have PQ := Aside0.mk (fun Wn h => ref_set_quota (s := { s with told := s.told.set k true }) (k := k) ⟨n3, n5, n7⟩ hg2 hl2 hq2 he2 hn2 ht2 hkq hW2s Wn h)
              clear hg2 hl2 hq2 he2 hn2 ht2 hcql hMq hccq hfrq hcq hK2 hbx2
              trace "R"
              go_region
              trace "S"
              all_goals
                go_wp2
                go_ret
                trace "G"
                have P2 := PQ.out _ rfl
                have P3 := P2.1.below (below_drew (Below.refl _ _))
                exact ⟨by rw [HS2.out]; rfl, by rw [HS2.out]; exact P3, (Keep2.below HBW.out hgb2).trans (HK2.out.trans (P2.2.trans (Keep2.below (below_drew (Below.refl _ _)) (Nat.le_trans hW2s P2.2.size))))⟩
            · have Hq := Aside0.mk (HD2.out.trans (if_neg hok))
              have hcase : n3 < 0 ∨ (0 ≤ n3 ∧ n5 < 0) ∨ (0 ≤ n3 ∧ 0 ≤ n5 ∧ n7 < 0) ∨ (0 ≤ n3 ∧ 0 ≤ n5 ∧ 0 ≤ n7 ∧ 4096 < n3) ∨ (0 ≤ n3 ∧ 0 ≤ n5 ∧ 0 ≤ n7 ∧ n3 ≤ 4096 ∧ 4096 < n5) ∨ (0 ≤ n3 ∧ 0 ≤ n5 ∧ 0 ≤ n7 ∧ n3 ≤ 4096 ∧ n5 ≤ 4096 ∧ 4096 < n7) := by omega
              clear hok HD2
              rcases hcase with a | ⟨a, b⟩ | ⟨a, b, c⟩ | ⟨a, b, c, d⟩ | ⟨a, b, c, d, e⟩ | ⟨a, b, c, d, e, f⟩
              all_goals
                go_wp2
                go_ret
                exact ref_fails Hq.out HR.out HBW.out hgb2
      · have Hq := Aside0.mk (show quotaP s l = none by
          rw [HD.out, if_neg]
          rintro ⟨_, _, _, _, h, _⟩
          rw [Hi.out] at h; exact hi0 h)
        replace hi0 : i < 0 := by omega
        go_enter Tryd.func27, Tryd.ntmps27
        go_wp2_with fail
        refine HP.out.mono ?_
        rintro e w' ⟨rfl, rfl⟩
        go_wp2
        go_ret
        exact ref_fails Hq.out HR.out (Below.refl _ _) (by omega)
    · have hq : quotaP s l = none := by
        rw [HD.out, if_neg]
        rintro ⟨_, h2, h4, h6, _⟩
        exact hform ⟨by rw [str_eq, decide_eq_true h2], by rw [str_eq, decide_eq_true h4], by rw [str_eq, decide_eq_true h6]⟩
      have Hq := Aside0.mk hq
      have hcase : (x2.toList == [99, 104, 97, 114, 115]) = false ∨ ((x2.toList == [99, 104, 97, 114, 115]) = true ∧ (x4.toList == [111, 112, 115]) = false) ∨ ((x2.toList == [99, 104, 97, 114, 115]) = true ∧ (x4.toList == [111, 112, 115]) = true ∧ (x6.toList == [115, 101, 97, 116, 115]) = false) := by
        cases h2 : (x2.toList == [99, 104, 97, 114, 115]) with
        | false => exact .inl rfl
        | true =>
          cases h4 : (x4.toList == [111, 112, 115]) with
          | false => exact .inr (.inl ⟨rfl, rfl⟩)
          | true =>
            cases h6 : (x6.toList == [115, 101, 97, 116, 115]) with
            | false => exact .inr (.inr ⟨rfl, rfl, rfl⟩)
            | true => exact absurd ⟨h2, h4, h6⟩ hform
      clear hform hq
      rcases hcase with e1 | ⟨e1, e2⟩ | ⟨e1, e2, e3⟩
      all_goals
        go_enter Tryd.func27, Tryd.ntmps27
        go_wp2_with fail
        refine HP.out.mono ?_
        rintro e w' ⟨rfl, rfl⟩
        go_wp2
        go_ret
        exact ref_fails Hq.out HR.out (Below.refl _ _) (by omega)
  · have Hq := Aside0.mk (show quotaP s l = none by rw [HD.out, if_neg (fun h => hl h.1)])
    have h8 : ((l.length : Int) == 8) = false := beq_eq_false_iff_ne.2 (by omega)
    have h8' : ((l.length : Int) != 8) = true := by rw [bne, h8]; rfl
    clear hl
    go_enter Tryd.func27, Tryd.ntmps27
    go_wp2_with fail
    refine HP.out.mono ?_
    rintro e w' ⟨rfl, rfl⟩
    go_wp2
    go_ret
    exact ref_fails Hq.out HR.out (Below.refl _ _) (by omega)
end Go.Proofs.YtaeaakcppheaoaaDoor
