/- RopeTwins: the walk. -/
import Derived.Test.YtdgaffcfcgmfnaaK2
namespace Go.Proofs.Ytdgaffcfcgmfnaa
open Go.RowKit Go.Sl

theorem madeP_app (P : Pol) (es : List El) (a b : List DoM) : madeP P es (a ++ b) = madeP P (madeP P es a) b := by unfold madeP; rw [List.foldl_append]
theorem cntL_app (a b : List DoM) : cntL (a ++ b) = cntL a + cntL b := by unfold cntL; rw [List.map_append, List.sum_append]
theorem short_len {ds : List DoM} (h : shortB ds = true) : ds.length ≤ 100 := by
  unfold shortB at h
  simp only [Bool.and_eq_true, decide_eq_true_eq] at h
  exact h.1
section
variable {k w : World} {L : List Asn} {A A0 A1 A2 X1 X2 : Option Addr} {cp c0 c1 c2 q1 q2 : Nat} {ds e1 e2 : List DoM} {p : PV} {R : Ending → World → Prop}
theorem dos_rowS (h : St k w (dosS A cp ds :: L)) : Reads w 6 (.slice A ds.length cp) ds.length (ds.flatMap doC) :=
  St.readsS (h.head (B := rowS 6 (.slice A ds.length cp) ds.length (ds.flatMap doC)) fun _ _ hA => Asg.mono _ (PH.none_le _) (PH.le.refl _) hA.1)
theorem dos_app {A' : Option Addr} {c' n : Nat} {cs : List Value} (hn : n = (ds ++ e1).length) (hc : cs = (ds ++ e1).flatMap doC) (h : St k w (rowA 48 6 (.slice A' n c') n cs :: dosS A cp ds :: dosS X1 q1 e1 :: L)) : St k w (dosS A' c' (ds ++ e1) :: dosS A cp ds :: dosS X1 q1 e1 :: L) := by
  subst hn hc
  refine h.freezeA.imp fun m p hA => ?_
  obtain ⟨m1, m2, a, k1, k2, hR, hB⟩ := hA
  refine ⟨PH.none, m, PH.none_apart _, PH.none_le _, PH.le.refl _, ⟨hR, fun d' hd' => ?_⟩, hB.mono k2 (PH.le.refl _)⟩
  obtain ⟨n1, n2, b, l1, l2, hD, o1, o2, e, j1, j2, hS, -⟩ := hB
  rcases List.mem_append.1 hd' with hd' | hd'
  · exact hD.2 d' hd'
  · exact hS.2 d' hd'
set_option maxRecDepth 100000 in
set_option maxHeartbeats 4000000 in
theorem twins_walk (h : St k w (polS p A0 A1 A2 c0 c1 c2 :: dosS A cp ds :: dosS X1 q1 e1 :: dosS X2 q2 e2 :: L)) (hf : Fits ds) (hf1 : Fits e1) (hf2 : Fits e2) (hR : ∀ w', St k w' L → R (.returned (.bool true)) w') :
    Calls Try.prog 10 #[polV p A0 A1 A2 c0 c1 c2, .slice A ds.length cp, .slice X1 e1.length q1, .slice X2 e2.length q2] w R := by
  obtain ⟨B, hB⟩ : ∃ B, w.heap.size = B := ⟨_, rfl⟩
  have h1 := (h.alloc (.cells (polC p A0 A1 A2 c0 c1 c2) 26)).push 4
  simp only [hB] at h1
  have H1 := Lib.hid h1
  have HR := Lib.hid (fun w' (h : St k w' (polS p A0 A1 A2 c0 c1 c2 :: dosS A cp ds :: dosS X1 q1 e1 :: dosS X2 q2 e2 :: pt B (.cells (polC p A0 A1 A2 c0 c1 c2) 26 (0, 0)) :: L)) => hR w' h.drop.drop.drop.drop.drop)
  have HF := Lib.hid (And.intro hf (And.intro hf1 hf2))
  clear h h1 hR hf hf1 hf2
  change Hid (St k (w.alloc (.cells (polC p A0 A1 A2 c0 c1 c2) 26)) (polS p A0 A1 A2 c0 c1 c2 :: dosS A cp ds :: dosS X1 q1 e1 :: dosS X2 q2 e2 :: pt B (.cells (polC p A0 A1 A2 c0 c1 c2) 26 (0, 0)) :: L)) at H1
  unfold polV
  go_enter Try.func10, Try.ntmps10
  go_wp2_with fail
  refine short_any H1.out.swap ?_
  cases hs : shortB ds
  · clear hs
    go_wp2_with fail
    refine awake_any H1.out fun w6 h8 => ?_
    have HX := Lib.hid (HR.out _ h8)
    clear h8
    go_wp2
    exact HX.out
  have HS := Lib.hid hs
  clear hs
  go_wp2_with fail
  refine short_any (H1.out.pull 2) ?_
  cases hs : shortB e1
  · clear hs
    go_wp2_with fail
    refine awake_any H1.out fun w6 h8 => ?_
    have HX := Lib.hid (HR.out _ h8)
    clear h8
    go_wp2
    exact HX.out
  have HS1 := Lib.hid hs
  clear hs
  go_wp2_with fail
  refine short_any (H1.out.pull 3) ?_
  cases hs : shortB e2
  · clear hs
    go_wp2_with fail
    refine awake_any H1.out fun w6 h8 => ?_
    have HX := Lib.hid (HR.out _ h8)
    clear h8
    go_wp2
    exact HX.out
  have HS2 := Lib.hid hs
  clear hs
  obtain ⟨y0, y1, y2⟩ := boxP (H1.out.pull 4)
  go_wp2_with fail
  refine small_st (p := p) (A0 := A0) (A1 := A1) (A2 := A2) (c0 := c0) (c1 := c1) (c2 := c2) H1.out fun w6 h8 => ?_
  have H8 := Lib.hid h8
  clear h8 H1 y0 y1 y2
  cases hsm : smallB p
  · clear hsm
    go_wp2_with fail
    refine awake_any H8.out fun w7 h9 => ?_
    have HX := Lib.hid (HR.out _ h9)
    clear h9
    go_wp2
    exact HX.out
  clear hsm
  obtain ⟨y0, y1, y2⟩ := boxP (H8.out.pull 4)
  go_wp2_with fail
  refine right_st (p := p) (A0 := A0) (A1 := A1) (A2 := A2) (c0 := c0) (c1 := c1) (c2 := c2) H8.out fun w7 h9 => ?_
  have H9 := Lib.hid h9
  clear h9 H8 y0 y1 y2
  by_cases hr : rightN p = 0
  case neg =>
    have hr2 : (rightN p == 0) = false := by simpa using hr
    clear hr
    go_wp2_with fail
    refine awake_any H9.out fun w8 h10 => ?_
    have HX := Lib.hid (HR.out _ h10)
    clear h10
    go_wp2
    exact HX.out
  have HRN := Lib.hid hr
  rw [hr]
  clear hr
  have hcs := cntL_short HS.out
  have hcs1 := cntL_short HS1.out
  have hcs2 := cntL_short HS2.out
  have hl := short_len HS.out
  have hl1 := short_len HS1.out
  have hl2 := short_len HS2.out
  have HC := Lib.hid (And.intro hcs (And.intro hcs1 (And.intro hcs2 (And.intro hl (And.intro hl1 hl2)))))
  clear hcs hcs1 hcs2 hl hl1 hl2
  obtain ⟨y0, y1, y2⟩ := boxP (H9.out.pull 4)
  go_wp2_with fail
  refine made_any H9.out HRN.out HF.out.1 (by have := HC.out.1; omega) ?_
  intro ga w8 h10
  obtain ⟨es, hes⟩ : ∃ es, madeP (polOf p) [] ds = es := ⟨_, rfl⟩
  rw [hes] at h10
  have HES := Lib.hid hes
  have H10 := Lib.hid h10
  clear h10 H9 hes y0 y1 y2
  go_wp2_with fail
  refine clone_any H10.out (by have := HC.out.1; omega) ?_
  intro gb w9 h11
  have h12 := h11.drew
  have H11 := Lib.hid h11
  clear h11 h12 H10
  obtain ⟨N, hN⟩ : ∃ N, ds.length = N := ⟨_, rfl⟩
  obtain ⟨N1, hN1⟩ : ∃ N, e1.length = N := ⟨_, rfl⟩
  obtain ⟨N2, hN2⟩ : ∃ N, e2.length = N := ⟨_, rfl⟩
  have HNN := Lib.hid (And.intro hN (And.intro hN1 hN2))
  have hb0 : (N : Int) ≤ 100 := by have := HC.out.2.2.2.1; omega
  have hb1 : (N1 : Int) ≤ 100 := by have := HC.out.2.2.2.2.1; omega
  have hb2 : (N2 : Int) ≤ 100 := by have := HC.out.2.2.2.2.2; omega
  rw [hN, hN1, hN2]
  clear hN hN1 hN2
  have hrd0 := dos_rowS (H11.out.drew.pull 3)
  rw [HNN.out.1] at hrd0
  have HRD0 := Lib.hid hrd0
  obtain ⟨y0, y1, y2⟩ := boxP (H11.out.pull 6)
  clear hrd0
  go_upto_region 5 with fail
  go_cut [11] (fun s wc => ∃ gx, s = .pointer (some ⟨gx, 0, none⟩) ∧ Hid (St k wc (Rope gx (polOf p) (madeP (polOf p) es e1) (cntL ds + cntL e1) :: Rope gb (polOf p) es (cntL ds) :: Rope ga (polOf p) es (cntL ds) :: polS p A0 A1 A2 c0 c1 c2 :: dosS A cp ds :: dosS X1 q1 e1 :: dosS X2 q2 e2 :: pt B (.cells (polC p A0 A1 A2 c0 c1 c2) 26 (0, 0)) :: L)))
  case first =>
    refine wp_region_any (by kernel_rfl) ?_
    try (change wpAny _ _ _ _ _ _ _ (World.drew _))
    refine wpAny_take (i := 1) (v := ?_) rfl (by kernel_rfl) (by kernel_rfl) (by kernel_rfl) (fun _ _ _ h => h) (Or.inl ⟨by rfl, ?_⟩) ?_
    rotate_left 1
    · intro w
      go_simp
      try with_reducible rfl
    refine wpAny_take (i := 3) (v := ?_) rfl (by kernel_rfl) (by kernel_rfl) (by kernel_rfl) (fun _ _ _ h => h) (Or.inl ⟨by rfl, ?_⟩) ?_
    rotate_left 1
    · intro w
      go_simp
      try with_reducible rfl
    refine wpAnyC_any (C := (fun w' : World => w'.cell? ⟨B, 0, none⟩ = some (.slice A0 p.labels.length c0) ∧ w'.cell? ⟨B, 1, none⟩ = some (.slice A1 p.quotas.length c1) ∧ w'.cell? ⟨B, 2, none⟩ = some (.slice A2 p.entries.length c2))) (T := [5, 6]) _ _ _ _ ?_
    refine wpAnyC_take (i := 0) (v := ?_) rfl (by kernel_rfl) (by kernel_rfl) (by kernel_rfl) (by kernel_rfl) (fun _ _ _ h => h) (by rfl) ?_ ?_ ?_
    rotate_left 1
    · refine ⟨?_, ?_, ?_⟩ <;> go_simp
    · intro w hw
      obtain ⟨c1, c2, c3⟩ := hw
      go_simp
      try with_reducible rfl
    refine wpAnyC_ready (rs := [2]) (by kernel_rfl) (by simp) ?_
    refine AllC.cons rfl (fun K hK => ?_) ?_
    · go_simp
      go_wp2_with (first
        | (go_at_call 48; refine cloneD H11.out.drew HRD0.out (doC_one _) (by omega) ?_
           intro v3 w3 h3 e3
           obtain ⟨A3, k3, rfl, -⟩ := h3.readsA.at_
           obtain ⟨z0, z1, z2⟩ := boxP (h3.pull 7)
           have hrd1 := dos_rowS (h3.pull 5)
           rw [HNN.out.2.1] at hrd1
           have HRD1 := Lib.hid hrd1
           have H3 := Lib.hid h3
           clear h3 e3 hrd1))
      refine And.intro ?_ ?_
      · intro _
        refine ⟨?_, ?_, ?_⟩ <;> go_simp
      clear y0 y1 y2
      refine wpAnyC_ready (rs := [4]) (by kernel_rfl) (by simp) ?_
      refine AllC.cons rfl (fun K hK => ?_) ?_
      · refine step_of rfl (wp_append _ _ rfl Try.underlying27 info48 rfl (by decide) H3.out HRD1.out (by simp [Act.eval, Act.put]) (by simp [Act.eval, Act.put]) (doC_one _) (by unfold maxLen; omega) (by omega) ?_)
        intro v4 w4 h5 e5
        obtain ⟨A4, k4, rfl, -⟩ := h5.readsA.at_
        obtain ⟨x0, x1, x2⟩ := boxP (h5.pull 7)
        have h6 := dos_app (by rw [List.length_append, HNN.out.1, HNN.out.2.1]) (by simp) (((h5.pull 5).pull 5).pull 2)
        have hln : (ds ++ e1).length = N + N1 := by rw [List.length_append, HNN.out.1, HNN.out.2.1]
        have hmd := fun (Q : Ending → World → Prop) => made_any (R := Q) (h6.pull 5) HRN.out (fun d hd => (List.mem_append.1 hd).elim (HF.out.1 d) (HF.out.2.1 d)) (by rw [cntL_app]; have := HC.out; omega)
        rw [hln, madeP_app, cntL_app, HES.out] at hmd
        have HMD := Lib.hid hmd
        clear h5 h6 e5 hmd hln
        refine hK _ _ ?_
        clear hK K
        refine And.intro ?_ ?_
        · intro _
          refine ⟨?_, ?_, ?_⟩ <;> go_simp
        clear z0 z1 z2 x0 x1 x2
        refine wpAnyC_ready (rs := [5]) (by kernel_rfl) (by simp) ?_
        refine AllC.cons rfl (fun K hK => ?_) ?_
        · go_simp
          go_wp2_with (first
            | (go_at_call 17; refine HMD.out _ ?_
               intro gz w5 h7
               have H7 := Lib.hid (((((h7.pull 2).drop).pull 5).pull 5).pull 2)
               clear h7))
          refine And.intro ?_ ?_
          · intro h
            exact absurd h (by decide)
          clear HMD H3 HRD1 HRD0
          refine wpAnyC_ready (rs := [6]) (by kernel_rfl) (by simp) ?_
          refine AllC.cons rfl (fun K hK => ?_) ?_
          · go_simp
            refine hK _ _ ?_
            clear hK K
            refine And.intro ?_ ?_
            · intro h
              exact absurd h (by decide)
            refine wpAnyC_done (by kernel_rfl) ?_ _
            go_wp2_with fail
            go_meet
            exact ⟨gz, rfl, H7⟩
          exact AllC.nil
        exact AllC.nil
      exact AllC.nil
    exact AllC.nil
  obtain ⟨gx, rfl, H12⟩ := hcut
  clear y0 y1 y2 H11 HRD0
  have hrd0 := dos_rowS (H12.out.drew.pull 4)
  rw [HNN.out.1] at hrd0
  have HRD0 := Lib.hid hrd0
  obtain ⟨y0, y1, y2⟩ := boxP (H12.out.pull 7)
  clear hrd0
  go_upto_region 6 with fail
  go_cut [12] (fun s wc => ∃ gy, s = .pointer (some ⟨gy, 0, none⟩) ∧ Hid (St k wc (Rope gy (polOf p) (madeP (polOf p) es e2) (cntL ds + cntL e2) :: Rope gx (polOf p) (madeP (polOf p) es e1) (cntL ds + cntL e1) :: Rope gb (polOf p) es (cntL ds) :: Rope ga (polOf p) es (cntL ds) :: polS p A0 A1 A2 c0 c1 c2 :: dosS A cp ds :: dosS X1 q1 e1 :: dosS X2 q2 e2 :: pt B (.cells (polC p A0 A1 A2 c0 c1 c2) 26 (0, 0)) :: L)))
  case first =>
    refine wp_region_any (by kernel_rfl) ?_
    try (change wpAny _ _ _ _ _ _ _ (World.drew _))
    refine wpAny_take (i := 1) (v := ?_) rfl (by kernel_rfl) (by kernel_rfl) (by kernel_rfl) (fun _ _ _ h => h) (Or.inl ⟨by rfl, ?_⟩) ?_
    rotate_left 1
    · intro w
      go_simp
      try with_reducible rfl
    refine wpAny_take (i := 3) (v := ?_) rfl (by kernel_rfl) (by kernel_rfl) (by kernel_rfl) (fun _ _ _ h => h) (Or.inl ⟨by rfl, ?_⟩) ?_
    rotate_left 1
    · intro w
      go_simp
      try with_reducible rfl
    refine wpAnyC_any (C := (fun w' : World => w'.cell? ⟨B, 0, none⟩ = some (.slice A0 p.labels.length c0) ∧ w'.cell? ⟨B, 1, none⟩ = some (.slice A1 p.quotas.length c1) ∧ w'.cell? ⟨B, 2, none⟩ = some (.slice A2 p.entries.length c2))) (T := [5, 6]) _ _ _ _ ?_
    refine wpAnyC_take (i := 0) (v := ?_) rfl (by kernel_rfl) (by kernel_rfl) (by kernel_rfl) (by kernel_rfl) (fun _ _ _ h => h) (by rfl) ?_ ?_ ?_
    rotate_left 1
    · refine ⟨?_, ?_, ?_⟩ <;> go_simp
    · intro w hw
      obtain ⟨c1, c2, c3⟩ := hw
      go_simp
      try with_reducible rfl
    refine wpAnyC_ready (rs := [2]) (by kernel_rfl) (by simp) ?_
    refine AllC.cons rfl (fun K hK => ?_) ?_
    · go_simp
      go_wp2_with (first
        | (go_at_call 48; refine cloneD H12.out.drew HRD0.out (doC_one _) (by omega) ?_
           intro v3 w3 h3 e3
           obtain ⟨A3, k3, rfl, -⟩ := h3.readsA.at_
           obtain ⟨z0, z1, z2⟩ := boxP (h3.pull 8)
           have hrd1 := dos_rowS (h3.pull 7)
           rw [HNN.out.2.2] at hrd1
           have HRD1 := Lib.hid hrd1
           have H3 := Lib.hid h3
           clear h3 e3 hrd1))
      refine And.intro ?_ ?_
      · intro _
        refine ⟨?_, ?_, ?_⟩ <;> go_simp
      clear y0 y1 y2
      refine wpAnyC_ready (rs := [4]) (by kernel_rfl) (by simp) ?_
      refine AllC.cons rfl (fun K hK => ?_) ?_
      · refine step_of rfl (wp_append _ _ rfl Try.underlying27 info48 rfl (by decide) H3.out HRD1.out (by simp [Act.eval, Act.put]) (by simp [Act.eval, Act.put]) (doC_one _) (by unfold maxLen; omega) (by omega) ?_)
        intro v4 w4 h5 e5
        obtain ⟨A4, k4, rfl, -⟩ := h5.readsA.at_
        obtain ⟨x0, x1, x2⟩ := boxP (h5.pull 8)
        have h6 := dos_app (by rw [List.length_append, HNN.out.1, HNN.out.2.2]) (by simp) (((h5.pull 7).pull 6).pull 2)
        have hln : (ds ++ e2).length = N + N2 := by rw [List.length_append, HNN.out.1, HNN.out.2.2]
        have hmd := fun (Q : Ending → World → Prop) => made_any (R := Q) (h6.pull 6) HRN.out (fun d hd => (List.mem_append.1 hd).elim (HF.out.1 d) (HF.out.2.2 d)) (by rw [cntL_app]; have := HC.out; omega)
        rw [hln, madeP_app, cntL_app, HES.out] at hmd
        have HMD := Lib.hid hmd
        clear h5 h6 e5 hmd hln
        refine hK _ _ ?_
        clear hK K
        refine And.intro ?_ ?_
        · intro _
          refine ⟨?_, ?_, ?_⟩ <;> go_simp
        clear z0 z1 z2 x0 x1 x2
        refine wpAnyC_ready (rs := [5]) (by kernel_rfl) (by simp) ?_
        refine AllC.cons rfl (fun K hK => ?_) ?_
        · go_simp
          go_wp2_with (first
            | (go_at_call 17; refine HMD.out _ ?_
               intro gz w5 h7
               have H7 := Lib.hid (((((((((h7.pull 2).drop.pull 3).pull 7).pull 4).pull 4).pull 7).pull 7).pull 7).pull 7)
               clear h7))
          refine And.intro ?_ ?_
          · intro h
            exact absurd h (by decide)
          clear HMD H3 HRD1 HRD0
          refine wpAnyC_ready (rs := [6]) (by kernel_rfl) (by simp) ?_
          refine AllC.cons rfl (fun K hK => ?_) ?_
          · go_simp
            refine hK _ _ ?_
            clear hK K
            refine And.intro ?_ ?_
            · intro h
              exact absurd h (by decide)
            refine wpAnyC_done (by kernel_rfl) ?_ _
            go_wp2_with fail
            go_meet
            exact ⟨gz, rfl, H7⟩
          exact AllC.nil
        exact AllC.nil
      exact AllC.nil
    exact AllC.nil
  obtain ⟨gy, rfl, H13⟩ := hcut
  clear y0 y1 y2 H12 HRD0
  have hm : (max N1 N2 = N1 ∧ (N2 : Int) ≤ (N1 : Int)) ∨ (max N1 N2 = N2 ∧ (N1 : Int) < (N2 : Int)) := by omega
  obtain ⟨M, hM⟩ : ∃ M, max N1 N2 = M := ⟨_, rfl⟩
  rw [hM] at hm
  have hM1 : N1 ≤ M ∧ N2 ≤ M := by omega
  have hM2 : (M : Int) ≤ 100 := by omega
  have h14 := (H13.out.pull 2).pull 3
  have H14 := Lib.hid h14
  clear hM h14 H13
  change Hid (St k wc (Rope ga (polOf p) es (cntL ds) :: Rope gb (polOf p) es (cntL ds) :: Rope gy (polOf p) (madeP (polOf p) es e2) (cntL ds + cntL e2) :: Rope gx (polOf p) (madeP (polOf p) es e1) (cntL ds + cntL e1) :: polS p A0 A1 A2 c0 c1 c2 :: dosS A cp ds :: dosS X1 q1 e1 :: dosS X2 q2 e2 :: pt B (.cells (polC p A0 A1 A2 c0 c1 c2) 26 (0, 0)) :: L)) at H14
  go_upto_region 7 with fail
  go_cut [59, 60] (fun s t wc => s = .int .i64 (M : Nat) ∧ t = .int .i64 0 ∧ Hid (St k wc (Rope ga (polOf p) (madeP (polOf p) es (e1.take 0)) (cntL ds + cntL (e1.take 0)) :: Rope gb (polOf p) (madeP (polOf p) es (e2.take 0)) (cntL ds + cntL (e2.take 0)) :: Rope gx (polOf p) (madeP (polOf p) es e1) (cntL ds + cntL e1) :: Rope gy (polOf p) (madeP (polOf p) es e2) (cntL ds + cntL e2) :: polS p A0 A1 A2 c0 c1 c2 :: dosS A cp ds :: dosS X1 q1 e1 :: dosS X2 q2 e2 :: pt B (.cells (polC p A0 A1 A2 c0 c1 c2) 26 (0, 0)) :: L)))
  case first =>
    have h15 := (H14.out.pull 2).push 3
    have HH : Hid (St k wc (Rope ga (polOf p) (madeP (polOf p) es (e1.take 0)) (cntL ds + cntL (e1.take 0)) :: Rope gb (polOf p) (madeP (polOf p) es (e2.take 0)) (cntL ds + cntL (e2.take 0)) :: Rope gx (polOf p) (madeP (polOf p) es e1) (cntL ds + cntL e1) :: Rope gy (polOf p) (madeP (polOf p) es e2) (cntL ds + cntL e2) :: polS p A0 A1 A2 c0 c1 c2 :: dosS A cp ds :: dosS X1 q1 e1 :: dosS X2 q2 e2 :: pt B (.cells (polC p A0 A1 A2 c0 c1 c2) 26 (0, 0)) :: L)) := by
      rw [List.take_zero, List.take_zero]
      exact Lib.hid h15
    clear h15 H14
    rcases hm with ⟨rfl, hm⟩ | ⟨rfl, hm⟩
    · go_wp2_with fail
      go_meet
      exact ⟨rfl, rfl, HH⟩
    · go_wp2_with fail
      go_meet
      exact ⟨rfl, rfl, HH⟩
  obtain ⟨rfl, rfl, H15⟩ := hcut
  clear H14 hm
  go_wp2_with fail
  go_loopw [60] (fun i wr => ∃ q : Nat, q ≤ M ∧ i = .int .i64 q ∧ Hid (St k wr (Rope ga (polOf p) (madeP (polOf p) es (e1.take q)) (cntL ds + cntL (e1.take q)) :: Rope gb (polOf p) (madeP (polOf p) es (e2.take q)) (cntL ds + cntL (e2.take q)) :: Rope gx (polOf p) (madeP (polOf p) es e1) (cntL ds + cntL e1) :: Rope gy (polOf p) (madeP (polOf p) es e2) (cntL ds + cntL e2) :: polS p A0 A1 A2 c0 c1 c2 :: dosS A cp ds :: dosS X1 q1 e1 :: dosS X2 q2 e2 :: pt B (.cells (polC p A0 A1 A2 c0 c1 c2) 26 (0, 0)) :: L))) (fun i _ => M - (intOf i).toNat)
  case atStart => exact ⟨0, by omega, rfl, H15⟩
  case round =>
    clear H15
    obtain ⟨q, hq, rfl, HW⟩ := hrel
    by_cases hlt : q < M
    · have g1 : (q : Int) < (M : Int) := by omega
      go_upto_if 66 with fail
      go_cut [] (fun wc => Hid (St k wc (Rope ga (polOf p) (madeP (polOf p) es (e1.take (q + 1))) (cntL ds + cntL (e1.take (q + 1))) :: Rope gb (polOf p) (madeP (polOf p) es (e2.take q)) (cntL ds + cntL (e2.take q)) :: Rope gx (polOf p) (madeP (polOf p) es e1) (cntL ds + cntL e1) :: Rope gy (polOf p) (madeP (polOf p) es e2) (cntL ds + cntL e2) :: polS p A0 A1 A2 c0 c1 c2 :: dosS A cp ds :: dosS X1 q1 e1 :: dosS X2 q2 e2 :: pt B (.cells (polC p A0 A1 A2 c0 c1 c2) 26 (0, 0)) :: L)))
      case first =>
        by_cases hl1 : q < N1
        · have g2 : (q : Int) < (N1 : Int) := by omega
          obtain ⟨d, hd⟩ : ∃ d, e1[q]? = some d := ⟨_, List.getElem?_eq_getElem (by rw [HNN.out.2.1]; exact hl1)⟩
          have hmem := List.mem_of_getElem? hd
          obtain ⟨f1, f2⟩ := HF.out.2.1 d hmem
          have h3 := dos_one (HW.out.pull 6) hmem
          obtain ⟨b, o, rfl, z0, z1, z2, z3, z4, z5⟩ := dos_at (HW.out.pull 6) hd
          have hcn := cntL_snoc e1 q hd
          have hmd := madeP_snoc (polOf p) es e1 q hd
          have hct := cntL_take e1 (q + 1)
          have HDO := Lib.hid (fun (Q : Ending → World → Prop) => does_any (R := Q) (h3.pull 2) f1 f2 (by have := HC.out; omega))
          have HT := Lib.hid (And.intro hcn hmd)
          clear h3 hcn hmd hct hd hmem f1 f2
          go_wp2_with fail
          refine HDO.out _ ?_
          clear HDO
          intro v w2 h5
          rw [Nat.add_assoc, ← HT.out.1, ← HT.out.2] at h5
          have h6 := h5.drop.swap.drop.swap.push 6
          have H6 := Lib.hid h6
          clear h5 h6 HW z0 z1 z2 z3 z4 z5
          go_wp2_with fail
          go_meet
          exact H6
        · have g2 : (N1 : Int) ≤ (q : Int) := by omega
          have ht1 : e1.take (q + 1) = e1.take q := by rw [List.take_of_length_le (by rw [HNN.out.2.1]; omega), List.take_of_length_le (by rw [HNN.out.2.1]; omega)]
          have HH : Hid (St k wr (Rope ga (polOf p) (madeP (polOf p) es (e1.take (q + 1))) (cntL ds + cntL (e1.take (q + 1))) :: Rope gb (polOf p) (madeP (polOf p) es (e2.take q)) (cntL ds + cntL (e2.take q)) :: Rope gx (polOf p) (madeP (polOf p) es e1) (cntL ds + cntL e1) :: Rope gy (polOf p) (madeP (polOf p) es e2) (cntL ds + cntL e2) :: polS p A0 A1 A2 c0 c1 c2 :: dosS A cp ds :: dosS X1 q1 e1 :: dosS X2 q2 e2 :: pt B (.cells (polC p A0 A1 A2 c0 c1 c2) 26 (0, 0)) :: L)) := by rw [ht1]; exact HW
          clear ht1
          go_wp2_with fail
          go_meet
          exact HH
      have HW2 := hcut
      clear hcut HW
      by_cases hl2 : q < N2
      · have g2 : (q : Int) < (N2 : Int) := by omega
        obtain ⟨d, hd⟩ : ∃ d, e2[q]? = some d := ⟨_, List.getElem?_eq_getElem (by rw [HNN.out.2.2]; exact hl2)⟩
        have hmem := List.mem_of_getElem? hd
        obtain ⟨f1, f2⟩ := HF.out.2.2 d hmem
        have h3 := dos_one (HW2.out.pull 7) hmem
        obtain ⟨b, o, rfl, z0, z1, z2, z3, z4, z5⟩ := dos_at (HW2.out.pull 7) hd
        have hcn := cntL_snoc e2 q hd
        have hmd := madeP_snoc (polOf p) es e2 q hd
        have hct := cntL_take e2 (q + 1)
        have HDO := Lib.hid (fun (Q : Ending → World → Prop) => does_any (R := Q) (h3.pull 3) f1 f2 (by have := HC.out; omega))
        have HT := Lib.hid (And.intro hcn hmd)
        clear h3 hcn hmd hct hd hmem f1 f2
        go_wp2_with fail
        refine HDO.out _ ?_
        clear HDO
        intro v w2 h5
        rw [Nat.add_assoc, ← HT.out.1, ← HT.out.2] at h5
        have h6 := (h5.drop.swap.drop.swap.push 7).swap
        have H6 := Lib.hid h6
        clear h5 h6 HW2 z0 z1 z2 z3 z4 z5
        go_wp2_with fail
        go_roundw
        case rel => exact ⟨q + 1, by omega, by go_num, H6⟩
        case measure => simp [intOf]; omega
      · have g2 : (N2 : Int) ≤ (q : Int) := by omega
        have ht1 : e2.take (q + 1) = e2.take q := by rw [List.take_of_length_le (by rw [HNN.out.2.2]; omega), List.take_of_length_le (by rw [HNN.out.2.2]; omega)]
        have HH : Hid (St k wc (Rope ga (polOf p) (madeP (polOf p) es (e1.take (q + 1))) (cntL ds + cntL (e1.take (q + 1))) :: Rope gb (polOf p) (madeP (polOf p) es (e2.take (q + 1))) (cntL ds + cntL (e2.take (q + 1))) :: Rope gx (polOf p) (madeP (polOf p) es e1) (cntL ds + cntL e1) :: Rope gy (polOf p) (madeP (polOf p) es e2) (cntL ds + cntL e2) :: polS p A0 A1 A2 c0 c1 c2 :: dosS A cp ds :: dosS X1 q1 e1 :: dosS X2 q2 e2 :: pt B (.cells (polC p A0 A1 A2 c0 c1 c2) 26 (0, 0)) :: L)) := by rw [ht1]; exact HW2
        clear ht1
        go_wp2_with fail
        go_roundw
        case rel => exact ⟨q + 1, by omega, by go_num, HH⟩
        case measure => simp [intOf]; omega
    · obtain rfl : q = M := by omega
      have h5 := HW.out
      rw [List.take_of_length_le (show e1.length ≤ q by rw [HNN.out.2.1]; omega), List.take_of_length_le (show e2.length ≤ q by rw [HNN.out.2.2]; omega)] at h5
      obtain ⟨E1, hE1⟩ : ∃ E1, madeP (polOf p) es e1 = E1 := ⟨_, rfl⟩
      obtain ⟨E2, hE2⟩ : ∃ E2, madeP (polOf p) es e2 = E2 := ⟨_, rfl⟩
      rw [hE1, hE2] at h5
      have H5 := Lib.hid h5
      clear h5 HW hE1 hE2
      go_wp2_with fail
      refine elems_any H5.out ?_
      intro v1 w2 _ h6
      obtain ⟨E3, k3, rfl, -⟩ := h6.readsA.at_
      have H6 := Lib.hid (h6.pull 3)
      clear h6 H5
      go_wp2_with fail
      refine elems_any H6.out ?_
      intro v2 w3 _ h7
      obtain ⟨E4, k4, rfl, -⟩ := h7.readsA.at_
      have H7 := Lib.hid (h7.pull 2)
      clear h7 H6
      go_wp2_with fail
      refine same_any (a := E1) (b := E1) H7.out (rowLike_A 39 3 (.slice E3 E1.length k3) E1.length (elsC E1)) (rowLike_A 39 3 (.slice E4 E1.length k4) E1.length (elsC E1)) rfl rfl ?_
      intro w4 h8
      rw [decide_eq_true (rfl : E1 = E1)]
      have H8 := Lib.hid (h8.drop.drop.pull 2)
      clear h8 H7
      go_wp2_with fail
      refine elems_any H8.out ?_
      intro v1 w5 _ h9
      obtain ⟨E5, k5, rfl, -⟩ := h9.readsA.at_
      have H9 := Lib.hid (h9.pull 4)
      clear h9 H8
      go_wp2_with fail
      refine elems_any H9.out ?_
      intro v2 w6 _ h10
      obtain ⟨E6, k6, rfl, -⟩ := h10.readsA.at_
      have H10 := Lib.hid (h10.pull 2)
      clear h10 H9
      go_wp2_with fail
      refine same_any (a := E2) (b := E2) H10.out (rowLike_A 39 3 (.slice E5 E2.length k5) E2.length (elsC E2)) (rowLike_A 39 3 (.slice E6 E2.length k6) E2.length (elsC E2)) rfl rfl ?_
      intro w7 h11
      rw [decide_eq_true (rfl : E2 = E2)]
      have H11 := Lib.hid (h11.drop.drop)
      clear h11 H10
      go_wp2_with fail
      refine len_any (H11.out.pull 3) fun w8 h12 => ?_
      have H12 := Lib.hid (h12.pull 3)
      clear h12 H11
      go_wp2_with fail
      refine len_any H12.out fun w9 h13 => ?_
      have H13 := Lib.hid h13.drop.drop.drop.drop
      clear h13 H12
      go_wp2_with fail
      refine awake_any H13.out fun w10 h14 => ?_
      have HX := Lib.hid (HR.out _ h14)
      clear h14
      go_wp2
      exact HX.out
end
end Go.Proofs.Ytdgaffcfcgmfnaa
