/- What lattice.Below, Sees and Seen answer. -/
import Derived.Test.YtdgaffcfcgmfnaaL2
import Derived.Test.YtdgaffcfcgmfnaaXi
namespace Go.Proofs.Ytdgaffcfcgmfnaa
open Go.RowKit Go.Sl

def belowB (x y : Lab) : Bool := decide (x.lev ≤ y.lev) && (bits .andNot .u32 x.com y.com == 0)
set_option maxHeartbeats 1000000 in
theorem below_any (x y : Lab) (w : World) :
    Calls Try.prog 61 #[.agg #[.int .i64 x.lev, .int .u32 x.com], .agg #[.int .i64 y.lev, .int .u32 y.com]] w fun e w' => e = .returned (.bool (belowB x y)) ∧ Below w.heap.size w w' := by
  by_cases h0 : x.lev ≤ y.lev
  · have Hx := Lib.hid (show belowB x y = (bits .andNot .u32 x.com y.com == 0) by unfold belowB; rw [decide_eq_true h0, Bool.true_and])
    go_enter Try.func61, Try.ntmps61
    go_wp2
    go_ret
    exact ⟨ret_bool Hx.out.symm, ((Below.refl _ _).alloc (Nat.le_refl _) _).alloc (by simp) _⟩
  · have h1 : y.lev < x.lev := by omega
    have Hx := Lib.hid (show belowB x y = false by unfold belowB; rw [decide_eq_false h0, Bool.false_and])
    go_enter Try.func61, Try.ntmps61
    go_wp2
    go_ret
    exact ⟨ret_bool Hx.out.symm, ((Below.refl _ _).alloc (Nat.le_refl _) _).alloc (by simp) _⟩
theorem below_is (x y : Lab) (w : World) (r : Bool) (h : belowB x y = r) :
    Calls Try.prog 61 #[.agg #[.int .i64 x.lev, .int .u32 x.com], .agg #[.int .i64 y.lev, .int .u32 y.com]] w fun e w' => e = .returned (.bool r) ∧ Below w.heap.size w w' := by
  rw [← h]; exact below_any x y w
/-- Does who works at v see text of u? -/
def seesB (p : PV) (v u : Int) : Bool := decide (0 ≤ v) && decide (v < (p.labels.length : Int)) && decide (0 ≤ u) && decide (u < (p.labels.length : Int)) && belowB (p.labels.getD u.toNat ⟨0, 0⟩) (p.labels.getD v.toNat ⟨0, 0⟩)
set_option maxHeartbeats 2000000 in
theorem sees_any (p : PV) (v u : Int) (A0 A1 A2 : Option Addr) (c0 c1 c2 : Nat) (w : World) (h0 : CL w A0 p.labels) :
    Calls Try.prog 23 #[.agg #[.slice A0 p.labels.length c0, .slice A1 p.quotas.length c1, .slice A2 p.entries.length c2], .int .i64 v, .int .i64 u] w fun e w' => e = .returned (.bool (seesB p v u)) ∧ Below w.heap.size w w' := by
  obtain ⟨N, hN⟩ : ∃ N, p.labels.length = N := ⟨_, rfl⟩
  by_cases hall : 0 ≤ v ∧ v < (N : Int) ∧ 0 ≤ u ∧ u < (N : Int)
  · obtain ⟨h1, h2, h3, h4⟩ := hall
    have hv : v.toNat < p.labels.length := by omega
    have hu : u.toNat < p.labels.length := by omega
    obtain ⟨b, o, rfl, e0, e1⟩ := lab_at h0 v.toNat hv
    obtain ⟨b', o', e', e2, e3⟩ := lab_at h0 u.toNat hu
    injection e' with e'
    injection e' with e4 e5
    subst e4 e5
    have Hx := Lib.hid (show seesB p v u = belowB p.labels[u.toNat] p.labels[v.toNat] by
      unfold seesB
      rw [hN, decide_eq_true h1, decide_eq_true h2, decide_eq_true h3, decide_eq_true h4, rd_getElem _ _ _ hu, rd_getElem _ _ _ hv]; rfl)
    obtain ⟨X, hX⟩ : ∃ X, p.labels[v.toNat] = X := ⟨_, rfl⟩
    obtain ⟨Y, hY⟩ : ∃ Y, p.labels[u.toNat] = Y := ⟨_, rfl⟩
    rw [hX, hY] at Hx
    rw [hX] at e0 e1
    rw [hY] at e2 e3
    rw [hN]
    clear hX hY hv hu h0 hN
    go_enter Try.func23, Try.ntmps23
    go_wp2
    obtain ⟨W1, hW1⟩ : ∃ W1, W1 = w.alloc (.cells #[.slice (some ⟨b, o, none⟩) N c0, .slice A1 p.quotas.length c1, .slice A2 p.entries.length c2] 26) := ⟨_, rfl⟩
    have B0 := Aside0.mk (show Below w.heap.size w W1 by rw [hW1]; exact (Below.refl _ _).alloc (Nat.le_refl _) _)
    have s0 : ∀ n : Later W1, n.w.cell? ⟨w.heap.size, 0, none⟩ = some (.slice (some ⟨b, o, none⟩) N c0) := later_cell (by rw [hW1]; exact blk_cell (blk_new _ _) 0)
    have s1 : ∀ n : Later W1, n.w.cell? ⟨b, o + v.toNat * 2, none⟩ = some (.int .i64 X.lev) := later_cell (pw_cell_below B0.out e0)
    have s2 : ∀ n : Later W1, n.w.cell? ⟨b, o + v.toNat * 2 + 1, none⟩ = some (.int .u32 X.com) := later_cell (pw_cell_below B0.out e1)
    have s3 : ∀ n : Later W1, n.w.cell? ⟨b, o + u.toNat * 2, none⟩ = some (.int .i64 Y.lev) := later_cell (pw_cell_below B0.out e2)
    have s4 : ∀ n : Later W1, n.w.cell? ⟨b, o + u.toNat * 2 + 1, none⟩ = some (.int .u32 Y.com) := later_cell (pw_cell_below B0.out e3)
    rw [← hW1]
    clear hW1 e0 e1 e2 e3
    obtain ⟨r, hr⟩ : ∃ r, belowB Y X = r := ⟨_, rfl⟩
    have HR := Aside0.mk hr
    rw [hr] at Hx
    clear hr
    refine wp_region_later (by kernel_rfl) (by kernel_rfl) ?_
    repeat (go_big_quiet_step (first | exact calls_later (below_is _ _ _ _ HR.out)))
    refine wpQuiet_nil ?_
    rintro _ ⟨⟨w2, hb2⟩, rfl⟩
    go_wp2
    go_ret
    exact ⟨ret_bool Hx.out.symm, below_step B0.out hb2⟩
  · have Hx := Lib.hid (show seesB p v u = false by
      unfold seesB
      rw [hN]
      have : (decide (0 ≤ v) && decide (v < (N : Int)) && decide (0 ≤ u) && decide (u < (N : Int))) = false := by
        rw [← Bool.not_eq_true]
        simp only [Bool.and_eq_true, decide_eq_true_eq]
        intro h; exact hall ⟨h.1.1.1, h.1.1.2, h.1.2, h.2⟩
      rw [this]; rfl)
    rw [hN]
    have hd : v < 0 ∨ (0 ≤ v ∧ (N : Int) ≤ v) ∨ (0 ≤ v ∧ v < (N : Int) ∧ u < 0) ∨ (0 ≤ v ∧ v < (N : Int) ∧ 0 ≤ u ∧ (N : Int) ≤ u) := by omega
    clear hall h0 hN
    rcases hd with a1 | ⟨a1, a2⟩ | ⟨a1, a2, a3⟩ | ⟨a1, a2, a3, a4⟩
    · have d1 : decide (0 ≤ v) = false := decide_eq_false (by omega)
      go_enter Try.func23, Try.ntmps23
      go_wp2
      go_quiet (fail)
      go_wp2
      go_ret
      exact ⟨ret_bool Hx.out.symm, pw_below_drewN ((Below.refl _ _).alloc (Nat.le_refl _) _) _⟩
    · have d1 : decide (v < (N : Int)) = false := decide_eq_false (by omega)
      go_enter Try.func23, Try.ntmps23
      go_wp2
      go_quiet (fail)
      go_wp2
      go_ret
      exact ⟨ret_bool Hx.out.symm, pw_below_drewN ((Below.refl _ _).alloc (Nat.le_refl _) _) _⟩
    · have d1 : decide (0 ≤ u) = false := decide_eq_false (by omega)
      go_enter Try.func23, Try.ntmps23
      go_wp2
      go_quiet (fail)
      go_wp2
      go_ret
      exact ⟨ret_bool Hx.out.symm, pw_below_drewN ((Below.refl _ _).alloc (Nat.le_refl _) _) _⟩
    · have d1 : decide (u < (N : Int)) = false := decide_eq_false (by omega)
      go_enter Try.func23, Try.ntmps23
      go_wp2
      go_quiet (fail)
      go_wp2
      go_ret
      exact ⟨ret_bool Hx.out.symm, pw_below_drewN ((Below.refl _ _).alloc (Nat.le_refl _) _) _⟩
/-- A policy, shared. -/
def polS (p : PV) (A0 A1 A2 : Option Addr) (c0 c1 c2 : Nat) : Asn :=
  ⟨fun _ P => (rowS 2 (.slice A0 p.labels.length c0) p.labels.length (p.labels.flatMap labC)).holds PH.none P ∧ (rowS 3 (.slice A1 p.quotas.length c1) p.quotas.length (p.quotas.flatMap quoC)).holds PH.none P ∧ (rowS 3 (.slice A2 p.entries.length c2) p.entries.length (p.entries.flatMap entC)).holds PH.none P,
   fun _ hp ⟨h1, h2, h3⟩ => ⟨Asg.mono _ (PH.le.refl _) hp h1, Asg.mono _ (PH.le.refl _) hp h2, Asg.mono _ (PH.le.refl _) hp h3⟩⟩
theorem polS_shared (p : PV) (A0 A1 A2 : Option Addr) (c0 c1 c2 : Nat) : Shared (polS p A0 A1 A2 c0 c1 c2) := ⟨fun h => h⟩
abbrev polV (p : PV) (A0 A1 A2 : Option Addr) (c0 c1 c2 : Nat) : Value := .agg #[.slice A0 p.labels.length c0, .slice A1 p.quotas.length c1, .slice A2 p.entries.length c2]
section
variable {k w : World} {L : List Asn} {p : PV} {A0 A1 A2 : Option Addr} {c0 c1 c2 : Nat} {R : Ending → World → Prop}
theorem polS_out (h : St k w (polS p A0 A1 A2 c0 c1 c2 :: L)) : CL w A0 p.labels ∧ CQ w A1 p.quotas ∧ CE w A2 p.entries ∧ p.labels.length ≤ c0 := by
  have h1 : St k w (rowS 2 (.slice A0 p.labels.length c0) p.labels.length (p.labels.flatMap labC) :: L) := h.head fun _ _ hA => Asg.mono _ (PH.none_le _) (PH.le.refl _) hA.1
  have h2 : St k w (rowS 3 (.slice A1 p.quotas.length c1) p.quotas.length (p.quotas.flatMap quoC) :: L) := h.head fun _ _ hA => Asg.mono _ (PH.none_le _) (PH.le.refl _) hA.2.1
  have h3 : St k w (rowS 3 (.slice A2 p.entries.length c2) p.entries.length (p.entries.flatMap entC) :: L) := h.head fun _ _ hA => Asg.mono _ (PH.none_le _) (PH.le.refl _) hA.2.2
  obtain ⟨A, c, e, h4, -⟩ := h1.readsS.at_
  injection e with _ _ e
  subst e
  exact ⟨Row.of (fun _ => rfl) (by decide) h1.readsS, Row.of (fun _ => rfl) (by decide) h2.readsS, Row.of (fun _ => rfl) (by decide) h3.readsS, h4⟩
def seenW (p : PV) (v : Int) (n : Nat) : List Nat := (List.range n).filter fun u => seesB p v (u : Nat)
theorem seenW_snoc (p : PV) (v : Int) (q : Nat) : seenW p v (q + 1) = seenW p v q ++ if seesB p v (q : Nat) = true then [q] else [] := by
  unfold seenW
  rw [List.range_succ, List.filter_append]
  cases h : seesB p v (q : Nat) <;> simp [h]
theorem seenW_le (p : PV) (v : Int) (q : Nat) : (seenW p v q).length ≤ q := by
  unfold seenW
  refine Nat.le_trans (List.length_filter_le _ _) (by simp)
set_option maxRecDepth 100000 in
set_option maxHeartbeats 1000000 in
theorem seenl_any {v : Int} (h : St k w (polS p A0 A1 A2 c0 c1 c2 :: L)) (hn : p.labels.length ≤ 1000000) (hR : ∀ u w', St k w' (rowA 3 1 u (seenW p v p.labels.length).length (intsC (seenW p v p.labels.length)) :: polS p A0 A1 A2 c0 c1 c2 :: L) → R (.returned u) w') :
    Calls Try.prog 27 #[polV p A0 A1 A2 c0 c1 c2, .int .i64 v] w R := by
  have h1 := (h.alloc (.cells #[.slice A0 p.labels.length c0, .slice A1 p.quotas.length c1, .slice A2 p.entries.length c2] 26)).nilA 3 1
  have H1 := Lib.hid h1
  have HR := Lib.hid hR
  obtain ⟨N, hN⟩ : ∃ N, p.labels.length = N := ⟨_, rfl⟩
  rw [hN] at hn H1 HR
  unfold polV
  rw [hN]
  have HN := Lib.hid hN
  have hn2 : (N : Int) ≤ 1000000 := by omega
  clear h h1 hR hN
  go_enter Try.func27, Try.ntmps27
  go_wp2
  obtain ⟨B, hB⟩ : ∃ B, w.heap.size = B := ⟨_, rfl⟩
  rw [hB] at H1 ⊢
  clear hB
  go_loopw [5, 10] (fun s5 i wr => ∃ q : Nat, q ≤ N ∧ i = .int .i64 q ∧ (∃ A c, s5 = .slice A (seenW p v q).length c) ∧ Hid (St k wr (rowA 3 1 s5 (seenW p v q).length (intsC (seenW p v q)) :: pt B (.cells #[.slice A0 N c0, .slice A1 p.quotas.length c1, .slice A2 p.entries.length c2] 26 (0, 0)) :: polS p A0 A1 A2 c0 c1 c2 :: L))) (fun _ i _ => N - (intOf i).toNat)
  case atStart => exact ⟨0, by omega, rfl, ⟨none, 0, rfl⟩, H1⟩
  case round =>
    obtain ⟨q, hq, rfl, ⟨A, c, rfl⟩, HW⟩ := hrel
    have y0 := blk_cell (HW.out.pull 1).lies 0
    have y1 := blk_cell (HW.out.pull 1).lies 1
    have y2 := blk_cell (HW.out.pull 1).lies 2
    change _ = some (Value.slice A0 N c0) at y0
    change _ = some (Value.slice A1 p.quotas.length c1) at y1
    change _ = some (Value.slice A2 p.entries.length c2) at y2
    by_cases hlt : q < N
    · have hlt2 : (q : Int) < (N : Int) := by omega
      have hcl := (polS_out (HW.out.pull 2)).1
      have hsn := seenW_snoc p v q
      have hle := seenW_le p v q
      obtain ⟨M, hM⟩ : ∃ M, (seenW p v q).length = M := ⟨_, rfl⟩
      have hsb := sees_any p v (q : Nat) A0 A1 A2 c0 c1 c2 wr hcl
      rw [HN.out] at hsb
      obtain ⟨s, hs⟩ : ∃ s, seesB p v (q : Nat) = s := ⟨_, rfl⟩
      rw [hs] at hsn hsb
      have HSB := Lib.hid hsb
      have HSN := Lib.hid hsn
      rw [hM] at HW hle
      rw [hM]
      have HM := Lib.hid hM
      have hM2 : M ≤ 1000000 := by omega
      clear hcl hsn hsb hs hM
      cases s
      · go_wp2_with (go_at_call 23; refine HSB.out.mono ?_; rintro e w2 ⟨rfl, hb2⟩; have H2 := Lib.hid (st_later HW.out hb2); clear hb2)
        go_roundw
        case rel =>
          refine ⟨q + 1, by omega, by go_num, ?_, Lib.hid ?_⟩
          · rw [HSN.out]; simp [HM.out]
          · rw [HSN.out]; simp [HM.out]; exact H2.out
        case measure => simp [intOf]; omega
      · go_wp2_with (first | (go_at_call 23; refine HSB.out.mono ?_; rintro e w2 ⟨rfl, hb2⟩; have H2 := Lib.hid ((st_later HW.out hb2).alloc (.cells #[.int .i64 (q : Nat)] 3)); clear hb2) | (at_builtin; refine wpList_append rfl _ _ rfl Try.underlying51 info3 rfl (by decide) (n := M) (cs := intsC (seenW p v q)) (H2.out.swap) (H2.out.readsP (sz := 1) (n := 1) (cap := 1) rfl (Nat.le_refl _) (by decide)) rfl rfl (fun u hu => by simp at hu; subst hu; rfl) (by unfold maxLen; omega) (by omega) ?_; intro v' w5 h6 h7; obtain ⟨A5, c5, rfl, -⟩ := h6.readsA.at_; have H6 := Lib.hid h6; clear h6 h7))
        go_roundw
        case rel =>
          have h8 := H6.out.swap.drop
          refine ⟨q + 1, by omega, by go_num, ?_, Lib.hid ?_⟩
          · rw [HSN.out]; simp [HM.out]
          · rw [HSN.out]
            have e2 : intsC (seenW p v q ++ [q]) = intsC (seenW p v q) ++ [.int .i64 (q : Nat)] := by simp [intsC]
            have e3 : (seenW p v q ++ [q]).length = M + 1 := by simp [HM.out]
            simp only [if_true]
            rw [e2, e3]
            exact h8
        case measure => simp [intOf]; omega
    · obtain rfl : q = N := by omega
      have HX := Lib.hid (HR.out _ _ HW.out.swap.drop)
      go_wp2
      exact HX.out
end
end Go.Proofs.Ytdgaffcfcgmfnaa
