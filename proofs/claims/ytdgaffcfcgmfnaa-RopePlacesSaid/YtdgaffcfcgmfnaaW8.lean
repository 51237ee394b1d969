/- RopePlaces: the walk. -/
import Derived.Test.YtdgaffcfcgmfnaaF2
import Derived.Test.YtdgaffcfcgmfnaaZp
import Derived.Test.YtdgaffcfcgmfnaaSc
namespace Go.Proofs.Ytdgaffcfcgmfnaa
open Go.RowKit Go.Sl

section
variable {k w : World} {L : List Asn} {A A0 A1 A2 : Option Addr} {cp c0 c1 c2 : Nat} {ds : List DoM} {p : PV} {R : Ending → World → Prop} {v n : Int}
set_option maxRecDepth 100000 in
set_option maxHeartbeats 4000000 in
theorem places_walk (h : St k w (polS p A0 A1 A2 c0 c1 c2 :: dosS A cp ds :: L)) (hL : ∀ x ∈ p.labels, inLab x) (hf : Fits ds) (hn : I64 n) (hR : ∀ w', St k w' L → R (.returned (.bool true)) w') :
    Calls Try.prog 8 #[polV p A0 A1 A2 c0 c1 c2, .slice A ds.length cp, .int .i64 v, .int .i64 n] w R := by
  obtain ⟨B, hB⟩ : ∃ B, w.heap.size = B := ⟨_, rfl⟩
  have h1 := (h.alloc (.cells (polC p A0 A1 A2 c0 c1 c2) 26)).push 2
  simp only [hB] at h1
  have H1 := Lib.hid h1
  have HR := Lib.hid (fun w' (h : St k w' (polS p A0 A1 A2 c0 c1 c2 :: dosS A cp ds :: pt B (.cells (polC p A0 A1 A2 c0 c1 c2) 26 (0, 0)) :: L)) => hR w' h.drop.drop.drop)
  have HF := Lib.hid (And.intro hf (And.intro hn hL))
  clear h h1 hR hf hn hL
  change Hid (St k (w.alloc (.cells (polC p A0 A1 A2 c0 c1 c2) 26)) (polS p A0 A1 A2 c0 c1 c2 :: dosS A cp ds :: pt B (.cells (polC p A0 A1 A2 c0 c1 c2) 26 (0, 0)) :: L)) at H1
  unfold polV
  go_enter Try.func8, Try.ntmps8
  go_wp2_with fail
  refine short_any H1.out.swap ?_
  cases hs : shortB ds
  · clear hs
    go_wp2_with fail
    refine awake_any H1.out fun w6 h8 => ?_
    have HX := Lib.hid (HR.out _ h8)
    clear h8
    go_wp2
    exact HX.out
  have HS := Lib.hid hs
  clear hs
  obtain ⟨y0, y1, y2⟩ := boxP (H1.out.pull 2)
  go_wp2_with fail
  refine small_st (p := p) (A0 := A0) (A1 := A1) (A2 := A2) (c0 := c0) (c1 := c1) (c2 := c2) H1.out fun w6 h8 => ?_
  have H8 := Lib.hid h8
  clear h8 H1 y0 y1 y2
  cases hsm : smallB p
  · clear hsm
    go_wp2_with fail
    refine awake_any H8.out fun w7 h9 => ?_
    have HX := Lib.hid (HR.out _ h9)
    clear h9
    go_wp2
    exact HX.out
  clear hsm
  obtain ⟨y0, y1, y2⟩ := boxP (H8.out.pull 2)
  go_wp2_with fail
  refine right_st (p := p) (A0 := A0) (A1 := A1) (A2 := A2) (c0 := c0) (c1 := c1) (c2 := c2) H8.out fun w7 h9 => ?_
  have H9 := Lib.hid h9
  clear h9 H8 y0 y1 y2
  by_cases hr : rightN p = 0
  case neg =>
    have hr2 : (rightN p == 0) = false := by simpa using hr
    clear hr
    go_wp2_with fail
    refine awake_any H9.out fun w8 h10 => ?_
    have HX := Lib.hid (HR.out _ h10)
    clear h10
    go_wp2
    exact HX.out
  have HRN := Lib.hid hr
  rw [hr]
  clear hr
  obtain ⟨y0, y1, y2⟩ := boxP (H9.out.pull 2)
  go_wp2_with fail
  have hcs := cntL_short HS.out
  refine made_any H9.out HRN.out HF.out.1 (by omega) ?_
  intro g w8 h10
  clear y0 y1 y2
  obtain ⟨es, hes⟩ : ∃ es, madeP (polOf p) [] ds = es := ⟨_, rfl⟩
  rw [hes] at h10
  obtain ⟨c, hc⟩ : ∃ c, cntL ds = c := ⟨_, rfl⟩
  rw [hc] at h10
  obtain ⟨r, -, ho⟩ := Rope.out h10
  have HO := Lib.hid (And.intro ho.fit (And.intro ho.len ho.l32))
  have H10 := Lib.hid h10
  obtain ⟨y0, y1, y2⟩ := boxP (h10.pull 3)
  clear h10 H9 hes hc hcs ho
  go_upto_region 4 with fail
  go_cut [10] (fun s wc => ∃ gx, s = .pointer (some ⟨gx, 0, none⟩) ∧ Hid (St k wc (refA gx p A0 A1 A2 c0 c1 c2 es :: Rope g (polOf p) es c :: polS p A0 A1 A2 c0 c1 c2 :: dosS A cp ds :: pt B (.cells (polC p A0 A1 A2 c0 c1 c2) 26 (0, 0)) :: L)))
  case first =>
    refine wp_region_any (by kernel_rfl) ?_
    try (change wpAny _ _ _ _ _ _ _ (World.drew _))
    refine wpAny_take (i := 1) (v := ?_) rfl (by kernel_rfl) (by kernel_rfl) (by kernel_rfl) (fun _ _ _ h => h) (Or.inl ⟨by rfl, ?_⟩) ?_
    rotate_left 1
    · intro w
      go_simp
      try with_reducible rfl
    refine wpAnyC_any (C := (fun w' : World => w'.cell? ⟨B, 0, none⟩ = some (.slice A0 p.labels.length c0) ∧ w'.cell? ⟨B, 1, none⟩ = some (.slice A1 p.quotas.length c1) ∧ w'.cell? ⟨B, 2, none⟩ = some (.slice A2 p.entries.length c2))) (T := [3, 4, 5]) _ _ _ _ ?_
    refine wpAnyC_take (i := 0) (v := ?_) rfl (by kernel_rfl) (by kernel_rfl) (by kernel_rfl) (by kernel_rfl) (fun _ _ _ h => h) (by rfl) ?_ ?_ ?_
    rotate_left 1
    · refine ⟨?_, ?_, ?_⟩ <;> go_simp
    · intro w hw
      obtain ⟨c1, c2, c3⟩ := hw; go_simp
      try with_reducible rfl
    refine wpAnyC_ready (rs := [2]) (by kernel_rfl) (by simp) ?_
    refine AllC.cons rfl (fun K hK => ?_) ?_
    · go_simp
      go_wp2_with (first
        | (go_at_call 30; refine elems_any H10.out.drew ?_
           intro v3 w3 _ h3
           obtain ⟨A3, k3, rfl, -⟩ := h3.readsA.at_
           obtain ⟨z0, z1, z2⟩ := boxP (h3.pull 4)
           have H3 := Lib.hid ((h3.alloc (.cells (refC p A0 A1 A2 c0 c1 c2 (.slice A3 es.length k3)) 72)))
           clear h3))
      refine And.intro ?_ ?_
      · intro _
        refine ⟨?_, ?_, ?_⟩ <;> go_simp
      refine wpAnyC_takeP (i := 3) (v := ?_) rfl (by kernel_rfl) (by kernel_rfl) (by kernel_rfl) (by kernel_rfl) (fun _ _ _ h => h) (by rfl) ?_ ?_
      rotate_left 1
      · intro w
        go_simp
        try with_reducible rfl
      refine wpAnyC_ready (rs := [4]) (by kernel_rfl) (by simp) ?_
      refine AllC.cons rfl (fun K hK => ?_) ?_
      · go_simp
        refine hK _ _ ?_
        clear hK K
        refine And.intro ?_ ?_
        · intro h
          exact absurd h (by decide)
        refine wpAnyC_takeP (i := 5) (v := ?_) rfl (by kernel_rfl) (by kernel_rfl) (by kernel_rfl) (by kernel_rfl) (fun _ _ _ h => h) (by rfl) ?_ ?_
        rotate_left 1
        · intro w
          go_simp
          try with_reducible rfl
        refine wpAnyC_done (by kernel_rfl) ?_ _
        go_wp2_with fail
        go_meet
        exact ⟨_, rfl, Lib.hid (ref_mk H3.out)⟩
      exact AllC.nil
    exact AllC.nil
  obtain ⟨gx, rfl, H11⟩ := hcut
  clear y0 y1 y2 H10
  go_wp2_with fail
  refine index_any H11.out.swap fun w9 h12 => ?_
  obtain ⟨⟨ix, ie⟩, hix⟩ : ∃ ix, indexP (polOf p) v es n = ix := ⟨_, rfl⟩
  rw [hix]
  have H12 := Lib.hid (h12.pull 2 |>.pull 2)
  have HIX := Lib.hid hix
  clear h12 H11 hix
  change Hid (St k w9 (refA gx p A0 A1 A2 c0 c1 c2 es :: polS p A0 A1 A2 c0 c1 c2 :: Rope g (polOf p) es c :: dosS A cp ds :: pt B (.cells (polC p A0 A1 A2 c0 c1 c2) 26 (0, 0)) :: L)) at H12
  go_wp2_with fail
  refine rindex_any H12.out HF.out.2.2 HO.out.2.2 HO.out.1 HO.out.2.1 fun w10 h13 => ?_
  rw [HIX.out]
  have H13 := Lib.hid h13
  clear h13 H12
  go_wp2_with fail
  refine place_any (H13.out.pull 2) HF.out.2.1 fun w11 h14 => ?_
  obtain ⟨⟨px, pe⟩, hpx⟩ : ∃ px, placeP (polOf p) v es n = px := ⟨_, rfl⟩
  rw [hpx]
  have H14 := Lib.hid (h14.push 2)
  have HPX := Lib.hid hpx
  clear h14 H13 hpx
  go_wp2_with fail
  refine rplace_any H14.out HF.out.2.2 HO.out.2.2 HO.out.1 HO.out.2.1 fun w12 h15 => ?_
  rw [HPX.out]
  have H15 := Lib.hid h15
  clear h15 H14
  go_wp2_with fail
  refine view_any (H15.out.pull 2) fun w13 h16 => ?_
  obtain ⟨⟨vx, ve⟩, hvx⟩ : ∃ vx, viewP (polOf p) v es n = vx := ⟨_, rfl⟩
  rw [hvx]
  have H16 := Lib.hid (h16.push 2)
  have HVX := Lib.hid hvx
  clear h16 H15 hvx
  go_wp2_with fail
  refine rview_any H16.out HF.out.2.2 HO.out.2.2 HO.out.1 HO.out.2.1 fun w14 h17 => ?_
  rw [HVX.out]
  have H17 := Lib.hid h17
  clear h17 H16
  go_wp2_with fail
  refine atx_any (H17.out.pull 2) fun w15 h18 => ?_
  have H18 := Lib.hid (h18.pull 1)
  clear h18 H17
  change Hid (St k w15 (refA gx p A0 A1 A2 c0 c1 c2 es :: Rope g (polOf p) es c :: polS p A0 A1 A2 c0 c1 c2 :: dosS A cp ds :: pt B (.cells (polC p A0 A1 A2 c0 c1 c2) 26 (0, 0)) :: L)) at H18
  obtain ⟨A3, k3, h19⟩ := ref_out H18.out
  obtain ⟨e, he⟩ : ∃ e, elAt es n = e := ⟨_, rfl⟩
  obtain ⟨M, hM⟩ : ∃ M, es.length = M := ⟨_, rfl⟩
  have hHM := Lib.hid hM
  rw [he]
  have hrd := (h19.pull 1).readsA
  have h20 := h19.alloc (.cells #[.int .i64 e.id, .int .i32 e.rune, .int .i64 e.label] 39)
  rw [hM] at h20
  have H20 := Lib.hid h20
  by_cases hat : 0 ≤ n ∧ n < (M : Int)
  · obtain ⟨N, rfl⟩ : ∃ N : Nat, n = N := ⟨n.toNat, by omega⟩
    obtain ⟨g1, g2⟩ := hat
    have hia : isAt es (N : Int) = true := by unfold isAt; rw [hM]; exact decide_eq_true ⟨g1, g2⟩
    have hen : es[N]? = some e := by
      unfold elAt at he
      rw [if_pos g1, Int.toNat_natCast, List.getD_eq_getElem?_getD, List.getElem?_eq_getElem (by omega)] at he
      rw [List.getElem?_eq_getElem (by omega)]
      exact congrArg some he
    rw [hia]
    obtain ⟨b, o, rfl, hcell⟩ := reads_el hrd rfl (by omega)
    have e0 := hcell N e 0 _ hen rfl
    have e1 := hcell N e 1 _ hen rfl
    have e2 := hcell N e 2 _ hen rfl
    rw [Nat.add_zero] at e0
    have x0 := cell_alloc e0 (.cells #[.int .i64 e.id, .int .i32 e.rune, .int .i64 e.label] 39)
    have x1 := cell_alloc e1 (.cells #[.int .i64 e.id, .int .i32 e.rune, .int .i64 e.label] 39)
    have x2 := cell_alloc e2 (.cells #[.int .i64 e.id, .int .i32 e.rune, .int .i64 e.label] 39)
    obtain ⟨-, -, -, r3⟩ := boxR (H20.out.pull 1)
    have b0 := blk_cell H20.out.lies 0
    have b1 := blk_cell H20.out.lies 1
    have b2 := blk_cell H20.out.lies 2
    change _ = some (Value.int .i64 e.id) at b0
    change _ = some (Value.int .i32 e.rune) at b1
    change _ = some (Value.int .i64 e.label) at b2
    clear hcell h19 h20 hrd he hM hen hia e0 e1 e2 H18
    go_upto_region 12 with fail
    obtain ⟨W1, hW1⟩ : ∃ W1, W1 = w15.alloc (.cells #[.int .i64 e.id, .int .i32 e.rune, .int .i64 e.label] 39) := ⟨_, rfl⟩
    rw [← hW1] at H20 x0 x1 x2 r3 b0 b1 b2 ⊢
    obtain ⟨bx, hbx⟩ : ∃ bx, w15.heap.size = bx := ⟨_, rfl⟩
    rw [hbx] at H20 b0 b1 b2 ⊢
    clear hW1 hbx
    go_quiet (fail)
    have H21 := Lib.hid ((H20.out.drewN nq).drop.drop.drop.drop)
    clear H20 x0 x1 x2 r3 b0 b1 b2
    go_wp2_with fail
    refine awake_any H21.out fun w16 h22 => ?_
    have HX := Lib.hid (HR.out _ h22)
    clear h22
    go_wp2
    exact HX.out
  · have hia : isAt es n = false := by unfold isAt; rw [hM]; exact decide_eq_false hat
    rw [hia]
    obtain ⟨-, -, -, r3⟩ := boxR (H20.out.pull 1)
    have b0 := blk_cell H20.out.lies 0
    have b1 := blk_cell H20.out.lies 1
    have b2 := blk_cell H20.out.lies 2
    change _ = some (Value.int .i64 e.id) at b0
    change _ = some (Value.int .i32 e.rune) at b1
    change _ = some (Value.int .i64 e.label) at b2
    clear h19 h20 hrd he hM hia H18
    rcases (show n < 0 ∨ (0 ≤ n ∧ (M : Int) ≤ n) by omega) with g1 | ⟨g1, g2⟩
    · have d1 : decide (0 ≤ n) = false := decide_eq_false (by omega)
      clear hat
      go_upto_region 12 with fail
      obtain ⟨W1, hW1⟩ : ∃ W1, W1 = w15.alloc (.cells #[.int .i64 e.id, .int .i32 e.rune, .int .i64 e.label] 39) := ⟨_, rfl⟩
      rw [← hW1] at H20 r3 b0 b1 b2 ⊢
      obtain ⟨bx, hbx⟩ : ∃ bx, w15.heap.size = bx := ⟨_, rfl⟩
      rw [hbx] at H20 b0 b1 b2 ⊢
      clear hW1 hbx
      go_quiet (fail)
      have H21 := Lib.hid ((H20.out.drewN nq).drop.drop.drop.drop)
      clear H20 r3 b0 b1 b2
      go_wp2_with fail
      refine awake_any H21.out fun w16 h22 => ?_
      have HX := Lib.hid (HR.out _ h22)
      clear h22
      go_wp2
      exact HX.out
    · have d1 : decide (n < (M : Int)) = false := decide_eq_false (by omega)
      clear hat
      go_upto_region 12 with fail
      obtain ⟨W1, hW1⟩ : ∃ W1, W1 = w15.alloc (.cells #[.int .i64 e.id, .int .i32 e.rune, .int .i64 e.label] 39) := ⟨_, rfl⟩
      rw [← hW1] at H20 r3 b0 b1 b2 ⊢
      obtain ⟨bx, hbx⟩ : ∃ bx, w15.heap.size = bx := ⟨_, rfl⟩
      rw [hbx] at H20 b0 b1 b2 ⊢
      clear hW1 hbx
      go_quiet (fail)
      have H21 := Lib.hid ((H20.out.drewN nq).drop.drop.drop.drop)
      clear H20 r3 b0 b1 b2
      go_wp2_with fail
      refine awake_any H21.out fun w16 h22 => ?_
      have HX := Lib.hid (HR.out _ h22)
      clear h22
      go_wp2
      exact HX.out
end
end Go.Proofs.Ytdgaffcfcgmfnaa
