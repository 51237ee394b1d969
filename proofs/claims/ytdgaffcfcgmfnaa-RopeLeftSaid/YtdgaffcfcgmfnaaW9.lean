/- RopeLeft: the walk. -/
import Derived.Test.YtdgaffcfcgmfnaaG1
import Derived.Test.YtdgaffcfcgmfnaaZp
namespace Go.Proofs.Ytdgaffcfcgmfnaa
open Go.RowKit Go.Sl

section
variable {k w : World} {L : List Asn} {A A0 A1 A2 : Option Addr} {cp c0 c1 c2 : Nat} {ds : List DoM} {p : PV} {R : Ending → World → Prop} {v n : Int} {ch : Int}
theorem insert_one {P : Pol} {es : List El} {I V : Nat} {x : El} (hx : x = ⟨-77, ch, (V : Nat)⟩) (hV : P.has (V : Nat) = true) (hI : I ≤ es.length) (hl : es.length ≤ 100000) :
    insertP P es (I : Nat) [x] = if runeOk ch = true then (0, es.take I ++ [x] ++ es.drop I) else (21, es) := by
  subst hx
  unfold insertP
  rw [if_neg (by simp; omega)]
  simp only [badE, hV, if_true, Int.toNat_natCast]
  cases runeOk ch <;> simp
set_option maxRecDepth 100000 in
set_option maxHeartbeats 4000000 in
theorem left_walk (h : St k w (polS p A0 A1 A2 c0 c1 c2 :: dosS A cp ds :: L)) (hL : ∀ x ∈ p.labels, inLab x) (hf : Fits ds) (hR : ∀ w', St k w' L → R (.returned (.bool true)) w') :
    Calls Try.prog 9 #[polV p A0 A1 A2 c0 c1 c2, .slice A ds.length cp, .int .i64 v, .int .i64 n, .int .i32 ch] w R := by
  obtain ⟨B, hB⟩ : ∃ B, w.heap.size = B := ⟨_, rfl⟩
  have h1 := (h.alloc (.cells (polC p A0 A1 A2 c0 c1 c2) 26)).push 2
  simp only [hB] at h1
  have H1 := Lib.hid h1
  have HR := Lib.hid (fun w' (h : St k w' (polS p A0 A1 A2 c0 c1 c2 :: dosS A cp ds :: pt B (.cells (polC p A0 A1 A2 c0 c1 c2) 26 (0, 0)) :: L)) => hR w' h.drop.drop.drop)
  have HF := Lib.hid (And.intro hf hL)
  clear h h1 hR hf hL
  change Hid (St k (w.alloc (.cells (polC p A0 A1 A2 c0 c1 c2) 26)) (polS p A0 A1 A2 c0 c1 c2 :: dosS A cp ds :: pt B (.cells (polC p A0 A1 A2 c0 c1 c2) 26 (0, 0)) :: L)) at H1
  unfold polV
  go_enter Try.func9, Try.ntmps9
  go_wp2_with fail
  refine short_any H1.out.swap ?_
  cases hs : shortB ds
  · clear hs
    go_wp2_with fail
    refine awake_any H1.out fun w6 h8 => ?_
    have HX := Lib.hid (HR.out _ h8)
    clear h8
    go_wp2
    exact HX.out
  have HS := Lib.hid hs
  clear hs
  obtain ⟨y0, y1, y2⟩ := boxP (H1.out.pull 2)
  go_wp2_with fail
  refine small_st (p := p) (A0 := A0) (A1 := A1) (A2 := A2) (c0 := c0) (c1 := c1) (c2 := c2) H1.out fun w6 h8 => ?_
  have H8 := Lib.hid h8
  clear h8 H1 y0 y1 y2
  cases hsm : smallB p
  · clear hsm
    go_wp2_with fail
    refine awake_any H8.out fun w7 h9 => ?_
    have HX := Lib.hid (HR.out _ h9)
    clear h9
    go_wp2
    exact HX.out
  clear hsm
  obtain ⟨y0, y1, y2⟩ := boxP (H8.out.pull 2)
  go_wp2_with fail
  refine right_st (p := p) (A0 := A0) (A1 := A1) (A2 := A2) (c0 := c0) (c1 := c1) (c2 := c2) H8.out fun w7 h9 => ?_
  have H9 := Lib.hid h9
  clear h9 H8 y0 y1 y2
  by_cases hr : rightN p = 0
  case neg =>
    rw [rightN_bad hr]
    clear hr
    go_wp2_with fail
    refine awake_any H9.out fun w8 h10 => ?_
    have HX := Lib.hid (HR.out _ h10)
    clear h10
    go_wp2
    exact HX.out
  have HRN := Lib.hid hr
  rw [hr]
  clear hr
  obtain ⟨n1, n2⟩ := rightN_len HRN.out
  obtain ⟨y0, y1, y2⟩ := boxP (H9.out.pull 2)
  obtain ⟨N, hN⟩ : ∃ N, p.labels.length = N := ⟨_, rfl⟩
  rw [hN] at n1 n2 y0
  have HN := Lib.hid hN
  have hN1 : 1 ≤ (N : Int) := by omega
  have hN2 : (N : Int) ≤ 32 := by omega
  have hN3 : ((N : Int) == 0) = false := by simp; omega
  rw [hN]
  clear hN
  go_wp2_with fail
  have hcs := cntL_short HS.out
  have hme := fun (Q : Ending → World → Prop) => made_any (R := Q) H9.out HRN.out HF.out.1 (by omega)
  unfold polV at hme
  rw [HN.out] at hme
  refine hme _ ?_
  clear hme
  intro g w8 h10
  clear y0 y1 y2
  have hel := madeP_len (polOf p) ds []
  obtain ⟨es, hes⟩ : ∃ es, madeP (polOf p) [] ds = es := ⟨_, rfl⟩
  rw [hes] at h10 hel
  obtain ⟨c, hc⟩ : ∃ c, cntL ds = c := ⟨_, rfl⟩
  rw [hc] at h10 hcs hel
  obtain ⟨r, -, ho⟩ := Rope.out h10
  have hel2 : es.length ≤ 8600 := by simp at hel; omega
  have HO := Lib.hid (And.intro ho.fit (And.intro hel2 hcs))
  have H10 := Lib.hid h10
  obtain ⟨y0, y1, y2⟩ := boxP (h10.pull 3)
  rw [HN.out] at y0
  obtain ⟨V, hV, hV2⟩ := rem_pos v (N := N) (by omega) (by omega)
  have hV3 : (V : Int) < (N : Int) := by omega
  have HV : Hid ((polOf p).has (V : Nat) = true) := Lib.hid (Pol.has_iff.2 ⟨by omega, by show (V : Int) < (p.labels.length : Int); rw [HN.out]; exact hV3⟩)
  have hVN : V < 32 := by omega
  clear h10 H9 hes hc hcs ho hel
  go_wp2_with fail
  refine size_any H10.out fun w9 h11 => ?_
  obtain ⟨S, hS⟩ : ∃ S : Nat, seenN (polOf p) V es = S := ⟨_, rfl⟩
  have hsz : sizeP (polOf p) (V : Nat) es = (S : Nat) := by
    unfold sizeP
    rw [if_pos HV.out, Int.toNat_natCast, hS]
  rw [hsz]
  have hS2 : S ≤ 8600 := by
    have : seenN (polOf p) V es ≤ es.length := List.length_filter_le _ _
    omega
  have hS3 : (S : Int) ≤ 8600 := by omega
  obtain ⟨T, hT, hT2⟩ := rem_small n (N := S) (by omega)
  obtain ⟨I, hI, hpl, hcase⟩ := place_law (P := polOf p) (V := V) (es := es) (T := T) HV.out (by omega)
  have HPL := Lib.hid (And.intro hI hpl)
  have HT := Lib.hid hT
  have H11 := Lib.hid h11
  clear h11 H10 hsz hS hI hpl hT y0 y1 y2
  have hTb : (T : Int) ≤ 8600 := by have := HT.out; omega
  have hI2 : (I : Int) ≤ 8600 := by have := HPL.out.1; omega
  go_upto_if 64 with fail
  rw [hT2]
  clear hV2 hT2
  have H12 := Lib.hid (H11.out.alloc (.cells #[.int .i64 0, .int .i32 0, .int .i64 0] 39))
  obtain ⟨bq, hbq⟩ : ∃ bq, w9.heap.size = bq := ⟨_, rfl⟩
  rw [hbq] at H12
  rw [hbq]
  have HCA := Lib.hid hcase
  clear hcase
  go_cut [] (fun wc => ∃ anc : El, Hid (T = 0 ∧ I = 0 ∨ ∃ pre m, T = m + 1 ∧ es.take I = pre ++ [anc] ∧ (polOf p).see V anc.label = true) ∧ Hid (St k wc (pt bq (elO anc) :: Rope g (polOf p) es c :: polS p A0 A1 A2 c0 c1 c2 :: dosS A cp ds :: pt B (.cells (polC p A0 A1 A2 c0 c1 c2) 26 (0, 0)) :: L)))
  case first =>
    rcases HCA.out with ⟨ht, hi0⟩ | ⟨pre, anc, m, ht, htk, hsa, hix, hel, hia⟩
    · have g1 : ¬ (0 : Int) < (T : Int) := by omega
      have HH : Hid (T = 0 ∧ I = 0 ∨ ∃ pre m, T = m + 1 ∧ es.take I = pre ++ [(⟨0, 0, 0⟩ : El)] ∧ (polOf p).see V 0 = true) := Lib.hid (.inl ⟨ht, hi0⟩)
      have g2 : (T : Int) ≤ 0 := by omega
      clear ht hi0 g1
      go_wp2_with fail
      go_meet
      exact ⟨⟨0, 0, 0⟩, HH, H12⟩
    · have g1 : 0 < (T : Int) := by omega
      have HH : Hid (T = 0 ∧ I = 0 ∨ ∃ pre m, T = m + 1 ∧ es.take I = pre ++ [anc] ∧ (polOf p).see V anc.label = true) := Lib.hid (.inr ⟨pre, m, ht, htk, hsa⟩)
      have HIX := Lib.hid (And.intro hix (And.intro hel hia))
      clear ht htk hsa hix hel hia
      go_wp2_with fail
      refine index_any H12.out.swap fun w10 h13 => ?_
      rw [HIX.out.1]
      have H13 := Lib.hid h13
      clear h13 H12
      go_wp2_with fail
      refine atx_any H13.out fun w11 h14 => ?_
      rw [HIX.out.2.1, HIX.out.2.2]
      have h15 := h14.swap
      have l0 := blk_lt h15.lies
      have f0 := fun j => blk_frozen h15.lies j
      have q0 := blk_cell h15.lies 0
      have q1 := blk_cell h15.lies 1
      have q2 := blk_cell h15.lies 2
      have H15 := Lib.hid h15
      clear h14 h15 H13
      go_wp2_with fail
      go_meet
      exact ⟨anc, HH, Lib.hid (((H15.out.set 0 _).set 1 _).set 2 _)⟩
  obtain ⟨anc, HAN, H13⟩ := hcut
  clear H12 H11 HCA
  go_wp2_with fail
  refine elems_any H13.out.swap ?_
  intro v1 w10 _ h14
  obtain ⟨E1, k1, rfl, -⟩ := h14.readsA.at_
  have H14 := Lib.hid h14.drop
  clear h14 H13
  go_wp2_with fail
  refine place_any H14.out ⟨by omega, by omega⟩ fun w11 h15 => ?_
  rw [HPL.out.2]
  have H15 := Lib.hid h15
  clear h15 H14
  go_wp2_with fail
  obtain ⟨bx, hbx⟩ : ∃ bx, w11.heap.size = bx := ⟨_, rfl⟩
  obtain ⟨x, hx⟩ : ∃ x : El, x = ⟨-77, ch, (V : Nat)⟩ := ⟨_, rfl⟩
  have h16 := (H15.out.alloc (elO ⟨-77, ch, (V : Nat)⟩)).alloc (elO ⟨-77, ch, (V : Nat)⟩)
  rw [World.size_alloc, hbx] at h16
  have h17 := (h16.shutA (sz := 3) (n := 1) (cap := 1) (cs := elsC [⟨-77, ch, (V : Nat)⟩]) (Nat.le_refl _) (by decide) rfl rfl).pull 2
  change St k ((w11.alloc (.cells #[.int .i64 (-77), .int .i32 ch, .int .i64 (V : Nat)] 39)).alloc (.cells #[.int .i64 (-77), .int .i32 ch, .int .i64 (V : Nat)] 39)) (Rope g (polOf p) es c :: rowA 39 3 (.slice (some ⟨bx + 1, 0, none⟩) 1 1) 1 (elsC [⟨-77, ch, (V : Nat)⟩]) :: pt bx (elO ⟨-77, ch, (V : Nat)⟩) :: pt bq (elO anc) :: polS p A0 A1 A2 c0 c1 c2 :: dosS A cp ds :: pt B (.cells (polC p A0 A1 A2 c0 c1 c2) 26 (0, 0)) :: L) at h17
  rw [← hx] at h17
  rw [hbx]
  have HX0 := Lib.hid hx
  have hins := insert_one (P := polOf p) (es := es) (I := I) (V := V) hx HV.out HPL.out.1 (by have := HO.out.2.1; omega)
  have H17 := Lib.hid h17
  clear h16 h17 H15 hbx hx
  refine insert_any (l := [x]) H17.out (rowLike_A 39 3 (.slice (some ⟨bx + 1, 0, none⟩) 1 1) 1 (elsC [x])) rfl (by decide) ⟨by omega, by omega⟩ (fun _ => by have := HO.out.2.2; simp; omega) ?_
  rw [hins]
  intro w12 h18
  cases hrk : runeOk ch
  · rw [hrk] at h18 hins
    simp only [Bool.false_eq_true, if_false] at h18 hins ⊢
    rw [if_neg (by decide)] at h18
    have h19 := h18.swap.drop
    have b0 := blk_cell h19.swap.lies 0
    have b1 := blk_cell h19.swap.lies 1
    have b2 := blk_cell h19.swap.lies 2
    change _ = some (Value.int .i64 x.id) at b0
    change _ = some (Value.int .i32 x.rune) at b1
    change _ = some (Value.int .i64 x.label) at b2
    have h20 := h19.alloc (elO x)
    have h21 : St k (w12.alloc (.cells #[.int .i64 x.id, .int .i32 x.rune, .int .i64 x.label] 39)) (Rope g (polOf p) es c :: rowA 39 3 (.slice (some ⟨w12.heap.size, 0, none⟩) 1 1) 1 (elsC [x]) :: pt bx (elO x) :: pt bq (elO anc) :: polS p A0 A1 A2 c0 c1 c2 :: dosS A cp ds :: pt B (.cells (polC p A0 A1 A2 c0 c1 c2) 26 (0, 0)) :: L) := (h20.shutA (sz := 3) (n := 1) (cap := 1) (cs := elsC [x]) (Nat.le_refl _) (by decide) rfl rfl).pull 1
    have H21 := Lib.hid h21
    have HINS := Lib.hid hins
    clear h18 h19 h20 h21 H17 HX0 hins hrk
    go_wp2_with fail
    refine insert_any (l := [x]) H21.out (rowLike_A 39 3 (.slice (some ⟨w12.heap.size, 0, none⟩) 1 1) 1 (elsC [x])) rfl (by decide) ⟨by omega, by omega⟩ (fun _ => by have := HO.out.2.2; simp; omega) ?_
    rw [HINS.out]
    intro w13 h22
    have H22 := Lib.hid h22.drop.drop.drop.drop
    clear h22 H21 b0 b1 b2
    go_wp2_with fail
    refine awake_any H22.out fun w14 h23 => ?_
    have HX := Lib.hid (HR.out _ h23)
    clear h23
    go_wp2
    exact HX.out
  · rw [hrk] at h18 hins
    simp only [if_true] at h18 hins ⊢
    have h19 : St k w12 (Rope g (polOf p) (es.take I ++ [x] ++ es.drop I) (c + 1) :: pt bx (elO x) :: pt bq (elO anc) :: polS p A0 A1 A2 c0 c1 c2 :: dosS A cp ds :: pt B (.cells (polC p A0 A1 A2 c0 c1 c2) 26 (0, 0)) :: L) := h18.swap.drop
    have H19 := Lib.hid h19
    have HHX : Hid (x.label = (V : Nat) ∧ x.id = -77 ∧ x.rune = ch) := Lib.hid (by rw [HX0.out]; exact ⟨rfl, rfl, rfl⟩)
    clear h18 h19 hins H17 HX0
    obtain ⟨y0, y1, y2⟩ := boxP (H19.out.pull 5)
    rw [HN.out] at y0
    go_wp2_with fail
    clear y0 y1 y2
    go_loopw [117] (fun i wr => ∃ q : Nat, q ≤ N ∧ i = .int .i64 q ∧ Hid (St k wr (Rope g (polOf p) (es.take I ++ [x] ++ es.drop I) (c + 1) :: pt bx (elO x) :: pt bq (elO anc) :: polS p A0 A1 A2 c0 c1 c2 :: dosS A cp ds :: pt B (.cells (polC p A0 A1 A2 c0 c1 c2) 26 (0, 0)) :: L))) (fun i _ => N - (intOf i).toNat)
    case atStart => exact ⟨0, by omega, rfl, H19⟩
    case round =>
      obtain ⟨q, hq, rfl, HW⟩ := hrel
      by_cases hlt : q < N
      · have g1 : (q : Int) < (N : Int) := by omega
        obtain ⟨y0, y1, y2⟩ := boxP (HW.out.pull 5)
        rw [HN.out] at y0
        have hsb := sees_any p (q : Nat) (V : Nat) A0 A1 A2 c0 c1 c2 wr (polS_out (HW.out.pull 3)).1
        rw [HN.out] at hsb
        obtain ⟨s, hs⟩ : ∃ s, seesB p (q : Nat) (V : Nat) = s := ⟨_, rfl⟩
        rw [hs] at hsb
        have HSB := Lib.hid hsb
        have HSS := Lib.hid hs
        clear hsb hs
        go_wp2_with fail
        refine HSB.out.mono ?_
        rintro _ w13 ⟨rfl, hb⟩
        have H20 := Lib.hid (st_later HW.out hb)
        clear hb HSB HW y0 y1 y2
        cases s
        · go_wp2_with fail
          go_roundw
          case rel => exact ⟨q + 1, by omega, by go_num, H20⟩
          case measure => simp [intOf]; omega
        · go_wp2_with fail
          refine seenx_any H20.out ?_
          intro u w14 _ h21
          obtain ⟨A5, k5, rfl, -⟩ := h21.readsA.at_
          have hhq : (polOf p).has (q : Nat) = true := Pol.has_iff.2 ⟨by omega, by show (q : Int) < (p.labels.length : Int); rw [HN.out]; exact g1⟩
          have hxs : (polOf p).see q x.label = true := by rw [HHX.out.1, polOf_see p (by omega) hVN]; exact HSS.out
          obtain ⟨l1, l2, l3⟩ := left_law hhq HPL.out.1 hxs
          obtain ⟨SL, hSL⟩ : ∃ SL, seenE (polOf p) (q : Nat) (es.take I ++ [x] ++ es.drop I) = SL := ⟨_, rfl⟩
          rw [hSL] at h21 l2 l3 ⊢
          have H21 := Lib.hid (h21.pull 1)
          clear h21 H20 hhq hxs
          go_wp2_with fail
          refine view_any H21.out fun w15 h22 => ?_
          rw [l1]
          clear l1
          obtain ⟨nn, hnn⟩ : ∃ nn, seenN (polOf p) q (es.take I) = nn := ⟨_, rfl⟩
          rw [hnn] at l2 l3 ⊢
          have hlt2 : nn < SL.length := (List.getElem?_eq_some_iff.1 l2).1
          have hrd := (h22.pull 1).readsA
          obtain ⟨b5, o5, rfl, hcell⟩ := reads_el hrd rfl (by omega)
          have e0 := hcell nn x 0 _ l2 rfl
          have e1 := hcell nn x 1 _ l2 rfl
          have e2 := hcell nn x 2 _ l2 rfl
          rw [Nat.add_zero] at e0
          have b0 := blk_cell (h22.pull 2).lies 0
          have b1 := blk_cell (h22.pull 2).lies 1
          have b2 := blk_cell (h22.pull 2).lies 2
          change _ = some (Value.int .i64 x.id) at b0
          change _ = some (Value.int .i32 x.rune) at b1
          change _ = some (Value.int .i64 x.label) at b2
          have a0 := blk_cell (h22.pull 3).lies 0
          have a1 := blk_cell (h22.pull 3).lies 1
          have a2 := blk_cell (h22.pull 3).lies 2
          change _ = some (Value.int .i64 anc.id) at a0
          change _ = some (Value.int .i32 anc.rune) at a1
          change _ = some (Value.int .i64 anc.label) at a2
          have hll : SL.length ≤ 10000 := by
            rw [← hSL]
            have hh : (seenE (polOf p) (q : Nat) (es.take I ++ [x] ++ es.drop I)).length ≤ (es.take I ++ [x] ++ es.drop I).length := by
              unfold seenE
              split
              · exact List.length_filter_le _ _
              · simp
            have := HPL.out.1
            have := HO.out.2.1
            rw [List.length_append, List.length_append, List.length_take, List.length_drop] at hh
            simp only [List.length_cons, List.length_nil] at hh
            omega
          obtain ⟨SM, hSM⟩ : ∃ SM, SL.length = SM := ⟨_, rfl⟩
          rw [hSM] at hlt2 hll
          have hlt3 : (nn : Int) < (SM : Int) := by omega
          have hlt4 : (SM : Int) ≤ 10000 := by omega
          have d1 : decide (SM ≤ nn) = false := decide_eq_false (by omega)
          have H22 := Lib.hid (h22.swap.drop)
          rw [hSM]
          rcases HAN.out with ⟨ht, hi0⟩ | ⟨pre, m, ht, htk, hsa⟩
          · have hn0 : nn = 0 := by rw [← hnn, hi0]; rfl
            clear HAN
            have t1 : ((T : Int) == 0) = true := by rw [ht]; rfl
            have t2 : (T : Int) ≤ 0 := by omega
            have t3 : ((nn : Int) == 0) = true := by rw [hn0]; rfl
            have t4 : ((nn : Int) != 0) = false := by rw [hn0]; rfl
            have t5 : decide (0 < T) = false := decide_eq_false (by omega)
            have t6 : decide (0 < (T : Int)) = false := decide_eq_false (by omega)
            clear hlt2 ht hn0 hi0 hTb
            clear l2 l3 hcell hrd h22 hnn hSL hSM H21 HPL
            go_upto_region 21 with fail
            go_quiet (fail)
            have H23 := Lib.hid (H22.out.drewN nq)
            clear H22 e0 e1 e2 a0 a1 a2 b0 b1 b2
            go_wp2_with fail
            go_roundw
            case rel => exact ⟨q + 1, by omega, by go_num, H23⟩
            case measure => simp [intOf]; omega
          · have hlab := HO.out.1.lab anc (List.mem_of_mem_take (i := I) (by rw [htk]; simp))
            have hsa2 : (polOf p).see q anc.label = true := by
              obtain ⟨al, hal⟩ : ∃ al : Nat, anc.label = al := ⟨anc.label.toNat, by omega⟩
              have hal2 : anc.label < (p.labels.length : Int) := hlab.2
              have hal3 : al < 32 := by rw [HN.out] at hal2; omega
              rw [hal] at hsa ⊢
              rw [polOf_see p hVN hal3] at hsa
              rw [polOf_see p (by omega) hal3]
              exact sees_trans HF.out.2 HSS.out hsa
            obtain ⟨m2, hm2, l4⟩ := l3 pre anc htk hsa2
            have f0 := hcell m2 anc 0 _ l4 rfl
            have f1 := hcell m2 anc 1 _ l4 rfl
            have f2 := hcell m2 anc 2 _ l4 rfl
            rw [Nat.add_zero] at f0
            have t1 : ((T : Int) == 0) = false := by simp; omega
            have t2 : 0 < (T : Int) := by omega
            have t3 : ((nn : Int) == 0) = false := by simp; omega
            have t5 : 0 < T := by omega
            have t4 : (nn : Int) - 1 = (m2 : Int) := by omega
            have d3 : (m2 : Int) < (SM : Int) := by omega
            have d4 : (m2 : Int) ≤ 10000 := by omega
            clear hlt2 hm2
            clear HAN l2 l3 l4 hcell hrd h22 hnn hSL hSM H21 HPL ht htk hsa hsa2 hlab
            go_upto_region 21 with fail
            go_quiet (fail)
            have H23 := Lib.hid (H22.out.drewN nq)
            clear H22 e0 e1 e2 a0 a1 a2 b0 b1 b2 f0 f1 f2
            go_wp2_with fail
            go_roundw
            case rel => exact ⟨q + 1, by omega, by go_num, H23⟩
            case measure => simp [intOf]; omega
      · obtain rfl : q = N := by omega
        go_wp2_with fail
        refine len_any HW.out fun w13 h20 => ?_
        have hln : (es.take I ++ [x] ++ es.drop I).length = es.length + 1 := by
          have := HPL.out.1
          simp; omega
        rw [hln]
        have H20 := Lib.hid h20.drop.drop.drop
        have hel3 : (es.length : Int) ≤ 8600 := by have := HO.out.2.1; omega
        clear h20 HW hln
        go_wp2_with fail
        refine awake_any H20.out fun w14 h21 => ?_
        have HX := Lib.hid (HR.out _ h21)
        clear h21
        go_wp2
        exact HX.out
end
end Go.Proofs.Ytdgaffcfcgmfnaa
