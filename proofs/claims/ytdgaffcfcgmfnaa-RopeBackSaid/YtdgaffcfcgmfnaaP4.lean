/- RopeBack: the walk. -/
import Derived.Test.YtdgaffcfcgmfnaaP3
namespace Go.Proofs.Ytdgaffcfcgmfnaa
open Go.RowKit Go.Sl

section
variable {k w : World} {L : List Asn} {A A0 A1 A2 M : Option Addr} {cp c0 c1 c2 cm : Nat} {ds : List DoM} {p : PV} {more : List El} {R : Ending → World → Prop} {i n : Int}
set_option maxRecDepth 100000 in
set_option maxHeartbeats 4000000 in
theorem back_walk (h : St k w (polS p A0 A1 A2 c0 c1 c2 :: dosS A cp ds :: rowS 3 (.slice M more.length cm) more.length (elsC more) :: L)) (hf : Fits ds) (hi : I64 i) (hn : I64 n) (hsz : ds.length * 64 ≤ 140737488351232) (hR : ∀ w', St k w' L → R (.returned (.bool true)) w') :
    Calls Try.prog 6 #[polV p A0 A1 A2 c0 c1 c2, .slice A ds.length cp, .int .i64 i, .int .i64 n, .slice M more.length cm] w R := by
  obtain ⟨B, hB⟩ : ∃ B, w.heap.size = B := ⟨_, rfl⟩
  let d : DoM := { op := 0, i := 0, n := 0, label := 0, L := more, wide := false, A := M, cp := cm }
  have h1 := (h.alloc (.cells (polC p A0 A1 A2 c0 c1 c2) 26)).alloc (.cells (doC d).toArray 48)
  simp only [World.size_alloc, hB] at h1
  have h2 := h1.shutA (sz := 6) (n := 1) (cap := 1) (cs := doC d) (Nat.le_refl _) (by decide) rfl rfl
  have hrd := St.readsS ((h1.pull 3).head (B := rowS 6 (.slice A ds.length cp) ds.length (ds.flatMap doC)) fun _ _ hA => Asg.mono _ (PH.none_le _) (PH.le.refl _) hA.1)
  have HSL := Lib.hid (show 1 + ds.length ≤ maxLen ∧ (1 + ds.length) * 64 ≤ 140737488355328 from ⟨by unfold maxLen; omega, by omega⟩)
  have hmx : (more.length : Int) ≤ 9223372036854775807 := by
    obtain ⟨A', c', hv, q1, q2, -⟩ := (St.readsS (h.pull 2)).at_
    have := minLen q2
    omega
  have H2 := Lib.hid h2
  have HRD := Lib.hid hrd
  have HR := Lib.hid hR
  have HF := Lib.hid (And.intro hf (And.intro hi hn))
  have hNmax : (ds.length : Int) ≤ 140737488351232 := by omega
  clear h h1 h2 hrd hR hf hi hn hsz
  unfold polV
  go_enter Try.func6, Try.ntmps6
  go_wp2_with (at_builtin; refine wpList_append rfl _ _ rfl Try.underlying27 info48 rfl (by decide) (n := 1) (cs := doC d) H2.out HRD.out rfl rfl (doC_one ds) HSL.out.1 HSL.out.2 ?_; intro v' w5 h6 h7; obtain ⟨A5, c5, rfl, -⟩ := h6.readsA.at_; have H6 := Lib.hid h6; clear h6 h7 H2 HRD)
  have h7 := dos_cons (d := d) (show 1 + ds.length = (d :: ds).length by simp; omega) rfl (((H6.out.pull 3).pull 4).pull 2)
  rw [show 1 + ds.length = (d :: ds).length by simp; omega]
  refine short_any h7 ?_
  have H7 := Lib.hid (h7.drop.pull 3)
  clear h7 H6
  change Hid (St k w5 (polS p A0 A1 A2 c0 c1 c2 :: rowS 3 (.slice M more.length cm) more.length (elsC more) :: dosS A cp ds :: pt B (.cells (polC p A0 A1 A2 c0 c1 c2) 26 (0, 0)) :: L)) at H7
  cases hs : shortB (d :: ds)
  · clear hs
    go_wp2_with fail
    refine awake_any H7.out.drop.drop.drop.drop fun w6 h8 => ?_
    have HX := Lib.hid (HR.out _ h8)
    clear h8
    go_wp2
    exact HX.out
  · have HS := Lib.hid hs
    clear hs
    obtain ⟨y0, y1, y2⟩ := boxP (H7.out.pull 3)
    go_wp2_with fail
    refine small_st (p := p) (A0 := A0) (A1 := A1) (A2 := A2) (c0 := c0) (c1 := c1) (c2 := c2) H7.out fun w6 h8 => ?_
    have H8 := Lib.hid h8
    clear h8 H7 y0 y1 y2
    cases hsm : smallB p
    · clear hsm
      go_wp2_with fail
      refine awake_any H8.out.drop.drop.drop.drop fun w7 h9 => ?_
      have HX := Lib.hid (HR.out _ h9)
      clear h9
      go_wp2
      exact HX.out
    · clear hsm
      obtain ⟨y0, y1, y2⟩ := boxP (H8.out.pull 3)
      go_wp2_with fail
      refine right_st (p := p) (A0 := A0) (A1 := A1) (A2 := A2) (c0 := c0) (c1 := c1) (c2 := c2) H8.out fun w7 h9 => ?_
      have H9 := Lib.hid h9
      clear h9 H8 y0 y1 y2
      by_cases hr : rightN p = 0
      case neg =>
        have hr2 : (rightN p == 0) = false := by simpa using hr
        clear hr
        go_wp2_with fail
        refine awake_any H9.out.drop.drop.drop.drop fun w8 h10 => ?_
        have HX := Lib.hid (HR.out _ h10)
        clear h10
        go_wp2
        exact HX.out
      case pos =>
        have HRN := Lib.hid hr
        rw [hr]
        clear hr
        obtain ⟨y0, y1, y2⟩ := boxP (H9.out.pull 3)
        go_wp2_with fail
        have hcs := cntL_short HS.out
        have hcd : cntL (d :: ds) = more.length + cntL ds := rfl
        rw [hcd] at hcs
        have HCS := Lib.hid hcs
        refine made_any (H9.out.pull 2).swap HRN.out HF.out.1 (by omega) ?_
        intro g w8 h10
        clear y0 y1 y2 hcd hcs
        obtain ⟨P, hP⟩ : ∃ P, polOf p = P := ⟨_, rfl⟩
        rw [hP] at h10
        have hel := madeP_len P ds []
        obtain ⟨es, hes⟩ : ∃ es, madeP P [] ds = es := ⟨_, rfl⟩
        rw [hes] at h10 hel
        obtain ⟨r, -, ho⟩ := Rope.out h10
        have HO := Lib.hid (And.intro ho.fit (And.intro ho.len hel))
        have H10 := Lib.hid h10
        clear h10 H9 hP hes ho hel
        go_wp2_with fail
        refine elems_any H10.out ?_
        intro v1 w9 _ h11
        obtain ⟨E1, k1, rfl, -⟩ := h11.readsA.at_
        have H11 := Lib.hid h11.swap
        clear h11 H10
        obtain ⟨N, hN⟩ : ∃ N, es.length = N := ⟨_, rfl⟩
        rw [hN] at H11 ⊢
        have hN2 : (N : Int) ≤ 1048576 := by have := HO.out.2.1; omega
        have HN := Lib.hid hN
        clear hN
        obtain ⟨I, hI, hI2⟩ := rem_small i (N := N) (by omega)
        obtain ⟨D, hD⟩ : ∃ D, N - I = D := ⟨_, rfl⟩
        obtain ⟨J, hJ, hJ2⟩ := rem_small n (N := D) (by omega)
        have hD2 : wrap64 ((N : Int) - (I : Int)) = (D : Int) := by unfold wrap64; omega
        have hD3 : (D : Int) ≤ 1048576 := by omega
        have hIJ : I + J ≤ N := by omega
        have HIJ := Lib.hid hIJ
        have HI := Lib.hid (show I64 (I : Int) ∧ I64 (J : Int) from ⟨⟨by omega, by omega⟩, ⟨by omega, by omega⟩⟩)
        clear hD hI hJ hIJ
        go_wp2_with fail
        have hIJ2 : I + J ≤ es.length := by rw [HN.out]; exact HIJ.out
        refine remove_any H11.out HI.out.1 HI.out.2 (by have := HCS.out; omega) ?_
        rw [remove_ok hIJ2]
        intro v2 w10 h12
        simp only at h12 ⊢
        have hgl : ((es.drop I).take J).length = J := by simp; omega
        have hib := insert_back hIJ2 HO.out.1 HO.out.2.1
        obtain ⟨gone, hgone⟩ : ∃ gone, (es.drop I).take J = gone := ⟨_, rfl⟩
        obtain ⟨rest, hrest⟩ : ∃ rest, es.take I ++ es.drop (I + J) = rest := ⟨_, rfl⟩
        rw [hgone, hrest] at h12 hib
        rw [hgone] at hgl
        obtain ⟨E2, k2, rfl, -⟩ := h12.readsA.at_
        have HB := Lib.hid (And.intro hgl hib)
        have H12 := Lib.hid h12.swap
        clear h12 hib hgl hgone hrest H11 hIJ2
        go_wp2_with fail
        refine insert_any (l := gone) H12.out (rowLike_A 39 3 (.slice E2 gone.length k2) gone.length (elsC gone)) rfl (by have := HI.out.2.2; rw [HB.out.1]; unfold maxLen; omega) HI.out.1 (fun _ => by have := HCS.out; have := HB.out.1; have := HO.out.2.2; have := HN.out; have := HIJ.out; simp at *; omega) ?_
        rw [HB.out.2]
        intro w11 h13
        have h14 := Rope_mono h13 (show _ ≤ 20000 by have := HCS.out; have := HB.out.1; have := HO.out.2.2; have := HN.out; have := HIJ.out; simp at *; omega)
        have H14 := Lib.hid h14
        clear h13 h14 H12
        go_wp2_with fail
        refine elems_any H14.out ?_
        intro v3 w12 _ h15
        obtain ⟨E3, k3, rfl, -⟩ := h15.readsA.at_
        have H15 := Lib.hid (h15.pull 3)
        clear h15 H14
        go_wp2_with fail
        have hN3 := HN.out
        refine same_any (a := es) (b := es) H15.out (rowLike_A 39 3 (.slice E1 N k1) N (elsC es)) (rowLike_A 39 3 (.slice E3 es.length k3) es.length (elsC es)) hN3.symm rfl ?_
        intro w13 h16
        rw [decide_eq_true (rfl : es = es)]
        have H17 := Lib.hid ((h16.pull 6).pull 3)
        clear h16 H15
        go_wp2_with fail
        refine insert_any (l := more) H17.out (rowLike_S 3 (.slice M more.length cm) more.length (elsC more)) rfl (by unfold maxLen; omega) HI.out.1 (fun _ => by have := HCS.out; omega) ?_
        intro w14 h18
        have hIe : I ≤ es.length := by have := HIJ.out; rw [HN.out]; omega
        have hth := insert_then (P := P) (es := es) (l := more) (i := I)
        have her := insert_err (P := P) (es := es) (l := more) (i := (I : Int))
        obtain ⟨res, hres⟩ : ∃ res, insertP P es (I : Int) more = res := ⟨_, rfl⟩
        rw [hres] at h18 hth her ⊢
        obtain ⟨er, es'⟩ := res
        simp only at h18 hth her ⊢
        have h19 := Rope_mono h18 (show _ ≤ 30000 by have := HCS.out; split <;> omega)
        by_cases he : er = 0
        · obtain rfl := hth he
          subst he
          have hrp := remove_put (es := es) (l := more) hIe
          have HRP := Lib.hid hrp
          have H19 := Lib.hid h19
          clear h18 hth her hrp h19 hres hIe
          go_wp2_with fail
          refine remove_any H19.out HI.out.1 ⟨by omega, by omega⟩ (by omega) ?_
          rw [HRP.out]
          intro v4 w15 h20
          simp only at h20 ⊢
          obtain ⟨E4, k4, rfl, -⟩ := h20.readsA.at_
          have H20 := Lib.hid ((h20.pull 2).pull 1)
          clear h20 H19
          go_wp2_with fail
          refine same_any (a := more) (b := more) H20.out (rowLike_A 39 3 (.slice E4 more.length k4) more.length (elsC more)) (rowLike_S 3 (.slice M more.length cm) more.length (elsC more)) rfl rfl ?_
          intro w16 h21
          rw [decide_eq_true (rfl : more = more)]
          have H21 := Lib.hid (h21.pull 2)
          clear h21 H20
          go_wp2_with fail
          refine elems_any H21.out ?_
          intro v5 w17 _ h22
          obtain ⟨E5, k5, rfl, -⟩ := h22.readsA.at_
          rw [HN.out] at h22
          have H22 := Lib.hid (h22.pull 4)
          clear h22 H21
          go_wp2_with fail
          refine same_any (a := es) (b := es) H22.out (rowLike_A 39 3 (.slice E1 N k1) N (elsC es)) (rowLike_A 39 3 (.slice E5 N k5) N (elsC es)) HN.out.symm HN.out.symm ?_
          intro w18 h23
          rw [decide_eq_true (rfl : es = es)]
          have H23 := Lib.hid h23.drop.drop.drop.drop.drop.drop.drop.drop.drop.drop
          clear h23 H22
          go_wp2_with fail
          refine awake_any H23.out fun w19 h24 => ?_
          have HX := Lib.hid (HR.out _ h24)
          clear h24
          go_wp2
          exact HX.out
        · obtain rfl := her he
          have he2 : (er == 0) = false := by simpa using he
          have H19 := Lib.hid h19
          clear h18 hth her h19 hres hIe he
          go_wp2_with fail
          refine elems_any H19.out ?_
          intro v4 w15 _ h20
          obtain ⟨E4, k4, rfl, -⟩ := h20.readsA.at_
          have hN4 := HN.out
          rw [hN4] at h20
          have H20 := Lib.hid (h20.pull 3)
          clear h20 H19
          go_wp2_with fail
          refine same_any (a := es') (b := es') H20.out (rowLike_A 39 3 (.slice E1 N k1) N (elsC es')) (rowLike_A 39 3 (.slice E4 N k4) N (elsC es')) HN.out.symm HN.out.symm ?_
          intro w16 h21
          rw [decide_eq_true (rfl : es' = es')]
          have H21 := Lib.hid h21.drop.drop.drop.drop.drop.drop.drop.drop.drop
          clear h21 H20
          go_wp2_with fail
          refine awake_any H21.out fun w17 h22 => ?_
          have HX := Lib.hid (HR.out _ h22)
          clear h22
          go_wp2
          exact HX.out
end
end Go.Proofs.Ytdgaffcfcgmfnaa
