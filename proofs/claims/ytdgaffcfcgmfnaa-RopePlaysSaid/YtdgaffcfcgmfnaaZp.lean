/- RopeRefused: the walk. RopeRefused: the walk. -/
import Derived.Test.YtdgaffcfcgmfnaaZo
namespace Go.Proofs.Ytdgaffcfcgmfnaa
open Go.RowKit Go.Sl

theorem info48 : (Try.prog.info? 48).map (fun i => (i.zero, i.size, i.bytes)) = some (some (.agg #[.int .i64 0, .int .i64 0, .int .i64 0, .int .i64 0, .slice none 0 0, .bool false]), 6, 64) := by kernel_rfl
theorem doC_one (ds : List DoM) : ∀ u ∈ ds.flatMap doC, u.oneCell' = true := by
  intro u hu
  obtain ⟨d, -, hd⟩ := List.mem_flatMap.1 hu
  simp only [doC, List.mem_cons, List.not_mem_nil, or_false] at hd
  rcases hd with rfl | rfl | rfl | rfl | rfl | rfl <;> rfl
/-- What has an error changes nothing. -/
theorem doP_err {P : Pol} {es : List El} {d : DoM} (h : (doP P es d).2.1 ≠ 0) : (doP P es d).1 = [] ∧ (doP P es d).2.2 = es := by
  unfold doP at h ⊢
  split
  · rename_i h1
    rw [if_pos h1] at h
    unfold removeP at h ⊢
    split
    · exact ⟨rfl, rfl⟩
    · rename_i h2; rw [if_neg h2] at h; exact absurd rfl h
  · rename_i h1
    rw [if_neg h1] at h
    split
    · rename_i h3
      rw [if_pos h3] at h
      unfold relabelP at h ⊢
      split
      · exact ⟨rfl, rfl⟩
      · rename_i h4
        rw [if_neg h4] at h
        split
        · rename_i h5; rw [if_pos h5] at h; exact absurd rfl h
        · exact ⟨rfl, rfl⟩
    · rename_i h3
      rw [if_neg h3] at h
      unfold insertP at h ⊢
      split
      · exact ⟨rfl, rfl⟩
      · rename_i h4
        rw [if_neg h4] at h
        split
        · rename_i h5; rw [if_pos h5] at h; exact absurd rfl h
        · exact ⟨rfl, rfl⟩
section
variable {k w : World} {L : List Asn} {A A0 A1 A2 : Option Addr} {cp c0 c1 c2 : Nat} {ds : List DoM} {d : DoM} {p : PV} {R : Ending → World → Prop}
theorem dos_cons {A' : Option Addr} {c' n : Nat} {cs : List Value} (hn : n = (d :: ds).length) (hc : cs = (d :: ds).flatMap doC) (h : St k w (rowA 48 6 (.slice A' n c') n cs :: doS d :: dosS A cp ds :: L)) : St k w (dosS A' c' (d :: ds) :: doS d :: dosS A cp ds :: L) := by
  subst hn hc
  refine h.freezeA.imp fun m p hA => ?_
  obtain ⟨m1, m2, a, k1, k2, hR, hB⟩ := hA
  refine ⟨PH.none, m, PH.none_apart _, PH.none_le _, PH.le.refl _, ⟨hR, fun d' hd' => ?_⟩, hB.mono k2 (PH.le.refl _)⟩
  obtain ⟨n1, n2, b, l1, l2, hD, o1, o2, e, j1, j2, hS, -⟩ := hB
  rcases List.mem_cons.1 hd' with rfl | hd'
  · exact hD
  · exact hS.2 d' hd'
end
end Go.Proofs.Ytdgaffcfcgmfnaa
namespace Go.Proofs.Ytdgaffcfcgmfnaa
open Go.RowKit Go.Sl

section
variable {k w : World} {L : List Asn} {A A0 A1 A2 : Option Addr} {cp c0 c1 c2 : Nat} {ds : List DoM} {d : DoM} {p : PV} {R : Ending → World → Prop}
abbrev polC (p : PV) (A0 A1 A2 : Option Addr) (c0 c1 c2 : Nat) : Array Value := #[.slice A0 p.labels.length c0, .slice A1 p.quotas.length c1, .slice A2 p.entries.length c2]
def smallB (p : PV) : Bool := decide (p.labels.length ≤ 100) && decide (p.quotas.length ≤ 100) && decide (p.entries.length ≤ 100)
/-- A policy's box, in a world. -/
theorem boxP {B : Nat} (h : St k w (pt B (.cells (polC p A0 A1 A2 c0 c1 c2) 26 (0, 0)) :: L)) : w.cell? ⟨B, 0, none⟩ = some (.slice A0 p.labels.length c0) ∧ w.cell? ⟨B, 1, none⟩ = some (.slice A1 p.quotas.length c1) ∧ w.cell? ⟨B, 2, none⟩ = some (.slice A2 p.entries.length c2) :=
  ⟨blk_cell h.lies 0, blk_cell h.lies 1, blk_cell h.lies 2⟩
theorem boxD {B : Nat} (h : St k w (pt B (.cells (doC d).toArray 48 (0, 0)) :: L)) : w.cell? ⟨B, 0, none⟩ = some (.int .i64 d.op) ∧ w.cell? ⟨B, 1, none⟩ = some (.int .i64 d.i) ∧ w.cell? ⟨B, 2, none⟩ = some (.int .i64 d.n) ∧ w.cell? ⟨B, 3, none⟩ = some (.int .i64 d.label) ∧ w.cell? ⟨B, 4, none⟩ = some (.slice d.A d.L.length d.cp) ∧ w.cell? ⟨B, 5, none⟩ = some (.bool d.wide) :=
  ⟨blk_cell h.lies 0, blk_cell h.lies 1, blk_cell h.lies 2, blk_cell h.lies 3, blk_cell h.lies 4, blk_cell h.lies 5⟩
theorem small_st (h : St k w L) (hR : ∀ w', St k w' L → R (.returned (.bool (smallB p))) w') : Calls Try.prog 14 #[polV p A0 A1 A2 c0 c1 c2] w R :=
  small_any fun w' hb => hR w' (st_later h hb)
theorem right_st (h : St k w (polS p A0 A1 A2 c0 c1 c2 :: L)) (hR : ∀ w', St k w' (polS p A0 A1 A2 c0 c1 c2 :: L) → R (.returned (.int .i64 (rightN p))) w') : Calls Try.prog 15 #[polV p A0 A1 A2 c0 c1 c2] w R := by
  obtain ⟨q0, q1, q2, q3⟩ := polS_out h
  exact (right_any p A0 A1 A2 c0 c1 c2 w q0 q1 q2 q3).mono fun e w' ⟨he, hb⟩ => he ▸ hR w' (st_later h hb)
set_option maxRecDepth 100000 in
set_option maxHeartbeats 4000000 in
theorem refused_walk (h : St k w (polS p A0 A1 A2 c0 c1 c2 :: dosS A cp ds :: doS d :: L)) (hf : Fits ds) (hi : I64 d.i) (hn : I64 d.n) (hsz : ds.length * 64 ≤ 140737488351232) (hR : ∀ w', St k w' L → R (.returned (.bool true)) w') :
    Calls Try.prog 5 #[polV p A0 A1 A2 c0 c1 c2, .slice A ds.length cp, doV d] w R := by
  obtain ⟨B, hB⟩ : ∃ B, w.heap.size = B := ⟨_, rfl⟩
  have h1 := ((h.alloc (.cells (polC p A0 A1 A2 c0 c1 c2) 26)).alloc (.cells (doC d).toArray 48)).alloc (.cells (doC d).toArray 48)
  simp only [World.size_alloc, hB] at h1
  have h2 := h1.shutA (sz := 6) (n := 1) (cap := 1) (cs := doC d) (Nat.le_refl _) (by decide) rfl rfl
  have hrd := St.readsS ((h1.pull 4).head (B := rowS 6 (.slice A ds.length cp) ds.length (ds.flatMap doC)) fun _ _ hA => Asg.mono _ (PH.none_le _) (PH.le.refl _) hA.1)
  have HSL := Lib.hid (show 1 + ds.length ≤ maxLen ∧ (1 + ds.length) * 64 ≤ 140737488355328 from ⟨by unfold maxLen; omega, by omega⟩)
  have H2 := Lib.hid h2
  have HRD := Lib.hid hrd
  have HR := Lib.hid hR
  have HF := Lib.hid (And.intro hf (And.intro hi hn))
  have hNmax : (ds.length : Int) ≤ 140737488351232 := by omega
  clear h h1 h2 hrd hR hf hi hn hsz
  unfold polV doV
  go_enter Try.func5, Try.ntmps5
  go_wp2_with (at_builtin; refine wpList_append rfl _ _ rfl Try.underlying27 info48 rfl (by decide) (n := 1) (cs := doC d) H2.out HRD.out rfl rfl (doC_one ds) HSL.out.1 HSL.out.2 ?_; intro v' w5 h6 h7; obtain ⟨A5, c5, rfl, -⟩ := h6.readsA.at_; have H6 := Lib.hid h6; clear h6 h7 H2 HRD)
  have h7 := dos_cons (d := d) (show 1 + ds.length = (d :: ds).length by simp; omega) rfl (((H6.out.pull 4).pull 5).pull 2)
  rw [show 1 + ds.length = (d :: ds).length by simp; omega]
  refine short_any h7 ?_
  have H7 := Lib.hid (h7.drop.pull 4)
  clear h7 H6
  change Hid (St k w5 (polS p A0 A1 A2 c0 c1 c2 :: doS d :: dosS A cp ds :: pt (B + 1) (.cells (doC d).toArray 48 (0, 0)) :: pt B (.cells (polC p A0 A1 A2 c0 c1 c2) 26 (0, 0)) :: L)) at H7
  cases hs : shortB (d :: ds)
  · clear hs
    go_wp2_with fail
    refine awake_any H7.out.drop.drop.drop.drop.drop fun w6 h8 => ?_
    have HX := Lib.hid (HR.out _ h8)
    clear h8
    go_wp2
    exact HX.out
  · have HS := Lib.hid hs
    clear hs
    obtain ⟨y0, y1, y2⟩ := boxP (H7.out.pull 4)
    go_wp2_with fail
    refine small_st (p := p) (A0 := A0) (A1 := A1) (A2 := A2) (c0 := c0) (c1 := c1) (c2 := c2) H7.out fun w6 h8 => ?_
    have H8 := Lib.hid h8
    clear h8 H7 y0 y1 y2
    cases hsm : smallB p
    · clear hsm
      go_wp2_with fail
      refine awake_any H8.out.drop.drop.drop.drop.drop fun w7 h9 => ?_
      have HX := Lib.hid (HR.out _ h9)
      clear h9
      go_wp2
      exact HX.out
    · clear hsm
      obtain ⟨y0, y1, y2⟩ := boxP (H8.out.pull 4)
      go_wp2_with fail
      refine right_st (p := p) (A0 := A0) (A1 := A1) (A2 := A2) (c0 := c0) (c1 := c1) (c2 := c2) H8.out fun w7 h9 => ?_
      have H9 := Lib.hid h9
      clear h9 H8 y0 y1 y2
      by_cases hr : rightN p = 0
      case neg =>
        have hr2 : (rightN p == 0) = false := by simpa using hr
        clear hr
        go_wp2_with fail
        refine awake_any H9.out.drop.drop.drop.drop.drop fun w8 h10 => ?_
        have HX := Lib.hid (HR.out _ h10)
        clear h10
        go_wp2
        exact HX.out
      case pos =>
        have HRN := Lib.hid hr
        rw [hr]
        clear hr
        obtain ⟨y0, y1, y2⟩ := boxP (H9.out.pull 4)
        go_wp2_with fail
        have hcs := cntL_short HS.out
        have hcd : cntL (d :: ds) = (callL d).length + cntL ds := rfl
        rw [hcd] at hcs
        have HCS := Lib.hid hcs
        refine made_any (H9.out.pull 2).swap HRN.out HF.out.1 (by omega) ?_
        intro g w8 h10
        clear y0 y1 y2 hcd hcs
        obtain ⟨P, hP⟩ : ∃ P, polOf p = P := ⟨_, rfl⟩
        rw [hP] at h10
        obtain ⟨es, hes⟩ : ∃ es, madeP P [] ds = es := ⟨_, rfl⟩
        rw [hes] at h10
        have H10 := Lib.hid h10
        clear h10 H9 hP hes
        go_wp2_with fail
        refine elems_any H10.out ?_
        intro v1 w9 _ h11
        obtain ⟨E1, k1, rfl, -⟩ := h11.readsA.at_
        have hpl : St k w9 (Rope g P es (cntL ds) :: doS d :: rowA 39 3 (.slice E1 es.length k1) es.length (elsC es) :: polS p A0 A1 A2 c0 c1 c2 :: dosS A cp ds :: pt (B + 1) (.cells (doC d).toArray 48 (0, 0)) :: pt B (.cells (polC p A0 A1 A2 c0 c1 c2) 26 (0, 0)) :: L) := (h11.pull 4).pull 2
        have H11 := Lib.hid hpl
        obtain ⟨z0, z1, z2, z3, z4, z5⟩ := boxD (hpl.pull 5)
        clear h11 H10 hpl
        go_wp2_with fail
        refine does_any H11.out HF.out.2.1 HF.out.2.2 (by have := HCS.out; omega) ?_
        intro v2 w10 h12
        obtain ⟨r, hr⟩ : ∃ r, doP P es d = r := ⟨_, rfl⟩
        have herr := fun h => doP_err (P := P) (es := es) (d := d) h
        rw [hr] at h12 herr ⊢
        obtain ⟨gone, er, es'⟩ := r
        simp only at h12 herr ⊢
        obtain ⟨E2, k2, rfl, -⟩ := h12.readsA.at_
        clear z0 z1 z2 z3 z4 z5 hr
        by_cases he : er = 0
        · subst he
          have H12 := Lib.hid h12.drop.drop.drop.drop.drop.drop.drop.drop
          clear h12 herr
          go_wp2_with fail
          refine awake_any H12.out fun w11 h13 => ?_
          have HX := Lib.hid (HR.out _ h13)
          clear h13
          go_wp2
          exact HX.out
        · obtain ⟨rfl, rfl⟩ := herr he
          have he2 : (er == 0) = false := by simpa using he
          have H12 := Lib.hid h12
          clear h12 herr he
          go_wp2_with fail
          refine elems_any H12.out.drop ?_
          intro v3 w11 _ h13
          obtain ⟨E3, k3, rfl, -⟩ := h13.readsA.at_
          have H13 := Lib.hid (h13.pull 3)
          clear h13 H12
          go_wp2_with fail
          refine same_any H13.out (rowLike_A 39 3 (.slice E1 es'.length k1) es'.length (elsC es')) (rowLike_A 39 3 (.slice E3 es'.length k3) es'.length (elsC es')) rfl rfl ?_
          intro w12 h14
          rw [decide_eq_true (rfl : es' = es')]
          have H14 := Lib.hid h14.drop.drop.drop.drop.drop.drop.drop.drop
          clear h14 H13
          go_wp2_with fail
          refine awake_any H14.out fun w13 h15 => ?_
          have HX := Lib.hid (HR.out _ h15)
          clear h15
          go_wp2
          exact HX.out
end
end Go.Proofs.Ytdgaffcfcgmfnaa
