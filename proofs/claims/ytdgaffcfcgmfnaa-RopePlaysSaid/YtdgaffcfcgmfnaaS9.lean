/- mend: the walk. -/
import Derived.Test.YtdgaffcfcgmfnaaS8
import Derived.Test.YtdgaffcfcgmfnaaSc
namespace Go.Proofs.Ytdgaffcfcgmfnaa
open Go.RowKit Go.Sl

attribute [local go_sem ↓ high] load107 store107 load105 store105 slice82
section
variable {k w : World} {L : List Asn} {G : List (Asg MN)} {g : Nat} {r : RM} {R : Ending → World → Prop}
theorem rope_rowE {j : Nat} {m : MN} (h : St k w (ropeA g r :: L)) (hj : r.ms[j]? = some m) : St k w (rowS 3 m.ve m.elems.length (elsC m.elems) :: ropeA g r :: L) :=
  (rope_nodeS h hj).head (B := rowS 3 m.ve m.elems.length (elsC m.elems)) fun _ _ hA => Asg.mono _ (PH.none_le _) (PH.le.refl _) hA.1
theorem rope_rowK {j : Nat} {m : MN} (h : St k w (ropeA g r :: L)) (hj : r.ms[j]? = some m) : St k w (rowS 1 m.vk m.kids.length (intsC m.kids) :: ropeA g r :: L) :=
  (rope_nodeS h hj).head (B := rowS 1 m.vk m.kids.length (intsC m.kids)) fun _ _ hA => Asg.mono _ (PH.none_le _) (PH.le.refl _) hA.2.1
theorem rope_rowsE {a b : Nat} {x y : MN} (h : St k w (ropeA g r :: L)) (hx : r.ms[a]? = some x) (hy : r.ms[b]? = some y) : St k w (rowS 3 x.ve x.elems.length (elsC x.elems) :: rowS 3 y.ve y.elems.length (elsC y.elems) :: ropeA g r :: L) :=
  ((rope_rowE ((rope_rowE h hx).swap) hy).pull 2)
theorem rope_rowsK {a b : Nat} {x y : MN} (h : St k w (ropeA g r :: L)) (hx : r.ms[a]? = some x) (hy : r.ms[b]? = some y) : St k w (rowS 1 x.vk x.kids.length (intsC x.kids) :: rowS 1 y.vk y.kids.length (intsC y.kids) :: ropeA g r :: L) :=
  ((rope_rowK ((rope_rowK h hx).swap) hy).pull 2)
theorem alloc_size (w : World) (o : Obj) : (w.alloc o).heap.size = w.heap.size + 1 := Array.size_push _
theorem leaf_t {b o n c : Nat} (hc : w.cell? ⟨b, o + 1, none⟩ = some (.slice none n c)) (hR : R (.returned (.bool true)) w) : Calls Try.prog 58 #[.pointer (some ⟨b, o, none⟩)] w R := leaf_any hc hR
theorem leaf_f {b o n c : Nat} {A : Addr} (hc : w.cell? ⟨b, o + 1, none⟩ = some (.slice (some A) n c)) (hR : R (.returned (.bool false)) w) : Calls Try.prog 58 #[.pointer (some ⟨b, o, none⟩)] w R := leaf_any hc hR
set_option maxRecDepth 100000 in
set_option maxHeartbeats 8000000 in
theorem mend_walk {j q a b : Nat} {kI : Int} {m x y : MN} {ka kb : List Nat} {psx psy : List Part}
    (hs : St k w (ropeA g r :: L)) (ha : Ar r.ms r.free (nd j m :: nd a x :: nd b y :: G)) (hk : m.kids = ka ++ a :: b :: kb) (hq : ka.length = q) (hkI : kI = q ∨ kI = q + 1 ∧ kb = []) (hm9 : m.kids.length ≤ 1000)
    (hpx : x.kids = partsK psx) (hpy : y.kids = partsK psy)
    (hkid : ∀ t (ht : t < (psx ++ psy).length), ∃ z, r.ms[((psx ++ psy)[t]).1]? = some z ∧ Sl.Good z ((psx ++ psy)[t]).2 ∧ ((psx ++ psy)[t]).1 ≠ a)
    (hlab : ∀ e ∈ x.elems ++ y.elems, 0 ≤ e.label ∧ e.label < 32) (hlen : (x.elems ++ y.elems ++ partsE (psx ++ psy)).length ≤ 10000000) (hps : (psx ++ psy).length ≤ 1000) (hN : r.ms.length ≤ 20000000000)
    (hR0 : ∀ w', St k w' (ropeA g r :: L) → R (.returned (.tuple #[])) w')
    (hR1 : ∀ r' w' x' m', St k w' (ropeA g r' :: L) → Ar r'.ms r'.free (nd j m' :: nd a x' :: G) → Meta r r' → r'.ms.length = r.ms.length → m'.kids = ka ++ a :: kb → m'.elems = m.elems → m'.size = m.size → m'.of = m.of →
      x'.kids = x.kids ++ y.kids → x'.elems = x.elems ++ y.elems → x'.size = (x.elems ++ y.elems ++ partsE (psx ++ psy)).length → (∀ l, l < 32 → x'.of l = cnt (x.elems ++ y.elems ++ partsE (psx ++ psy)) l) →
      (x.kids = [] ∨ x.kids.length + y.kids.length ≤ 4) → R (.returned (.tuple #[])) w') :
    Calls Try.prog 81 #[.pointer (some ⟨g, 0, none⟩), .int .i64 j, .int .i64 kI] w R := by
  have hj := ha.at_
  have hjl := ha.ltlen
  have hxa := (ha.pull 1).at_
  have hal := (ha.pull 1).ltlen
  have hyb := (ha.pull 2).at_
  have hbl := (ha.pull 2).ltlen
  have hja : j ≠ a := ha.ne
  have hjb : j ≠ b := (ha.pull 2).swap.ne
  have hab : a ≠ b := (ha.pull 2).pull 2 |>.ne
  obtain ⟨bn, cap, hv, -, -, -⟩ := rope_nodes hs hjl
  have c0 := rope_0 hs
  rw [hv] at c0
  obtain ⟨-, Ak, ck, hvk, hk1, hk2, hAk⟩ := rope_heads hs hj
  obtain ⟨M, hM⟩ : ∃ M, m.kids.length = M := ⟨_, rfl⟩
  have hMq : M = q + 2 + kb.length := by rw [← hM, hk]; simp; omega
  obtain ⟨bk, ok, rfl, hcell⟩ := rope_kids hs hj hvk (by omega)
  have n1 := rope_node hs hv hj (t := 1) rfl
  rw [hvk, hM] at n1
  have k1 := hcell q a (by rw [hk, List.getElem?_append_right (by omega), hq]; simp)
  have k2 := hcell (q + 1) b (by rw [hk, List.getElem?_append_right (by omega), hq]; simp)
  obtain ⟨⟨Axe, cxe, hxe, hxe1, hxe2⟩, Axk, cxk, hxk, hxk1, hxk2, hAxk⟩ := rope_heads hs hxa
  obtain ⟨⟨Aye, cye, hye, hye1, hye2⟩, Ayk, cyk, hyk, hyk1, hyk2, hAyk⟩ := rope_heads hs hyb
  have x0 := rope_node hs hv hxa (t := 0) rfl
  have x1 := rope_node hs hv hxa (t := 1) rfl
  have y0 := rope_node hs hv hyb (t := 0) rfl
  have y1 := rope_node hs hv hyb (t := 1) rfl
  rw [hxe, Nat.add_zero] at x0
  rw [hye, Nat.add_zero] at y0
  rw [hxk] at x1
  rw [hyk] at y1
  have hb1 : x.kids.length = psx.length := by rw [hpx]; simp [partsK]
  have hb2 : y.kids.length = psy.length := by rw [hpy]; simp [partsK]
  have hlen' := hlen
  have hps' := hps
  simp only [List.length_append] at hlen' hps'
  obtain ⟨big, hbig⟩ : ∃ big : Bool, big = if x.kids = [] then decide (16 < (x.elems.length : Int) + y.elems.length) else decide (4 < (x.kids.length : Int) + y.kids.length) := ⟨_, rfl⟩
  have b1 : (j : Int) < (r.ms.length : Int) := by omega
  have b2 : (0 : Int) ≤ (j : Int) := by omega
  have b3 : (a : Int) < (r.ms.length : Int) := by omega
  have b4 : (b : Int) < (r.ms.length : Int) := by omega
  have b5 : (q : Int) + 1 < (M : Int) := by omega
  have b6 : (M : Int) ≤ 1000 := by omega
  have b7 : (x.elems.length : Int) + (y.elems.length : Int) ≤ 10000000 := by omega
  have b8 : (x.kids.length : Int) + (y.kids.length : Int) ≤ 1000 := by omega
  have HS := Lib.hid hs
  have HAR := Lib.hid ha
  have HJ := Lib.hid (And.intro hj (And.intro hxa hyb))
  have HV := Lib.hid hv
  have HK := Lib.hid (And.intro hk (And.intro hq (And.intro hM hMq)))
  have HP := Lib.hid (And.intro hpx (And.intro hpy (And.intro hkid (And.intro hlab (And.intro hlen hps)))))
  have HN := Lib.hid hN
  have HR0 := Lib.hid hR0
  have HR1 := Lib.hid hR1
  have HNE := Lib.hid (And.intro hja (And.intro hjb hab))
  have HVX := Lib.hid (And.intro hxe (And.intro hxk (And.intro hye hyk)))
  have HVM := Lib.hid hvk
  have HBIG := Lib.hid hbig
  have HAX := Lib.hid (And.intro hAxk hAyk)
  have HKI := Lib.hid hkI
  have HKB := Lib.hid hMq
  clear hs ha hk hq hkI hm9 hpx hpy hkid hlab hlen hps hN hR0 hR1 hj hjl hxa hal hyb hbl hja hjb hab hv hvk hk1 hk2 hAk hM hMq hcell hxe hxe1 hxe2 hxk hxk1 hxk2 hAxk hye hye1 hye2 hyk hyk1 hyk2 hAyk hb1 hb2 hlen' hps' hbig
  go_enter Try.func81, Try.ntmps81
  go_upto_if 27 with fail
  go_cut [2] (fun s wc => s = .int .i64 q ∧ wc = w)
  case first =>
    rcases HKI.out with rfl | ⟨h1, h2⟩
    · have e1 : ((q : Int) == (M : Int) - 1) = false := by simp; omega
      go_wp2
      go_meet
      exact ⟨rfl, rfl⟩
    · have e1 : (kI == (M : Int) - 1) = true := by have := HKB.out; rw [h2] at this; simp at this ⊢; omega
      have e2 : kI - 1 = (q : Int) := by omega
      have e3 : -10 ≤ kI ∧ kI ≤ 100000 := by omega
      obtain ⟨e4, e5⟩ := e3
      clear h1 h2
      go_wp2
      go_meet
      exact ⟨rfl, rfl⟩
  case rest =>
    obtain ⟨rfl, rfl⟩ := hcut
    go_upto_region 4 with fail
    go_quiet (fail)
    have HS4 := Lib.hid (HS.out.drewN nq)
    go_upto_region 5 with fail
    go_quiet (fail)
    have HS5 := Lib.hid (HS4.out.drewN nq)
    go_upto_region 6 with fail
    refine gen_world HS5.out fun w1 h1 => ?_
    have x0' := rope_node h1 HV.out HJ.out.2.1 (t := 0) rfl
    have x1' := rope_node h1 HV.out HJ.out.2.1 (t := 1) rfl
    have y0' := rope_node h1 HV.out HJ.out.2.2 (t := 0) rfl
    have y1' := rope_node h1 HV.out HJ.out.2.2 (t := 1) rfl
    rw [HVX.out.1, Nat.add_zero] at x0'
    rw [HVX.out.2.1] at x1'
    rw [HVX.out.2.2.1, Nat.add_zero] at y0'
    rw [HVX.out.2.2.2] at y1'
    have g0' := rope_0 h1
    rw [HV.out] at g0'
    have H1 := Lib.hid h1
    clear h1 c0 n1 k1 k2 x0 x1 y0 y1 HS4 HS5
    go_cut [87] (fun s wc => s = .bool big ∧ Hid (St k wc (ropeA g r :: L)))
    case first =>
      by_cases hl : x.kids = []
      · obtain rfl : Axk = none := HAX.out.1.2 hl
        have hb := HBIG.out
        rw [if_pos hl] at hb
        cases hd : decide (16 < (x.elems.length : Int) + y.elems.length)
        · rw [hd] at hb
          subst hb
          have HR := Lib.hid H1.out
          have hd2 : (x.elems.length : Int) + (y.elems.length : Int) ≤ 16 := by simpa using hd
          clear hl
          go_quiet ((go_at_call 58; refine Calls.quiet_of_same (leaf_t (by simpa using x1') ⟨rfl, rfl⟩)))
          go_wp2_with fail
          go_meet
          exact ⟨rfl, Lib.hid (HR.out.drewN nq)⟩
        · rw [hd] at hb
          subst hb
          have HR := Lib.hid H1.out
          have hd2 : 16 < (x.elems.length : Int) + (y.elems.length : Int) := by simpa using hd
          clear hl
          go_quiet ((go_at_call 58; refine Calls.quiet_of_same (leaf_t (by simpa using x1') ⟨rfl, rfl⟩)))
          go_wp2_with fail
          go_meet
          exact ⟨rfl, Lib.hid (HR.out.drewN nq)⟩
      · obtain ⟨Ax, rfl⟩ : ∃ Ax, Axk = some Ax := by
          cases Axk with
          | none => exact absurd (HAX.out.1.1 rfl) hl
          | some Ax => exact ⟨Ax, rfl⟩
        have hb := HBIG.out
        rw [if_neg hl] at hb
        cases hd : decide (4 < (x.kids.length : Int) + y.kids.length)
        · rw [hd] at hb
          subst hb
          have HR := Lib.hid H1.out
          have hd2 : (x.kids.length : Int) + (y.kids.length : Int) ≤ 4 := by simpa using hd
          clear hl
          go_quiet ((go_at_call 58; refine Calls.quiet_of_same (leaf_f (by simpa using x1') ⟨rfl, rfl⟩)))
          go_wp2_with fail
          go_meet
          exact ⟨rfl, Lib.hid (HR.out.drewN nq)⟩
        · rw [hd] at hb
          subst hb
          have HR := Lib.hid H1.out
          have hd2 : 4 < (x.kids.length : Int) + (y.kids.length : Int) := by simpa using hd
          clear hl
          go_quiet ((go_at_call 58; refine Calls.quiet_of_same (leaf_f (by simpa using x1') ⟨rfl, rfl⟩)))
          go_wp2_with fail
          go_meet
          exact ⟨rfl, Lib.hid (HR.out.drewN nq)⟩
    case rest =>
      obtain ⟨rfl, H2⟩ := hcut
      cases hbb : big
      · have hsm : x.kids = [] ∨ x.kids.length + y.kids.length ≤ 4 := by
          have hb := HBIG.out
          rw [hbb] at hb
          by_cases hl : x.kids = []
          · exact .inl hl
          · rw [if_neg hl] at hb
            refine .inr ?_
            have : (x.kids.length : Int) + y.kids.length ≤ 4 := by simpa using hb.symm
            omega
        have HSM := Lib.hid hsm
        clear hsm hbb HBIG
        go_upto_region 7 with fail
        refine gen_world H2.out fun w2 h2 => ?_
        have x0 := rope_node h2 HV.out HJ.out.2.1 (t := 0) rfl
        have x1 := rope_node h2 HV.out HJ.out.2.1 (t := 1) rfl
        have y0 := rope_node h2 HV.out HJ.out.2.2 (t := 0) rfl
        have y1 := rope_node h2 HV.out HJ.out.2.2 (t := 1) rfl
        rw [HVX.out.1, Nat.add_zero] at x0
        rw [HVX.out.2.1] at x1
        rw [HVX.out.2.2.1, Nat.add_zero] at y0
        rw [HVX.out.2.2.2] at y1
        have l2 := World.block_lt_of_cell? _ _ x0
        have hE := rope_rowsE h2.drew HJ.out.2.1 HJ.out.2.2
        have hKr := rope_rowsK h2.drew HJ.out.2.1 HJ.out.2.2
        rw [HVX.out.1, HVX.out.2.2.1] at hE
        rw [HVX.out.2.1, HVX.out.2.2.2] at hKr
        have hA := hE.alloc (.cells #[.slice Axe x.elems.length cxe, .slice Aye y.elems.length cye] 46)
        have hB := (hA.alloc (.cells #[.slice Axk x.kids.length cxk, .slice Ayk y.kids.length cyk] 51))
        have hC0 := h2.drew.alloc (.cells #[.slice Axk x.kids.length cxk, .slice Ayk y.kids.length cyk] 51)
        have hC := (rope_rowsE hC0.swap HJ.out.2.1 HJ.out.2.2).alloc (.cells #[.slice Axe x.elems.length cxe, .slice Aye y.elems.length cye] 46)
        rw [HVX.out.1, HVX.out.2.2.1] at hC
        rw [alloc_size] at hB hC
        have HA := Lib.hid hA
        have HB := Lib.hid (hB.push 3)
        have HC := Lib.hid hC
        clear h2 hE hKr hA hB hC hC0 x0' x1' y0' y1' g0' H1
        go_cut [] (fun wc => Hid (∃ A1 k1 A2 k2, St k wc (ropeA g { r with ms := r.ms.set a { x with ve := .slice A1 (x.elems.length + y.elems.length) k1, elems := x.elems ++ y.elems, vk := .slice A2 (x.kids.length + y.kids.length) k2, kids := x.kids ++ y.kids } } :: L)))
        case first =>
          refine wp_region_any (by kernel_rfl) ?_
          try (change wpAny _ _ _ _ _ _ _ (World.drew _))
          refine wpAny_take (i := 0) (v := ?_) rfl (by kernel_rfl) (by kernel_rfl) (by kernel_rfl) (fun _ _ _ h => h) (Or.inl ⟨by rfl, ?_⟩) ?_
          rotate_left 1
          · intro w
            go_simp
            try with_reducible rfl
          refine wpAny_take (i := 1) (v := ?_) rfl (by kernel_rfl) (by kernel_rfl) (by kernel_rfl) (fun _ _ _ h => h) (Or.inl ⟨by rfl, ?_⟩) ?_
          rotate_left 1
          · intro w
            go_simp
            try with_reducible rfl
          refine wpAny_take (i := 2) (v := ?_) rfl (by kernel_rfl) (by kernel_rfl) (by kernel_rfl) (fun _ _ _ h => h) (Or.inl ⟨by rfl, ?_⟩) ?_
          rotate_left 1
          · intro w
            go_simp
            try with_reducible rfl
          refine wpAny_take (i := 3) (v := ?_) rfl (by kernel_rfl) (by kernel_rfl) (by kernel_rfl) (fun _ _ _ h => h) (Or.inl ⟨by rfl, ?_⟩) ?_
          rotate_left 1
          · intro w
            go_simp
            try with_reducible rfl
          refine wpAny_take (i := 4) (v := ?_) rfl (by kernel_rfl) (by kernel_rfl) (by kernel_rfl) (fun _ _ _ h => h) (Or.inl ⟨by rfl, ?_⟩) ?_
          rotate_left 1
          · intro w
            go_simp
            try with_reducible rfl
          refine wpAny_take (i := 6) (v := ?_) rfl (by kernel_rfl) (by kernel_rfl) (by kernel_rfl) (fun _ _ _ h => h) (Or.inl ⟨by rfl, ?_⟩) ?_
          rotate_left 1
          · intro w
            go_simp
            try with_reducible rfl
          refine wpAny_take (i := 7) (v := ?_) rfl (by kernel_rfl) (by kernel_rfl) (by kernel_rfl) (fun _ _ _ h => h) (Or.inl ⟨by rfl, ?_⟩) ?_
          rotate_left 1
          · intro w
            go_simp
            try with_reducible rfl
          refine wpAny_take (i := 8) (v := ?_) rfl (by kernel_rfl) (by kernel_rfl) (by kernel_rfl) (fun _ _ _ h => h) (Or.inl ⟨by rfl, ?_⟩) ?_
          rotate_left 1
          · intro w
            go_simp
            try with_reducible rfl
          refine wpAny_take (i := 12) (v := ?_) rfl (by kernel_rfl) (by kernel_rfl) (by kernel_rfl) (fun _ _ _ h => h) (Or.inl ⟨by rfl, ?_⟩) ?_
          rotate_left 1
          · intro w
            go_simp
            try with_reducible rfl
          refine wpAny_take (i := 13) (v := ?_) rfl (by kernel_rfl) (by kernel_rfl) (by kernel_rfl) (fun _ _ _ h => h) (Or.inl ⟨by rfl, ?_⟩) ?_
          rotate_left 1
          · intro w
            go_simp
            try with_reducible rfl
          refine wpAny_take (i := 14) (v := ?_) rfl (by kernel_rfl) (by kernel_rfl) (by kernel_rfl) (fun _ _ _ h => h) (Or.inl ⟨by rfl, ?_⟩) ?_
          rotate_left 1
          · intro w
            go_simp
            try with_reducible rfl
          refine wpAny_take (i := 16) (v := ?_) rfl (by kernel_rfl) (by kernel_rfl) (by kernel_rfl) (fun _ _ _ h => h) (Or.inl ⟨by rfl, ?_⟩) ?_
          rotate_left 1
          · intro w
            go_simp
            try with_reducible rfl
          refine wpAny_take (i := 17) (v := ?_) rfl (by kernel_rfl) (by kernel_rfl) (by kernel_rfl) (fun _ _ _ h => h) (Or.inl ⟨by rfl, ?_⟩) ?_
          rotate_left 1
          · intro w
            go_simp
            try with_reducible rfl
          refine wpAny_take (i := 18) (v := ?_) rfl (by kernel_rfl) (by kernel_rfl) (by kernel_rfl) (fun _ _ _ h => h) (Or.inl ⟨by rfl, ?_⟩) ?_
          rotate_left 1
          · intro w
            go_simp
            try with_reducible rfl
          refine wpAnyC_any (C := (fun w' : World => w'.cell? ⟨bn, a * 35, none⟩ = some (.slice Axe x.elems.length cxe) ∧ w'.cell? ⟨bn, a * 35 + 1, none⟩ = some (.slice Axk x.kids.length cxk) ∧ w'.cell? ⟨bn, b * 35, none⟩ = some (.slice Aye y.elems.length cye) ∧ w'.cell? ⟨bn, b * 35 + 1, none⟩ = some (.slice Ayk y.kids.length cyk))) (T := [21, 22, 23, 24, 25, 26, 27]) _ _ _ _ ?_
          refine wpAnyC_take (i := 5) (v := ?_) rfl (by kernel_rfl) (by kernel_rfl) (by kernel_rfl) (by kernel_rfl) (fun _ _ _ h => h) (by rfl) ?_ ?_ ?_
          rotate_left 1
          · refine ⟨?_, ?_, ?_, ?_⟩ <;> go_simp
          · intro w hw
            obtain ⟨c1, c2, c3, c4⟩ := hw; go_simp
            try with_reducible rfl
          refine wpAnyC_take (i := 9) (v := ?_) rfl (by kernel_rfl) (by kernel_rfl) (by kernel_rfl) (by kernel_rfl) (fun _ _ _ h => h) (by rfl) ?_ ?_ ?_
          rotate_left 1
          · refine ⟨?_, ?_, ?_, ?_⟩ <;> go_simp
          · intro w hw
            obtain ⟨c1, c2, c3, c4⟩ := hw; go_simp
            try with_reducible rfl
          refine wpAnyC_take (i := 15) (v := ?_) rfl (by kernel_rfl) (by kernel_rfl) (by kernel_rfl) (by kernel_rfl) (fun _ _ _ h => h) (by rfl) ?_ ?_ ?_
          rotate_left 1
          · refine ⟨?_, ?_, ?_, ?_⟩ <;> go_simp
          · intro w hw
            obtain ⟨c1, c2, c3, c4⟩ := hw; go_simp
            try with_reducible rfl
          refine wpAnyC_take (i := 19) (v := ?_) rfl (by kernel_rfl) (by kernel_rfl) (by kernel_rfl) (by kernel_rfl) (fun _ _ _ h => h) (by rfl) ?_ ?_ ?_
          rotate_left 1
          · refine ⟨?_, ?_, ?_, ?_⟩ <;> go_simp
          · intro w hw
            obtain ⟨c1, c2, c3, c4⟩ := hw; go_simp
            try with_reducible rfl
          refine wpAnyC_ready (rs := [10, 20]) (by kernel_rfl) (by simp) ?_
          refine AllC.cons rfl (fun K hK => ?_) ?_
          · go_simp
            refine hK _ _ ?_
            clear hK K
            refine And.intro ?_ ?_
            · intro _
              refine ⟨?_, ?_, ?_, ?_⟩ <;> go_simp
            refine wpAnyC_ready (rs := [11, 20]) (by kernel_rfl) (by simp) ?_
            refine AllC.cons rfl (fun K hK => ?_) ?_
            · go_simp
              go_wp2_with (first
                | (go_at_call 89; refine concatE HA.out (elsC_one _) (elsC_one _) (by omega) ?_
                   intro v1 w3 h3 e3
                   obtain ⟨A3, k3, rfl, -⟩ := h3.readsA.at_
                   have p0 := rope_node h3.swap HV.out HJ.out.2.1 (t := 0) rfl
                   have p3 := rope_node h3.swap HV.out HJ.out.2.2 (t := 0) rfl
                   rw [HVX.out.1, Nat.add_zero] at p0
                   rw [HVX.out.2.2.1, Nat.add_zero] at p3
                   have pl := World.block_lt_of_cell? _ _ p0
                   have p1 := rope_node h3.swap HV.out HJ.out.2.1 (t := 1) rfl
                   have p2 := rope_node h3.swap HV.out HJ.out.2.2 (t := 1) rfl
                   rw [HVX.out.2.1] at p1
                   rw [HVX.out.2.2.2] at p2
                   have h4 := rope_rowsK h3.swap HJ.out.2.1 HJ.out.2.2
                   rw [HVX.out.2.1, HVX.out.2.2.2] at h4
                   have H3 := Lib.hid (h4.alloc (.cells #[.slice Axk x.kids.length cxk, .slice Ayk y.kids.length cyk] 51))
                   clear h3 h4))
              refine And.intro ?_ ?_
              · intro _
                refine ⟨?_, ?_, ?_, ?_⟩ <;> go_simp
              refine wpAnyC_ready (rs := [20]) (by kernel_rfl) (by simp) ?_
              refine AllC.cons rfl (fun K hK => ?_) ?_
              · go_simp
                refine hK _ _ ?_
                clear hK K
                refine And.intro ?_ ?_
                · intro _
                  refine ⟨?_, ?_, ?_, ?_⟩ <;> go_simp
                refine wpAnyC_ready (rs := [21]) (by kernel_rfl) (by simp) ?_
                refine AllC.cons rfl (fun K hK => ?_) ?_
                · go_simp
                  go_wp2_with (first
                    | (go_at_call 90; refine concatI H3.out (intsC_one _) (intsC_one _) (by omega) ?_
                       intro v2 w4 h5 e5
                       obtain ⟨A4, k4, rfl, -⟩ := h5.readsA.at_
                       have q0 := rope_node (h5.pull 1) HV.out HJ.out.2.1 (t := 0) rfl
                       have q1 := rope_node (h5.pull 1) HV.out HJ.out.2.1 (t := 1) rfl
                       have qf := rope_nodef (h5.pull 1) HV.out (a * 35)
                       have qf1 := rope_nodef (h5.pull 1) HV.out (a * 35 + 1)
                       rw [Nat.add_zero] at q0
                       have ql := World.block_lt_of_cell? _ _ q0
                       have H5 := Lib.hid h5
                       have HE5 := Lib.hid e5
                       clear h5 e5))
                  refine And.intro ?_ ?_
                  · intro h
                    exact absurd h (by decide)
                  refine wpAnyC_takeP (i := 22) (v := ?_) rfl (by kernel_rfl) (by kernel_rfl) (by kernel_rfl) (by kernel_rfl) (fun _ _ _ h => h) (by rfl) ?_ ?_
                  rotate_left 1
                  · intro w
                    go_simp
                    try with_reducible rfl
                  refine wpAnyC_takeP (i := 23) (v := ?_) rfl (by kernel_rfl) (by kernel_rfl) (by kernel_rfl) (by kernel_rfl) (fun _ _ _ h => h) (by rfl) ?_ ?_
                  rotate_left 1
                  · intro w
                    go_simp
                    try with_reducible rfl
                  refine wpAnyC_ready (rs := [24]) (by kernel_rfl) (by simp) ?_
                  refine AllC.cons rfl (fun K hK => ?_) ?_
                  · go_simp
                    refine hK _ _ ?_
                    clear hK K
                    refine And.intro ?_ ?_
                    · intro h
                      exact absurd h (by decide)
                    refine wpAnyC_takeP (i := 25) (v := ?_) rfl (by kernel_rfl) (by kernel_rfl) (by kernel_rfl) (by kernel_rfl) (fun _ _ _ h => h) (by rfl) ?_ ?_
                    rotate_left 1
                    · intro w
                      go_simp
                      try with_reducible rfl
                    refine wpAnyC_takeP (i := 26) (v := ?_) rfl (by kernel_rfl) (by kernel_rfl) (by kernel_rfl) (by kernel_rfl) (fun _ _ _ h => h) (by rfl) ?_ ?_
                    rotate_left 1
                    · intro w
                      go_simp
                      try with_reducible rfl
                    refine wpAnyC_ready (rs := [27]) (by kernel_rfl) (by simp) ?_
                    refine AllC.cons rfl (fun K hK => ?_) ?_
                    · go_simp
                      refine hK _ _ ?_
                      clear hK K
                      refine And.intro ?_ ?_
                      · intro h
                        exact absurd h (by decide)
                      refine wpAnyC_done (by kernel_rfl) ?_ _
                      go_wp2_with fail
                      go_meet
                      case rel =>
                        have h6 := H5.out.swap.pull 2
                        have eE : elsC x.elems ++ elsC y.elems = elsC (x.elems ++ y.elems) := by simp [elsC]
                        have eK : intsC x.kids ++ intsC y.kids = intsC (x.kids ++ y.kids) := by simp [intsC]
                        rw [eE] at h6
                        have h7 := rope_setve h6 (by simp) HV.out HJ.out.2.1
                        have h8 := h7.swap
                        rw [eK] at h8
                        have h9 := rope_setvk h8 (by simp) (by
                          rw [HE5.out]
                          constructor
                          · intro e; exact List.length_eq_zero_iff.1 (by rw [List.length_append]; exact e)
                          · intro e; rw [← List.length_append, e]; rfl) HV.out (List.getElem?_set_self (List.getElem?_eq_some_iff.1 HJ.out.2.1).1)
                        simp only [List.set_set] at h9
                        exact Lib.hid ⟨A3, k3, A4, k4, h9⟩
                    exact AllC.nil
                  exact AllC.nil
                exact AllC.nil
              exact AllC.nil
            refine AllC.cons rfl (fun K hK => ?_) ?_
            · go_simp
              refine hK _ _ ?_
              clear hK K
              refine And.intro ?_ ?_
              · intro _
                refine ⟨?_, ?_, ?_, ?_⟩ <;> go_simp
              refine wpAnyC_ready (rs := [11]) (by kernel_rfl) (by simp) ?_
              refine AllC.cons rfl (fun K hK => ?_) ?_
              · go_simp
                go_wp2_with (first
                  | (go_at_call 89; refine concatE HB.out (elsC_one _) (elsC_one _) (by omega) ?_
                     intro v1 w3 h3 e3
                     obtain ⟨A3, k3, rfl, -⟩ := h3.readsA.at_
                     have p0 := rope_node (h3.pull 2) HV.out HJ.out.2.1 (t := 0) rfl
                     have p3 := rope_node (h3.pull 2) HV.out HJ.out.2.2 (t := 0) rfl
                     rw [HVX.out.1, Nat.add_zero] at p0
                     rw [HVX.out.2.2.1, Nat.add_zero] at p3
                     have pl := World.block_lt_of_cell? _ _ p0
                     have p1 := rope_node (h3.pull 2) HV.out HJ.out.2.1 (t := 1) rfl
                     have p2 := rope_node (h3.pull 2) HV.out HJ.out.2.2 (t := 1) rfl
                     rw [HVX.out.2.1] at p1
                     rw [HVX.out.2.2.2] at p2
                     have h4 := (rope_rowsK (h3.pull 2) HJ.out.2.1 HJ.out.2.2).pull 4
                     rw [HVX.out.2.1, HVX.out.2.2.2] at h4
                     have H3 := Lib.hid h4
                     clear h3 h4))
                refine And.intro ?_ ?_
                · intro _
                  refine ⟨?_, ?_, ?_, ?_⟩ <;> go_simp
                refine wpAnyC_ready (rs := [21]) (by kernel_rfl) (by simp) ?_
                refine AllC.cons rfl (fun K hK => ?_) ?_
                · go_simp
                  go_wp2_with (first
                    | (go_at_call 90; refine concatI H3.out (intsC_one _) (intsC_one _) (by omega) ?_
                       intro v2 w4 h5 e5
                       obtain ⟨A4, k4, rfl, -⟩ := h5.readsA.at_
                       have q0 := rope_node (h5.pull 1) HV.out HJ.out.2.1 (t := 0) rfl
                       have q1 := rope_node (h5.pull 1) HV.out HJ.out.2.1 (t := 1) rfl
                       have qf := rope_nodef (h5.pull 1) HV.out (a * 35)
                       have qf1 := rope_nodef (h5.pull 1) HV.out (a * 35 + 1)
                       rw [Nat.add_zero] at q0
                       have ql := World.block_lt_of_cell? _ _ q0
                       have H5 := Lib.hid h5
                       have HE5 := Lib.hid e5
                       clear h5 e5))
                  refine And.intro ?_ ?_
                  · intro h
                    exact absurd h (by decide)
                  refine wpAnyC_takeP (i := 22) (v := ?_) rfl (by kernel_rfl) (by kernel_rfl) (by kernel_rfl) (by kernel_rfl) (fun _ _ _ h => h) (by rfl) ?_ ?_
                  rotate_left 1
                  · intro w
                    go_simp
                    try with_reducible rfl
                  refine wpAnyC_takeP (i := 23) (v := ?_) rfl (by kernel_rfl) (by kernel_rfl) (by kernel_rfl) (by kernel_rfl) (fun _ _ _ h => h) (by rfl) ?_ ?_
                  rotate_left 1
                  · intro w
                    go_simp
                    try with_reducible rfl
                  refine wpAnyC_ready (rs := [24]) (by kernel_rfl) (by simp) ?_
                  refine AllC.cons rfl (fun K hK => ?_) ?_
                  · go_simp
                    refine hK _ _ ?_
                    clear hK K
                    refine And.intro ?_ ?_
                    · intro h
                      exact absurd h (by decide)
                    refine wpAnyC_takeP (i := 25) (v := ?_) rfl (by kernel_rfl) (by kernel_rfl) (by kernel_rfl) (by kernel_rfl) (fun _ _ _ h => h) (by rfl) ?_ ?_
                    rotate_left 1
                    · intro w
                      go_simp
                      try with_reducible rfl
                    refine wpAnyC_takeP (i := 26) (v := ?_) rfl (by kernel_rfl) (by kernel_rfl) (by kernel_rfl) (by kernel_rfl) (fun _ _ _ h => h) (by rfl) ?_ ?_
                    rotate_left 1
                    · intro w
                      go_simp
                      try with_reducible rfl
                    refine wpAnyC_ready (rs := [27]) (by kernel_rfl) (by simp) ?_
                    refine AllC.cons rfl (fun K hK => ?_) ?_
                    · go_simp
                      refine hK _ _ ?_
                      clear hK K
                      refine And.intro ?_ ?_
                      · intro h
                        exact absurd h (by decide)
                      refine wpAnyC_done (by kernel_rfl) ?_ _
                      go_wp2_with fail
                      go_meet
                      case rel =>
                        have h6 := H5.out.swap.pull 2
                        have eE : elsC x.elems ++ elsC y.elems = elsC (x.elems ++ y.elems) := by simp [elsC]
                        have eK : intsC x.kids ++ intsC y.kids = intsC (x.kids ++ y.kids) := by simp [intsC]
                        rw [eE] at h6
                        have h7 := rope_setve h6 (by simp) HV.out HJ.out.2.1
                        have h8 := h7.swap
                        rw [eK] at h8
                        have h9 := rope_setvk h8 (by simp) (by
                          rw [HE5.out]
                          constructor
                          · intro e; exact List.length_eq_zero_iff.1 (by rw [List.length_append]; exact e)
                          · intro e; rw [← List.length_append, e]; rfl) HV.out (List.getElem?_set_self (List.getElem?_eq_some_iff.1 HJ.out.2.1).1)
                        simp only [List.set_set] at h9
                        exact Lib.hid ⟨A3, k3, A4, k4, h9⟩
                    exact AllC.nil
                  exact AllC.nil
                exact AllC.nil
              exact AllC.nil
            exact AllC.nil
          refine AllC.cons rfl (fun K hK => ?_) ?_
          · go_simp
            refine hK _ _ ?_
            clear hK K
            refine And.intro ?_ ?_
            · intro _
              refine ⟨?_, ?_, ?_, ?_⟩ <;> go_simp
            refine wpAnyC_ready (rs := [10]) (by kernel_rfl) (by simp) ?_
            refine AllC.cons rfl (fun K hK => ?_) ?_
            · go_simp
              refine hK _ _ ?_
              clear hK K
              refine And.intro ?_ ?_
              · intro _
                refine ⟨?_, ?_, ?_, ?_⟩ <;> go_simp
              refine wpAnyC_ready (rs := [11]) (by kernel_rfl) (by simp) ?_
              refine AllC.cons rfl (fun K hK => ?_) ?_
              · go_simp
                go_wp2_with (first
                  | (go_at_call 89; refine concatE HC.out (elsC_one _) (elsC_one _) (by omega) ?_
                     intro v1 w3 h3 e3
                     obtain ⟨A3, k3, rfl, -⟩ := h3.readsA.at_
                     have p0 := rope_node h3.swap HV.out HJ.out.2.1 (t := 0) rfl
                     have p3 := rope_node h3.swap HV.out HJ.out.2.2 (t := 0) rfl
                     rw [HVX.out.1, Nat.add_zero] at p0
                     rw [HVX.out.2.2.1, Nat.add_zero] at p3
                     have pl := World.block_lt_of_cell? _ _ p0
                     have p1 := rope_node h3.swap HV.out HJ.out.2.1 (t := 1) rfl
                     have p2 := rope_node h3.swap HV.out HJ.out.2.2 (t := 1) rfl
                     rw [HVX.out.2.1] at p1
                     rw [HVX.out.2.2.2] at p2
                     have h4 := (rope_rowsK h3.swap HJ.out.2.1 HJ.out.2.2).pull 4
                     rw [HVX.out.2.1, HVX.out.2.2.2] at h4
                     have H3 := Lib.hid h4
                     clear h3 h4))
                refine And.intro ?_ ?_
                · intro _
                  refine ⟨?_, ?_, ?_, ?_⟩ <;> go_simp
                refine wpAnyC_ready (rs := [21]) (by kernel_rfl) (by simp) ?_
                refine AllC.cons rfl (fun K hK => ?_) ?_
                · go_simp
                  go_wp2_with (first
                    | (go_at_call 90; refine concatI H3.out (intsC_one _) (intsC_one _) (by omega) ?_
                       intro v2 w4 h5 e5
                       obtain ⟨A4, k4, rfl, -⟩ := h5.readsA.at_
                       have q0 := rope_node (h5.pull 1) HV.out HJ.out.2.1 (t := 0) rfl
                       have q1 := rope_node (h5.pull 1) HV.out HJ.out.2.1 (t := 1) rfl
                       have qf := rope_nodef (h5.pull 1) HV.out (a * 35)
                       have qf1 := rope_nodef (h5.pull 1) HV.out (a * 35 + 1)
                       rw [Nat.add_zero] at q0
                       have ql := World.block_lt_of_cell? _ _ q0
                       have H5 := Lib.hid h5
                       have HE5 := Lib.hid e5
                       clear h5 e5))
                  refine And.intro ?_ ?_
                  · intro h
                    exact absurd h (by decide)
                  refine wpAnyC_takeP (i := 22) (v := ?_) rfl (by kernel_rfl) (by kernel_rfl) (by kernel_rfl) (by kernel_rfl) (fun _ _ _ h => h) (by rfl) ?_ ?_
                  rotate_left 1
                  · intro w
                    go_simp
                    try with_reducible rfl
                  refine wpAnyC_takeP (i := 23) (v := ?_) rfl (by kernel_rfl) (by kernel_rfl) (by kernel_rfl) (by kernel_rfl) (fun _ _ _ h => h) (by rfl) ?_ ?_
                  rotate_left 1
                  · intro w
                    go_simp
                    try with_reducible rfl
                  refine wpAnyC_ready (rs := [24]) (by kernel_rfl) (by simp) ?_
                  refine AllC.cons rfl (fun K hK => ?_) ?_
                  · go_simp
                    refine hK _ _ ?_
                    clear hK K
                    refine And.intro ?_ ?_
                    · intro h
                      exact absurd h (by decide)
                    refine wpAnyC_takeP (i := 25) (v := ?_) rfl (by kernel_rfl) (by kernel_rfl) (by kernel_rfl) (by kernel_rfl) (fun _ _ _ h => h) (by rfl) ?_ ?_
                    rotate_left 1
                    · intro w
                      go_simp
                      try with_reducible rfl
                    refine wpAnyC_takeP (i := 26) (v := ?_) rfl (by kernel_rfl) (by kernel_rfl) (by kernel_rfl) (by kernel_rfl) (fun _ _ _ h => h) (by rfl) ?_ ?_
                    rotate_left 1
                    · intro w
                      go_simp
                      try with_reducible rfl
                    refine wpAnyC_ready (rs := [27]) (by kernel_rfl) (by simp) ?_
                    refine AllC.cons rfl (fun K hK => ?_) ?_
                    · go_simp
                      refine hK _ _ ?_
                      clear hK K
                      refine And.intro ?_ ?_
                      · intro h
                        exact absurd h (by decide)
                      refine wpAnyC_done (by kernel_rfl) ?_ _
                      go_wp2_with fail
                      go_meet
                      case rel =>
                        have h6 := H5.out.swap.pull 2
                        have eE : elsC x.elems ++ elsC y.elems = elsC (x.elems ++ y.elems) := by simp [elsC]
                        have eK : intsC x.kids ++ intsC y.kids = intsC (x.kids ++ y.kids) := by simp [intsC]
                        rw [eE] at h6
                        have h7 := rope_setve h6 (by simp) HV.out HJ.out.2.1
                        have h8 := h7.swap
                        rw [eK] at h8
                        have h9 := rope_setvk h8 (by simp) (by
                          rw [HE5.out]
                          constructor
                          · intro e; exact List.length_eq_zero_iff.1 (by rw [List.length_append]; exact e)
                          · intro e; rw [← List.length_append, e]; rfl) HV.out (List.getElem?_set_self (List.getElem?_eq_some_iff.1 HJ.out.2.1).1)
                        simp only [List.set_set] at h9
                        exact Lib.hid ⟨A3, k3, A4, k4, h9⟩
                    exact AllC.nil
                  exact AllC.nil
                exact AllC.nil
              exact AllC.nil
            exact AllC.nil
          exact AllC.nil
        case rest =>
          obtain ⟨A1, k1, A2, k2, h3⟩ := hcut.out
          obtain ⟨x1, hx1⟩ : ∃ x1 : MN, x1 = { x with ve := .slice A1 (x.elems.length + y.elems.length) k1, elems := x.elems ++ y.elems, vk := .slice A2 (x.kids.length + y.kids.length) k2, kids := x.kids ++ y.kids } := ⟨_, rfl⟩
          rw [← hx1] at h3
          have hx1e : x1.elems = x.elems ++ y.elems ∧ x1.kids = x.kids ++ y.kids := by rw [hx1]; exact ⟨rfl, rfl⟩
          have ha1 : Ar (r.ms.set a x1) r.free (nd a x1 :: nd j m :: nd b y :: G) := HAR.out.swap.set x1
          have H3 := Lib.hid h3
          have HX1 := Lib.hid hx1e
          have HA1 := Lib.hid ha1
          clear h3 hx1e ha1 hx1
          go_wp2_with fail
          refine count_any (ps := psx ++ psy) H3.out rfl HA1.out.at_ (by rw [HX1.out.2, HP.out.1, HP.out.2.1]; simp [partsK]) (fun t ht => ?_) (fun e he => HP.out.2.2.2.1 e (by rw [← HX1.out.1]; exact he)) (by rw [HX1.out.1]; have := HP.out.2.2.2.2.1; omega) HP.out.2.2.2.2.2 ?_
          · obtain ⟨z, z1, z2, z3⟩ := HP.out.2.2.1 t ht
            exact ⟨z, by show (r.ms.set a x1)[_]? = _; rw [List.getElem?_set_ne (Ne.symm z3)]; exact z1, z2, z3⟩
          intro f w4 h4 hf
          rw [HX1.out.1] at h4 hf
          have ha4 := HA1.out.set { x1 with size := ((x.elems ++ y.elems ++ partsE (psx ++ psy)).length : Nat), of := f }
          rw [HX1.out.1] at ha4
          have H4 := Lib.hid h4
          have HF := Lib.hid hf
          have HA4 := Lib.hid (ha4.pull 2)
          clear h4 hf ha4
          go_wp2_with fail
          refine give_any H4.out rfl HA4.out (by show ((r.ms.set a x1).set a _).length ≤ _; rw [List.length_set, List.length_set]; exact HN.out) ?_
          intro r5 w5 h5 ha5 hm5 hl5
          have hj5 := (ha5.pull 1).at_
          have hjl5 := (ha5.pull 1).ltlen
          obtain ⟨bn5, cap5, hv5, -, -, -⟩ := rope_nodes h5 hjl5
          have s0 := rope_0 h5
          rw [hv5] at s0
          have b9 : (j : Int) < (r5.ms.length : Int) := by omega
          have hrK := rope_readK h5.drew hj5
          rw [HVM.out, HK.out.2.2.1] at hrK
          have H5 := Lib.hid (And.intro h5 (And.intro h5.drew hrK))
          have HA5 := Lib.hid (ha5.pull 1)
          have HM5 := Lib.hid (And.intro hm5 hl5)
          have HV5 := Lib.hid hv5
          have HJ5 := Lib.hid hj5
          clear h5 ha5 hm5 hl5 hj5 hv5 hjl5 hrK
          have wr1 : IntKind.i64.wrap ((q : Int) + 1) = (q : Int) + 1 := by rw [IntKind.wrap_i64]; omega
          have wr2 : IntKind.i64.wrap ((q : Int) + 2) = (q : Int) + 2 := by rw [IntKind.wrap_i64]; omega
          go_upto_region 10 with fail
          refine wp_region_any (by kernel_rfl) ?_
          try (change wpAny _ _ _ _ _ _ _ (World.drew _))
          refine wpAny_take (i := 0) (v := ?_) rfl (by kernel_rfl) (by kernel_rfl) (by kernel_rfl) (fun _ _ _ h => h) (Or.inl ⟨by rfl, ?_⟩) ?_
          rotate_left 1
          · intro w
            go_simp
            try with_reducible rfl
          refine wpAny_take (i := 1) (v := ?_) rfl (by kernel_rfl) (by kernel_rfl) (by kernel_rfl) (fun _ _ _ h => h) (Or.inl ⟨by rfl, ?_⟩) ?_
          rotate_left 1
          · intro w
            go_simp
            try with_reducible rfl
          refine wpAny_take (i := 2) (v := ?_) rfl (by kernel_rfl) (by kernel_rfl) (by kernel_rfl) (fun _ _ _ h => h) (Or.inl ⟨by rfl, ?_⟩) ?_
          rotate_left 1
          · intro w
            go_simp
            try with_reducible rfl
          refine wpAny_take (i := 3) (v := ?_) rfl (by kernel_rfl) (by kernel_rfl) (by kernel_rfl) (fun _ _ _ h => h) (Or.inl ⟨by rfl, ?_⟩) ?_
          rotate_left 1
          · intro w
            go_simp
            try with_reducible rfl
          refine wpAny_take (i := 5) (v := ?_) rfl (by kernel_rfl) (by kernel_rfl) (by kernel_rfl) (fun _ _ _ h => h) (Or.inl ⟨by rfl, ?_⟩) ?_
          rotate_left 1
          · intro w
            go_simp
            try with_reducible rfl
          refine wpAny_take (i := 6) (v := ?_) rfl (by kernel_rfl) (by kernel_rfl) (by kernel_rfl) (fun _ _ _ h => h) (Or.inl ⟨by rfl, ?_⟩) ?_
          rotate_left 1
          · intro w
            go_simp
            try with_reducible rfl
          refine wpAny_take (i := 8) (v := ?_) rfl (by kernel_rfl) (by kernel_rfl) (by kernel_rfl) (fun _ _ _ h => h) (Or.inl ⟨by rfl, ?_⟩) ?_
          rotate_left 1
          · intro w
            go_simp
            try with_reducible rfl
          refine wpAny_take (i := 9) (v := ?_) rfl (by kernel_rfl) (by kernel_rfl) (by kernel_rfl) (fun _ _ _ h => h) (Or.inl ⟨by rfl, ?_⟩) ?_
          rotate_left 1
          · intro w
            go_simp
            try with_reducible rfl
          refine wpAny_take (i := 10) (v := ?_) rfl (by kernel_rfl) (by kernel_rfl) (by kernel_rfl) (fun _ _ _ h => h) (Or.inl ⟨by rfl, ?_⟩) ?_
          rotate_left 1
          · intro w
            go_simp
            try with_reducible rfl
          refine wpAny_take (i := 11) (v := ?_) rfl (by kernel_rfl) (by kernel_rfl) (by kernel_rfl) (fun _ _ _ h => h) (Or.inl ⟨by rfl, ?_⟩) ?_
          rotate_left 1
          · intro w
            go_simp
            try with_reducible rfl
          refine wpAnyC_any (C := (fun w' : World => w'.cell? ⟨g, 0, none⟩ = some (.slice (some ⟨bn5, 0, none⟩) r5.ms.length cap5))) (T := [13, 14, 15]) _ _ _ _ ?_
          refine wpAnyC_take (i := 4) (v := ?_) rfl (by kernel_rfl) (by kernel_rfl) (by kernel_rfl) (by kernel_rfl) (fun _ _ _ h => h) (by rfl) ?_ ?_ ?_
          rotate_left 1
          · go_simp
          · intro w hw
            go_simp
            try with_reducible rfl
          refine wpAnyC_ready (rs := [7]) (by kernel_rfl) (by simp) ?_
          refine AllC.cons rfl (fun K hK => ?_) ?_
          · go_simp
            go_wp2_with (first
              | (go_at_call 75; refine cloneI H5.out.2.1 H5.out.2.2 (intsC_one _) (by omega) ?_
                 intro v1 w6 h6 e6
                 obtain ⟨A6, k6, rfl, -⟩ := h6.readsA.at_
                 have t0 := rope_0 h6.swap
                 rw [HV5.out] at t0
                 have H6 := Lib.hid h6
                 clear h6 e6))
            refine And.intro ?_ ?_
            · intro _
              go_simp
            refine wpAnyC_ready (rs := [12]) (by kernel_rfl) (by simp) ?_
            refine AllC.cons rfl (fun K hK => ?_) ?_
            · go_simp
              go_wp2_with (first
                | (go_at_call 91; refine deleteI H6.out (i := q + 1) (j := q + 2) (by omega) (by omega) (by omega) (by omega) (intsC_one _) ?_
                   intro v2 w7 h7 e7
                   obtain ⟨A7, k7, rfl, -⟩ := h7.readsA.at_
                   have t1 := rope_0 h7.swap
                   rw [HV5.out] at t1
                   have t2 := rope_node h7.swap HV5.out HJ5.out (t := 1) rfl
                   have t2f := rope_nodef h7.swap HV5.out (j * 35 + 1)
                   have t2l := World.block_lt_of_cell? _ _ t2
                   have H7 := Lib.hid h7
                   have HE7 := Lib.hid e7
                   clear h7 e7))
              refine And.intro ?_ ?_
              · intro _
                go_simp
              refine wpAnyC_takeP (i := 13) (v := ?_) rfl (by kernel_rfl) (by kernel_rfl) (by kernel_rfl) (by kernel_rfl) (fun _ _ _ h => h) (by rfl) ?_ ?_
              rotate_left 1
              · intro w
                go_simp
                try with_reducible rfl
              refine wpAnyC_takeP (i := 14) (v := ?_) rfl (by kernel_rfl) (by kernel_rfl) (by kernel_rfl) (by kernel_rfl) (fun _ _ _ h => h) (by rfl) ?_ ?_
              rotate_left 1
              · intro w
                go_simp
                try with_reducible rfl
              refine wpAnyC_ready (rs := [15]) (by kernel_rfl) (by simp) ?_
              refine AllC.cons rfl (fun K hK => ?_) ?_
              · go_simp
                refine hK _ _ ?_
                clear hK K
                refine And.intro ?_ ?_
                · intro h
                  exact absurd h (by decide)
                refine wpAnyC_done (by kernel_rfl) ?_ _
                go_wp2_with fail
                go_end0
                have hM := HK.out.2.2.1
                have h8 := H7.out
                have ek : (intsC m.kids).take ((q + 1) * 1) ++ (intsC m.kids).drop ((q + 2) * 1) = intsC (ka ++ a :: kb) := by
                  rw [intsC_take, intsC_drop, HK.out.1]
                  have e1 : ka ++ a :: b :: kb = (ka ++ [a]) ++ b :: kb := by simp
                  have e2 : ka ++ a :: b :: kb = (ka ++ [a, b]) ++ kb := by simp
                  have l1 : (ka ++ [a]).length = q + 1 := by simp [HK.out.2.1]
                  have l2 : (ka ++ [a, b]).length = q + 2 := by simp [HK.out.2.1]
                  conv => lhs; lhs; rw [e1, List.take_left' l1]
                  conv => lhs; rhs; rw [e2, List.drop_left' l2]
                  simp [intsC]
                rw [ek] at h8
                have h9 := rope_setvk h8 (by have := HK.out.2.2.2; have := HK.out.2.1; simp only [List.length_append, List.length_cons]; omega) (by simp [HE7.out]) HV5.out HJ5.out
                have ha9 := HA5.out.set { m with vk := .slice A7 (q + 1 + (M - (q + 2))) k7, kids := ka ++ a :: kb }
                exact HR1.out _ _ _ _ h9 ha9 ⟨HM5.out.1.root, HM5.out.1.labels, HM5.out.1.sees⟩ (by rw [List.length_set, HM5.out.2]; simp) rfl rfl rfl rfl (by rw [← HX1.out.2]) rfl rfl (fun l hl => HF.out l hl) HSM.out
              exact AllC.nil
            exact AllC.nil
          exact AllC.nil
      · have HR := Lib.hid (HR0.out _ H2.out)
        clear hbb HBIG
        go_wp2
        go_end0
        exact HR.out
end
end Go.Proofs.Ytdgaffcfcgmfnaa
