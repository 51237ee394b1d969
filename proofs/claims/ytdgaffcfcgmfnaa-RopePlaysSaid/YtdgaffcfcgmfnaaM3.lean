/- cut, out of a knot; cut. -/
import Derived.Test.YtdgaffcfcgmfnaaM2
namespace Go.Proofs.Ytdgaffcfcgmfnaa
open Go.RowKit Go.Sl

attribute [local go_sem ↓ high] load107 store107 load105 store105 slice82
theorem del_parts (a b : List Part) (q : Part) (i rest : Nat) (hi : i = (partsE a).length + rest) (hr : rest < q.2.length) : delAt (partsE (a ++ q :: b)) i = partsE a ++ delAt q.2 rest ++ partsE b := by
  subst hi
  rw [partsE_app, partsE_cons]
  unfold delAt
  rw [List.take_append, List.take_of_length_le (by omega), List.drop_append, List.drop_eq_nil_iff.2 (by omega)]
  rw [show (partsE a).length + rest - (partsE a).length = rest by omega, List.take_append, List.drop_append, show rest - q.2.length = 0 by omega, show (partsE a).length + rest + 1 - (partsE a).length = rest + 1 by omega, show rest + 1 - q.2.length = 0 by omega]
  simp
theorem get_parts (a b : List Part) (q : Part) (i rest : Nat) (hi : i = (partsE a).length + rest) (hr : rest < q.2.length) : (partsE (a ++ q :: b))[i]? = q.2[rest]? := by
  subst hi
  rw [partsE_app, partsE_cons, List.getElem?_append_right (by omega), List.getElem?_append_left (by omega)]
  congr 1; omega
section
variable {k w : World} {L : List Asn} {F : List (Asg MN)} {g : Nat} {r : RM} {R : Ending → World → Prop}
set_option maxRecDepth 100000 in
set_option maxHeartbeats 4000000 in
theorem cut_knot {h : Nat} (IH : CutC h) : CutC (h + 1) := by
  intro k w L F g r R j i jI iI es e hs hjI hiI ha he hl hlen hN hR
  subst hjI hiI
  obtain ⟨m, ps, ha1, hme, hne, hk, hm, hg⟩ := tree_knot ha
  subst hm
  clear ha
  have hj := ha1.at_
  have hjl := ha1.ltlen
  obtain ⟨hil, -⟩ := List.getElem?_eq_some_iff.1 he
  have hs0 := ((hs.alloc elZ).alloc elZ).pull 2
  rw [alloc_size] at hs0
  obtain ⟨bn, cap, hv, -, -, -⟩ := rope_nodes hs hjl
  obtain ⟨-, Ak, ck, hvk, hk1, hk2, hAk⟩ := rope_heads hs hj
  have hpl : 0 < ps.length := List.length_pos_iff.2 hne
  have ekl : m.kids.length = ps.length := by rw [hk]; simp [partsK]
  obtain ⟨bk, ok, rfl, -⟩ := rope_kids hs hj hvk (by omega)
  obtain ⟨N, hNl⟩ : ∃ N, (partsE ps).length = N := ⟨_, rfl⟩
  have b1 : (j : Int) < (r.ms.length : Int) := by omega
  have b2 : (0 : Int) ≤ (j : Int) := by omega
  have b4 : (N : Int) ≤ 10000000 := by omega
  have hp8 : ps.length ≤ 8 := by have := hg.few; omega
  have hlb := hl e (List.mem_of_getElem? he)
  have hkn : ∀ q (hq : q < ps.length), ∃ x, r.ms[(ps[q]).1]? = some x ∧ x.size = (ps[q]).2.length := fun q hq => by
    obtain ⟨x, h1, h2, -⟩ := kid_node ha1 q hq
    exact ⟨x, h1, h2.size⟩
  have HS := Lib.hid hs0
  have HA := Lib.hid ha1
  have HK := Lib.hid (And.intro hk (And.intro hme (And.intro hne hp8)))
  have HG := Lib.hid hg
  have HL := Lib.hid hl
  have HQ := Lib.hid hR
  have HJ := Lib.hid hj
  have HV := Lib.hid hv
  have HVK := Lib.hid (And.intro hvk ekl)
  have HNL := Lib.hid hNl
  have HE := Lib.hid (And.intro he (And.intro hlb hil))
  have HLN := Lib.hid (And.intro hlen hN)
  have HKN := Lib.hid hkn
  clear hs hs0 ha1 hk hme hne hg hl hR hj hjl hv hvk hAk hk1 hk2 hNl he hlen hN hil hlb hkn ekl
  go_enter Try.func65, Try.ntmps65
  go_upto_region 2 with fail
  refine gen_world HS.out fun w0 h0 => ?_
  have c0 := rope_0 h0
  rw [HV.out] at c0
  have n1 := rope_node h0 HV.out HJ.out (t := 1) rfl
  rw [HVK.out.1, HVK.out.2] at n1
  have H0 := Lib.hid h0
  clear h0
  go_wp2_with (go_at_call 58; refine leaf_f n1 ?_)
  refine kid_any H0.out HV.out HJ.out HK.out.1 HK.out.2.2.1 HKN.out rfl (by have := HE.out.2.2; have := HNL.out; omega) (by have := HK.out.2.2.2; omega) ?_
  intro a q b rest hps hir hre
  obtain ⟨bk', ok', e1, hcell⟩ := rope_kids H0.out HJ.out HVK.out.1 (by rw [HVK.out.2]; exact hpl)
  injection e1 with e1
  injection e1 with e1 e2
  subst e1 e2
  have g2 := hcell a.length q.1 (by rw [HK.out.1, hps]; simp [partsK])
  have b5 : (a.length : Int) < (ps.length : Int) := by rw [hps]; simp; omega
  have b6 : (0 : Int) ≤ (a.length : Int) := by omega
  have hq : rest < q.2.length := by
    rcases hre with h1 | h1
    · exact h1
    · have h3 := HE.out.2.2
      rw [hps, partsE_app, List.length_append, h1, partsE_cons] at h3
      simp only [partsE, List.flatMap_nil, List.append_nil] at h3 hir
      omega
  have hget := HE.out.1
  rw [hps, get_parts a b q i rest hir hq] at hget
  have hsub : q.2.length ≤ (partsE ps).length ∧ ∀ x ∈ q.2, x ∈ partsE ps := by
    rw [hps, partsE_app, partsE_cons]
    exact ⟨by simp only [List.length_append]; omega, fun x hx => by simp [hx]⟩
  have ha2 : Ar r.ms r.free (Tree h q.1 q.2 :: Trees h a :: Trees h b :: nd j m :: F) := by
    have h1 := HA.out.swap
    rw [hps] at h1
    exact trees_open h1
  have hdel := del_parts a b q i rest hir hq
  rw [← hps] at hdel
  have HP := Lib.hid (And.intro hps (And.intro hir hq))
  have HGET := Lib.hid hget
  have HSUB := Lib.hid hsub
  have HA2 := Lib.hid ha2
  have HDEL := Lib.hid hdel
  clear hps hir hre hcell hq hget hsub ha2 hdel
  go_wp2_with fail
  refine IH H0.out rfl rfl HA2.out HGET.out (fun x hx => HL.out x (HSUB.out.2 x hx)) (by have := HSUB.out.1; have := HLN.out.1; omega) HLN.out.2 ?_
  intro r1 w1 h1 hm1 hl1 ha3
  have HA3 := Lib.hid ((trees_shut (q := (q.1, delAt q.2 rest)) ha3).swap)
  have HM1 := Lib.hid (And.intro hm1 hl1)
  have z0 : w1.cell? ⟨w.heap.size + 1, 0, none⟩ = some (.int .i64 0) := blk_cell h1.swap.lies 0
  have z1 : w1.cell? ⟨w.heap.size + 1, 1, none⟩ = some (.int .i32 0) := blk_cell h1.swap.lies 1
  have z2 : w1.cell? ⟨w.heap.size + 1, 2, none⟩ = some (.int .i64 0) := blk_cell h1.swap.lies 2
  have zf := blk_frozen h1.swap.lies
  have zl := blk_lt h1.swap.lies
  have h2 : St k _ (pt (w.heap.size + 1) (elO e) :: _) := ((h1.swap.set 0 (.int .i64 e.id)).set 1 (.int .i32 e.rune)).set 2 (.int .i64 e.label)
  have H2 := Lib.hid h2.swap
  clear h1 hm1 hl1 ha3 h2
  go_upto_region 8 with fail
  refine gen_world H2.out fun w2 h2 => ?_
  have H3 := Lib.hid h2
  clear h2 z0 z1 z2 zf zl c0 n1 g2
  go_wp2_with fail
  have hd1 : partsE (a ++ (q.1, delAt q.2 rest) :: b) = delAt (partsE ps) i := by rw [HDEL.out, partsE_app, partsE_cons]; simp
  have hdl := delAt_len HE.out.2.2
  rw [HNL.out] at hdl
  have hpl2 : ps.length = a.length + 1 + b.length := by rw [HP.out.1]; simp; omega
  refine mend_any (ps := a ++ (q.1, delAt q.2 rest) :: b) H3.out HA3.out (by rw [HK.out.1, HP.out.1]; simp [partsK]) (by have := HK.out.2.2.2; simp only [List.length_append, List.length_cons]; omega) (by simp) (fun x hx => HL.out x (delAt_sub x (by rw [← hd1]; exact hx))) (by rw [hd1]; omega) (by rw [HM1.out.2]; exact HLN.out.2) ?_
  intro r2 w3 m1 ps1 h4 s1 s2 s3 s4 s5 s6 s7 s8 s9 t1
  rw [hd1] at s5
  obtain ⟨bn, cap, hv9, -, -, -⟩ := rope_nodes h4 s1.ltlen
  obtain ⟨r1, h5, HB⟩ : ∃ (r1 : RM), St k w3 (ropeA g r1 :: pt (w.heap.size + 1) (elO e) :: pt w.heap.size elZ :: L) ∧ Hid (r1.vn = .slice (some ⟨bn, 0, none⟩) r1.ms.length cap ∧ Ar r1.ms r1.free (nd j m1 :: Trees h ps1 :: F) ∧ m1.kids = partsK ps1 ∧ (m1.elems = [] ∧ ps1 ≠ [] ∧ ps1.length ≤ 8 ∧ partsE ps1 = delAt (partsE ps) i) ∧ (m1.size = m.size ∧ m1.of = m.of) ∧ Meta r r1 ∧ r1.ms.length = r.ms.length) :=
    ⟨r2, h4, Lib.hid ⟨hv9, s1, s2, ⟨s6.trans HK.out.2.1, s3, s4, s5⟩, ⟨s7, s8⟩, HM1.out.1.trans s9, t1.trans HM1.out.2⟩⟩
  have HDL := Lib.hid hdl
  clear h4 s1 s2 s3 s4 s5 s6 s7 s8 s9 t1 hv9 hd1 hdl hpl2
  have hj5 := HB.out.2.1.at_
  have g5 := rope_0 h5
  rw [HB.out.1] at g5
  have s5 := rope_node h5 HB.out.1 hj5 (t := 2) rfl
  change w3.cell? _ = some (.int .i64 m1.size) at s5
  rw [HB.out.2.2.2.2.1.1, HG.out.size, HNL.out] at s5
  have s5f := rope_nodef h5 HB.out.1 (j * 35 + 2)
  have s5l := World.block_lt_of_cell? _ _ s5
  have HSZ := Lib.hid (rope_size (u := (N : Int) - 1) h5 HB.out.1 hj5)
  have c5 : (j : Int) < (r1.ms.length : Int) := by have := HB.out.2.1.ltlen; omega
  have hjl5 := HB.out.2.1.ltlen
  have HJL := Lib.hid hjl5
  clear h5 hj5 hjl5
  go_upto_region 11 with fail
  refine gen_world HSZ.out fun w5 h6 => ?_
  have hj6 : (r1.ms.set j { m1 with size := (N : Int) - 1 })[j]? = some { m1 with size := (N : Int) - 1 } := List.getElem?_set_self HJL.out
  obtain ⟨lb0, lb1⟩ := HE.out.2.1
  have hll : e.label.toNat < 32 := by omega
  have o1 : w5.cell? ⟨w.heap.size + 1, 2, none⟩ = some (.int .i64 e.label) := blk_cell h6.swap.lies 2
  have o2 := rope_ofc h6 HB.out.1 hj6 hll
  have o2f := rope_nodef h6 HB.out.1 (j * 35 + 3 + e.label.toNat)
  have o2l := World.block_lt_of_cell? _ _ o2
  change w5.cell? _ = some (.int .i64 (m1.of e.label.toNat)) at o2
  rw [HB.out.2.2.2.2.1.2] at o2
  have hfl := HG.out.of _ hll
  have hcb := cnt_le (partsE ps) e.label.toNat
  have q1 : 0 ≤ m.of e.label.toNat := by omega
  have q2 : m.of e.label.toNat ≤ 10000000 := by have := HNL.out; omega
  have HSET2 := Lib.hid ((rope_of (u := m.of e.label.toNat - 1) h6 HB.out.1 hj6 hll)).drew
  clear h6 hj6 hfl hcb
  go_region
  go_upto_region 12 with fail
  have hA7 := HB.out.2.1.set { m1 with size := (N : Int) - 1, of := fun l => if l = e.label.toNat then m.of e.label.toNat - 1 else m1.of l }
  obtain ⟨r2, h7, ha7, hm7, hl7⟩ : ∃ r2 : RM, St k _ (ropeA g r2 :: pt (w.heap.size + 1) (elO e) :: pt w.heap.size elZ :: L) ∧ Ar r2.ms r2.free (nd j { m1 with size := (N : Int) - 1, of := fun l => if l = e.label.toNat then m.of e.label.toNat - 1 else m1.of l } :: Trees h ps1 :: F) ∧ Meta r r2 ∧ r2.ms.length = r.ms.length :=
    ⟨_, HSET2.out, by have h9 := hA7; simp only [List.set_set] at h9 ⊢; exact h9, ⟨HB.out.2.2.2.2.2.1.root, HB.out.2.2.2.2.2.1.labels, HB.out.2.2.2.2.2.1.sees⟩, by simpa using HB.out.2.2.2.2.2.2⟩
  refine gen_world h7 fun w6 h8 => ?_
  have y0 : w6.cell? ⟨w.heap.size + 1, 0, none⟩ = some (.int .i64 e.id) := blk_cell h8.swap.lies 0
  have y1 : w6.cell? ⟨w.heap.size + 1, 1, none⟩ = some (.int .i32 e.rune) := blk_cell h8.swap.lies 1
  have y2 : w6.cell? ⟨w.heap.size + 1, 2, none⟩ = some (.int .i64 e.label) := blk_cell h8.swap.lies 2
  have z0 : w6.cell? ⟨w.heap.size, 0, none⟩ = some (.int .i64 0) := blk_cell (h8.pull 2).lies 0
  have z1 : w6.cell? ⟨w.heap.size, 1, none⟩ = some (.int .i32 0) := blk_cell (h8.pull 2).lies 1
  have z2 : w6.cell? ⟨w.heap.size, 2, none⟩ = some (.int .i64 0) := blk_cell (h8.pull 2).lies 2
  have zf := blk_frozen (h8.pull 2).lies
  have zl := blk_lt (h8.pull 2).lies
  have h9 : St k _ (pt w.heap.size (elO e) :: _) := (((h8.pull 2).set 0 (.int .i64 e.id)).set 1 (.int .i32 e.rune)).set 2 (.int .i64 e.label)
  have ht := knot_tree (es := delAt (partsE ps) i) ha7 HB.out.2.2.2.1.1 HB.out.2.2.2.1.2.1 HB.out.2.2.1 HB.out.2.2.2.1.2.2.2.symm ⟨by
    show (N : Int) - 1 = _
    have := HDL.out; omega, fun l hl => by
    show (if l = e.label.toNat then _ else _) = _
    rw [delAt_cnt HE.out.1]
    by_cases hc : l = e.label.toNat
    · subst hc
      rw [if_pos rfl, if_pos (by omega), HG.out.of _ hll]
    · rw [if_neg hc, if_neg (by omega), HB.out.2.2.2.2.1.2, HG.out.of _ hl]; omega, by
    show m1.kids.length ≤ 8
    rw [HB.out.2.2.1]; simpa [partsK] using HB.out.2.2.2.1.2.2.1⟩
  have HX := Lib.hid (HQ.out r2 _ (h9.drop.swap.drop) hm7 hl7 ht)
  clear hA7 h7 ha7 hm7 hl7 h8 h9 ht o1 o2 o2f o2l
  go_wp2
  exact bodyPost_ret (v := elV e) (by simp [results, Try.results65, go_sem, z0, z1, z2]) rfl HX.out

theorem cut_all : ∀ h, CutC h
  | 0 => cut_leaf
  | h + 1 => cut_knot (cut_all h)
end
end Go.Proofs.Ytdgaffcfcgmfnaa
