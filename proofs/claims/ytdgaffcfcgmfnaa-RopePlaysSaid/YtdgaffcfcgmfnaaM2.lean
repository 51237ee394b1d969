/- cut, out of a leaf. -/
import Derived.Test.YtdgaffcfcgmfnaaM1
namespace Go.Proofs.Ytdgaffcfcgmfnaa
open Go.RowKit Go.Sl

attribute [local go_sem ↓ high] load107 store107 load105 store105 slice82
/-- A code point, taken out. -/
def delAt (es : List El) (i : Nat) : List El := es.take i ++ es.drop (i + 1)
theorem delAt_len {es : List El} {i : Nat} (h : i < es.length) : (delAt es i).length + 1 = es.length := by
  simp only [delAt, List.length_append, List.length_take, List.length_drop]; omega
theorem delAt_cnt {es : List El} {i : Nat} {e : El} (h : es[i]? = some e) (l : Nat) : cnt (delAt es i) l = cnt es l - if e.label = (l : Int) then 1 else 0 := by
  obtain ⟨hlt, rfl⟩ := List.getElem?_eq_some_iff.1 h
  have : cnt es l = cnt (es.take i) l + cnt (es[i] :: es.drop (i + 1)) l := by rw [← cnt_append, ← List.drop_eq_getElem_cons hlt, List.take_append_drop]
  rw [delAt, cnt_append, this, cnt_cons]
  omega
theorem elsC_del (es : List El) (i : Nat) : (elsC es).take (i * 3) ++ (elsC es).drop ((i + 1) * 3) = elsC (delAt es i) := by
  rw [elsC_take, elsC_drop]
  simp [delAt, elsC]
theorem delAt_sub {es : List El} {i : Nat} : ∀ x ∈ delAt es i, x ∈ es := by
  intro x hx
  simp only [delAt, List.mem_append] at hx
  rcases hx with hx | hx
  · exact List.mem_of_mem_take hx
  · exact List.mem_of_mem_drop hx
abbrev elZ : Obj := .cells #[.int .i64 0, .int .i32 0, .int .i64 0] 39 (0, 0)
/-- What cut does at a height. -/
def CutC (h : Nat) : Prop := ∀ {k w : World} {L : List Asn} {F : List (Asg MN)} {g : Nat} {r : RM} {R : Ending → World → Prop} {j i : Nat} {jI iI : Int} {es : List El} {e : El},
  St k w (ropeA g r :: L) → jI = (j : Int) → iI = (i : Int) → Ar r.ms r.free (Tree h j es :: F) → es[i]? = some e → Labs es → es.length ≤ 10000000 → r.ms.length ≤ 10000000000 →
  (∀ r' w', St k w' (ropeA g r' :: L) → Meta r r' → r'.ms.length = r.ms.length → Ar r'.ms r'.free (Tree h j (delAt es i) :: F) → R (.returned (elV e)) w') →
    Calls Try.prog 65 #[.pointer (some ⟨g, 0, none⟩), .int .i64 jI, .int .i64 iI] w R
section
variable {k w : World} {L : List Asn} {F : List (Asg MN)} {g : Nat} {r : RM} {R : Ending → World → Prop}
set_option maxRecDepth 100000 in
set_option maxHeartbeats 4000000 in
theorem cut_leaf : CutC 0 := by
  intro k w L F g r R j i jI iI es e hs hjI hiI ha he hl hlen hN hR
  subst hjI hiI
  obtain ⟨m, ha1, hk, hm, hg⟩ := tree_leaf ha
  subst hm
  clear ha
  have hj := ha1.at_
  have hjl := ha1.ltlen
  obtain ⟨hil, -⟩ := List.getElem?_eq_some_iff.1 he
  have hs0 := (hs.alloc elZ).alloc elZ
  rw [alloc_size] at hs0
  obtain ⟨bn, cap, hv, -, -, -⟩ := rope_nodes hs hjl
  obtain ⟨⟨Ae, ce, hve, hce1, hce2⟩, Ak, ck, hvk, hk1, hk2, hAk⟩ := rope_heads hs hj
  obtain rfl : Ak = none := hAk.2 hk
  obtain ⟨N, hNl⟩ : ∃ N, m.elems.length = N := ⟨_, rfl⟩
  have b1 : (j : Int) < (r.ms.length : Int) := by omega
  have b2 : (0 : Int) ≤ (j : Int) := by omega
  have b3 : (i : Int) < (N : Int) := by omega
  have b4 : (N : Int) ≤ 10000000 := by omega
  obtain ⟨be, oe, rfl, -⟩ := rope_elems hs hj hve (by omega)
  have hlb := hl e (List.mem_of_getElem? he)
  have HS := Lib.hid hs0
  have HA := Lib.hid ha1
  have HK := Lib.hid hk
  have HG := Lib.hid hg
  have HQ := Lib.hid hR
  have HJ := Lib.hid (And.intro hj hjl)
  have HV := Lib.hid hv
  have HVE := Lib.hid hve
  have HVK := Lib.hid hvk
  have HNL := Lib.hid hNl
  have HE := Lib.hid (And.intro he hlb)
  have HLN := Lib.hid hlen
  clear hs hs0 ha1 hk hg hR hj hjl hv hve hvk hAk hce1 hce2 hk1 hk2 hNl hl he hlen hN hil hlb
  go_enter Try.func65, Try.ntmps65
  go_upto_region 2 with fail
  refine gen_world HS.out fun w0 h0 => ?_
  have c0 := rope_0 (h0.pull 2)
  rw [HV.out] at c0
  have n1 := rope_node (h0.pull 2) HV.out HJ.out.1 (t := 1) rfl
  rw [HVK.out, HK.out] at n1
  have n0 := rope_node (h0.pull 2) HV.out HJ.out.1 (t := 0) rfl
  rw [HVE.out, HNL.out, Nat.add_zero] at n0
  have hrd := rope_readE (h0.pull 2) HJ.out.1
  obtain ⟨be', oe', e1, hcell⟩ := reads_el hrd HVE.out (by rw [HNL.out]; omega)
  injection e1 with e1
  injection e1 with e1 e2
  subst e1 e2
  have p0 := hcell i e 0 _ HE.out.1 rfl
  have p1 := hcell i e 1 _ HE.out.1 rfl
  have p2 := hcell i e 2 _ HE.out.1 rfl
  rw [Nat.add_zero] at p0
  have z0 : w0.cell? ⟨w.heap.size + 1, 0, none⟩ = some (.int .i64 0) := blk_cell h0.lies 0
  have z1 : w0.cell? ⟨w.heap.size + 1, 1, none⟩ = some (.int .i32 0) := blk_cell h0.lies 1
  have z2 : w0.cell? ⟨w.heap.size + 1, 2, none⟩ = some (.int .i64 0) := blk_cell h0.lies 2
  have zf := blk_frozen h0.lies
  have zl := blk_lt h0.lies
  have h1 : St k _ (pt (w.heap.size + 1) (elO e) :: _) := ((h0.set 0 (.int .i64 e.id)).set 1 (.int .i32 e.rune)).set 2 (.int .i64 e.label)
  have H1 := Lib.hid h1
  clear h0 hrd hcell h1
  go_upto_region 5 with (go_at_call 58; refine leaf_t n1 ?_)
  refine gen_world H1.out fun w1 h1 => ?_
  have hr1 := rope_readE (h1.pull 2) HJ.out.1
  rw [HVE.out, HNL.out] at hr1
  have q0 := rope_node (h1.pull 2) HV.out HJ.out.1 (t := 0) rfl
  rw [HVE.out, HNL.out, Nat.add_zero] at q0
  have HS1 := Lib.hid (And.intro h1 hr1)
  clear h1 hr1 c0 n0 n1 p0 p1 p2 z0 z1 z2 zf zl
  go_wp2_with fail
  refine cloneE HS1.out.1 HS1.out.2 (elsC_one _) (by omega) ?_
  intro v2 w2 h2 _
  obtain ⟨A2, k2, rfl, -⟩ := h2.readsA.at_
  have HS2 := Lib.hid h2
  clear h2
  go_wp2_with fail
  refine deleteE HS2.out (i := i) (j := i + 1) rfl (by omega) (by omega) (by omega) (elsC_one _) ?_
  intro v3 w3 h3 _
  obtain ⟨A3, k3, rfl, -⟩ := h3.readsA.at_
  rw [elsC_del] at h3
  have t0 := rope_node (h3.pull 3) HV.out HJ.out.1 (t := 0) rfl
  have t0f := rope_nodef (h3.pull 3) HV.out (j * 35)
  rw [Nat.add_zero] at t0
  have t0l := World.block_lt_of_cell? _ _ t0
  have hdl := delAt_len (List.getElem?_eq_some_iff.1 HE.out.1).1
  rw [HNL.out] at hdl
  have hset := rope_setve ((h3.pull 3).swap) (by omega) HV.out HJ.out.1
  have HSET := Lib.hid hset
  have HDL := Lib.hid hdl
  clear h3 hset hdl
  go_upto_region 9 with fail
  refine gen_world HSET.out fun w4 h4 => ?_
  obtain ⟨r1, m1, h5, HB⟩ : ∃ (r1 : RM) (m1 : MN), St k w4 (ropeA g r1 :: pt (w.heap.size + 1) (elO e) :: pt w.heap.size elZ :: L) ∧ Hid (r1.vn = .slice (some ⟨bn, 0, none⟩) r1.ms.length cap ∧ Ar r1.ms r1.free (nd j m1 :: F) ∧ m1.kids = [] ∧ m1.elems = delAt m.elems i ∧ (m1.size = m.size ∧ m1.of = m.of) ∧ Meta r r1 ∧ r1.ms.length = r.ms.length) :=
    ⟨_, _, h4, Lib.hid ⟨by simpa using HV.out, HA.out.set _, HK.out, rfl, ⟨rfl, rfl⟩, ⟨rfl, rfl, rfl⟩, by simp⟩⟩
  clear h4
  have hj5 := HB.out.2.1.at_
  have g5 := rope_0 h5
  rw [HB.out.1] at g5
  have s5 := rope_node h5 HB.out.1 hj5 (t := 2) rfl
  change w4.cell? _ = some (.int .i64 m1.size) at s5
  rw [HB.out.2.2.2.2.1.1, HG.out.size, HNL.out] at s5
  have s5f := rope_nodef h5 HB.out.1 (j * 35 + 2)
  have s5l := World.block_lt_of_cell? _ _ s5
  have HSZ := Lib.hid (rope_size (u := (N : Int) - 1) h5 HB.out.1 hj5)
  have c5 : (j : Int) < (r1.ms.length : Int) := by have := HB.out.2.1.ltlen; omega
  have hjl5 := HB.out.2.1.ltlen
  have HJL := Lib.hid hjl5
  clear h5 hj5 t0 t0f t0l q0 hjl5
  go_upto_region 11 with fail
  refine gen_world HSZ.out fun w5 h6 => ?_
  have hj6 : (r1.ms.set j { m1 with size := (N : Int) - 1 })[j]? = some { m1 with size := (N : Int) - 1 } := List.getElem?_set_self HJL.out
  obtain ⟨lb0, lb1⟩ := HE.out.2
  have hll : e.label.toNat < 32 := by omega
  have o1 : w5.cell? ⟨w.heap.size + 1, 2, none⟩ = some (.int .i64 e.label) := blk_cell h6.swap.lies 2
  have o2 := rope_ofc h6 HB.out.1 hj6 hll
  have o2f := rope_nodef h6 HB.out.1 (j * 35 + 3 + e.label.toNat)
  have o2l := World.block_lt_of_cell? _ _ o2
  change w5.cell? _ = some (.int .i64 (m1.of e.label.toNat)) at o2
  rw [HB.out.2.2.2.2.1.2] at o2
  have hfl := HG.out.of _ hll
  have hcb := cnt_le m.elems e.label.toNat
  have q1 : 0 ≤ m.of e.label.toNat := by omega
  have q2 : m.of e.label.toNat ≤ 10000000 := by have := HNL.out; omega
  have HSET2 := Lib.hid ((rope_of (u := m.of e.label.toNat - 1) h6 HB.out.1 hj6 hll)).drew
  clear h6 hj6 hfl hcb
  go_region
  go_upto_region 12 with fail
  have hA7 := HB.out.2.1.set { m1 with size := (N : Int) - 1, of := fun l => if l = e.label.toNat then m.of e.label.toNat - 1 else m1.of l }
  obtain ⟨r2, h7, ha7, hm7, hl7⟩ : ∃ r2 : RM, St k _ (ropeA g r2 :: pt (w.heap.size + 1) (elO e) :: pt w.heap.size elZ :: L) ∧ Ar r2.ms r2.free (nd j { m1 with size := (N : Int) - 1, of := fun l => if l = e.label.toNat then m.of e.label.toNat - 1 else m1.of l } :: F) ∧ Meta r r2 ∧ r2.ms.length = r.ms.length :=
    ⟨_, HSET2.out, by have h9 := hA7; simp only [List.set_set] at h9 ⊢; exact h9, ⟨HB.out.2.2.2.2.2.1.root, HB.out.2.2.2.2.2.1.labels, HB.out.2.2.2.2.2.1.sees⟩, by simpa using HB.out.2.2.2.2.2.2⟩
  refine gen_world h7 fun w6 h8 => ?_
  have y0 : w6.cell? ⟨w.heap.size + 1, 0, none⟩ = some (.int .i64 e.id) := blk_cell h8.swap.lies 0
  have y1 : w6.cell? ⟨w.heap.size + 1, 1, none⟩ = some (.int .i32 e.rune) := blk_cell h8.swap.lies 1
  have y2 : w6.cell? ⟨w.heap.size + 1, 2, none⟩ = some (.int .i64 e.label) := blk_cell h8.swap.lies 2
  have z0 : w6.cell? ⟨w.heap.size, 0, none⟩ = some (.int .i64 0) := blk_cell (h8.pull 2).lies 0
  have z1 : w6.cell? ⟨w.heap.size, 1, none⟩ = some (.int .i32 0) := blk_cell (h8.pull 2).lies 1
  have z2 : w6.cell? ⟨w.heap.size, 2, none⟩ = some (.int .i64 0) := blk_cell (h8.pull 2).lies 2
  have zf := blk_frozen (h8.pull 2).lies
  have zl := blk_lt (h8.pull 2).lies
  have h9 : St k _ (pt w.heap.size (elO e) :: _) := (((h8.pull 2).set 0 (.int .i64 e.id)).set 1 (.int .i32 e.rune)).set 2 (.int .i64 e.label)
  have ht := leaf_tree (es := delAt m.elems i) ha7 HB.out.2.2.1 HB.out.2.2.2.1 ⟨by
    show (N : Int) - 1 = _
    have := HDL.out; omega, fun l hl => by
    show (if l = e.label.toNat then _ else _) = _
    rw [delAt_cnt HE.out.1]
    by_cases hc : l = e.label.toNat
    · subst hc
      rw [if_pos rfl, if_pos (by omega), HG.out.of _ hll]
    · rw [if_neg hc, if_neg (by omega), HB.out.2.2.2.2.1.2, HG.out.of _ hl]; omega, by
    show m1.kids.length ≤ 8
    rw [HB.out.2.2.1]; simp⟩
  have HX := Lib.hid (HQ.out r2 _ (h9.drop.swap.drop) hm7 hl7 ht)
  clear hA7 h7 ha7 hm7 hl7 h8 h9 ht o1 o2 o2f o2l
  go_wp2
  exact bodyPost_ret (v := elV e) (by simp [results, Try.results65, go_sem, z0, z1, z2]) rfl HX.out
end
end Go.Proofs.Ytdgaffcfcgmfnaa
