/- set: plain. set, in a leaf. set, in a leaf: the walk. set, in a knot; set. -/
import Derived.Test.YtdgaffcfcgmfnaaM5
namespace Go.Sl
theorem setCell_comm (w : World) {b b' : Nat} (h : b ≠ b') (i j : Nat) (x y : Value) : (w.setCell ⟨b, i, none⟩ x).setCell ⟨b', j, none⟩ y = (w.setCell ⟨b', j, none⟩ y).setCell ⟨b, i, none⟩ x := by
  have hm : ∀ (f f' : Obj → Obj), (w.heap.modify b f).modify b' f' = (w.heap.modify b' f').modify b f := fun f f' => by
    apply Array.ext_getElem?
    intro k
    simp only [Array.getElem?_modify]
    by_cases h1 : b = k
    · subst h1
      rw [if_neg (Ne.symm h), if_neg (Ne.symm h)]
    · rw [if_neg h1, if_neg h1]
  simp only [World.setCell, hm]
end Go.Sl
namespace Go.Proofs.Ytdgaffcfcgmfnaa
open Go.RowKit Go.Sl

theorem set_parts (a b : List Part) (q : Part) (i rest : Nat) (e : El) (hi : i = (partsE a).length + rest) (hr : rest < q.2.length) : (partsE (a ++ q :: b)).set i e = partsE a ++ q.2.set rest e ++ partsE b := by
  subst hi
  rw [partsE_app, partsE_cons, List.set_append_right _ _ (by omega), List.set_append_left _ _ (by omega)]
  simp
theorem set_cnt {es : List El} {i : Nat} {e e' : El} (h : es[i]? = some e) (l : Nat) : cnt (es.set i e') l = (cnt es l - if e.label = (l : Int) then 1 else 0) + if e'.label = (l : Int) then 1 else 0 := by
  obtain ⟨hlt, rfl⟩ := List.getElem?_eq_some_iff.1 h
  have h1 : cnt es l = cnt (es.take i) l + cnt (es[i] :: es.drop (i + 1)) l := by rw [← cnt_append, ← List.drop_eq_getElem_cons hlt, List.take_append_drop]
  rw [List.set_eq_take_append_cons_drop, if_pos hlt, cnt_append, h1, cnt_cons, cnt_cons]
  omega
theorem elsC_set (es : List El) (i : Nat) (e : El) (l : Int) (he : es[i]? = some e) : (elsC es).set (i * 3 + 2) (.int .i64 l) = elsC (es.set i { e with label := l }) :=
  flat_set elC_len es i 2 e { e with label := l } (.int .i64 l) (by omega) he rfl
end Go.Proofs.Ytdgaffcfcgmfnaa
namespace Go.Proofs.Ytdgaffcfcgmfnaa
open Go.RowKit Go.Sl

attribute [local go_sem ↓ high] load107 store107 load105 store105 slice82
section
variable {k w : World} {L : List Asn} {F : List (Asg MN)} {g : Nat} {r : RM} {R : Ending → World → Prop}
/-- A block of one's own is not the nodes'. -/
theorem rope_apart {bn cap n b : Nat} {o : Obj} (h : St k w (pt b o :: ropeA g r :: L)) (hv : r.vn = .slice (some ⟨bn, 0, none⟩) n cap) : b ≠ bn := by
  have h1 := (rope_open h.swap).pull 4
  have h2 := h1.pull 2
  rcases h2.openA with ⟨h0, _⟩ | ⟨bn', cap', cur, hv', hn, hc, hs, htk, hl, h'⟩
  · rw [h0] at hv; injection hv with hv; cases hv
  · rw [hv'] at hv
    injection hv with e1 e2 e3
    injection e1 with e1
    injection e1 with e1
    subst e1
    exact (h'.ne).symm
/-- A node gets a row of its own, of which one label is turned. -/
theorem rope_setlab {bn cap bx n j i : Nat} {m : MN} {es : List El} {e : El} {v : Value} {lb : Int} (h : St k w (rowA 39 3 v n (elsC es) :: ropeA g r :: L)) (hn : n = es.length) (hv : r.vn = .slice (some ⟨bn, 0, none⟩) bx cap) (hj : r.ms[j]? = some m) (he : es[i]? = some e) :
    ∃ b c, v = .slice (some ⟨b, 0, none⟩) n c ∧ n ≤ c ∧ b ≠ bn ∧ w.cell? ⟨b, i * 3 + 2, none⟩ = some (.int .i64 e.label) ∧ w.frozen? ⟨b, i * 3 + 2, none⟩ = false ∧
      St k ((w.setCell ⟨bn, j * 35, none⟩ v).setCell ⟨b, i * 3 + 2, none⟩ (.int .i64 lb)) (ropeA g { r with ms := r.ms.set j { m with ve := v, elems := es.set i { e with label := lb } } } :: L) := by
  subst hn
  have hil : i < es.length := (List.getElem?_eq_some_iff.1 he).1
  have hrd := h.readsA
  rcases h.openA with ⟨h0, h00, _⟩ | ⟨b, c, cur, hv', hn, hc, hs, htk, hl, h'⟩
  · omega
  · subst hv'
    have hne := rope_apart h' hv
    have hcell : w.cell? ⟨b, i * 3 + 2, none⟩ = some (.int .i64 e.label) := by
      obtain ⟨A, c2, e1, -, -, -, h4⟩ := hrd.at_
      injection e1 with e1 e2 e3
      have := (h4 _ e1.symm).2 (i * 3 + 2) (.int .i64 e.label) (by unfold elsC; rw [flat_get elC_len _ _ _ (by omega), he]; rfl)
      rwa [Nat.zero_add] at this
    refine ⟨b, c, rfl, hn, hne, hcell, blk_frozen h'.lies _, ?_⟩
    have h2 := (h'.set (i * 3 + 2) (.int .i64 lb)).shutA (n := es.length) (cs := (elsC es).set (i * 3 + 2) (.int .i64 lb)) hn hc (by simpa using hs) (by rw [Array.toList_setIfInBounds, List.take_set, htk])
    rw [elsC_set es i e lb he] at h2
    have h3 := rope_setve h2 (by simp) hv hj
    rw [setCell_comm w hne.symm]
    exact h3
end
/-- What set does at a height. -/
def SetC (h : Nat) : Prop := ∀ {k w : World} {L : List Asn} {F : List (Asg MN)} {g : Nat} {r : RM} {R : Ending → World → Prop} {j i : Nat} {jI iI lb : Int} {es : List El} {e : El},
  St k w (ropeA g r :: L) → jI = (j : Int) → iI = (i : Int) → Ar r.ms r.free (Tree h j es :: F) → es[i]? = some e → Labs es → (0 ≤ lb ∧ lb < 32) → es.length ≤ 10000000 → r.ms.length ≤ 10000000000 →
  (∀ r' w', St k w' (ropeA g r' :: L) → Meta r r' → r'.ms.length = r.ms.length → Ar r'.ms r'.free (Tree h j (es.set i { e with label := lb }) :: F) → R (.returned (.tuple #[])) w') →
    Calls Try.prog 78 #[.pointer (some ⟨g, 0, none⟩), .int .i64 jI, .int .i64 iI, .int .i64 lb] w R
end Go.Proofs.Ytdgaffcfcgmfnaa
namespace Go.Proofs.Ytdgaffcfcgmfnaa
open Go.RowKit Go.Sl

attribute [local go_sem ↓ high] load107 store107 load105 store105 slice82
section
set_option maxRecDepth 100000 in
set_option maxHeartbeats 4000000 in
theorem set_leaf : SetC 0 := by
  intro k w L F g r R j i jI iI lb es e hs hjI hiI ha he hl hlb hlen hN hR
  subst hjI hiI
  obtain ⟨m, ha1, hk, hm, hg⟩ := tree_leaf ha
  subst hm
  clear ha
  have hj := ha1.at_
  have hjl := ha1.ltlen
  obtain ⟨hil, -⟩ := List.getElem?_eq_some_iff.1 he
  obtain ⟨bn, cap, hv, -, -, -⟩ := rope_nodes hs hjl
  have c0 := rope_0 hs
  rw [hv] at c0
  obtain ⟨⟨Ae, ce, hve, hce1, hce2⟩, Ak, ck, hvk, hk1, hk2, hAk⟩ := rope_heads hs hj
  obtain rfl : Ak = none := hAk.2 hk
  have n1 := rope_node hs hv hj (t := 1) rfl
  rw [hvk, hk] at n1
  have n0 := rope_node hs hv hj (t := 0) rfl
  rw [hve, Nat.add_zero] at n0
  obtain ⟨N, hNl⟩ : ∃ N, m.elems.length = N := ⟨_, rfl⟩
  rw [hNl] at n0
  obtain ⟨be, oe, rfl, hcell⟩ := rope_elems hs hj hve (by omega)
  have p2 := hcell i e 2 _ he rfl
  have hr1 := rope_readE hs hj
  rw [hve, hNl] at hr1
  have b1 : (j : Int) < (r.ms.length : Int) := by omega
  have b2 : (0 : Int) ≤ (j : Int) := by omega
  have b3 : (i : Int) < (N : Int) := by omega
  have b4 : (N : Int) ≤ 10000000 := by omega
  have hlbe := hl e (List.mem_of_getElem? he)
  have HS := Lib.hid (And.intro hs hr1)
  have HA := Lib.hid ha1
  have HK := Lib.hid hk
  have HG := Lib.hid hg
  have HQ := Lib.hid hR
  have HJ := Lib.hid (And.intro hj hjl)
  have HV := Lib.hid hv
  have HNL := Lib.hid hNl
  have HE := Lib.hid (And.intro he (And.intro hlbe hlb))
  clear hs ha1 hk hg hR hj hjl hv hve hvk hAk hce1 hce2 hk1 hk2 hNl hl he hlen hN hil hlbe hlb hcell hr1
  go_enter Try.func78, Try.ntmps78
  go_wp2_with (go_at_call 58; refine leaf_t n1 ?_)
  refine cloneE HS.out.1 HS.out.2 (elsC_one _) (by omega) ?_
  intro v2 w2 h2 _
  obtain ⟨b, c, rfl, hnc, hne, q2, q2f, hset⟩ := rope_setlab (lb := lb) h2 HNL.out.symm HV.out HJ.out.1 HE.out.1
  have t0 := rope_node h2.swap HV.out HJ.out.1 (t := 0) rfl
  have t0f := rope_nodef h2.swap HV.out (j * 35)
  rw [Nat.add_zero] at t0
  have t0l := World.block_lt_of_cell? _ _ t0
  have q2l := World.block_lt_of_cell? _ _ q2
  have hne2 : bn ≠ b := hne.symm
  have HSET := Lib.hid hset
  clear h2 hset
  go_upto_region 9 with fail
  refine gen_world HSET.out fun w4 h4 => ?_
  obtain ⟨r1, m1, h5, HB⟩ : ∃ (r1 : RM) (m1 : MN), St k w4 (ropeA g r1 :: L) ∧ Hid (r1.vn = .slice (some ⟨bn, 0, none⟩) r1.ms.length cap ∧ Ar r1.ms r1.free (nd j m1 :: F) ∧ m1.kids = [] ∧ m1.elems = m.elems.set i { e with label := lb } ∧ (m1.size = m.size ∧ m1.of = m.of) ∧ Meta r r1 ∧ r1.ms.length = r.ms.length) :=
    ⟨_, _, h4, Lib.hid ⟨by simpa using HV.out, HA.out.set _, HK.out, rfl, ⟨rfl, rfl⟩, ⟨rfl, rfl, rfl⟩, by simp⟩⟩
  clear h4 t0 t0f t0l q2 q2f q2l hne hne2 c0 n0 n1 p2
  have hj5 := HB.out.2.1.at_
  have g5 := rope_0 h5
  rw [HB.out.1] at g5
  obtain ⟨lb0, lb1⟩ := HE.out.2.1
  obtain ⟨lc0, lc1⟩ := HE.out.2.2
  have hll : e.label.toNat < 32 := by omega
  have hlm : lb.toNat < 32 := by omega
  have hjl5 := HB.out.2.1.ltlen
  have c5 : (j : Int) < (r1.ms.length : Int) := by omega
  have o2 := rope_ofc h5 HB.out.1 hj5 hll
  have o2f := rope_nodef h5 HB.out.1 (j * 35 + 3 + e.label.toNat)
  have o2l := World.block_lt_of_cell? _ _ o2
  rw [HB.out.2.2.2.2.1.2] at o2
  have hfl := HG.out.of _ hll
  have hcb := cnt_le m.elems e.label.toNat
  have q1 : 0 ≤ m.of e.label.toNat := by omega
  have q2 : m.of e.label.toNat ≤ 10000000 := by have := HNL.out; omega
  have H1 := Lib.hid (rope_of (u := m.of e.label.toNat - 1) h5 HB.out.1 hj5 hll).drew
  have HJL := Lib.hid hjl5
  clear h5 hj5 hfl hcb hjl5
  go_upto_region 10 with fail
  go_region
  go_upto_region 11 with fail
  refine gen_world H1.out fun w5 h6 => ?_
  obtain ⟨f1, hf1⟩ : ∃ f1 : Nat → Int, f1 = fun l => if l = e.label.toNat then m.of e.label.toNat - 1 else m1.of l := ⟨_, rfl⟩
  rw [← hf1] at h6
  have hj6 : (r1.ms.set j { m1 with of := f1 })[j]? = some { m1 with of := f1 } := List.getElem?_set_self HJL.out
  have u2 := rope_ofc h6 HB.out.1 hj6 hlm
  have u2f := rope_nodef h6 HB.out.1 (j * 35 + 3 + lb.toNat)
  have u2l := World.block_lt_of_cell? _ _ u2
  change w5.cell? _ = some (.int .i64 (f1 lb.toNat)) at u2
  have hf1b : -10 ≤ f1 lb.toNat ∧ f1 lb.toNat ≤ 100000000 := by
    rw [hf1]
    show -10 ≤ (if lb.toNat = e.label.toNat then _ else _) ∧ (if lb.toNat = e.label.toNat then _ else _) ≤ _
    rw [HB.out.2.2.2.2.1.2]
    have h1 := HG.out.of _ hlm
    have h2 := cnt_le m.elems lb.toNat
    have h3 := HNL.out
    split <;> omega
  obtain ⟨q3, q4⟩ := hf1b
  have H2 := Lib.hid (rope_of (u := f1 lb.toNat + 1) h6 HB.out.1 hj6 hlm).drew
  have HF1 := Lib.hid hf1
  clear h6 hj6 hf1 o2 o2f o2l
  go_region
  have h7 := H2.out
  simp only [List.set_set] at h7
  have ha7 := HB.out.2.1.set { m1 with of := fun l => if l = lb.toNat then f1 lb.toNat + 1 else f1 l }
  have hcn := fun l => set_cnt (e' := { e with label := lb }) HE.out.1 l
  have ht := leaf_tree (es := m.elems.set i { e with label := lb }) ha7 HB.out.2.2.1 HB.out.2.2.2.1 ⟨by
    show m1.size = _
    rw [HB.out.2.2.2.2.1.1, HG.out.size, List.length_set], fun l hl => by
    show (if l = lb.toNat then _ else _) = _
    rw [hcn l, HF1.out]
    show (if l = lb.toNat then (if lb.toNat = e.label.toNat then _ else _) + 1 else (if l = e.label.toNat then _ else _)) = (_ - if e.label = (l : Int) then 1 else 0) + if lb = (l : Int) then 1 else 0
    rw [HB.out.2.2.2.2.1.2, HG.out.of _ hll, HG.out.of _ hlm, HG.out.of _ hl]
    by_cases h1 : l = lb.toNat
    · subst h1
      by_cases h2 : lb.toNat = e.label.toNat
      · rw [if_pos rfl, if_pos h2, if_pos (by omega), if_pos (by omega), h2]
      · rw [if_pos rfl, if_neg h2, if_neg (by omega), if_pos (by omega)]; omega
    · by_cases h2 : l = e.label.toNat
      · subst h2
        rw [if_neg h1, if_pos rfl, if_pos (by omega), if_neg (by omega)]; omega
      · rw [if_neg h1, if_neg h2, if_neg (by omega), if_neg (by omega)]; omega, by
    show m1.kids.length ≤ 8
    rw [HB.out.2.2.1]; simp⟩
  have HX := Lib.hid (HQ.out _ _ h7 ⟨HB.out.2.2.2.2.2.1.root, HB.out.2.2.2.2.2.1.labels, HB.out.2.2.2.2.2.1.sees⟩ (by simpa using HB.out.2.2.2.2.2.2) ht)
  clear h7 ha7 hcn ht
  go_wp2_with fail
  go_end0
  exact HX.out
end
end Go.Proofs.Ytdgaffcfcgmfnaa
namespace Go.Proofs.Ytdgaffcfcgmfnaa
open Go.RowKit Go.Sl

attribute [local go_sem ↓ high] load107 store107 load105 store105 slice82
set_option maxRecDepth 100000 in
theorem field_lab (e : El) (w : World) : (Instr.field 39 (.agg #[.int .i64 e.id, .int .i32 e.rune, .int .i64 e.label]) 2).run Try.prog w = .ok (.int .i64 e.label) w := by kernel_rfl
attribute [local go_sem ↓ high] field_lab
section
set_option maxRecDepth 100000 in
set_option maxHeartbeats 4000000 in
theorem set_knot {h : Nat} (IH : SetC h) : SetC (h + 1) := by
  intro k w L F g r R j i jI iI lb es e hs hjI hiI ha he hl hlb hlen hN hR
  subst hjI hiI
  obtain ⟨m, ps, ha1, hme, hne, hk, hm, hg⟩ := tree_knot ha
  subst hm
  clear ha
  have hj := ha1.at_
  have hjl := ha1.ltlen
  obtain ⟨hil, -⟩ := List.getElem?_eq_some_iff.1 he
  obtain ⟨bn, cap, hv, -, -, -⟩ := rope_nodes hs hjl
  obtain ⟨-, Ak, ck, hvk, hk1, hk2, hAk⟩ := rope_heads hs hj
  have hpl : 0 < ps.length := List.length_pos_iff.2 hne
  have ekl : m.kids.length = ps.length := by rw [hk]; simp [partsK]
  obtain ⟨bk, ok, rfl, -⟩ := rope_kids hs hj hvk (by omega)
  obtain ⟨N, hNl⟩ : ∃ N, (partsE ps).length = N := ⟨_, rfl⟩
  have b1 : (j : Int) < (r.ms.length : Int) := by omega
  have b2 : (0 : Int) ≤ (j : Int) := by omega
  have b4 : (N : Int) ≤ 10000000 := by omega
  have hp8 : ps.length ≤ 8 := by have := hg.few; omega
  have hlbe := hl e (List.mem_of_getElem? he)
  have hkn : ∀ q (hq : q < ps.length), ∃ x, r.ms[(ps[q]).1]? = some x ∧ x.size = (ps[q]).2.length := fun q hq => by
    obtain ⟨x, h1, h2, -⟩ := kid_node ha1 q hq
    exact ⟨x, h1, h2.size⟩
  have HS := Lib.hid hs
  have HA := Lib.hid ha1
  have HK := Lib.hid (And.intro hk (And.intro hme (And.intro hne hp8)))
  have HG := Lib.hid hg
  have HL := Lib.hid hl
  have HQ := Lib.hid hR
  have HJ := Lib.hid hj
  have HV := Lib.hid hv
  have HVK := Lib.hid (And.intro hvk ekl)
  have HNL := Lib.hid hNl
  have HE := Lib.hid (And.intro he (And.intro hlbe (And.intro hlb hil)))
  have HLN := Lib.hid (And.intro hlen hN)
  have HKN := Lib.hid hkn
  clear hs ha1 hk hme hne hg hl hR hj hjl hv hvk hAk hk1 hk2 hNl he hlen hN hil hlb hlbe hkn ekl
  go_enter Try.func78, Try.ntmps78
  go_upto_region 1 with fail
  refine gen_world HS.out fun w0 h0 => ?_
  have c0 := rope_0 h0
  rw [HV.out] at c0
  have n1 := rope_node h0 HV.out HJ.out (t := 1) rfl
  rw [HVK.out.1, HVK.out.2] at n1
  have H0 := Lib.hid h0
  clear h0
  go_wp2_with (go_at_call 58; refine leaf_f n1 ?_)
  refine kid_any H0.out HV.out HJ.out HK.out.1 HK.out.2.2.1 HKN.out rfl (by have := HE.out.2.2.2; have := HNL.out; omega) (by have := HK.out.2.2.2; omega) ?_
  intro a q b rest hps hir hre
  obtain ⟨bk', ok', e1, hcell⟩ := rope_kids H0.out HJ.out HVK.out.1 (by rw [HVK.out.2]; exact hpl)
  injection e1 with e1
  injection e1 with e1 e2
  subst e1 e2
  have g2 := hcell a.length q.1 (by rw [HK.out.1, hps]; simp [partsK])
  have b5 : (a.length : Int) < (ps.length : Int) := by rw [hps]; simp; omega
  have b6 : (0 : Int) ≤ (a.length : Int) := by omega
  have hq : rest < q.2.length := by
    rcases hre with h1 | h1
    · exact h1
    · have h3 := HE.out.2.2.2
      rw [hps, partsE_app, List.length_append, h1, partsE_cons] at h3
      simp only [partsE, List.flatMap_nil, List.append_nil] at h3 hir
      omega
  have hget := HE.out.1
  rw [hps, get_parts a b q i rest hir hq] at hget
  have hsub : q.2.length ≤ (partsE ps).length ∧ ∀ x ∈ q.2, x ∈ partsE ps := by
    rw [hps, partsE_app, partsE_cons]
    exact ⟨by simp only [List.length_append]; omega, fun x hx => by simp [hx]⟩
  have ha2 : Ar r.ms r.free (Tree h q.1 q.2 :: Trees h a :: Trees h b :: nd j m :: F) := by
    have h1 := HA.out.swap
    rw [hps] at h1
    exact trees_open h1
  have hdel := set_parts a b q i rest { e with label := lb } hir hq
  rw [← hps] at hdel
  have HP := Lib.hid (And.intro hps (And.intro hir hq))
  have HGET := Lib.hid hget
  have HSUB := Lib.hid hsub
  have HA2 := Lib.hid ha2
  have HDEL := Lib.hid hdel
  clear hps hir hre hcell hq hget hsub ha2 hdel
  go_upto_region 7 with fail
  have hkq : q.1 < r.ms.length := HA2.out.1 |> fun _ => by
    obtain ⟨x, hx, -⟩ := tree_node HA2.out
    exact (List.getElem?_eq_some_iff.1 hx).1
  have b7 : (q.1 : Int) < (r.ms.length : Int) := by omega
  have b8 : (0 : Int) ≤ (q.1 : Int) := by omega
  have H0D := Lib.hid H0.out.drew
  go_still_tail 20, (by kernel_rfl)
  go_wp2_with fail
  refine at_any H0D.out HV.out HA2.out rfl HGET.out (by have := HSUB.out.1; have := HLN.out.1; omega) ?_
  intro w1 h1
  have c0' := rope_0 h1
  rw [HV.out] at c0'
  have n1' := rope_node h1 HV.out HJ.out (t := 1) rfl
  rw [HVK.out.1, HVK.out.2] at n1'
  obtain ⟨bk', ok', e1, hcell⟩ := rope_kids h1 HJ.out HVK.out.1 (by rw [HVK.out.2]; exact hpl)
  injection e1 with e1
  injection e1 with e1 e2
  subst e1 e2
  have g2' := hcell a.length q.1 (by rw [HK.out.1, HP.out.1]; simp [partsK])
  have H1' := Lib.hid h1
  clear h1 hcell c0 n1 g2
  go_wp2_with fail
  refine IH H1'.out rfl rfl HA2.out HGET.out (fun x hx => HL.out x (HSUB.out.2 x hx)) HE.out.2.2.1 (by have := HSUB.out.1; have := HLN.out.1; omega) HLN.out.2 ?_
  intro r1 w4 h5 hm1 hl1 ha3
  have ha4 := (trees_shut (q := (q.1, q.2.set rest { e with label := lb })) ha3).swap
  obtain ⟨bn, cap, hv9, -, -, -⟩ := rope_nodes h5 ha4.ltlen
  have hd1 : partsE (a ++ (q.1, q.2.set rest { e with label := lb }) :: b) = (partsE ps).set i { e with label := lb } := by rw [HDEL.out, partsE_app, partsE_cons]; simp
  obtain ⟨m1, ps1, HB⟩ : ∃ (m1 : MN) (ps1 : List Part), Hid (r1.vn = .slice (some ⟨bn, 0, none⟩) r1.ms.length cap ∧ Ar r1.ms r1.free (nd j m1 :: Trees h ps1 :: F) ∧ m1.kids = partsK ps1 ∧ (m1.elems = [] ∧ ps1 ≠ [] ∧ ps1.length ≤ 8 ∧ partsE ps1 = (partsE ps).set i { e with label := lb }) ∧ (m1.size = m.size ∧ m1.of = m.of) ∧ Meta r r1 ∧ r1.ms.length = r.ms.length) :=
    ⟨m, a ++ (q.1, q.2.set rest { e with label := lb }) :: b, Lib.hid ⟨hv9, ha4, by rw [HK.out.1, HP.out.1]; simp [partsK], ⟨HK.out.2.1, by simp, by have h1 := HK.out.2.2.2; rw [HP.out.1] at h1; simp only [List.length_append, List.length_cons] at h1 ⊢; exact h1, hd1⟩, ⟨rfl, rfl⟩, hm1, hl1⟩⟩
  clear hm1 hl1 ha3 ha4 hv9 hd1 c0' n1' g2'
  have hj5 := HB.out.2.1.at_
  have g5 := rope_0 h5
  rw [HB.out.1] at g5
  obtain ⟨lb0, lb1⟩ := HE.out.2.1
  obtain ⟨lc0, lc1⟩ := HE.out.2.2.1
  have hll : e.label.toNat < 32 := by omega
  have hlm : lb.toNat < 32 := by omega
  have hjl5 := HB.out.2.1.ltlen
  have c5 : (j : Int) < (r1.ms.length : Int) := by omega
  have o2 := rope_ofc h5 HB.out.1 hj5 hll
  have o2f := rope_nodef h5 HB.out.1 (j * 35 + 3 + e.label.toNat)
  have o2l := World.block_lt_of_cell? _ _ o2
  rw [HB.out.2.2.2.2.1.2] at o2
  have hfl := HG.out.of _ hll
  have hcb := cnt_le (partsE ps) e.label.toNat
  have q1 : 0 ≤ m.of e.label.toNat := by omega
  have q2 : m.of e.label.toNat ≤ 10000000 := by have := HNL.out; omega
  have H1 := Lib.hid (rope_of (u := m.of e.label.toNat - 1) h5 HB.out.1 hj5 hll).drew
  have HJL := Lib.hid hjl5
  clear h5 hj5 hfl hcb hjl5
  go_upto_region 10 with fail
  go_region
  go_upto_region 11 with fail
  refine gen_world H1.out fun w5 h6 => ?_
  obtain ⟨f1, hf1⟩ : ∃ f1 : Nat → Int, f1 = fun l => if l = e.label.toNat then m.of e.label.toNat - 1 else m1.of l := ⟨_, rfl⟩
  rw [← hf1] at h6
  have hj6 : (r1.ms.set j { m1 with of := f1 })[j]? = some { m1 with of := f1 } := List.getElem?_set_self HJL.out
  have u2 := rope_ofc h6 HB.out.1 hj6 hlm
  have u2f := rope_nodef h6 HB.out.1 (j * 35 + 3 + lb.toNat)
  have u2l := World.block_lt_of_cell? _ _ u2
  change w5.cell? _ = some (.int .i64 (f1 lb.toNat)) at u2
  have hf1b : -10 ≤ f1 lb.toNat ∧ f1 lb.toNat ≤ 100000000 := by
    rw [hf1]
    show -10 ≤ (if lb.toNat = e.label.toNat then _ else _) ∧ (if lb.toNat = e.label.toNat then _ else _) ≤ _
    rw [HB.out.2.2.2.2.1.2]
    have h1 := HG.out.of _ hlm
    have h2 := cnt_le (partsE ps) lb.toNat
    have h3 := HNL.out
    split <;> omega
  obtain ⟨q3, q4⟩ := hf1b
  have H2 := Lib.hid (rope_of (u := f1 lb.toNat + 1) h6 HB.out.1 hj6 hlm).drew
  have HF1 := Lib.hid hf1
  clear h6 hj6 hf1 o2 o2f o2l
  go_region
  have h7 := H2.out
  simp only [List.set_set] at h7
  have ha7 := HB.out.2.1.set { m1 with of := fun l => if l = lb.toNat then f1 lb.toNat + 1 else f1 l }
  have hcn := fun l => set_cnt (e' := { e with label := lb }) HE.out.1 l
  have ht := knot_tree (es := (partsE ps).set i { e with label := lb }) ha7 HB.out.2.2.2.1.1 HB.out.2.2.2.1.2.1 HB.out.2.2.1 HB.out.2.2.2.1.2.2.2.symm ⟨by
    show m1.size = _
    rw [HB.out.2.2.2.2.1.1, HG.out.size, List.length_set], fun l hl => by
    show (if l = lb.toNat then _ else _) = _
    rw [hcn l, HF1.out]
    show (if l = lb.toNat then (if lb.toNat = e.label.toNat then _ else _) + 1 else (if l = e.label.toNat then _ else _)) = (_ - if e.label = (l : Int) then 1 else 0) + if lb = (l : Int) then 1 else 0
    rw [HB.out.2.2.2.2.1.2, HG.out.of _ hll, HG.out.of _ hlm, HG.out.of _ hl]
    by_cases h1 : l = lb.toNat
    · subst h1
      by_cases h2 : lb.toNat = e.label.toNat
      · rw [if_pos rfl, if_pos h2, if_pos (by omega), if_pos (by omega), h2]
      · rw [if_pos rfl, if_neg h2, if_neg (by omega), if_pos (by omega)]; omega
    · by_cases h2 : l = e.label.toNat
      · subst h2
        rw [if_neg h1, if_pos rfl, if_pos (by omega), if_neg (by omega)]; omega
      · rw [if_neg h1, if_neg h2, if_neg (by omega), if_neg (by omega)]; omega, by
    show m1.kids.length ≤ 8
    rw [HB.out.2.2.1]; simpa [partsK] using HB.out.2.2.2.1.2.2.1⟩
  have HX := Lib.hid (HQ.out _ _ h7 ⟨HB.out.2.2.2.2.2.1.root, HB.out.2.2.2.2.2.1.labels, HB.out.2.2.2.2.2.1.sees⟩ (by simpa using HB.out.2.2.2.2.2.2) ht)
  clear h7 ha7 hcn ht
  go_wp2_with fail
  go_end0
  exact HX.out
theorem set_all : ∀ h, SetC h
  | 0 => set_leaf
  | h + 1 => set_knot (set_all h)
end
end Go.Proofs.Ytdgaffcfcgmfnaa
