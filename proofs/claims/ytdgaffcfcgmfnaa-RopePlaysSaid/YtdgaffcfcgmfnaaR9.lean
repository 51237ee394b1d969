/- put, into a knot; put. -/
import Derived.Test.YtdgaffcfcgmfnaaR8
namespace Go.Proofs.Ytdgaffcfcgmfnaa
open Go.RowKit Go.Sl

attribute [local go_sem ↓ high] load107 store107 load105 store105 slice82
/-- What put does at a height. -/
def PutC (h : Nat) : Prop := ∀ {k w : World} {L : List Asn} {F : List (Asg MN)} {g : Nat} {r : RM} {R : Ending → World → Prop} {j i : Nat} {jI iI : Int} {es : List El} {e : El},
  St k w (ropeA g r :: L) → jI = (j : Int) → iI = (i : Int) → Ar r.ms r.free (Tree h j es :: F) → i ≤ es.length → Labs es → (0 ≤ e.label ∧ e.label < 32) → es.length + 1 ≤ 10000000 → r.ms.length + h ≤ 10000000000 →
  (∀ r' w' (next : Int), St k w' (ropeA g r' :: L) → Meta r r' → r'.ms.length ≤ r.ms.length + (h + 1) →
      (next = -1 ∧ Ar r'.ms r'.free (Tree h j (insAt es i e) :: F) ∨ ∃ (q : Nat) (e1 e2 : List El), next = q ∧ e1 ++ e2 = insAt es i e ∧ Ar r'.ms r'.free (Tree h j e1 :: Tree h q e2 :: F)) → R (.returned (.int .i64 next)) w') →
    Calls Try.prog 68 #[.pointer (some ⟨g, 0, none⟩), .int .i64 jI, .int .i64 iI, elV e] w R
theorem partsE_app (a b : List Part) : partsE (a ++ b) = partsE a ++ partsE b := by simp [partsE]
theorem partsE_cons (q : Part) (b : List Part) : partsE (q :: b) = q.2 ++ partsE b := rfl
theorem ins_parts (a b : List Part) (q : Part) (i rest : Nat) (e : El) (hi : i = (partsE a).length + rest) (hr : rest ≤ q.2.length) : insAt (partsE (a ++ q :: b)) i e = partsE a ++ insAt q.2 rest e ++ partsE b := by
  subst hi
  rw [partsE_app, partsE_cons]
  unfold insAt
  rw [List.take_append, List.take_of_length_le (by omega), List.drop_append, List.drop_eq_nil_iff.2 (by omega)]
  rw [show (partsE a).length + rest - (partsE a).length = rest by omega, List.take_append, List.drop_append, show rest - q.2.length = 0 by omega]
  simp
theorem trees_shut2 {ms : List MN} {free : List Nat} {F : List (Asg MN)} {h : Nat} {a b : List Part} {q p : Part} (ha : Ar ms free (Tree h q.1 q.2 :: Tree h p.1 p.2 :: Trees h a :: Trees h b :: F)) : Ar ms free (Trees h (a ++ q :: p :: b) :: F) := by
  have h1 := (trees_nil (h := h)).2 ((ha.pull 3).pull 2)
  have h2 := trees_shut (a := []) h1.swap
  exact trees_shut (q := q) (b := p :: b) (h2.push 2)
theorem gen_calls {P : Program} {k w : World} {L : List Asn} {f : FuncId} {args : Array Value} {R : Ending → World → Prop} (h : St k w L) (hn : ∀ w', St k w' L → Calls P f args w' R) : Calls P f args w R := hn w h
section
variable {k w : World} {L : List Asn} {F : List (Asg MN)} {g : Nat} {r : RM} {R : Ending → World → Prop}
set_option maxRecDepth 100000 in
set_option maxHeartbeats 8000000 in
theorem put_knot {j i h : Nat} {jI iI : Int} {es : List El} {e : El} (IH : PutC h) (hs : St k w (ropeA g r :: L)) (hjI : jI = (j : Int)) (hiI : iI = (i : Int)) (ha : Ar r.ms r.free (Tree (h + 1) j es :: F)) (hi : i ≤ es.length) (hl : Labs es) (he : 0 ≤ e.label ∧ e.label < 32) (hlen : es.length + 1 ≤ 10000000) (hN : r.ms.length + (h + 1) ≤ 10000000000)
    (hR : ∀ r' w' (next : Int), St k w' (ropeA g r' :: L) → Meta r r' → r'.ms.length ≤ r.ms.length + (h + 2) →
      (next = -1 ∧ Ar r'.ms r'.free (Tree (h + 1) j (insAt es i e) :: F) ∨ ∃ (q : Nat) (e1 e2 : List El), next = q ∧ e1 ++ e2 = insAt es i e ∧ Ar r'.ms r'.free (Tree (h + 1) j e1 :: Tree (h + 1) q e2 :: F)) → R (.returned (.int .i64 next)) w') :
    Calls Try.prog 68 #[.pointer (some ⟨g, 0, none⟩), .int .i64 jI, .int .i64 iI, elV e] w R := by
  subst hjI hiI
  obtain ⟨m, ps, ha1, hme, hne, hk, hm, hg⟩ := tree_knot ha
  subst hm
  clear ha
  have hj := ha1.at_
  have hjl := ha1.ltlen
  obtain ⟨bn, cap, hv, -, -, -⟩ := rope_nodes hs hjl
  have hs0 := (hs.alloc (elO e)).swap
  have c0 := rope_0 hs0
  rw [hv] at c0
  obtain ⟨-, Ak, ck, hvk, hk1, hk2, hAk⟩ := rope_heads hs hj
  have hpl : 0 < ps.length := List.length_pos_iff.2 hne
  have ekl : m.kids.length = ps.length := by rw [hk]; simp [partsK]
  obtain ⟨bk, ok, rfl, -⟩ := rope_kids hs hj hvk (by omega)
  have n1 := rope_node hs0 hv hj (t := 1) rfl
  rw [hvk, ekl] at n1
  have b1 : (j : Int) < (r.ms.length : Int) := by omega
  have b2 : (0 : Int) ≤ (j : Int) := by omega
  have hp8 : ps.length ≤ 8 := by have := hg.few; omega
  have HS := Lib.hid hs0
  have HA := Lib.hid ha1
  have HK := Lib.hid (And.intro hk (And.intro hme hne))
  have HG := Lib.hid hg
  have HL := Lib.hid hl
  have HE := Lib.hid he
  have HN := Lib.hid (And.intro hN (And.intro hlen hi))
  have HQ := Lib.hid hR
  have HJ := Lib.hid hj
  have HV := Lib.hid hv
  have HVK := Lib.hid (And.intro hvk ekl)
  have hkn : ∀ q (hq : q < ps.length), ∃ x, r.ms[(ps[q]).1]? = some x ∧ x.size = (ps[q]).2.length := fun q hq => by
    obtain ⟨x, h1, h2, -⟩ := kid_node ha1 q hq
    exact ⟨x, h1, h2.size⟩
  have HKN := Lib.hid hkn
  clear hs hs0 ha1 hk hme hne hg hl he hN hR hj hv hvk hAk hk1 hk2 hlen hi hkn ekl
  go_enter Try.func68, Try.ntmps68
  go_wp2_with (go_at_call 58; refine leaf_any n1 ?_)
  refine gen_calls HS.out fun w0 h0 => ?_
  have H0 := Lib.hid h0
  clear h0
  refine kid_any H0.out HV.out HJ.out HK.out.1 HK.out.2.2 HKN.out rfl (by have := HN.out.2; omega) (by omega) ?_
  intro a q b rest hps hir hre
  have g0 := rope_0 H0.out
  rw [HV.out] at g0
  have g1 := rope_node H0.out HV.out HJ.out (t := 1) rfl
  rw [HVK.out.1, HVK.out.2] at g1
  have hal : a.length < ps.length := by rw [hps]; simp
  obtain ⟨bk', ok', e1, hcell⟩ := rope_kids H0.out HJ.out HVK.out.1 (by rw [HVK.out.2]; omega)
  injection e1 with e1
  injection e1 with e1 e2
  subst e1 e2
  have g2 := hcell a.length q.1 (by rw [HK.out.1, hps]; simp [partsK])
  have d0 : w0.cell? ⟨w.heap.size, 0, none⟩ = some (.int .i64 e.id) := blk_cell H0.out.swap.lies 0
  have d1 : w0.cell? ⟨w.heap.size, 1, none⟩ = some (.int .i32 e.rune) := blk_cell H0.out.swap.lies 1
  have d2 : w0.cell? ⟨w.heap.size, 2, none⟩ = some (.int .i64 e.label) := blk_cell H0.out.swap.lies 2
  have b5 : (a.length : Int) < (ps.length : Int) := by omega
  have b6 : (0 : Int) ≤ (a.length : Int) := by omega
  have HP := Lib.hid (And.intro hps (And.intro hir hre))
  have hkd : ∃ kd, q.1 = kd := ⟨_, rfl⟩
  clear hps hir hre hcell
  go_wp2_with fail
  go_still_tail 15, (by kernel_rfl)
  have hq : rest ≤ q.2.length := by
    rcases HP.out.2.2 with h1 | h1
    · omega
    · have h2 := HP.out.2.1
      have h3 := HN.out.2.2
      rw [HP.out.1, partsE_app, List.length_append, h1, partsE_cons] at h3
      simp only [partsE, List.flatMap_nil, List.append_nil] at h3 h2
      omega
  have hsub : q.2.length ≤ (partsE ps).length ∧ ∀ x ∈ q.2, x ∈ partsE ps := by
    rw [HP.out.1, partsE_app, partsE_cons]
    exact ⟨by simp only [List.length_append]; omega, fun x hx => by simp [hx]⟩
  have ha2 : Ar r.ms r.free (Tree h q.1 q.2 :: Trees h a :: Trees h b :: nd j m :: F) := by
    have h1 := HA.out.swap
    rw [HP.out.1] at h1
    exact trees_open h1
  have hins := ins_parts a b q i rest e HP.out.2.1 hq
  rw [← HP.out.1] at hins
  have HA2 := Lib.hid ha2
  have HSUB := Lib.hid (And.intro hq (And.intro hsub.1 hsub.2))
  have HINS := Lib.hid hins
  have hes := ins_parts a b q i rest e HP.out.2.1 hq
  have H0D := Lib.hid H0.out.drew
  clear ha2 hq hsub hins hes hkd
  go_wp2_with fail
  refine IH H0D.out rfl rfl HA2.out HSUB.out.1 (fun x hx => HL.out x (HSUB.out.2.2 x hx)) HE.out (by have := HN.out.2.1; have := HSUB.out.2.1; omega) (by have := HN.out.1; omega) ?_
  intro r1 w1 next h1 hm1 hl1 hcase
  have HM1 := Lib.hid (And.intro hm1 hl1)
  have H1 := Lib.hid h1
  clear h1 hm1 hl1
  have hpl2 : ps.length = a.length + 1 + b.length := by rw [HP.out.1]; simp; omega
  have hpe : (partsE ps).length = (partsE a).length + q.2.length + (partsE b).length := by rw [HP.out.1, partsE_app, partsE_cons]; simp only [List.length_append]; omega
  have HPL := Lib.hid (And.intro hpl2 hpe)
  clear hpl2 hpe
  rcases hcase with ⟨rfl, ha3⟩ | ⟨qn, ea, eb, rfl, heq, ha3⟩
  · have HA4 := Lib.hid ((trees_shut (q := (q.1, insAt q.2 rest e)) ha3).swap)
    have HV4 := rope_nodes H1.out (HA4.out.ltlen)
    obtain ⟨bn4, cap4, hv4, -, -, -⟩ := HV4
    have HB := Lib.hid (show m.kids = partsK (a ++ (q.1, insAt q.2 rest e) :: b) ∧ m.elems = [] ∧ (a ++ (q.1, insAt q.2 rest e) :: b).length ≤ 9 ∧ partsE (a ++ (q.1, insAt q.2 rest e) :: b) = insAt (partsE ps) i e from by
      refine ⟨?_, HK.out.2.1, by have := HPL.out.1; simp; omega, ?_⟩
      · rw [HK.out.1, HP.out.1]; simp [partsK]
      · rw [HINS.out, partsE_app, partsE_cons]; simp)
    obtain ⟨r4, m4, ps4, h4, HB4⟩ : ∃ (r4 : RM) (m4 : MN) (ps4 : List Part), St k w1 (ropeA g r4 :: pt w.heap.size (elO e) :: L) ∧ Hid (r4.vn = .slice (some ⟨bn4, 0, none⟩) r4.ms.length cap4 ∧ Ar r4.ms r4.free (nd j m4 :: Trees h ps4 :: F) ∧ (m4.kids = partsK ps4 ∧ m4.elems = [] ∧ ps4 ≠ [] ∧ ps4.length ≤ 9 ∧ partsE ps4 = insAt (partsE ps) i e) ∧ (m4.size = m.size ∧ m4.of = m.of) ∧ Meta r r4 ∧ r4.ms.length ≤ r.ms.length + (h + 1)) :=
      ⟨r1, m, _, H1.out, Lib.hid ⟨hv4, HA4.out, ⟨HB.out.1, HB.out.2.1, by simp, HB.out.2.2.1, HB.out.2.2.2⟩, ⟨rfl, rfl⟩, HM1.out⟩⟩
    clear ha3 hv4
    go_upto_region 9 with (fail)
    refine gen_world h4 fun w4 h5 => ?_
    clear h4
    obtain ⟨hv5, ha5, ⟨hk5, he5, hn5, hp5, hi5⟩, ⟨hs5, ho5⟩, hm5, hl5⟩ := HB4.out
    have hj5 := ha5.at_
    have hjl5 := ha5.ltlen
    have g5 := rope_0 h5
    rw [hv5] at g5
    have s5 := rope_node h5 hv5 hj5 (t := 2) rfl
    change w4.cell? _ = some (.int .i64 m4.size) at s5
    rw [hs5, HG.out.size] at s5
    have s5f := rope_nodef h5 hv5 (j * 35 + 2)
    have s5l := World.block_lt_of_cell? _ _ s5
    obtain ⟨N, hNN⟩ : ∃ N, (partsE ps).length = N := ⟨_, rfl⟩
    rw [hNN] at s5
    have hsz := rope_size (u := (N : Int) + 1) h5 hv5 hj5
    have HSZ := Lib.hid hsz
    have HNN := Lib.hid hNN
    have c3 : (N : Int) + 1 ≤ 10000000 := by have := HN.out.2.1; omega
    have c4' : (0 : Int) ≤ (N : Int) + 1 := by omega
    have c5 : (j : Int) < (r4.ms.length : Int) := by omega
    clear h5 hv5 ha5 hk5 he5 hn5 hp5 hi5 hs5 ho5 hm5 hl5 hj5 hsz hNN
    go_wp2
    refine gen_world HSZ.out fun w5 h6 => ?_
    obtain ⟨hv5, ha5, ⟨hk5, he5, hn5, hp5, hi5⟩, ⟨hs5, ho5⟩, hm5, hl5⟩ := HB4.out
    have hj6 : (r4.ms.set j { m4 with size := (N : Int) + 1 })[j]? = some { m4 with size := (N : Int) + 1 } := List.getElem?_set_self hjl5
    obtain ⟨lb0, lb1⟩ := HE.out
    have hll : e.label.toNat < 32 := by omega
    have o1 : w5.cell? ⟨w.heap.size, 2, none⟩ = some (.int .i64 e.label) := blk_cell h6.swap.lies 2
    have o2 := rope_ofc h6 hv5 hj6 hll
    have o2f := rope_nodef h6 hv5 (j * 35 + 3 + e.label.toNat)
    have o2l := World.block_lt_of_cell? _ _ o2
    change w5.cell? _ = some (.int .i64 (m4.of e.label.toNat)) at o2
    rw [ho5] at o2
    have hfl := HG.out.of _ hll
    have hcb := cnt_le (partsE ps) e.label.toNat
    have q1 : 0 ≤ m.of e.label.toNat := by omega
    have q2 : m.of e.label.toNat ≤ 10000000 := by have := HNN.out; omega
    have HSET := Lib.hid ((rope_of (u := m.of e.label.toNat + 1) h6 hv5 hj6 hll).swap.drop).drew
    clear h6 hj6 hfl hcb hv5 ha5 hk5 he5 hn5 hp5 hi5 hs5 ho5 hm5 hl5
    go_region
    go_wp2_with fail
    obtain ⟨hv5, ha5, ⟨hk5, he5, hn5, hp5, hi5⟩, ⟨hs5, ho5⟩, hm5, hl5⟩ := HB4.out
    have h7 := HSET.out
    simp only [List.set_set] at h7
    have ha7 := ha5.set { m4 with size := (N : Int) + 1, of := fun l => if l = e.label.toNat then m.of e.label.toNat + 1 else m4.of l }
    obtain ⟨r6, h8, ha8, hm8, hl8⟩ : ∃ r6 : RM, St k _ (ropeA g r6 :: L) ∧ Ar r6.ms r6.free (nd j { m4 with size := (N : Int) + 1, of := fun l => if l = e.label.toNat then m.of e.label.toNat + 1 else m4.of l } :: Trees h ps4 :: F) ∧ Meta r r6 ∧ r6.ms.length ≤ r.ms.length + (h + 1) :=
      ⟨_, h7, ha7, ⟨hm5.root, hm5.labels, hm5.sees⟩, by simpa using hl5⟩
    have hlen8 : (insAt (partsE ps) i e).length ≤ 10000000 := by rw [insAt_len]; exact HN.out.2.1
    refine split_knot h8 rfl ha8 hk5 he5 hn5 ?_ (fun l hl => ?_) hp5 (by rw [hi5]; exact hlen8) (by have := HN.out.1; omega) fun r' w' next s1 s2 s3 s4 => ?_
    · show (N : Int) + 1 = _
      rw [hi5, insAt_len, HNN.out]; simp
    · show (if l = e.label.toNat then _ else _) = _
      rw [hi5, insAt_cnt]
      by_cases hc : l = e.label.toNat
      · subst hc
        rw [if_pos rfl, if_pos (by omega), HG.out.of _ hll]
      · rw [if_neg hc, if_neg (by omega), ho5, HG.out.of _ hl]; omega
    rw [hi5] at s4
    have HX := Lib.hid (HQ.out r' w' next s1 (hm8.trans s2) (by omega) s4)
    clear h7 ha7 h8 ha8 hm8 hl8 s1 s2 s3 s4 hv5 ha5 hk5 he5 hn5 hp5 hi5 hs5 ho5 hm5 hl5
    go_wp2
    exact HX.out
  · have HA3 := Lib.hid ((trees_shut2 (q := (q.1, ea)) (p := (qn, eb)) ha3).swap)
    have hj1 := HA3.out.at_
    obtain ⟨bn4, cap4, hv4, -, -, -⟩ := rope_nodes H1.out (HA3.out.ltlen)
    have c4 := rope_0 H1.out
    rw [hv4] at c4
    have b7 : (j : Int) < (r1.ms.length : Int) := by have := HA3.out.ltlen; omega
    have n4 := rope_node H1.out hv4 hj1 (t := 1) rfl
    rw [HVK.out.1, HVK.out.2] at n4
    have hrK := rope_readK H1.out hj1
    rw [HVK.out.1, HVK.out.2] at hrK
    have HRK := Lib.hid hrK
    have HV4 := Lib.hid hv4
    have HJ1 := Lib.hid hj1
    have b8 : ((qn : Int) == -1) = false := by simp
    have b9 : ((qn : Int) != -1) = true := by simp
    clear ha3 hv4 hj1 hrK
    go_wp2_with fail
    refine cloneI H1.out HRK.out (intsC_one _) (by omega) ?_
    intro v2 w2 h2 e2
    obtain ⟨A2, k2, rfl, -⟩ := h2.readsA.at_
    have h3 := ((h2.alloc (.cells #[.int .i64 (qn : Int)] 3)).shutA (n := 1) (cap := 1) (sz := 1) (cs := [.int .i64 (qn : Int)]) (Nat.le_refl _) (by decide) rfl rfl).swap
    have H3 := Lib.hid h3
    have b10 : (a.length : Int) + 1 ≤ 9 := by omega
    clear h2 h3 e2
    go_wp2_with fail
    refine insertI H3.out (i := a.length + 1) (by simp) (by have := HPL.out.1; omega) (by decide) (intsC_one _) (by simp [Value.oneCell']) (by omega) ?_
    intro v3 w3 h4 e3
    obtain ⟨A3, k3, rfl, -⟩ := h4.readsA.at_
    have h5 := h4.swap.drop
    have ekk : (intsC m.kids).take ((a.length + 1) * 1) ++ [.int .i64 (qn : Int)] ++ (intsC m.kids).drop ((a.length + 1) * 1) = intsC (partsK (a ++ (q.1, ea) :: (qn, eb) :: b)) := by
      have ep : partsK (a ++ q :: b) = (partsK a ++ [q.1]) ++ partsK b := by simp [partsK]
      have el : (partsK a ++ [q.1]).length = a.length + 1 := by simp [partsK]
      rw [HK.out.1, HP.out.1, intsC_take, intsC_drop, ep, List.take_left' el, List.drop_left' el]
      simp [partsK, intsC]
    rw [ekk] at h5
    have hj3 := rope_node (h5.swap) HV4.out HJ1.out (t := 1) rfl
    have hj3f := rope_nodef (h5.swap) HV4.out (j * 35 + 1)
    have hj3l := World.block_lt_of_cell? _ _ hj3
    have h6 := rope_setvk h5 (by rw [HPL.out.1]; simp [partsK]; omega) (by simp [e3, partsK]) HV4.out HJ1.out
    obtain ⟨r4, m4, ps4, h4, HB4⟩ : ∃ (r4 : RM) (m4 : MN) (ps4 : List Part), St k _ (ropeA g r4 :: pt w.heap.size (elO e) :: L) ∧ Hid (r4.vn = .slice (some ⟨bn4, 0, none⟩) r4.ms.length cap4 ∧ Ar r4.ms r4.free (nd j m4 :: Trees h ps4 :: F) ∧ (m4.kids = partsK ps4 ∧ m4.elems = [] ∧ ps4 ≠ [] ∧ ps4.length ≤ 9 ∧ partsE ps4 = insAt (partsE ps) i e) ∧ (m4.size = m.size ∧ m4.of = m.of) ∧ Meta r r4 ∧ r4.ms.length ≤ r.ms.length + (h + 1)) :=
      ⟨{ r1 with ms := r1.ms.set j { m with vk := .slice A3 (ps.length + 1) k3, kids := partsK (a ++ (q.1, ea) :: (qn, eb) :: b) } }, { m with vk := .slice A3 (ps.length + 1) k3, kids := partsK (a ++ (q.1, ea) :: (qn, eb) :: b) }, a ++ (q.1, ea) :: (qn, eb) :: b, h6, Lib.hid ⟨by simpa using HV4.out, HA3.out.set _, ⟨rfl, HK.out.2.1, by simp, by have := HPL.out.1; simp; omega, by rw [HINS.out, partsE_app, partsE_cons, partsE_cons, ← heq]; simp⟩, ⟨rfl, rfl⟩, ⟨HM1.out.1.root, HM1.out.1.labels, HM1.out.1.sees⟩, by simpa using HM1.out.2⟩⟩
    clear h5 h6 e3 ekk
    go_upto_region 9 with (fail)
    refine gen_world h4 fun w4 h5 => ?_
    clear h4
    obtain ⟨hv5, ha5, ⟨hk5, he5, hn5, hp5, hi5⟩, ⟨hs5, ho5⟩, hm5, hl5⟩ := HB4.out
    have hj5 := ha5.at_
    have hjl5 := ha5.ltlen
    have g5 := rope_0 h5
    rw [hv5] at g5
    have s5 := rope_node h5 hv5 hj5 (t := 2) rfl
    change w4.cell? _ = some (.int .i64 m4.size) at s5
    rw [hs5, HG.out.size] at s5
    have s5f := rope_nodef h5 hv5 (j * 35 + 2)
    have s5l := World.block_lt_of_cell? _ _ s5
    obtain ⟨N, hNN⟩ : ∃ N, (partsE ps).length = N := ⟨_, rfl⟩
    rw [hNN] at s5
    have hsz := rope_size (u := (N : Int) + 1) h5 hv5 hj5
    have HSZ := Lib.hid hsz
    have HNN := Lib.hid hNN
    have c3 : (N : Int) + 1 ≤ 10000000 := by have := HN.out.2.1; omega
    have c4' : (0 : Int) ≤ (N : Int) + 1 := by omega
    have c5 : (j : Int) < (r4.ms.length : Int) := by omega
    clear h5 hv5 ha5 hk5 he5 hn5 hp5 hi5 hs5 ho5 hm5 hl5 hj5 hsz hNN
    go_wp2
    refine gen_world HSZ.out fun w5 h6 => ?_
    obtain ⟨hv5, ha5, ⟨hk5, he5, hn5, hp5, hi5⟩, ⟨hs5, ho5⟩, hm5, hl5⟩ := HB4.out
    have hj6 : (r4.ms.set j { m4 with size := (N : Int) + 1 })[j]? = some { m4 with size := (N : Int) + 1 } := List.getElem?_set_self hjl5
    obtain ⟨lb0, lb1⟩ := HE.out
    have hll : e.label.toNat < 32 := by omega
    have o1 : w5.cell? ⟨w.heap.size, 2, none⟩ = some (.int .i64 e.label) := blk_cell h6.swap.lies 2
    have o2 := rope_ofc h6 hv5 hj6 hll
    have o2f := rope_nodef h6 hv5 (j * 35 + 3 + e.label.toNat)
    have o2l := World.block_lt_of_cell? _ _ o2
    change w5.cell? _ = some (.int .i64 (m4.of e.label.toNat)) at o2
    rw [ho5] at o2
    have hfl := HG.out.of _ hll
    have hcb := cnt_le (partsE ps) e.label.toNat
    have q1 : 0 ≤ m.of e.label.toNat := by omega
    have q2 : m.of e.label.toNat ≤ 10000000 := by have := HNN.out; omega
    have HSET := Lib.hid ((rope_of (u := m.of e.label.toNat + 1) h6 hv5 hj6 hll).swap.drop).drew
    clear h6 hj6 hfl hcb hv5 ha5 hk5 he5 hn5 hp5 hi5 hs5 ho5 hm5 hl5
    go_region
    go_wp2_with fail
    obtain ⟨hv5, ha5, ⟨hk5, he5, hn5, hp5, hi5⟩, ⟨hs5, ho5⟩, hm5, hl5⟩ := HB4.out
    have h7 := HSET.out
    simp only [List.set_set] at h7
    have ha7 := ha5.set { m4 with size := (N : Int) + 1, of := fun l => if l = e.label.toNat then m.of e.label.toNat + 1 else m4.of l }
    obtain ⟨r6, h8, ha8, hm8, hl8⟩ : ∃ r6 : RM, St k _ (ropeA g r6 :: L) ∧ Ar r6.ms r6.free (nd j { m4 with size := (N : Int) + 1, of := fun l => if l = e.label.toNat then m.of e.label.toNat + 1 else m4.of l } :: Trees h ps4 :: F) ∧ Meta r r6 ∧ r6.ms.length ≤ r.ms.length + (h + 1) :=
      ⟨_, h7, ha7, ⟨hm5.root, hm5.labels, hm5.sees⟩, by simpa using hl5⟩
    have hlen8 : (insAt (partsE ps) i e).length ≤ 10000000 := by rw [insAt_len]; exact HN.out.2.1
    refine split_knot h8 rfl ha8 hk5 he5 hn5 ?_ (fun l hl => ?_) hp5 (by rw [hi5]; exact hlen8) (by have := HN.out.1; omega) fun r' w' next s1 s2 s3 s4 => ?_
    · show (N : Int) + 1 = _
      rw [hi5, insAt_len, HNN.out]; simp
    · show (if l = e.label.toNat then _ else _) = _
      rw [hi5, insAt_cnt]
      by_cases hc : l = e.label.toNat
      · subst hc
        rw [if_pos rfl, if_pos (by omega), HG.out.of _ hll]
      · rw [if_neg hc, if_neg (by omega), ho5, HG.out.of _ hl]; omega
    rw [hi5] at s4
    have HX := Lib.hid (HQ.out r' w' next s1 (hm8.trans s2) (by omega) s4)
    clear h7 ha7 h8 ha8 hm8 hl8 s1 s2 s3 s4 hv5 ha5 hk5 he5 hn5 hp5 hi5 hs5 ho5 hm5 hl5
    go_wp2
    exact HX.out
theorem put_all : ∀ h, PutC h
  | 0 => fun hs h1 h2 ha hi hl he hlen hN hR => put_leaf hs h1 h2 ha hi hl he hlen (by omega) hR
  | h + 1 => fun hs h1 h2 ha hi hl he hlen hN hR => put_knot (put_all h) hs h1 h2 ha hi hl he hlen hN hR
end
end Go.Proofs.Ytdgaffcfcgmfnaa
