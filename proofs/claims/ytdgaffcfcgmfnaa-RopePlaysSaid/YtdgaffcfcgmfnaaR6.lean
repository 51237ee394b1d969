/- split: a node that is too great is parted. -/
import Derived.Test.YtdgaffcfcgmfnaaR5
set_option linter.unusedVariables false
set_option linter.unusedSimpArgs false
namespace Go.Sl
variable {w : World} {sz : Nat} {cs : List Value}
theorem Reads.drop {b o n c i : Nat} (h : Reads w sz (.slice (some ⟨b, o, none⟩) n c) n cs) (hi : i ≤ n) : Reads w sz (.slice (some ⟨b, o + i * sz, none⟩) (n - i) (c - i)) (n - i) (cs.drop (i * sz)) := by
  obtain ⟨A, c', hv, h1, h2, -, h4⟩ := h.at_
  injection hv with e1 e2 e3
  subst e1 e3
  refine ⟨by rw [List.length_drop, h.len, Nat.sub_mul], _, _, rfl, by omega, by omega, fun e => (by cases e), fun a e => ?_⟩
  injection e with e
  subst e
  refine ⟨fun _ => rfl, fun j u hu => ?_⟩
  rw [List.getElem?_drop] at hu
  have := (h4 _ rfl).2 _ u hu
  rwa [← Nat.add_assoc] at this
theorem Reads.take {A : Option Addr} {n c i : Nat} (h : Reads w sz (.slice A n c) n cs) (hi : i ≤ n) : Reads w sz (.slice A i c) i (cs.take (i * sz)) := by
  obtain ⟨A', c', hv, h1, h2, h3, h4⟩ := h.at_
  injection hv with e1 e2 e3
  subst e1 e3
  refine ⟨by rw [List.length_take, h.len, Nat.min_eq_left (Nat.mul_le_mul_right sz hi)], _, _, rfl, by omega, h2, fun e => ⟨by have := (h3 e).1; omega, (h3 e).2⟩, fun a e => ⟨fun h0 => (h4 a e).1 (Nat.lt_of_lt_of_le h0 (Nat.mul_le_mul_right sz hi)), fun j u hu => (h4 a e).2 j u ?_⟩⟩
  rw [List.getElem?_take] at hu
  split at hu
  · exact hu
  · cases hu
end Go.Sl
namespace Go.Proofs.Ytdgaffcfcgmfnaa
open Go.RowKit Go.Sl

attribute [local go_sem ↓ high] load107 store107 load105 store105 slice82
section
variable {k w : World} {L : List Asn} {F : List (Asg MN)} {g : Nat} {r : RM} {R : Ending → World → Prop}
theorem rope_len {bn cap n : Nat} (hs : St k w (ropeA g r :: L)) (hv : r.vn = .slice (some ⟨bn, 0, none⟩) n cap) : n = r.ms.length := by
  obtain ⟨A, c, hv', -⟩ := (rope_open hs).swap.readsA.at_
  rw [hv] at hv'; injection hv'
theorem nodeS_ve {m : MN} {v : Value} {es : List El} (h : St k w (rowS 3 v es.length (elsC es) :: nodeS m :: L)) : St k w (nodeS { m with ve := v, elems := es } :: L) :=
  h.merge (rowS_shared _ _ _ _) (nodeS_shared _) fun _ hA hB => ⟨hA, hB.2⟩
theorem nodeS_rowE {v : Value} {n : Nat} {es : List El} (h : St k w (rowS 3 v n (elsC es) :: L)) (hn : n = es.length) : St k w (rowS 3 v es.length (elsC es) :: L) := hn ▸ h
theorem nodeS_rowK {v : Value} {n : Nat} {es : List Nat} (h : St k w (rowS 1 v n (intsC es) :: L)) (hn : n = es.length) : St k w (rowS 1 v es.length (intsC es) :: L) := hn ▸ h
theorem nodeS_vk {m : MN} {v : Value} {ks : List Nat} (h : St k w (rowS 1 v ks.length (intsC ks) :: nodeS m :: L)) (hn : v = .slice none 0 0 ↔ ks = []) : St k w (nodeS { m with vk := v, kids := ks } :: L) :=
  h.merge (rowS_shared _ _ _ _) (nodeS_shared _) fun _ hA hB => ⟨hB.1, hA, hn⟩
theorem rope_setve {bn cap n j q : Nat} {m : MN} {v : Value} {es : List El} (h : St k w (rowA 39 3 v q (elsC es) :: ropeA g r :: L)) (hq : q = es.length) (hv : r.vn = .slice (some ⟨bn, 0, none⟩) n cap) (hj : r.ms[j]? = some m) :
    St k (w.setCell ⟨bn, j * 35, none⟩ v) (ropeA g { r with ms := r.ms.set j { m with ve := v, elems := es } } :: L) := by
  subst hq
  have h1 := (rope_nodeS h.freezeA.swap hj).pull 2
  have h2 := rope_set (t := 0) (u := v) (nodeS_ve h1) hv hj (by omega) (nodeC_set0 m v es)
  rwa [Nat.add_zero] at h2
theorem rope_setvk {bn cap n j q : Nat} {m : MN} {v : Value} {ks : List Nat} (h : St k w (rowA 3 1 v q (intsC ks) :: ropeA g r :: L)) (hq : q = ks.length) (hn : v = .slice none 0 0 ↔ ks = []) (hv : r.vn = .slice (some ⟨bn, 0, none⟩) n cap) (hj : r.ms[j]? = some m) :
    St k (w.setCell ⟨bn, j * 35 + 1, none⟩ v) (ropeA g { r with ms := r.ms.set j { m with vk := v, kids := ks } } :: L) := by
  subst hq
  have h1 := (rope_nodeS h.freezeA.swap hj).pull 2
  exact rope_set (t := 1) (u := v) (nodeS_vk h1 hn) hv hj (by omega) (nodeC_set1 m v ks)
/-- A node's rows, read. -/
theorem rope_readE {j : Nat} {m : MN} (h : St k w (ropeA g r :: L)) (hj : r.ms[j]? = some m) : Reads w 3 m.ve m.elems.length (elsC m.elems) :=
  ((rope_nodeS h hj).head (B := rowS 3 m.ve m.elems.length (elsC m.elems)) fun a p hA => Asg.mono _ (PH.none_le _) (PH.le.refl _) hA.1).readsS
theorem rope_readK {j : Nat} {m : MN} (h : St k w (ropeA g r :: L)) (hj : r.ms[j]? = some m) : Reads w 1 m.vk m.kids.length (intsC m.kids) :=
  ((rope_nodeS h hj).head (B := rowS 1 m.vk m.kids.length (intsC m.kids)) fun a p hA => Asg.mono _ (PH.none_le _) (PH.le.refl _) hA.2.1).readsS
theorem elsC_take (es : List El) (i : Nat) : (elsC es).take (i * 3) = elsC (es.take i) := flat_take elC_len es i
theorem elsC_drop (es : List El) (i : Nat) : (elsC es).drop (i * 3) = elsC (es.drop i) := flat_drop elC_len es i
theorem intsC_take (l : List Nat) (i : Nat) : (intsC l).take (i * 1) = intsC (l.take i) := by simp [intsC]
theorem intsC_drop (l : List Nat) (i : Nat) : (intsC l).drop (i * 1) = intsC (l.drop i) := by simp [intsC]
theorem leaf_c (v : Value) (es : List El) : (nodeC { MN.zero with ve := v, elems := es }).toArray = #[v, .slice none 0 0, .int .i64 0, .int .i64 0, .int .i64 0, .int .i64 0, .int .i64 0, .int .i64 0, .int .i64 0, .int .i64 0, .int .i64 0, .int .i64 0, .int .i64 0, .int .i64 0, .int .i64 0, .int .i64 0, .int .i64 0, .int .i64 0, .int .i64 0, .int .i64 0, .int .i64 0, .int .i64 0, .int .i64 0, .int .i64 0, .int .i64 0, .int .i64 0, .int .i64 0, .int .i64 0, .int .i64 0, .int .i64 0, .int .i64 0, .int .i64 0, .int .i64 0, .int .i64 0, .int .i64 0] := by rfl
theorem knot_c (v : Value) (ks : List Nat) : (nodeC { MN.zero with vk := v, kids := ks }).toArray = #[.slice none 0 0, v, .int .i64 0, .int .i64 0, .int .i64 0, .int .i64 0, .int .i64 0, .int .i64 0, .int .i64 0, .int .i64 0, .int .i64 0, .int .i64 0, .int .i64 0, .int .i64 0, .int .i64 0, .int .i64 0, .int .i64 0, .int .i64 0, .int .i64 0, .int .i64 0, .int .i64 0, .int .i64 0, .int .i64 0, .int .i64 0, .int .i64 0, .int .i64 0, .int .i64 0, .int .i64 0, .int .i64 0, .int .i64 0, .int .i64 0, .int .i64 0, .int .i64 0, .int .i64 0, .int .i64 0] := by rfl
theorem take_e {v : Value} {es : List El} (h : St k w (nodeS { MN.zero with ve := v, elems := es } :: ropeA g r :: L)) (h1 : ∃ A n c, v = .slice A n c) (ha : Ar r.ms r.free F) (hn : r.ms.length ≤ 20000000000)
    (hR : ∀ r' j w', St k w' (ropeA g r' :: L) → Ar r'.ms r'.free (nd j { MN.zero with ve := v, elems := es } :: F) → Meta r r' → r'.ms.length ≤ r.ms.length + 1 → R (.returned (.int .i64 (j : Nat))) w') :
    Calls Try.prog 62 #[.pointer (some ⟨g, 0, none⟩), .agg #[v, .slice none 0 0, .int .i64 0, .int .i64 0, .int .i64 0, .int .i64 0, .int .i64 0, .int .i64 0, .int .i64 0, .int .i64 0, .int .i64 0, .int .i64 0, .int .i64 0, .int .i64 0, .int .i64 0, .int .i64 0, .int .i64 0, .int .i64 0, .int .i64 0, .int .i64 0, .int .i64 0, .int .i64 0, .int .i64 0, .int .i64 0, .int .i64 0, .int .i64 0, .int .i64 0, .int .i64 0, .int .i64 0, .int .i64 0, .int .i64 0, .int .i64 0, .int .i64 0, .int .i64 0, .int .i64 0]] w R := by
  obtain ⟨A, n, c, rfl⟩ := h1
  have := take_any h (nodeC_one rfl rfl) ha hn hR
  rw [leaf_c] at this
  exact this
theorem take_k {v : Value} {ks : List Nat} (h : St k w (nodeS { MN.zero with vk := v, kids := ks } :: ropeA g r :: L)) (h1 : ∃ A n c, v = .slice A n c) (ha : Ar r.ms r.free F) (hn : r.ms.length ≤ 20000000000)
    (hR : ∀ r' j w', St k w' (ropeA g r' :: L) → Ar r'.ms r'.free (nd j { MN.zero with vk := v, kids := ks } :: F) → Meta r r' → r'.ms.length ≤ r.ms.length + 1 → R (.returned (.int .i64 (j : Nat))) w') :
    Calls Try.prog 62 #[.pointer (some ⟨g, 0, none⟩), .agg #[.slice none 0 0, v, .int .i64 0, .int .i64 0, .int .i64 0, .int .i64 0, .int .i64 0, .int .i64 0, .int .i64 0, .int .i64 0, .int .i64 0, .int .i64 0, .int .i64 0, .int .i64 0, .int .i64 0, .int .i64 0, .int .i64 0, .int .i64 0, .int .i64 0, .int .i64 0, .int .i64 0, .int .i64 0, .int .i64 0, .int .i64 0, .int .i64 0, .int .i64 0, .int .i64 0, .int .i64 0, .int .i64 0, .int .i64 0, .int .i64 0, .int .i64 0, .int .i64 0, .int .i64 0, .int .i64 0]] w R := by
  obtain ⟨A, n, c, rfl⟩ := h1
  have := take_any h (nodeC_one rfl rfl) ha hn hR
  rw [knot_c] at this
  exact this
/-- All labels are labels. -/
def Labs (es : List El) : Prop := ∀ e ∈ es, 0 ≤ e.label ∧ e.label < 32
set_option maxRecDepth 100000 in
set_option maxHeartbeats 2000000 in
theorem split_leaf {j : Nat} {jI : Int} {m : MN} (hs : St k w (ropeA g r :: L)) (hjI : jI = (j : Int)) (ha : Ar r.ms r.free (nd j m :: F)) (hk : m.kids = []) (hg : Sl.Good m m.elems) (hl : Labs m.elems) (hlen : m.elems.length ≤ 10000000) (hN : r.ms.length ≤ 10000000000)
    (hR : ∀ r' w' (next : Int), St k w' (ropeA g r' :: L) → Meta r r' → r'.ms.length ≤ r.ms.length + 1 →
      (next = -1 ∧ Ar r'.ms r'.free (Tree 0 j m.elems :: F) ∨ ∃ (q : Nat) (e1 e2 : List El), next = q ∧ e1 ++ e2 = m.elems ∧ Ar r'.ms r'.free (Tree 0 j e1 :: Tree 0 q e2 :: F)) → R (.returned (.int .i64 next)) w') :
    Calls Try.prog 84 #[.pointer (some ⟨g, 0, none⟩), .int .i64 jI] w R := by
  subst hjI
  have hj := ha.at_
  have hjl := ha.ltlen
  obtain ⟨bn, cap, hv, -, -, -⟩ := rope_nodes hs hjl
  have c0 := rope_0 hs
  rw [hv] at c0
  obtain ⟨⟨Ae, ce, hve, hce1, hce2⟩, Ak, ck, hvk, hk1, hk2, hAk⟩ := rope_heads hs hj
  obtain rfl : Ak = none := hAk.2 hk
  have n1 := rope_node hs hv hj (t := 1) rfl
  rw [hvk, hk] at n1
  have n0 := rope_node hs hv hj (t := 0) rfl
  rw [hve, Nat.add_zero] at n0
  have b1 : (j : Int) < (r.ms.length : Int) := by omega
  have b2 : (0 : Int) ≤ (j : Int) := by omega
  simp only [List.length_nil] at n1
  by_cases h32 : m.elems.length ≤ 32
  · have b3 : (m.elems.length : Int) ≤ 32 := by omega
    have HR := Lib.hid (hR r w (-1) hs (Meta.refl r) (by omega) (.inl ⟨rfl, leaf_tree ha hk rfl hg⟩))
    clear hs ha hk hg hl hlen hN hR hj hjl hve hvk hAk hv hce1 hce2 hk1 hk2 h32
    go_enter Try.func84, Try.ntmps84
    go_wp2_with (go_at_call 58; refine leaf_any n1 ?_)
    exact HR.out
  · have b3 : (32 : Int) < (m.elems.length : Int) := by omega
    have b4 : (m.elems.length : Int) ≤ 10000000 := by omega
    obtain ⟨N, hNl⟩ : ∃ N, m.elems.length = N := ⟨_, rfl⟩
    obtain ⟨H, hH⟩ : ∃ H, H = N / 2 := ⟨_, rfl⟩
    obtain ⟨be, oe, rfl, -⟩ := rope_elems hs hj hve (by omega)
    have hE := rope_readE hs hj
    rw [hve, hNl] at hE
    rw [hNl] at n0 b3 b4 hce1
    have hd1 := (hE.drop (i := H) (by omega))
    have ht1 := (hE.take (i := H) (by omega))
    rw [elsC_drop] at hd1
    rw [elsC_take] at ht1
    have h1b : (N - H) * 24 ≤ 140737488355328 := by omega
    have h2b : H * 24 ≤ 140737488355328 := by omega
    have HS := Lib.hid hs
    have HA := Lib.hid ha
    have HK := Lib.hid hk
    have HG := Lib.hid hg
    have HL := Lib.hid hl
    have HN := Lib.hid hN
    have HQ := Lib.hid hR
    have HJ := Lib.hid hj
    have HV := Lib.hid hv
    have HVE := Lib.hid hve
    have HNL := Lib.hid hNl
    have HH := Lib.hid hH
    have HD := Lib.hid (And.intro hd1 (And.intro ht1 (And.intro h1b h2b)))
    have b5 : (N : Int) / 2 = (H : Int) := by omega
    have b6 : H ≤ N := by omega
    have b7 : ¬ (ce = H) := by omega
    have b8 : H ≤ ce := by omega
    clear hs ha hk hg hl hlen hN hR hj hjl hvk hAk hv hce2 hk1 hk2 hE hd1 ht1 hNl hH hve h1b h2b hce1 h32
    go_enter Try.func84, Try.ntmps84
    go_wp2_with (go_at_call 58; refine leaf_any n1 ?_)
    refine cloneE HS.out HD.out.1 (elsC_one _) HD.out.2.2.1 ?_
    intro v1 w1 h1 _
    obtain ⟨A1, k1, rfl, -⟩ := h1.readsA.at_
    have m0 := rope_node h1.swap HV.out HJ.out (t := 0) rfl
    rw [Nat.add_zero] at m0
    have hE1 := rope_readE h1.swap HJ.out
    rw [HVE.out, HNL.out] at m0
    rw [HVE.out, HNL.out] at hE1
    have ht1 := hE1.take (i := H) b6
    rw [elsC_take] at ht1
    have HT := Lib.hid ht1
    have HS1 := Lib.hid h1
    clear h1 hE1 ht1
    go_wp2_with fail
    refine cloneE HS1.out HT.out (elsC_one _) HD.out.2.2.2 ?_
    intro v2 w2 h2 _
    obtain ⟨A2, k2, rfl, -⟩ := h2.readsA.at_
    have m1 := rope_node (h2.pull 2) HV.out HJ.out (t := 0) rfl
    rw [Nat.add_zero] at m1
    have m1f := rope_nodef (h2.pull 2) HV.out (j * 35)
    have m1l := World.block_lt_of_cell? _ _ m1
    have hlt : (m.elems.take H).length = H := by rw [List.length_take, HNL.out]; omega
    have hld : (m.elems.drop H).length = N - H := by rw [List.length_drop, HNL.out]
    have hset := rope_setve ((h2.pull 2).swap) hlt.symm HV.out HJ.out
    have HSET := Lib.hid hset
    have HLT := Lib.hid (And.intro hlt hld)
    clear h2 hset hlt hld
    go_wp2_with fail
    have hjl := (List.getElem?_eq_some_iff.1 HJ.out).1
    refine count_any (ps := []) HSET.out rfl (List.getElem?_set_self hjl) HK.out (fun q hq => absurd hq (by simp)) (fun e he => HL.out e (List.mem_of_mem_take he)) ?_ (by simp) ?_
    · simp only [partsE, List.flatMap_nil, List.append_nil]
      rw [HLT.out.1]; omega
    intro f w3 h3 hf
    simp only [List.set_set, partsE, List.flatMap_nil, List.append_nil] at h3 hf
    have hf3 := h3.swap.freezeA
    have hz := nodeS_nil (nodeS_rowE hf3 HLT.out.2.symm) MN.zero rfl rfl rfl rfl
    have hnew := nodeS_ve hz.swap
    have ha1 := HA.out.set { m with ve := .slice A2 H k2, elems := m.elems.take H, size := ((m.elems.take H).length : Nat), of := f }
    obtain ⟨r1, hnew, ha1, hm1, hl1⟩ : ∃ r1 : RM, St k w3 (nodeS { MN.zero with ve := .slice A1 (N - H) k1, elems := m.elems.drop H } :: ropeA g r1 :: L) ∧ Ar r1.ms r1.free (nd j { m with ve := .slice A2 H k2, elems := m.elems.take H, size := ((m.elems.take H).length : Nat), of := f } :: F) ∧ Meta r r1 ∧ r1.ms.length ≤ r.ms.length :=
      ⟨{ r with ms := r.ms.set j { m with ve := .slice A2 H k2, elems := m.elems.take H, size := ((m.elems.take H).length : Nat), of := f } }, hnew, ha1, ⟨rfl, rfl, rfl⟩, by simp⟩
    have HNEW := Lib.hid hnew
    have HA1 := Lib.hid ha1
    have HF := Lib.hid hf
    have HM1 := Lib.hid (And.intro hm1 hl1)
    clear h3 hf3 hz hnew ha1 hf hm1 hl1
    go_wp2_with fail
    refine take_e HNEW.out ⟨_, _, _, rfl⟩ HA1.out (by have := HN.out; have := HM1.out.2; omega) ?_
    intro r2 q w4 h4 ha4 hmeta hle
    replace hmeta := HM1.out.1.trans hmeta
    replace hle := Nat.le_trans hle (Nat.succ_le_succ HM1.out.2)
    have hq4 := ha4.at_
    have H4 := Lib.hid h4
    have HA4 := Lib.hid ha4
    have HM := Lib.hid (And.intro hmeta hle)
    have HQ4 := Lib.hid hq4
    clear h4 ha4 hmeta hle hq4
    go_wp2_with fail
    refine count_any (ps := []) H4.out rfl HQ4.out rfl (fun q hq => absurd hq (by simp)) (fun e he => HL.out e (List.mem_of_mem_drop he)) ?_ (by simp) ?_
    · simp only [partsE, List.flatMap_nil, List.append_nil]
      show (m.elems.drop H).length ≤ _
      rw [HLT.out.2]; omega
    intro f2 w5 h5 hf2
    simp only [partsE, List.flatMap_nil, List.append_nil] at h5 hf2
    have ha5 := HA4.out.set { MN.zero with ve := .slice A1 (N - H) k1, elems := m.elems.drop H, size := ((m.elems.drop H).length : Nat), of := f2 }
    have t1 := leaf_tree (es := m.elems.drop H) ha5 rfl rfl ⟨rfl, hf2, by simp [MN.zero]⟩
    have t2 := leaf_tree (es := m.elems.take H) t1.swap HK.out rfl ⟨rfl, HF.out, by show m.kids.length ≤ 8; rw [HK.out]; simp⟩
    have HX := Lib.hid (HQ.out _ _ (q : Int) h5 ⟨HM.out.1.root, HM.out.1.labels, HM.out.1.sees⟩ (by rw [List.length_set]; exact HM.out.2) (.inr ⟨q, _, _, rfl, List.take_append_drop H m.elems, t2⟩))
    clear h5 hf2 ha5 t1 t2
    go_wp2
    exact HX.out
end
end Go.Proofs.Ytdgaffcfcgmfnaa
