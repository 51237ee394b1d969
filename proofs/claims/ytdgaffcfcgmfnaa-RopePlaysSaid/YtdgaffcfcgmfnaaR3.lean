/- arena.count: a node's numbers counted anew. -/
import Derived.Test.YtdgaffcfcgmfnaaR2
namespace Go.Proofs.Ytdgaffcfcgmfnaa
open Go.RowKit Go.Sl

attribute [local go_sem ↓ high] load107 store107 load105 store105 slice82
theorem size105 : (Try.prog.info? 105).map (·.size) = some 32 := by kernel_rfl
theorem zero105 : (ofC fun _ => 0).toArray = #[.int .i64 0, .int .i64 0, .int .i64 0, .int .i64 0, .int .i64 0, .int .i64 0, .int .i64 0, .int .i64 0, .int .i64 0, .int .i64 0, .int .i64 0, .int .i64 0, .int .i64 0, .int .i64 0, .int .i64 0, .int .i64 0, .int .i64 0, .int .i64 0, .int .i64 0, .int .i64 0, .int .i64 0, .int .i64 0, .int .i64 0, .int .i64 0, .int .i64 0, .int .i64 0, .int .i64 0, .int .i64 0, .int .i64 0, .int .i64 0, .int .i64 0, .int .i64 0] := by kernel_rfl
theorem ofC_one (f : Nat → Int) : ∀ u ∈ ofC f, u.oneCell' = true := by
  intro u hu
  obtain ⟨l, _, rfl⟩ := List.mem_map.1 hu
  rfl
theorem partsE_take (ps : List Part) (q : Nat) (h : q < ps.length) : partsE (ps.take (q + 1)) = partsE (ps.take q) ++ (ps[q]).2 := by
  unfold partsE
  rw [List.take_succ_eq_append_getElem h, List.flatMap_append]
  simp
theorem partsE_take_le (ps : List Part) (q : Nat) : (partsE (ps.take q)).length ≤ (partsE ps).length := by
  unfold partsE
  conv => rhs; rw [← List.take_append_drop q ps, List.flatMap_append, List.length_append]
  omega
theorem cnt_take_snoc (es : List El) (q : Nat) (h : q < es.length) (l : Nat) : cnt (es.take (q + 1)) l = cnt (es.take q) l + if (es[q]).label = (l : Int) then 1 else 0 := by
  rw [List.take_succ_eq_append_getElem h, cnt_append, cnt_cons, cnt_nil]
  omega
section
variable {k w : World} {L : List Asn} {g : Nat} {r : RM} {R : Ending → World → Prop}
/-- A node's code points. -/
theorem rope_elems {j n c : Nat} {m : MN} {A : Option Addr} (h : St k w (ropeA g r :: L)) (hj : r.ms[j]? = some m) (hv : m.ve = .slice A n c) (hp : 0 < m.elems.length) :
    ∃ b o, A = some ⟨b, o, none⟩ ∧ ∀ q e t u, m.elems[q]? = some e → (elC e)[t]? = some u → w.cell? ⟨b, o + q * 3 + t, none⟩ = some u := by
  obtain ⟨A', c', hv', -, -, hA, hc⟩ := ((rope_nodeS h hj).head (B := rowS 3 m.ve m.elems.length (elsC m.elems)) fun a p hA => Asg.mono _ (PH.none_le _) (PH.le.refl _) hA.1).readsS.at_
  rw [hv] at hv'
  injection hv' with e1 e2 e3
  subst e1 e3
  cases A with
  | none => have := (hA rfl).1; omega
  | some a =>
    obtain ⟨b, o, sp⟩ := a
    obtain ⟨hsp, hc⟩ := hc _ rfl
    obtain rfl := hsp (by omega)
    refine ⟨b, o, rfl, fun q e t u he hu => ?_⟩
    have ht : t < 3 := (List.getElem?_eq_some_iff.1 hu).1
    have := hc (q * 3 + t) u (by unfold elsC; rw [flat_get elC_len _ _ _ ht, he]; exact hu)
    rwa [← Nat.add_assoc] at this
/-- A node's kids. -/
theorem rope_kids {j n c : Nat} {m : MN} {A : Option Addr} (h : St k w (ropeA g r :: L)) (hj : r.ms[j]? = some m) (hv : m.vk = .slice A n c) (hp : 0 < m.kids.length) :
    ∃ b o, A = some ⟨b, o, none⟩ ∧ ∀ q x, m.kids[q]? = some x → w.cell? ⟨b, o + q, none⟩ = some (.int .i64 (x : Nat)) := by
  obtain ⟨A', c', hv', -, -, hA, hc⟩ := ((rope_nodeS h hj).head (B := rowS 1 m.vk m.kids.length (intsC m.kids)) fun a p hA => Asg.mono _ (PH.none_le _) (PH.le.refl _) hA.2.1).readsS.at_
  rw [hv] at hv'
  injection hv' with e1 e2 e3
  subst e1 e3
  cases A with
  | none => have := (hA rfl).1; omega
  | some a =>
    obtain ⟨b, o, sp⟩ := a
    obtain ⟨hsp, hc⟩ := hc _ rfl
    obtain rfl := hsp (by omega)
    exact ⟨b, o, rfl, fun q x hx => hc q _ (by simp [intsC, hx])⟩
/-- A node's rows' headers. -/
theorem rope_heads {j : Nat} {m : MN} (h : St k w (ropeA g r :: L)) (hj : r.ms[j]? = some m) : (∃ A c, m.ve = .slice A m.elems.length c ∧ m.elems.length ≤ c ∧ c ≤ maxLen) ∧ ∃ A c, m.vk = .slice A m.kids.length c ∧ m.kids.length ≤ c ∧ c ≤ maxLen ∧ (A = none ↔ m.kids = []) := by
  refine (rope_nodeS h hj).of fun a p hA _ _ => ?_
  obtain ⟨⟨h1, A, c, hv, h2, h3, h4, -⟩, ⟨h5, A', c', hv', h6, h7, h8, -⟩, h9⟩ := hA
  refine ⟨⟨A, c, hv, h2, h3⟩, A', c', hv', h6, h7, ?_⟩
  rw [← h9, hv']
  constructor
  · intro e; obtain ⟨e1, e2⟩ := h8 e; rw [e, e1, e2]
  · intro e; injection e
/-- All of a node's numbers are stored. -/
theorem rope_ofs {bn cap n j : Nat} {m : MN} (f : Nat → Int) (h : St k w (ropeA g r :: L)) (hv : r.vn = .slice (some ⟨bn, 0, none⟩) n cap) (hj : r.ms[j]? = some m) :
    ∃ w', (Instr.storeAt 105 (.pointer (some ⟨bn, j * 35 + 3, none⟩)) (.agg (ofC f).toArray)).run Try.prog w = .ok () w' ∧ St k w' (ropeA g { r with ms := r.ms.set j { m with of := f } } :: L) := by
  have hjl := (List.getElem?_eq_some_iff.1 hj).1
  have h2 := (rope_open h).pull 1
  rcases h2.openA with ⟨h0, _⟩ | ⟨bn', cap', cur, hv', hn, hc, hs, htk, hl, h'⟩
  · rw [h0] at hv; injection hv with hv; cases hv
  · rw [hv'] at hv
    injection hv with e1 e2 e3
    injection e1 with e1
    injection e1 with e1
    subst e1 e3
    have hfit : j * 35 + 3 + (ofC f).length ≤ cur.size := by rw [ofC_len, hs]; omega
    refine ⟨_, store_run (P := Try.prog) (ty := 105) h'.lies (j * 35 + 3) (by simpa [ofC_len] using size105) (by simpa using ofC_one f) (by simpa using hfit), ?_⟩
    have hspl : spl cur (j * 35 + 3) (ofC f) = spl cur (j * 35) (nodeC { m with of := f }) := by
      have g : ∀ t u, (nodeC m)[t]? = some u → cur[j * 35 + t]? = some u := fun t u hu => by
        have htl : t < 35 := by have := (List.getElem?_eq_some_iff.1 hu).1; rwa [nodeC_len] at this
        rw [← Array.getElem?_toList]
        refine take_get htk (j := j * 35 + t) ?_
        unfold nodesC
        rw [flat_get nodeC_len _ _ _ htl, hj]; exact hu
      apply Array.ext_getElem?
      intro i
      rw [spl_get _ _ _ hfit, spl_get _ _ _ (by rw [nodeC_len, hs]; omega), ofC_len, nodeC_len]
      by_cases h1 : i < j * 35
      · rw [if_pos (by omega), if_pos h1]
      · rw [if_neg h1]
        by_cases h3 : i < j * 35 + 3
        · rw [if_pos h3, if_pos (by omega)]
          obtain ⟨t, ht⟩ : ∃ t, i = j * 35 + t := ⟨i - j * 35, by omega⟩
          subst ht
          rw [show j * 35 + t - j * 35 = t by omega]
          have ht3 : t < 3 := by omega
          obtain rfl | rfl | rfl : t = 0 ∨ t = 1 ∨ t = 2 := by omega
          · exact g 0 _ rfl
          · exact g 1 _ rfl
          · exact g 2 _ rfl
        · rw [if_neg h3]
          by_cases h4 : i < j * 35 + 35
          · rw [if_pos (by omega), if_pos h4, nodeC_of, show i - j * 35 = i - (j * 35 + 3) + 3 by omega]
            rfl
          · rw [if_neg (by omega), if_neg h4]
    have hspl' : spl cur (j * 35 + 3) (ofC f).toArray.toList = spl cur (j * 35) (nodeC { m with of := f }) := hspl
    rw [hspl']
    have h3 := (h'.setRow (c' := spl cur (j * 35) (nodeC { m with of := f }))).shutA (n := r.ms.length) (cs := nodesC (r.ms.set j { m with of := f })) hn hc (by rw [spl_size _ _ _ (by rw [nodeC_len, hs]; omega)]; exact hs) (flat_put nodeC_len htk j _ hjl)
    have h4 := (h3.pull 3).head (B := nodesS (r.ms.set j { m with of := f })) fun _ p hA x hx => by
      rcases List.mem_or_eq_of_mem_set hx with h6 | rfl
      · exact hA x h6
      · exact hA m (List.mem_of_getElem? hj)
    refine rope_shut (r := { r with ms := r.ms.set j { m with of := f } }) ?_
    show St k _ (pt g (.cells (ropeL r).toArray 88 (0, 0)) :: rowA 107 35 r.vn (r.ms.set j { m with of := f }).length (nodesC (r.ms.set j { m with of := f })) :: rowA 3 1 r.vf r.free.length (intsC r.free) :: nodesS (r.ms.set j { m with of := f }) :: L)
    rw [List.length_set, hv']
    exact (h4.push 3).swap
set_option maxRecDepth 100000 in
set_option maxHeartbeats 2000000 in
/-- arena.count. -/
theorem count_any {j : Nat} {jI : Int} {m : MN} {ps : List Part} (h : St k w (ropeA g r :: L)) (hjI : jI = (j : Int)) (hj : r.ms[j]? = some m) (hk : m.kids = partsK ps)
    (hkid : ∀ q (hq : q < ps.length), ∃ x, r.ms[(ps[q]).1]? = some x ∧ Sl.Good x (ps[q]).2 ∧ (ps[q]).1 ≠ j) (hlab : ∀ e ∈ m.elems, 0 ≤ e.label ∧ e.label < 32) (hlen : (m.elems ++ partsE ps).length ≤ 10000000000) (hps : ps.length ≤ 1000)
    (hR : ∀ f w', St k w' (ropeA g { r with ms := r.ms.set j { m with size := (m.elems ++ partsE ps).length, of := f } } :: L) → (∀ l, l < 32 → f l = cnt (m.elems ++ partsE ps) l) → R (.returned (.tuple #[])) w') :
    Calls Try.prog 69 #[.pointer (some ⟨g, 0, none⟩), .int .i64 jI] w R := by
  subst hjI
  have hjl := (List.getElem?_eq_some_iff.1 hj).1
  obtain ⟨bn, cap, hv, hnl, hcm2, hbg⟩ := rope_nodes h hjl
  have c0 := rope_0 h
  rw [hv] at c0
  have hS := rope_nodeS h hj
  obtain ⟨Ae, ce, hve, hnce, hcme, hAe, hce⟩ := (hS.head (B := rowS 3 m.ve m.elems.length (elsC m.elems)) fun a p hA => Asg.mono _ (PH.none_le _) (PH.le.refl _) hA.1).readsS.at_
  have n0 := rope_node h hv hj (t := 0) rfl
  rw [hve, Nat.add_zero] at n0
  have hI1 : (0 : Int) ≤ (j : Int) := by omega
  have hI2 : (j : Int) < (r.ms.length : Int) := by omega
  have hsz := rope_size (u := (m.elems.length : Int)) h hv hj
  have hj2 : (r.ms.set j { m with size := (m.elems.length : Int) })[j]? = some { m with size := (m.elems.length : Int) } := List.getElem?_set_self hjl
  obtain ⟨w1, hst, h1⟩ := rope_ofs (fun _ => 0) hsz hv hj2
  rw [store105, zero105] at hst
  simp only [List.set_set] at h1
  have n2 := rope_node h hv hj (t := 2) rfl
  have f2 := rope_nodef h hv (j * 35 + 2)
  have l2 := World.block_lt_of_cell? _ _ n2
  have hj3 : (r.ms.set j { m with size := (m.elems.length : Int), of := fun _ => 0 })[j]? = some { m with size := (m.elems.length : Int), of := fun _ => 0 } := List.getElem?_set_self hjl
  have n0' := rope_node h1 hv hj3 (t := 0) rfl
  rw [Nat.add_zero] at n0'
  change w1.cell? _ = some m.ve at n0'
  rw [hve] at n0'
  have H1 := Lib.hid h1
  have HV := Lib.hid hv
  have HVE := Lib.hid hve
  have HJ := Lib.hid hj
  have HK := Lib.hid hk
  have HKID := Lib.hid hkid
  have HLAB := Lib.hid hlab
  have HLEN := Lib.hid hlen
  have HQ := Lib.hid hR
  clear h h1 hsz hj2 hv hj3 hve hj hk hkid hlab hR hS hnce hcme hAe hce
  have hel : (m.elems.length : Int) ≤ 10000000000 := by rw [List.length_append] at hlen; omega
  clear hlen
  go_enter Try.func69, Try.ntmps69
  go_wp2
  go_loopw [32] (fun i wr => ∃ q : Nat, q ≤ m.elems.length ∧ i = .int .i64 q ∧ Hid (∃ f, (∀ l, l < 32 → f l = cnt (m.elems.take q) l) ∧ St k wr (ropeA g { r with ms := r.ms.set j { m with size := (m.elems.length : Int), of := f } } :: L))) (fun i _ => m.elems.length - (intOf i).toNat)
  case atStart => exact ⟨0, by omega, rfl, Lib.hid ⟨fun _ => 0, fun l _ => by simp [cnt_nil], H1.out⟩⟩
  case round =>
    obtain ⟨q, hq, rfl, HS⟩ := hrel
    obtain ⟨f, hf, hs⟩ := HS.out
    have hj3 : (r.ms.set j { m with size := (m.elems.length : Int), of := f })[j]? = some { m with size := (m.elems.length : Int), of := f } := List.getElem?_set_self hjl
    by_cases hlt : q < m.elems.length
    · obtain ⟨e, he⟩ : ∃ e, m.elems[q]? = some e := ⟨_, List.getElem?_eq_getElem hlt⟩
      obtain ⟨be, oe, rfl, hcell⟩ := rope_elems hs hj3 HVE.out (by show 0 < m.elems.length; omega)
      have e0 := hcell q e 0 _ he rfl
      have e1 := hcell q e 1 _ he rfl
      have e2 := hcell q e 2 _ he rfl
      rw [Nat.add_zero] at e0
      obtain ⟨lb0, lb1⟩ := HLAB.out e (List.mem_of_getElem? he)
      have hsa := hs.alloc (.cells #[.int .i64 e.id, .int .i32 e.rune, .int .i64 e.label] 39)
      have HSA := Lib.hid hsa
      have HF := Lib.hid hf
      have HJ3 := Lib.hid hj3
      have HE := Lib.hid he
      clear hs hf hcell hsa hj3 he
      go_wp2
      refine gen_world HSA.out fun w2 h2 => ?_
      have d2 : w2.cell? ⟨wr.heap.size, 2, none⟩ = some (.int .i64 e.label) := blk_cell h2.lies 2
      have hll : e.label.toNat < 32 := by omega
      have o2 := rope_ofc h2.swap HV.out HJ3.out hll
      have o2f := rope_nodef h2.swap HV.out (j * 35 + 3 + e.label.toNat)
      have o2l := World.block_lt_of_cell? _ _ o2
      have hfl : f e.label.toNat = cnt (m.elems.take q) e.label.toNat := HF.out _ hll
      have hcb := cnt_le (m.elems.take q) e.label.toNat
      have hlt2 : (m.elems.take q).length ≤ m.elems.length := by rw [List.length_take]; omega
      have b1 : 0 ≤ f e.label.toNat := by omega
      have b2 : f e.label.toNat ≤ 10000000000 := by omega
      have HSET := Lib.hid (rope_of (u := f e.label.toNat + 1) h2.swap HV.out HJ3.out hll)
      change w2.cell? _ = some (.int .i64 (f e.label.toNat)) at o2
      clear h2 hfl hcb hlt2
      go_region
      go_wp2
      go_roundw
      case rel =>
        refine ⟨q + 1, by omega, by go_num, Lib.hid ⟨fun i => if i = e.label.toNat then f e.label.toNat + 1 else f i, fun l hl => ?_, ?_⟩⟩
        · have hee : e = m.elems[q] := by have := HE.out; rw [List.getElem?_eq_getElem hlt] at this; exact (Option.some.inj this).symm
          rw [cnt_take_snoc _ _ hlt, ← hee]
          by_cases h5 : l = e.label.toNat
          · subst h5
            show (if e.label.toNat = e.label.toNat then _ else _) = _
            rw [if_pos rfl, if_pos (by omega), HF.out _ hll]
          · show (if l = e.label.toNat then _ else _) = _
            rw [if_neg h5, if_neg (by omega), HF.out _ hl]; omega
        · have h6 := HSET.out.swap.drop
          simp only [List.set_set] at h6
          exact h6.drew
      case measure => simp [intOf]; omega
    · obtain rfl : q = m.elems.length := by omega
      rw [List.take_of_length_le (Nat.le_refl _)] at hf
      obtain ⟨-, Ak, ck, hvk, hnk, hck, hAk⟩ := rope_heads hs hj3
      have n1 := rope_node hs HV.out hj3 (t := 1) rfl
      change wr.cell? _ = some m.vk at n1
      change m.vk = .slice Ak m.kids.length ck at hvk
      have ekl : m.kids.length = ps.length := by rw [HK.out]; simp [partsK]
      rw [hvk, ekl] at n1
      have HS2 := Lib.hid (And.intro hf hs)
      have HVK := Lib.hid hvk
      clear hf hs hj3 HS hvk hnk hck hAk ekl
      go_wp2
      go_loopw [53] (fun i wr => ∃ q : Nat, q ≤ ps.length ∧ i = .int .i64 q ∧ Hid (∃ f, (∀ l, l < 32 → f l = cnt (m.elems ++ partsE (ps.take q)) l) ∧ St k wr (ropeA g { r with ms := r.ms.set j { m with size := ((m.elems ++ partsE (ps.take q)).length : Int), of := f } } :: L))) (fun i _ => ps.length - (intOf i).toNat)
      case atStart => exact ⟨0, by omega, rfl, Lib.hid ⟨f, by simpa [partsE] using HS2.out.1, by simpa [partsE] using HS2.out.2⟩⟩
      case round =>
        obtain ⟨q, hq, rfl, HS⟩ := hrel
        obtain ⟨f2, hf, hs⟩ := HS.out
        have hj3 : (r.ms.set j { m with size := ((m.elems ++ partsE (ps.take q)).length : Int), of := f2 })[j]? = some { m with size := ((m.elems ++ partsE (ps.take q)).length : Int), of := f2 } := List.getElem?_set_self hjl
        by_cases hlt : q < ps.length
        · obtain ⟨x, hx, hgood, hne⟩ := HKID.out q hlt
          have hkl : 0 < m.kids.length := by rw [HK.out]; simp [partsK]; omega
          obtain ⟨bk, ok, rfl, hcell⟩ := rope_kids hs hj3 HVK.out hkl
          have hkq : m.kids[q]? = some (ps[q]).1 := by rw [HK.out]; simp [partsK, hlt]
          have k0 := hcell q _ hkq
          obtain ⟨kd, hkd⟩ : ∃ kd, (ps[q]).1 = kd := ⟨_, rfl⟩
          rw [hkd] at k0 hx hne
          have hx3 : (r.ms.set j { m with size := ((m.elems ++ partsE (ps.take q)).length : Int), of := f2 })[kd]? = some x := by rw [List.getElem?_set_ne (Ne.symm hne)]; exact hx
          have hkdl : kd < r.ms.length := (List.getElem?_eq_some_iff.1 hx).1
          have g0 := rope_0 hs
          change wr.cell? _ = some r.vn at g0
          rw [HV.out] at g0
          have s1 := rope_node hs HV.out hj3 (t := 2) rfl
          have s1f := rope_nodef hs HV.out (j * 35 + 2)
          have s1l := World.block_lt_of_cell? _ _ s1
          have s2 := rope_node hs HV.out hx3 (t := 2) rfl
          rw [hgood.size] at s2
          have hle := HLEN.out
          have htk := partsE_take ps q hlt
          have htk2 := partsE_take_le ps (q + 1)
          rw [htk, List.length_append] at htk2
          rw [List.length_append] at hle
          obtain ⟨N1, hN1⟩ : ∃ N1, N1 = (m.elems ++ partsE (ps.take q)).length := ⟨_, rfl⟩
          obtain ⟨N2, hN2⟩ : ∃ N2, N2 = (ps[q]).2.length := ⟨_, rfl⟩
          have hN1' : N1 = m.elems.length + (partsE (ps.take q)).length := by rw [hN1, List.length_append]
          have b1 : (N1 : Int) + N2 ≤ 10000000000 := by omega
          have b2 : (0 : Int) ≤ (N1 : Int) + N2 := by omega
          change wr.cell? _ = some (.int .i64 ((m.elems ++ partsE (ps.take q)).length : Int)) at s1
          rw [← hN1] at s1
          rw [← hN2] at s2
          have hsz := rope_size (u := (N1 : Int) + N2) hs HV.out hj3
          have HSZ := Lib.hid hsz
          have hK1 : (0 : Int) ≤ (kd : Int) := by omega
          have hK2 : (kd : Int) < (r.ms.length : Int) := by omega
          have HG := Lib.hid hgood
          have HN := Lib.hid (And.intro hN1 hN2)
          have HX := Lib.hid hx
          have HNE := Lib.hid hne
          have HF := Lib.hid hf
          have HTK := Lib.hid htk
          clear hs hj3 hcell hkq hx hne hx3 hle htk htk2 hN1 hN2 hN1' hsz hgood hf hkl HS hkd
          go_wp2
          go_region
          go_wp2
          refine gen_world HSZ.out.drew fun w2 h2 => ?_
          simp only [List.set_set] at h2
          have hj4 : (r.ms.set j { m with size := (N1 : Int) + N2, of := f2 })[j]? = some { m with size := (N1 : Int) + N2, of := f2 } := List.getElem?_set_self hjl
          have hx4 : (r.ms.set j { m with size := (N1 : Int) + N2, of := f2 })[kd]? = some x := by rw [List.getElem?_set_ne (Ne.symm HNE.out)]; exact HX.out
          have h3 := h2.drew
          have hld := load_run (P := Try.prog) (ty := 105) (b := bn) (o := kd * 35 + 3) (cs := ofC x.of) (w := w2.drew) (by
            intro t u hu
            have ht : t < 32 := by have := (List.getElem?_eq_some_iff.1 hu).1; rwa [ofC_len] at this
            rw [ofC_get _ ht] at hu
            rw [rope_ofc h3 HV.out hx4 ht]; exact hu) Try.underlying105 rfl (by simpa [ofC_len] using size105)
          rw [load105] at hld
          have g1 := rope_0 h3
          change w2.drew.cell? _ = some r.vn at g1
          rw [HV.out] at g1
          have hb : ∀ l, l < 32 → 0 ≤ x.of l ∧ x.of l ≤ 10000000000 := fun l hl => by
            have a := HG.out.of l hl
            have b := cnt_le (ps[q]).2 l
            have c := HN.out.2
            omega
          have hm : ∀ l, l < 32 → 0 ≤ f2 l ∧ f2 l ≤ 10000000000 := fun l hl => by
            have a := HF.out l hl
            have b := cnt_le (m.elems ++ partsE (ps.take q)) l
            have c := HN.out.1
            omega
          have HA := Lib.hid (fun (RR : Ending → World → Prop) => add_any (R := RR) h3 HV.out hj4 hb hm)
          clear h2 h3 hj4 hx4 hb hm
          go_region_with ((refine HA.out _ ?_; intro w3 h4; have H4 := Lib.hid h4; clear h4))
          go_wp2
          go_roundw
          case rel =>
            have e1 : (m.elems ++ partsE (ps.take (q + 1))).length = N1 + N2 := by
              rw [HTK.out, ← List.append_assoc, List.length_append, ← HN.out.1, ← HN.out.2]
            have h5 := H4.out
            simp only [List.set_set] at h5
            refine ⟨q + 1, by omega, by go_num, Lib.hid ⟨fun l => if l < 32 then f2 l + x.of l else f2 l, fun l hl => ?_, by rw [e1, Int.natCast_add]; exact h5⟩⟩
            show (if l < 32 then f2 l + x.of l else f2 l) = _
            rw [if_pos hl, HTK.out, ← List.append_assoc, cnt_append, HF.out l hl, HG.out.of l hl]
          case measure => simp [intOf]; omega
        · obtain rfl : q = ps.length := by omega
          rw [List.take_of_length_le (Nat.le_refl _)] at hf hs
          have HX := Lib.hid (HQ.out f2 _ hs hf)
          clear hf hs hj3
          go_wp2
          go_end0
          exact HX.out
end
end Go.Proofs.Ytdgaffcfcgmfnaa
