/- View. -/
import Derived.Test.YtdgaffcfcgmfnaaS4
set_option linter.unusedVariables false
set_option linter.unusedSimpArgs false
namespace Go.Proofs.Ytdgaffcfcgmfnaa
open Go.RowKit Go.Sl

attribute [local go_sem ↓ high] load107 store107 load105 store105 slice82
section
variable {k w : World} {L : List Asn} {F : List (Asg MN)} {g c : Nat} {P : Pol} {es : List El} {r : RM} {R : Ending → World → Prop}
theorem seenN_take_snoc (P : Pol) (v : Nat) (es : List El) (q : Nat) (e : El) (h : es[q]? = some e) : seenN P v (es.take (q + 1)) = seenN P v (es.take q) + if P.see v e.label = true then 1 else 0 := by
  rw [List.take_add_one, h, seenN_app]
  show _ + seenN P v [e] = _
  rw [seenN_cons]; rfl
set_option maxRecDepth 100000 in
set_option maxHeartbeats 4000000 in
theorem view_main {v i : Nat} (h : St k w (Rope g P es c :: L)) (hv : P.has v = true) (hi : i ≤ es.length)
    (hR : ∀ w', St k w' (Rope g P es c :: L) → R (.returned (pairV ((seenN P v (es.take i) : Nat), 0))) w') : Calls Try.prog 20 #[.pointer (some ⟨g, 0, none⟩), .int .i64 v, .int .i64 i] w R := by
  obtain ⟨r, h1, ho⟩ := Rope.out h
  have c3 := rope_3 h1
  have d0 := rope_dead h1 ho
  have HL := Lib.hid (ho.label v)
  have HV := Lib.hid hv
  have H := Lib.hid h
  have HI := Lib.hid hi
  have HQ := Lib.hid hR
  have hel := ho.len
  obtain ⟨S, hS⟩ : ∃ S, es.length = S := ⟨_, rfl⟩
  have HSS := Lib.hid hS
  have b1 : (i : Int) ≤ (S : Int) := by omega
  have b2 : (S : Int) ≤ 1048576 := by omega
  have b3 : (0 : Int) ≤ (i : Int) := by omega
  have e1 : decide ((i : Int) < 0) = false := by simp
  have e2 : decide (S < i) = false := by simp; omega
  clear h h1 ho hv hi hR hel hS
  go_enter Try.func20, Try.ntmps20
  go_wp2_with (first | (go_at_call 55; refine dead_any d0 ?_) | (go_at_call 56; refine label_any c3 (HV.out.symm.trans HL.out) ?_))
  refine len_any H.out fun w1 h2 => ?_
  rw [HSS.out]
  clear c3 d0 HL
  obtain ⟨r, h3, ho⟩ := Rope.out h2
  have c2 := rope_2 h3
  have H3 := Lib.hid h3
  have HO := Lib.hid ho
  clear h2 h3 ho
  go_wp2
  go_quiet (fail)
  go_wp2
  refine gen_world (H3.out.drewN _) fun w2 h4 => ?_
  have H4 := Lib.hid h4
  obtain ⟨hh, -, hAr⟩ := HO.out.ar
  obtain ⟨bn, cap, hv, -, -, -⟩ : ∃ bn cap, r.vn = .slice (some ⟨bn, 0, none⟩) r.ms.length cap ∧ r.ms.length ≤ cap ∧ cap ≤ maxLen ∧ bn ≠ g := by
    obtain ⟨x, hx, -⟩ := HO.out.node
    exact rope_nodes h4 (List.getElem?_eq_some_iff.1 hx).1
  have c0 := rope_0 h4
  rw [hv] at c0
  have HVN := Lib.hid hv
  have HAR := Lib.hid hAr
  obtain ⟨hv0, hv1⟩ := Pol.has_iff.1 HV.out
  have hvl : v < 32 := by have := HO.out.l32; omega
  have HLB := Lib.hid HO.out.labs
  have HEL := Lib.hid HO.out.len
  clear h4 hv hAr
  go_loopg [2, 8, 9] hh (fun gg s2 s8 s9 wx => w2 = wx ∧ ∃ (j p a : Nat) (pre es' post : List El) (F' : List (Asg MN)), s9 = .int .i64 j ∧ s2 = .int .i64 a ∧ s8 = .int .i64 p ∧ j < r.ms.length ∧ p ≤ 1048576 ∧ a ≤ 1048576 ∧ Hid (Ar r.ms r.free (Tree gg j es' :: F')) ∧ Hid (es = pre ++ es' ++ post ∧ p = seenN P v pre ∧ pre.length + a = i ∧ a ≤ es'.length))
  case atStart =>
    obtain ⟨x, hx, -⟩ := HO.out.node
    exact ⟨rfl, r.root, 0, i, [], es, [], [], rfl, rfl, rfl, (List.getElem?_eq_some_iff.1 hx).1, by omega, by omega, HAR, Lib.hid ⟨by simp, rfl, by simp, HI.out⟩⟩
  case round =>
    obtain ⟨hw, j, p, a, pre, es', post, F', rfl, rfl, rfl, hjl, hp, ha, HA', HE⟩ := hrel
    subst hw
    have b4 : (j : Int) < (r.ms.length : Int) := by omega
    cases gk with
    | succ h' =>
      obtain ⟨m, ps, ha1, hme, hps, hk, hes, hg⟩ := tree_knot HA'.out
      subst hes
      have hj := ha1.at_
      obtain ⟨-, Ak, ck, hvk, hck1, hck2, hAk⟩ := rope_heads H4.out hj
      have ekl : m.kids.length = ps.length := by rw [hk]; simp [partsK]
      have hpl : 0 < ps.length := List.length_pos_iff.2 hps
      obtain ⟨bk, ok, rfl, hcell⟩ := rope_kids H4.out hj hvk (by omega)
      have n1 := rope_node H4.out HVN.out hj (t := 1) rfl
      rw [hvk, ekl] at n1
      have hkc : ∀ q (hq : q < ps.length), w2.cell? ⟨bk, ok + q, none⟩ = some (.int .i64 ((ps[q]).1 : Nat)) := fun q hq => hcell q _ (by rw [hk]; simp [partsK, hq])
      have hpl2 : ps.length ≤ 8 := by have := hg.few; omega
      have hnext : ∀ q (hq : q < ps.length), ∃ F2, Ar r.ms r.free (Tree h' (ps[q]).1 (ps[q]).2 :: F2) := fun q hq => by
        have h1 := ha1.swap
        have hdec := (List.take_append_drop q ps).symm
        rw [List.drop_eq_getElem_cons hq] at hdec
        rw [hdec] at h1
        exact ⟨_, trees_open h1⟩
      have hkn : ∀ q (hq : q < ps.length), ∃ x, r.ms[(ps[q]).1]? = some x ∧ x.size = (ps[q]).2.length := fun q hq => by
        obtain ⟨x, h1, h2, -⟩ := kid_node ha1 q hq
        exact ⟨x, h1, h2.size⟩
      have HKC := Lib.hid hkc
      have HX := Lib.hid hnext
      have HKN := Lib.hid (fun q hq => kid_node ha1 q hq)
      have HKD := Lib.hid (fun (RR : Ending → World → Prop) => kid_any (R := RR) H4.out HVN.out hj hk hps hkn (show (a : Int) = a from rfl) (by omega) (by omega))
      have hckl : ps.length ≤ ck := by omega
      clear ha1 hme hps hk hg hj hvk hAk ekl hcell hkc hnext hkn hck1
      go_wp2_with (first | (go_at_call 58; refine leaf_any n1 ?_) | (go_at_call 59; refine HKD.out _ ?_; intro a' q' b' rest hps' hir hre; have hal : a'.length < ps.length := (by rw [hps']; simp); have hal2 : a'.length ≤ ck := (by omega); have hal3 : (a'.length : Int) < (ps.length : Int) := (by omega); have HP := Lib.hid (And.intro hps' (And.intro hir hre)); clear hps' hir hre))
      go_loop [8, 65] (fun s8 s65 => ∃ q p2 : Nat, q ≤ a'.length ∧ s65 = .int .i64 q ∧ s8 = .int .i64 p2 ∧ p2 ≤ 1048576 ∧ Hid (p2 = p + seenN P v (partsE (ps.take q)))) (fun _ s65 => a'.length - (intOf s65).toNat)
      case atStart => exact ⟨0, p, by omega, rfl, rfl, hp, Lib.hid (by simp [partsE, seenN])⟩
      case round =>
        obtain ⟨q, p2, hq, rfl, rfl, hp2, HC⟩ := hrel
        by_cases hlt : q < a'.length
        · obtain ⟨x, hx, hgx, -⟩ := HKN.out q (by omega)
          have s0 := HKC.out q (by omega)
          obtain ⟨kd, hkd⟩ : ∃ kd, (ps[q]'(by omega)).1 = kd := ⟨_, rfl⟩
          rw [hkd] at s0 hx
          have hl1 := (List.getElem?_eq_some_iff.1 hx).1
          have hsub : ∀ e ∈ (ps[q]'(by omega)).2, e ∈ es := fun e he => by
            rw [HE.out.1]
            have : e ∈ partsE ps := by unfold partsE; exact List.mem_flatMap.2 ⟨_, List.getElem_mem (by omega), he⟩
            simp [this]
          have htk := partsE_take ps q (by omega)
          have hle : p + seenN P v (partsE (ps.take (q + 1))) ≤ 1048576 := by
            have h1 := partsE_take_le ps (q + 1)
            have h2 := HEL.out
            have h3 := seenN_le P v (partsE (ps.take (q + 1)))
            have h4 := seenN_le P v pre
            rw [HE.out.1] at h2
            have h5 := HE.out.2.1
            simp only [List.length_append] at h2
            omega
          obtain ⟨Sq, hSq⟩ : ∃ S, seenN P v (ps[q]'(by omega)).2 = S := ⟨_, rfl⟩
          rw [htk, seenN_app, hSq] at hle
          have hp3 : p2 + Sq ≤ 1048576 := by have := HC.out; omega
          have hnl : (ps[q]'(by omega)).2.length ≤ 1048576 := by
            have h1 := partsE_take_le ps (q + 1)
            have h2 := HEL.out
            rw [HE.out.1] at h2
            rw [htk] at h1
            simp only [List.length_append] at h2 h1
            omega
          have HSEEN := Lib.hid (fun (RR : Ending → World → Prop) => seen_node (R := RR) (P := P) H4.out HVN.out hx hgx (fun e he => HLB.out e (hsub e he)) hnl hvl HO.out.sees HO.out.slen)
          rw [hSq] at HSEEN
          have HTK := Lib.hid (And.intro htk hSq)
          have b5 : (kd : Int) < (r.ms.length : Int) := by omega
          have b6 : (0 : Int) ≤ (kd : Int) := by omega
          clear hkd hSq htk hx hgx hsub hle hnl
          go_wp2_with (go_at_call 57; refine HSEEN.out _ ?_)
          go_round
          case rel =>
            refine ⟨q + 1, p2 + Sq, by omega, by go_num, by go_num, hp3, Lib.hid ?_⟩
            rw [HTK.out.1, seenN_app, HTK.out.2]; have := HC.out; omega
          case measure => simp [intOf]; omega
        · obtain rfl : q = a'.length := by omega
          have s0 := HKC.out a'.length hal
          obtain ⟨F2, hF2⟩ := HX.out a'.length hal
          obtain ⟨x, hx, -⟩ := HKN.out a'.length hal
          have hpq : ps[a'.length] = q' := by
            have : ps[a'.length]? = some q' := by rw [HP.out.1]; simp
            rw [List.getElem?_eq_getElem hal] at this
            exact Option.some.inj this
          rw [hpq] at s0 hF2 hx
          have hl1 := (List.getElem?_eq_some_iff.1 hx).1
          have HF2 := Lib.hid hF2
          clear hpq hF2 hx
          go_wp2
          go_roundg h'
          case measure => omega
          case rel =>
            have hps := HP.out.1
            have hir := HP.out.2.1
            have htk : ps.take a'.length = a' := by rw [hps]; simp
            have hC := HC.out
            rw [htk] at hC
            have hr : rest ≤ q'.2.length := by
              rcases HP.out.2.2 with h1 | h1
              · omega
              · have h3 := HE.out.2.2.2
                rw [hps, h1, partsE_app, partsE_cons, List.length_append] at h3
                simp only [partsE, List.flatMap_nil, List.append_nil] at h3 hir
                omega
            have hrb : rest ≤ 1048576 := by omega
            refine ⟨rfl, q'.1, p2, rest, pre ++ partsE a', q'.2, partsE b' ++ post, F2, rfl, rfl, rfl, hl1, hp2, hrb, HF2, Lib.hid ⟨?_, ?_, ?_, hr⟩⟩
            · rw [HE.out.1, hps, partsE_app, partsE_cons]; simp
            · rw [seenN_app, hC, HE.out.2.1]
            · rw [List.length_append]; have := HE.out.2.2.1; omega
    | zero =>
      obtain ⟨m, ha1, hk, hm, hg⟩ := tree_leaf HA'.out
      subst hm
      have hj := ha1.at_
      obtain ⟨⟨Ae, ce, hve, hce1, hce2⟩, Ak, ck, hvk, -, -, hAk⟩ := rope_heads H4.out hj
      obtain rfl : Ak = none := hAk.2 hk
      have n1 := rope_node H4.out HVN.out hj (t := 1) rfl
      rw [hvk] at n1
      have n0 := rope_node H4.out HVN.out hj (t := 0) rfl
      rw [hve, Nat.add_zero] at n0
      have HJ := Lib.hid hj
      have HVE := Lib.hid hve
      obtain ⟨NE, hNE⟩ : ∃ N, m.elems.length = N := ⟨_, rfl⟩
      rw [hNE] at n0 hce1
      have haNE : a ≤ NE := by have := HE.out.2.2.2; omega
      have hne2 : p + NE ≤ 2097152 := by have h1 := HEL.out; rw [HE.out.1] at h1; simp only [List.length_append] at h1; omega
      have HNE := Lib.hid hNE
      have hace : a ≤ ce := by omega
      clear ha1 hk hg hj hve hvk hAk hNE
      go_wp2_with (go_at_call 58; refine leaf_any n1 ?_)
      go_loopw [8, 101] (fun s8 s101 wr => ∃ q p2 : Nat, q ≤ a ∧ s101 = .int .i64 q ∧ s8 = .int .i64 p2 ∧ p2 ≤ p + q ∧ Hid (p2 = p + seenN P v (m.elems.take q)) ∧ Hid (St k wr (ropeA g r :: L))) (fun _ s101 _ => a - (intOf s101).toNat)
      case atStart => exact ⟨0, p, by omega, rfl, rfl, by omega, Lib.hid (by simp [seenN]), H4⟩
      case round =>
        obtain ⟨q, p2, hq, rfl, rfl, hpq, HC, HS⟩ := hrel
        by_cases hlt : q < a
        · obtain ⟨e, he⟩ : ∃ e, m.elems[q]? = some e := ⟨_, List.getElem?_eq_getElem (by rw [HNE.out]; omega)⟩
          obtain ⟨b', o', heq, hcell⟩ := rope_elems HS.out HJ.out HVE.out (by rw [HNE.out]; omega)
          subst heq
          have t0 := hcell q e 0 _ he rfl
          have t1 := hcell q e 1 _ he rfl
          have t2 := hcell q e 2 _ he rfl
          rw [Nat.add_zero] at t0
          have hem : e ∈ es := by rw [HE.out.1]; have := List.mem_of_getElem? he; simp [this]
          obtain ⟨lb0, lb1⟩ := HLB.out e hem
          obtain ⟨y, hy⟩ : ∃ y, P.see v e.label = y := ⟨_, rfl⟩
          have HSA := Lib.hid (HS.out.alloc (elO e))
          have hsn := seenN_take_snoc P v m.elems q e he
          rw [hy] at hsn
          have HD := Lib.hid hsn
          clear hcell he hem hsn
          go_wp2
          refine gen_world HSA.out fun w3 h5 => ?_
          have u2 : w3.cell? ⟨wr.heap.size, 2, none⟩ = some (.int .i64 e.label) := blk_cell h5.lies 2
          have hse := rope_sees (j := v * 32 + e.label.toNat) h5.swap (b := y) (by
            rw [HO.out.sees, ← hy]
            unfold Pol.see
            rw [List.getD_eq_getElem?_getD, List.getElem?_eq_getElem (by rw [HO.out.slen]; omega)]; rfl)
          rw [← Nat.add_assoc] at hse
          have H5 := Lib.hid h5.drop
          have hv32 : (v : Int) < 32 := by omega
          clear h5 hy
          cases y
          · go_quiet (fail)
            go_wp2
            go_roundw
            case rel => exact ⟨q + 1, p2, by omega, by go_num, rfl, by omega, Lib.hid (by rw [HD.out]; have := HC.out; simp; omega), Lib.hid (H5.out.drewN _)⟩
            case measure => simp [intOf]; omega
          · go_quiet (fail)
            go_wp2
            go_roundw
            case rel => exact ⟨q + 1, p2 + 1, by omega, by go_num, by go_num, by omega, Lib.hid (by rw [HD.out]; have := HC.out; simp; omega), Lib.hid (H5.out.drewN _)⟩
            case measure => simp [intOf]; omega
        · obtain rfl : q = a := by omega
          have hfin : seenN P v (es.take i) = p2 := by
            have h1 := HE.out.2.2.1
            have h2 := HC.out
            rw [HE.out.1, ← h1, List.append_assoc, List.take_append, List.take_of_length_le (by omega), show pre.length + q - pre.length = q by omega, List.take_append, show q - m.elems.length = 0 by have := HNE.out; omega, List.take_zero, List.append_nil, seenN_app, h2, HE.out.2.1]
          have hx := HQ.out _ (Rope.mk HS.out HO.out)
          rw [hfin] at hx
          have HX2 := Lib.hid hx
          clear hfin hx
          go_wp2
          exact HX2.out
set_option maxRecDepth 100000 in
set_option maxHeartbeats 1000000 in
theorem view_any {v i : Int} (h : St k w (Rope g P es c :: L)) (hR : ∀ w', St k w' (Rope g P es c :: L) → R (.returned (pairV (viewP P v es i))) w') : Calls Try.prog 20 #[.pointer (some ⟨g, 0, none⟩), .int .i64 v, .int .i64 i] w R := by
  obtain ⟨r, h1, ho⟩ := Rope.out h
  have c3 := rope_3 h1
  have d0 := rope_dead h1 ho
  have HL := Lib.hid (ho.label v)
  cases hb : P.has v
  · have e : viewP P v es i = (0, 10) := by rw [viewP, if_neg (by rw [hb]; simp)]
    rw [e] at hR
    have HB := Lib.hid hb
    have HR := Lib.hid (hR _ h)
    clear h hR h1 ho hb e
    go_enter Try.func20, Try.ntmps20
    go_wp2_with (first | (go_at_call 55; refine dead_any d0 ?_) | (go_at_call 56; refine label_any c3 (HB.out.symm.trans HL.out) ?_))
    exact HR.out
  · by_cases hn : 0 ≤ i ∧ i ≤ (es.length : Nat)
    · have e : viewP P v es i = (((seenN P v.toNat (es.take i.toNat) : Nat) : Int), 0) := by rw [viewP, if_pos hb, if_pos hn]
      rw [e] at hR
      have hv := Pol.has_iff.1 hb
      obtain ⟨v', rfl⟩ : ∃ v' : Nat, v = v' := ⟨v.toNat, by omega⟩
      obtain ⟨i', rfl⟩ : ∃ i' : Nat, i = i' := ⟨i.toNat, by omega⟩
      simp only [Int.toNat_natCast] at hR hn
      exact view_main h hb (by omega) hR
    · have e : viewP P v es i = (0, 1) := by rw [viewP, if_pos hb, if_neg hn]
      rw [e] at hR
      have HB := Lib.hid hb
      have HR := Lib.hid hR
      have H := Lib.hid h
      by_cases h0 : i < 0
      · have HR0 := Lib.hid (hR _ h)
        clear h hR h1 ho hb e hn
        go_enter Try.func20, Try.ntmps20
        go_wp2_with (first | (go_at_call 55; refine dead_any d0 ?_) | (go_at_call 56; refine label_any c3 (HB.out.symm.trans HL.out) ?_))
        exact HR0.out
      · have b1 : (es.length : Int) < i := by omega
        have b0 : 0 ≤ i := by omega
        clear h hR h1 ho hb e hn h0
        go_enter Try.func20, Try.ntmps20
        go_wp2_with (first | (go_at_call 55; refine dead_any d0 ?_) | (go_at_call 56; refine label_any c3 (HB.out.symm.trans HL.out) ?_))
        refine len_any H.out fun w1 h2 => ?_
        have HX := Lib.hid (HR.out _ h2)
        clear h2
        go_wp2
        exact HX.out
end
end Go.Proofs.Ytdgaffcfcgmfnaa
