/- Index. -/
import Derived.Test.YtdgaffcfcgmfnaaS2
set_option linter.unusedVariables false
set_option linter.unusedSimpArgs false
namespace Go.Proofs.Ytdgaffcfcgmfnaa
open Go.RowKit Go.Sl

attribute [local go_sem ↓ high] load107 store107 load105 store105 slice82
/-- Where the n-th one stands that is seen at v. -/
def IdxAt (P : Pol) (v : Nat) (es : List El) (n i : Nat) : Prop := ∃ a e b, es = a ++ e :: b ∧ P.see v e.label = true ∧ seenN P v a = n ∧ i = a.length
theorem seenN_app (P : Pol) (v : Nat) (a b : List El) : seenN P v (a ++ b) = seenN P v a + seenN P v b := by simp [seenN]
theorem seenN_cons (P : Pol) (v : Nat) (e : El) (b : List El) : seenN P v (e :: b) = (if P.see v e.label = true then 1 else 0) + seenN P v b := by
  unfold seenN
  rw [List.filter_cons]
  split <;> simp <;> omega
theorem seenN_le (P : Pol) (v : Nat) (a : List El) : seenN P v a ≤ a.length := List.length_filter_le _ _
section
variable {k w : World} {L : List Asn} {F : List (Asg MN)} {g c : Nat} {P : Pol} {es : List El} {r : RM} {R : Ending → World → Prop}
/-- How many code points of a node are seen. -/
theorem seen_node {bn cap n j v : Nat} {x : MN} {es' : List El} (h : St k w (ropeA g r :: L)) (hv : r.vn = .slice (some ⟨bn, 0, none⟩) n cap) (hj : r.ms[j]? = some x) (hg : Sl.Good x es') (hl : Labs es') (hlen : es'.length ≤ 1048576) (hvl : v < 32) (hs : r.sees = P.sees) (hsl : P.sees.length = 1024) (hR : R (.returned (.int .i64 (seenN P v es' : Nat))) w) :
    Calls Try.prog 57 #[.pointer (some ⟨g, 0, none⟩), .int .i64 v, .int .i64 j] w R := by
  refine seen_any h hv hj hvl (by rw [hs]; exact hsl) (fun l hl => ?_) ?_
  · have a := hg.of l hl
    have b := cnt_le es' l
    omega
  · rw [hs, seenL_congr _ _ _ _ 32 (fun l hl => hg.of l hl), seenL_all P v hl]
    exact hR
set_option maxRecDepth 100000 in
set_option maxHeartbeats 4000000 in
theorem index_main {v n : Nat} (h : St k w (Rope g P es c :: L)) (hv : P.has v = true) (hn : n < seenN P v es)
    (hR : ∀ i w', St k w' (Rope g P es c :: L) → IdxAt P v es n i → R (.returned (.tuple #[.int .i64 (i : Nat), .int .i64 0])) w') : Calls Try.prog 19 #[.pointer (some ⟨g, 0, none⟩), .int .i64 v, .int .i64 n] w R := by
  obtain ⟨r, h1, ho⟩ := Rope.out h
  have c3 := rope_3 h1
  have d0 := rope_dead h1 ho
  have HL := Lib.hid (ho.label v)
  have HV := Lib.hid hv
  have H := Lib.hid h
  have HN := Lib.hid hn
  have HQ := Lib.hid hR
  have hsz : sizeP P v es = (seenN P v es : Nat) := by unfold sizeP; rw [if_pos hv]; rfl
  have hnl := seenN_le P v es
  have hel := ho.len
  obtain ⟨S, hS⟩ : ∃ S, seenN P v es = S := ⟨_, rfl⟩
  rw [hS] at hsz hn hnl
  have b1 : (n : Int) < (S : Int) := by omega
  have b2 : (S : Int) ≤ 1048576 := by omega
  have b3 : (0 : Int) ≤ (n : Int) := by omega
  have HSZ := Lib.hid hsz
  have e1 : decide ((n : Int) < 0) = false := by simp
  have e2 : decide (S ≤ n) = false := by simp; omega
  clear h h1 ho hv hn hR hsz hnl hel hS
  go_enter Try.func19, Try.ntmps19
  go_wp2_with (first | (go_at_call 55; refine dead_any d0 ?_) | (go_at_call 56; refine label_any c3 (HV.out.symm.trans HL.out) ?_))
  refine size_any H.out fun w1 h2 => ?_
  rw [HSZ.out]
  clear c3 d0 HL
  obtain ⟨r, h3, ho⟩ := Rope.out h2
  have c2 := rope_2 h3
  have H3 := Lib.hid h3
  have HO := Lib.hid ho
  clear h2 h3 ho
  go_wp2
  go_quiet (fail)
  go_wp2
  refine gen_world (H3.out.drewN _) fun w2 h4 => ?_
  have H4 := Lib.hid h4
  obtain ⟨hh, -, hAr⟩ := HO.out.ar
  obtain ⟨bn, cap, hv, -, -, -⟩ : ∃ bn cap, r.vn = .slice (some ⟨bn, 0, none⟩) r.ms.length cap ∧ r.ms.length ≤ cap ∧ cap ≤ maxLen ∧ bn ≠ g := by
    obtain ⟨x, hx, -⟩ := HO.out.node
    exact rope_nodes h4 (List.getElem?_eq_some_iff.1 hx).1
  have c0 := rope_0 h4
  rw [hv] at c0
  have HVN := Lib.hid hv
  have HAR := Lib.hid hAr
  obtain ⟨hv0, hv1⟩ := Pol.has_iff.1 HV.out
  have hvl : v < 32 := by have := HO.out.l32; omega
  have HLB := Lib.hid HO.out.labs
  have HEL := Lib.hid HO.out.len
  clear h4 hv hAr
  go_loopg [2, 8, 9] hh (fun gg s2 s8 s9 wx => w2 = wx ∧ ∃ (j p a : Nat) (pre es' post : List El) (F' : List (Asg MN)), s9 = .int .i64 j ∧ s2 = .int .i64 a ∧ s8 = .int .i64 p ∧ j < r.ms.length ∧ p ≤ 1048576 ∧ a < 1048576 ∧ Hid (Ar r.ms r.free (Tree gg j es' :: F')) ∧ Hid (es = pre ++ es' ++ post ∧ p = pre.length ∧ seenN P v pre + a = n ∧ a < seenN P v es'))
  case atStart =>
    obtain ⟨x, hx, -⟩ := HO.out.node
    exact ⟨rfl, r.root, 0, n, [], es, [], [], rfl, rfl, rfl, (List.getElem?_eq_some_iff.1 hx).1, by omega, by omega, HAR, Lib.hid ⟨by simp, rfl, by simp [seenN], HN.out⟩⟩
  case round =>
    obtain ⟨hw, j, p, a, pre, es', post, F', rfl, rfl, rfl, hjl, hp, ha, HA', HE⟩ := hrel
    subst hw
    have b4 : (j : Int) < (r.ms.length : Int) := by omega
    cases gk with
    | succ h' =>
      obtain ⟨m, ps, ha1, hme, hps, hk, hes, hg⟩ := tree_knot HA'.out
      subst hes
      have hj := ha1.at_
      obtain ⟨-, Ak, ck, hvk, -, -, hAk⟩ := rope_heads H4.out hj
      have ekl : m.kids.length = ps.length := by rw [hk]; simp [partsK]
      have hpl : 0 < ps.length := List.length_pos_iff.2 hps
      obtain ⟨bk, ok, rfl, hcell⟩ := rope_kids H4.out hj hvk (by omega)
      have n1 := rope_node H4.out HVN.out hj (t := 1) rfl
      rw [hvk, ekl] at n1
      have hkc : ∀ q (hq : q < ps.length), w2.cell? ⟨bk, ok + q, none⟩ = some (.int .i64 ((ps[q]).1 : Nat)) := fun q hq => hcell q _ (by rw [hk]; simp [partsK, hq])
      have hpl2 : ps.length ≤ 8 := by have := hg.few; omega
      have hnext : ∀ q (hq : q < ps.length), ∃ F2, Ar r.ms r.free (Tree h' (ps[q]).1 (ps[q]).2 :: F2) := fun q hq => by
        have h1 := ha1.swap
        have hdec := (List.take_append_drop q ps).symm
        rw [List.drop_eq_getElem_cons hq] at hdec
        rw [hdec] at h1
        exact ⟨_, trees_open h1⟩
      have HKC := Lib.hid hkc
      have HX := Lib.hid hnext
      have HKN := Lib.hid (fun q hq => kid_node ha1 q hq)
      clear ha1 hme hps hk hg hj hvk hAk ekl hcell hkc hnext
      go_wp2_with (go_at_call 58; refine leaf_any n1 ?_)
      go_loopg [2, 8, 56] ps.length (fun gg s2 s8 s56 wx => w2 = wx ∧ ∃ q p2 a2 : Nat, q < ps.length ∧ gg = ps.length - q ∧ s56 = .int .i64 q ∧ s2 = .int .i64 a2 ∧ s8 = .int .i64 p2 ∧ p2 ≤ 1048576 ∧ a2 < 1048576 ∧ Hid (p2 = (pre ++ partsE (ps.take q)).length ∧ seenN P v (partsE (ps.take q)) + a2 = a ∧ a2 < seenN P v (partsE (ps.drop q))))
      case atStart => exact ⟨rfl, 0, p, a, hpl, rfl, rfl, rfl, rfl, hp, ha, Lib.hid (by simpa [partsE, seenN] using ⟨HE.out.2.1, HE.out.2.2.2⟩)⟩
      case round =>
        obtain ⟨hw, q, p2, a2, hlt, hgg, rfl, rfl, rfl, hp2, ha2, HC⟩ := hrel
        subst hw
        obtain ⟨x, hx, hgx, -⟩ := HKN.out q hlt
        have s0 := HKC.out q hlt
        obtain ⟨kd, hkd⟩ : ∃ kd, (ps[q]).1 = kd := ⟨_, rfl⟩
        obtain ⟨N, hN⟩ : ∃ N, (ps[q]).2.length = N := ⟨_, rfl⟩
        obtain ⟨Sq, hSq⟩ : ∃ S, seenN P v (ps[q]).2 = S := ⟨_, rfl⟩
        rw [hkd] at s0 hx
        have hl1 := (List.getElem?_eq_some_iff.1 hx).1
        have s1 := rope_node H4.out HVN.out hx (t := 2) rfl
        rw [hgx.size, hN] at s1
        have hsub : ∀ e ∈ (ps[q]).2, e ∈ es := fun e he => by
          rw [HE.out.1]
          have : e ∈ partsE ps := by unfold partsE; exact List.mem_flatMap.2 ⟨ps[q], List.getElem_mem hlt, he⟩
          simp [this]
        have htk := partsE_take ps q hlt
        have hle : (pre ++ partsE (ps.take (q + 1))).length ≤ 1048576 := by
          have h1 := partsE_take_le ps (q + 1)
          have h2 := HEL.out
          rw [HE.out.1] at h2
          simp only [List.length_append] at h2 ⊢
          omega
        have hN2 : p2 + N ≤ 1048576 := by
          have := HC.out.1
          rw [htk] at hle
          simp only [List.length_append] at this hle
          omega
        have HSEEN := Lib.hid (fun (RR : Ending → World → Prop) => seen_node (R := RR) (P := P) H4.out HVN.out hx hgx (fun e he => HLB.out e (hsub e he)) (by omega) hvl HO.out.sees HO.out.slen)
        have hdr : (partsE (ps.drop q)) = (ps[q]).2 ++ partsE (ps.drop (q + 1)) := by rw [List.drop_eq_getElem_cons hlt]; rfl
        have HKD := Lib.hid (And.intro hkd (And.intro hN (And.intro hSq (And.intro hdr htk))))
        have HGG := Lib.hid hgg
        have b5 : (kd : Int) < (r.ms.length : Int) := by omega
        have b6 : (0 : Int) ≤ (kd : Int) := by omega
        have hS2 := seenN_le P v (ps[q]).2
        rw [hSq, hN] at hS2
        clear hkd hN hdr htk hgg hx hgx hsub hle
        go_wp2_with (go_at_call 57; refine HSEEN.out _ ?_)
        · have hlt2 : a2 < Sq := by omega
          go_roundg h'
          case measure => omega
          case rel =>
            obtain ⟨h1, h2, h3, h4, h5⟩ := HKD.out
            obtain ⟨F2, hF2⟩ := HX.out q hlt
            rw [h1] at hF2
            refine ⟨rfl, kd, p2, a2, pre ++ partsE (ps.take q), (ps[q]).2, partsE (ps.drop (q + 1)) ++ post, F2, rfl, rfl, rfl, hl1, hp2, ha2, Lib.hid hF2, Lib.hid ⟨?_, HC.out.1, ?_, by rw [h3]; exact hlt2⟩⟩
            · have h6 : partsE ps = partsE (ps.take q) ++ partsE (ps.drop q) := by rw [← partsE_app, List.take_append_drop]
              rw [HE.out.1, h6, h4]; simp
            · rw [seenN_app]; have := HE.out.2.2.1; have := HC.out.2.1; omega
        · have hge : Sq ≤ a2 := by omega
          go_roundg (ps.length - (q + 1))
          case measure => have := HGG.out; omega
          case rel =>
            obtain ⟨h1, h2, h3, h4, h5⟩ := HKD.out
            have h6 := HC.out.2.2
            rw [h4, seenN_app, h3] at h6
            have h7 : q + 1 < ps.length := by
              rcases Nat.lt_or_ge (q + 1) ps.length with h8 | h8
              · exact h8
              · rw [List.drop_eq_nil_iff.2 h8] at h6
                simp [partsE, seenN] at h6
                omega
            refine ⟨rfl, q + 1, p2 + N, a2 - Sq, h7, rfl, by go_num, ?_, by go_num, hN2, by omega, Lib.hid ⟨?_, ?_, by omega⟩⟩
            · rw [Int.ofNat_sub hge]
            · rw [h5]; have := HC.out.1; simp only [List.length_append] at this ⊢; omega
            · rw [h5, seenN_app, h3]; have := HC.out.2.1; omega
    | zero =>
      obtain ⟨m, ha1, hk, hm, hg⟩ := tree_leaf HA'.out
      subst hm
      have hj := ha1.at_
      obtain ⟨⟨Ae, ce, hve, -⟩, Ak, ck, hvk, -, -, hAk⟩ := rope_heads H4.out hj
      obtain rfl : Ak = none := hAk.2 hk
      have n1 := rope_node H4.out HVN.out hj (t := 1) rfl
      rw [hvk] at n1
      have n0 := rope_node H4.out HVN.out hj (t := 0) rfl
      rw [hve, Nat.add_zero] at n0
      have hapos : 0 < m.elems.length := by have := seenN_le P v m.elems; have := HE.out.2.2.2; omega
      obtain ⟨be, oe, rfl, -⟩ := rope_elems H4.out hj hve hapos
      have HJ := Lib.hid hj
      have HVE := Lib.hid hve
      obtain ⟨NE, hNE⟩ : ∃ N, m.elems.length = N := ⟨_, rfl⟩
      rw [hNE] at n0 hapos
      have hne2 : p + NE ≤ 1048576 := by have h1 := HEL.out; rw [HE.out.1] at h1; simp only [List.length_append] at h1; have := HE.out.2.1; omega
      have HNE := Lib.hid hNE
      clear ha1 hk hg hj hve hvk hAk hNE
      go_wp2_with (go_at_call 58; refine leaf_any n1 ?_)
      go_loopw [2, 8, 93] (fun s2 s8 s93 wr => ∃ q p2 a2 : Nat, q < NE ∧ s93 = .int .i64 q ∧ s2 = .int .i64 a2 ∧ s8 = .int .i64 p2 ∧ p2 = p + q ∧ a2 < 1048576 ∧ Hid (seenN P v (m.elems.take q) + a2 = a ∧ a2 < seenN P v (m.elems.drop q)) ∧ Hid (St k wr (ropeA g r :: L))) (fun _ _ s93 _ => NE - (intOf s93).toNat)
      case atStart => exact ⟨0, p, a, hapos, rfl, rfl, rfl, rfl, ha, Lib.hid (by simpa [seenN] using HE.out.2.2.2), H4⟩
      case round =>
        obtain ⟨q, p2, a2, hlt, rfl, rfl, rfl, hpq, ha2, HC, HS⟩ := hrel
        obtain ⟨e, he⟩ : ∃ e, m.elems[q]? = some e := ⟨_, List.getElem?_eq_getElem (by rw [HNE.out]; exact hlt)⟩
        obtain ⟨b', o', heq, hcell⟩ := rope_elems HS.out HJ.out HVE.out (by rw [HNE.out]; omega)
        injection heq with heq
        injection heq with hb' ho'
        subst hb' ho'
        have t0 := hcell q e 0 _ he rfl
        have t1 := hcell q e 1 _ he rfl
        have t2 := hcell q e 2 _ he rfl
        rw [Nat.add_zero] at t0
        have hem : e ∈ es := by rw [HE.out.1]; have := List.mem_of_getElem? he; simp [this]
        obtain ⟨lb0, lb1⟩ := HLB.out e hem
        obtain ⟨y, hy⟩ : ∃ y, P.see v e.label = y := ⟨_, rfl⟩
        have hdec : m.elems.drop q = e :: m.elems.drop (q + 1) := by
          rw [List.drop_eq_getElem_cons (by rw [HNE.out]; exact hlt)]
          congr 1
          rw [List.getElem?_eq_getElem (by rw [HNE.out]; exact hlt)] at he
          exact Option.some.inj he
        have htk : m.elems.take (q + 1) = m.elems.take q ++ [e] := by
          rw [List.take_add_one, he]; rfl
        have HSA := Lib.hid (HS.out.alloc (elO e))
        have HD := Lib.hid (And.intro hdec (And.intro htk hy))
        have hqn : q < m.elems.length := by rw [HNE.out]; exact hlt
        have HQN := Lib.hid hqn
        clear hcell he hem hdec htk hqn
        go_wp2
        refine gen_world HSA.out fun w3 h5 => ?_
        have u2 : w3.cell? ⟨wr.heap.size, 2, none⟩ = some (.int .i64 e.label) := blk_cell h5.lies 2
        have hse := rope_sees (j := v * 32 + e.label.toNat) h5.swap (b := y) (by
          rw [HO.out.sees, ← hy]
          unfold Pol.see
          rw [List.getD_eq_getElem?_getD, List.getElem?_eq_getElem (by rw [HO.out.slen]; omega)]; rfl)
        rw [← Nat.add_assoc] at hse
        have H5 := Lib.hid h5.drop
        have hv32 : (v : Int) < 32 := by omega
        clear h5 hy
        cases y
        · go_quiet (fail)
          go_wp2
          go_roundw
          case rel =>
            obtain ⟨h1, h2, h3⟩ := HD.out
            have h6 := HC.out.2
            rw [h1, seenN_cons, h3] at h6
            simp only [Bool.false_eq_true, if_false, Nat.zero_add] at h6
            have h7 : q + 1 < NE := by
              rcases Nat.lt_or_ge (q + 1) NE with h8 | h8
              · exact h8
              · rw [List.drop_eq_nil_iff.2 (by rw [HNE.out]; exact h8)] at h6
                simp [seenN] at h6
            refine ⟨q + 1, p2 + 1, a2, h7, by go_num, rfl, by go_num, by omega, ha2, Lib.hid ⟨?_, h6⟩, Lib.hid (H5.out.drewN _)⟩
            rw [h2, seenN_app, seenN_cons, h3]
            simp [seenN]
            have := HC.out.1
            unfold seenN at this
            omega
          case measure => simp [intOf]; omega
        · by_cases ha0 : a2 = 0
          · subst ha0
            go_quiet (fail)
            go_wp2
            obtain ⟨h1, h2, h3⟩ := HD.out
            have hsp : m.elems = m.elems.take q ++ e :: m.elems.drop (q + 1) := by rw [← h1, List.take_append_drop]
            have hx := HQ.out (p + q) _ (Rope.mk (H5.out.drewN nq) HO.out) ⟨pre ++ m.elems.take q, e, m.elems.drop (q + 1) ++ post, by
              rw [HE.out.1]; conv => lhs; rw [hsp]
              simp, h3, by rw [seenN_app]; have := HE.out.2.2.1; have := HC.out.1; omega, by rw [List.length_append, List.length_take, HE.out.2.1, Nat.min_eq_left (Nat.le_of_lt HQN.out)]⟩
            rw [Int.natCast_add] at hx
            exact hx
          · have ha1 : ¬ ((a2 : Int) = 0) := by omega
            go_quiet (fail)
            go_wp2
            go_roundw
            case rel =>
              obtain ⟨h1, h2, h3⟩ := HD.out
              have h6 := HC.out.2
              rw [h1, seenN_cons, h3] at h6
              simp only [if_true] at h6
              have h7 : q + 1 < NE := by
                rcases Nat.lt_or_ge (q + 1) NE with h8 | h8
                · exact h8
                · rw [List.drop_eq_nil_iff.2 (by rw [HNE.out]; exact h8)] at h6
                  simp [seenN] at h6
                  omega
              refine ⟨q + 1, p2 + 1, a2 - 1, h7, by go_num, ?_, by go_num, by omega, by omega, Lib.hid ⟨?_, by omega⟩, Lib.hid (H5.out.drewN _)⟩
              · rw [Int.ofNat_sub (by omega)]; rfl
              · rw [h2, seenN_app, seenN_cons, h3]
                simp only [if_true]
                have h9 : seenN P v [] = 0 := rfl
                have := HC.out.1
                omega
            case measure => simp [intOf]; omega
end
end Go.Proofs.Ytdgaffcfcgmfnaa
