/- Insert, whatever is asked. -/
import Derived.Test.YtdgaffcfcgmfnaaS7
namespace Go.Proofs.Ytdgaffcfcgmfnaa
open Go.RowKit Go.Sl

attribute [local go_sem ↓ high] load107 store107 load105 store105 slice82
theorem badE_one {P : Pol} {l : List El} {q : Nat} {e : El} (he : l[q]? = some e) (h0 : badE P (l.take q) = 0) : badE P l = badE P (e :: l.drop (q + 1)) := by
  obtain ⟨hlt, rfl⟩ := List.getElem?_eq_some_iff.1 he
  conv => lhs; rw [← List.take_append_drop q l, badE_app P _ _ h0, List.drop_eq_getElem_cons hlt]
theorem badE_next {P : Pol} {l : List El} {q : Nat} {e : El} (he : l[q]? = some e) (h0 : badE P (l.take q) = 0) (h1 : P.has e.label = true) (h2 : runeOk e.rune = true) : badE P (l.take (q + 1)) = 0 := by
  obtain ⟨hlt, rfl⟩ := List.getElem?_eq_some_iff.1 he
  rw [List.take_succ_eq_append_getElem hlt, badE_app P _ _ h0]
  simp [badE, h1, h2]
section
variable {k w : World} {L : List Asn} {F : List (Asg MN)} {g c : Nat} {P : Pol} {es l : List El} {r : RM} {R : Ending → World → Prop} {X : Asn}
theorem rope_knot2 (j q : Nat) : partsK [(j, ([] : List El)), (q, [])] = [j, q] := rfl
theorem St.rowSI {b : Nat} {ks : List Nat} (h : St k w (pt b (.cells (intsC ks).toArray 3 (0, 0)) :: L)) (hm : ks.length ≤ maxLen) : St k w (rowS 1 (.slice (some ⟨b, 0, none⟩) ks.length ks.length) ks.length (intsC ks) :: L) :=
  (h.shutA (n := ks.length) (cap := ks.length) (sz := 1) (cs := intsC ks) (Nat.le_refl _) hm (by simp [intsC]) (by rw [List.take_of_length_le (by simp [intsC])])).freezeA
theorem Ok.put {r' : RM} {es' : List El} (ho : Ok r P es c) (h1 : r'.labels = r.labels) (h2 : r'.sees = r.sees) (har : ∃ h, h ≤ c + 1 ∧ Ar r'.ms r'.free [Tree h r'.root es']) (hf : r'.ms.length ≤ r.ms.length + (c + 2)) (hfit : Fit P es') (hl : es'.length ≤ 1048576) : Ok r' P es' (c + 1) := by
  refine ⟨har, ?_, hfit, h1.trans ho.labels, ho.l32, h2.trans ho.sees, ho.slen, hl⟩
  have := ho.few
  simp only [Nat.add_mul, Nat.mul_add] at this ⊢
  omega
theorem knot_two {ms : List MN} {free : List Nat} {h j a b : Nat} {m : MN} {e1 e2 : List El} (ha : Ar ms free (nd j m :: Tree h a e1 :: Tree h b e2 :: F)) : Ar ms free (nd j m :: Trees h [(a, e1), (b, e2)] :: F) := by
  have h1 := (trees_nil (h := h)).2 ((trees_nil (h := h)).2 ha)
  exact (trees_shut2 (a := []) (b := []) (q := (a, e1)) (p := (b, e2)) ((h1.pull 4).pull 4)).swap
set_option maxRecDepth 100000 in
set_option maxHeartbeats 4000000 in
theorem insert_main {i : Nat} {A : Option Addr} {n cp : Nat} (h : St k w (Rope g P es c :: X :: L)) (hX : RowLike 3 (.slice A n cp) n (elsC l) X) (hn : n = l.length) (hi : i ≤ es.length) (hlen : es.length + l.length ≤ 1048576) (hc : badE P l = 0 → c + l.length ≤ 90000)
    (hR : ∀ w', St k w' (Rope g P (if badE P l = 0 then es.take i ++ l ++ es.drop i else es) (if badE P l = 0 then c + l.length else c) :: X :: L) → R (.returned (.int .i64 (badE P l))) w') :
    Calls Try.prog 33 #[.pointer (some ⟨g, 0, none⟩), .int .i64 i, .slice A n cp] w R := by
  subst hn
  obtain ⟨r, h1, ho⟩ := Rope.out h
  have d0 := rope_dead h1 ho
  have b0 : (es.length : Int) ≤ 1048576 := by omega
  have b1 : (i : Int) ≤ (es.length : Int) := by omega
  have b2 : (l.length : Int) ≤ 1048576 - (es.length : Int) := by omega
  have b3 : (0 : Int) ≤ (i : Int) := by omega
  have g1 : decide ((i : Int) < 0) = false := by simp
  have g2 : decide (es.length < i) = false := by simp; omega
  have g3 : decide (1048576 - (es.length : Int) < (l.length : Int)) = false := by simp; omega
  have H := Lib.hid h
  have HR := Lib.hid hR
  have HX := Lib.hid hX
  have HC := Lib.hid hc
  clear h hR h1 ho hi hlen hX hc
  go_enter Try.func33, Try.ntmps33
  go_wp2_with (go_at_call 55; refine dead_any d0 ?_)
  refine len_any H.out fun w1 h2 => ?_
  have H2 := Lib.hid h2
  clear h2
  go_wp2_with fail
  refine len_any H2.out fun w2 h3 => ?_
  have H3 := Lib.hid h3
  clear h3
  go_wp2_with fail
  go_loopw [32] (fun j wr => ∃ q : Nat, q ≤ l.length ∧ j = .int .i64 q ∧ Hid (badE P (l.take q) = 0 ∧ St k wr (Rope g P es c :: X :: L))) (fun j _ => l.length - (intOf j).toNat)
  case atStart => exact ⟨0, by omega, rfl, Lib.hid ⟨rfl, H3.out⟩⟩
  case round =>
    obtain ⟨q, hq, rfl, HS⟩ := hrel
    by_cases hlt : q < l.length
    · obtain ⟨e, he⟩ : ∃ e, l[q]? = some e := ⟨_, List.getElem?_eq_getElem hlt⟩
      obtain ⟨r, h1, ho⟩ := Rope.out HS.out.2
      have hx := HX.out _ _ _ HS.out.2.swap
      obtain ⟨be, oe, rfl, hcell⟩ := reads_el hx rfl (by omega)
      have e0 := hcell q e 0 _ he rfl
      have e1 := hcell q e 1 _ he rfl
      have e2 := hcell q e 2 _ he rfl
      rw [Nat.add_zero] at e0
      have hsa := HS.out.2.alloc (.cells #[.int .i64 e.id, .int .i32 e.rune, .int .i64 e.label] 39)
      have HE := Lib.hid he
      clear he hx hcell ho h1
      have h5 := hsa.drop
      obtain ⟨r, h6, ho⟩ := Rope.out h5
      have c3 := rope_3 h6
      have HL := Lib.hid (ho.label e.label)
      have H5 := Lib.hid h5
      clear hsa h5 h6 ho
      have HONE := Lib.hid (badE_one HE.out HS.out.1)
      cases hb : P.has e.label
      · have HB := Lib.hid hb
        have hbe : badE P l = 10 := by rw [HONE.out, badE, if_neg (by rw [HB.out]; simp)]
        have hRR := HR.out _ (by rw [hbe, if_neg (by decide), if_neg (by decide)]; exact H5.out)
        rw [hbe] at hRR
        have HRR := Lib.hid hRR
        clear hbe hb hRR
        go_wp2_with (go_at_call 56; refine label_any c3 (HB.out.symm.trans HL.out) ?_)
        exact HRR.out
      · have HB := Lib.hid hb
        cases hv : runeOk e.rune
        · have hbe : badE P l = 21 := by rw [HONE.out, badE, if_pos HB.out, if_neg (by rw [hv]; simp)]
          have hRR := HR.out _ (by rw [hbe, if_neg (by decide), if_neg (by decide)]; exact H5.out)
          rw [hbe] at hRR
          have HRR := Lib.hid hRR
          have HV := Lib.hid hv
          clear hbe hb hRR hv
          go_wp2_with (first | (go_at_call 56; refine label_any c3 (HB.out.symm.trans HL.out) ?_) | (go_at_call 67; refine valid_any ?_; rw [HV.out]))
          exact HRR.out
        · have HV := Lib.hid hv
          have HNX := Lib.hid (badE_next HE.out HS.out.1 hb hv)
          clear hb hv
          go_wp2_with (first | (go_at_call 56; refine label_any c3 (HB.out.symm.trans HL.out) ?_) | (go_at_call 67; refine valid_any ?_; rw [HV.out]))
          go_roundw
          case rel => exact ⟨q + 1, by omega, by go_num, Lib.hid ⟨HNX.out, H5.out⟩⟩
          case measure => simp [intOf]; omega
    · obtain rfl : q = l.length := by omega
      have hb0 := HS.out.1
      rw [List.take_of_length_le (Nat.le_refl _)] at hb0
      have hcl := HC.out hb0
      have H4 := Lib.hid HS.out.2
      have HF := Lib.hid (fit_of hb0)
      have hRR := HR.out
      rw [hb0, if_pos rfl, if_pos rfl] at hRR
      have HRR := Lib.hid hRR
      clear HS HR HC hb0 H3 hRR
      go_wp2_with fail
      go_loopw [48] (fun j wr => ∃ q : Nat, q ≤ l.length ∧ j = .int .i64 q ∧ Hid (St k wr (Rope g P (es.take i ++ l.take q ++ es.drop i) (c + q) :: X :: L))) (fun j _ => l.length - (intOf j).toNat)
      case atStart => exact ⟨0, by omega, rfl, Lib.hid (by simpa using H4.out)⟩
      case round =>
        obtain ⟨q, hq, rfl, HS⟩ := hrel
        by_cases hlt : q < l.length
        · obtain ⟨e, he⟩ : ∃ e, l[q]? = some e := ⟨_, List.getElem?_eq_getElem hlt⟩
          obtain ⟨r1, h1, ho⟩ := Rope.out HS.out
          have hx := HX.out _ _ _ HS.out.swap
          obtain ⟨be, oe, rfl, hcell⟩ := reads_el hx rfl (by omega)
          have e0 := hcell q e 0 _ he rfl
          have e1 := hcell q e 1 _ he rfl
          have e2 := hcell q e 2 _ he rfl
          rw [Nat.add_zero] at e0
          have hsa := h1.alloc (elO e)
          have HSA := Lib.hid hsa
          have HO := Lib.hid ho
          have HE := Lib.hid he
          have b4 : (i : Int) + q ≤ 10000000 := by omega
          have b5 : (0 : Int) ≤ (i : Int) + q := by omega
          clear he hx hcell hsa ho h1 HS
          go_upto_region 0 with (fail)
          refine gen_world HSA.out fun w4 h4 => ?_
          have c2 := rope_2 h4.swap
          have d0 : w4.cell? ⟨wr.heap.size, 0, none⟩ = some (.int .i64 e.id) := blk_cell h4.lies 0
          have d1 : w4.cell? ⟨wr.heap.size, 1, none⟩ = some (.int .i32 e.rune) := blk_cell h4.lies 1
          have d2 : w4.cell? ⟨wr.heap.size, 2, none⟩ = some (.int .i64 e.label) := blk_cell h4.lies 2
          have H4 := Lib.hid h4.swap.drew
          clear h4
          go_still_tail 9, (by kernel_rfl)
          have hmid : i + q ≤ (es.take i ++ l.take q ++ es.drop i).length ∧ (es.take i ++ l.take q ++ es.drop i).length = es.length + q := by
            simp only [List.length_append, List.length_take, List.length_drop]; omega
          have hins : insAt (es.take i ++ l.take q ++ es.drop i) (i + q) e = es.take i ++ l.take (q + 1) ++ es.drop i := by
            obtain ⟨hlt2, hee⟩ := List.getElem?_eq_some_iff.1 HE.out
            rw [ins_mid _ _ _ e _ (by simp only [List.length_take]; omega), List.take_succ_eq_append_getElem hlt2, hee]
          have hfitE := HF.out
          have helab := hfitE.lab e (List.mem_of_getElem? HE.out)
          have hfit2 : Fit P (es.take i ++ l.take (q + 1) ++ es.drop i) := by
            have h5 := Fit.app.1 HO.out.fit
            have h6 := Fit.app.1 h5.1
            exact Fit.app.2 ⟨Fit.app.2 ⟨h6.1, hfitE.take _⟩, h5.2⟩
          have hl2 : (es.take i ++ l.take (q + 1) ++ es.drop i).length ≤ 1048576 := by rw [← hins, insAt_len]; omega
          obtain ⟨hh, hhc, hA⟩ := HO.out.ar
          have hfew := HO.out.few
          have hms : r1.ms.length + hh ≤ 10000000000 - 100000 := by
            have h9 : (c + q + 2) * (c + q + 2) ≤ 90002 * 90002 := Nat.mul_le_mul (by omega) (by omega)
            omega
          have HA := Lib.hid hA
          have HB := Lib.hid (And.intro hmid (And.intro hins (And.intro hfit2 (And.intro hl2 (And.intro hhc hms)))))
          have HLB := Lib.hid (show 0 ≤ e.label ∧ e.label < 32 by have := HO.out.l32; omega)
          clear hmid hins hfitE helab hfit2 hl2 hA hfew hhc hms
          go_wp2_with fail
          refine put_all hh H4.out rfl (iI := (i : Int) + q) (i := i + q) (by omega) HA.out HB.out.1.1 HO.out.labs HLB.out (by have := HB.out.1.2; omega) (by have := HB.out.2.2.2.2.2; omega) ?_
          intro r2 w5 next h5 hm5 hl5 hcase
          rw [HB.out.2.1] at hcase
          have H5 := Lib.hid h5
          have HM5 := Lib.hid (And.intro hm5 hl5)
          clear h5 hm5 hl5
          rcases hcase with ⟨rfl, ha5⟩ | ⟨qn, es1, es2, rfl, heq, ha5⟩
          · have HA5 := Lib.hid ha5
            clear ha5
            go_wp2_with fail
            go_roundw
            case rel => 
              refine ⟨q + 1, by omega, by go_num, Lib.hid (Rope.mk (r := r2) (H5.out.swap.drop) (HO.out.put HM5.out.1.labels HM5.out.1.sees ⟨hh, by have := HB.out.2.2.2.2.1; omega, ?_⟩ (by have := HM5.out.2; have := HB.out.2.2.2.2.1; omega) HB.out.2.2.1 HB.out.2.2.2.1))⟩
              rw [HM5.out.1.root]; exact HA5.out
            case measure => simp [intOf]; omega
          · have HA5 := Lib.hid ha5
            have HEQ := Lib.hid heq
            have g2 := rope_2 H5.out
            have n8 : ((qn : Int) == -1) = false := by simp
            have n9 : ((qn : Int) != -1) = true := by simp
            rw [HM5.out.1.root] at g2
            have h6 := H5.out.drew.alloc (.cells #[.int .i64 (r1.root : Nat), .int .i64 (qn : Nat)] 3)
            have h7 : St k _ (rowS 1 (.slice (some ⟨_, 0, none⟩) 2 2) 2 (intsC [r1.root, qn]) :: _) := St.rowSI (ks := [r1.root, qn]) h6 (show 2 ≤ maxLen by decide)
            have hz := nodeS_nil (nodeS_rowK h7 rfl) MN.zero rfl rfl rfl rfl
            have hnew := nodeS_vk hz.swap (by simp)
            have HNEW := Lib.hid hnew
            clear ha5 heq h6 h7 hz hnew
            go_wp2_with fail
            go_region_with ((refine take_k HNEW.out ⟨_, _, _, rfl⟩ HA5.out (by have := HB.out.2.2.2.2.2; have := HM5.out.2; omega) ?_
                             intro r3 j w6 h6 ha6 hm6 hl6
                             have k2 := rope_2 h6
                             have k2f := rope_f h6 2
                             have k2l := World.block_lt_of_cell? _ _ k2
                             have hset := rope_root j h6
                             have HSET := Lib.hid hset
                             have HA6 := Lib.hid ha6
                             have HM6 := Lib.hid (And.intro hm6 hl6)
                             clear h6 ha6 hm6 hl6 hset))
            go_upto_region 19 with fail
            refine gen_world HSET.out fun w7 h7 => ?_
            have q2 := rope_2 h7
            have H7 := Lib.hid h7.drew
            clear h7
            go_still_tail 7, (by kernel_rfl)
            have ha7 := knot_two HA6.out
            have hj7 := ha7.at_
            have hab : (es1 ++ es2).length ≤ 1048576 := by rw [HEQ.out]; exact HB.out.2.2.2.1
            have HA7 := Lib.hid ha7
            have HJ7 := Lib.hid hj7
            have HAB := Lib.hid hab
            clear ha7 hj7 hab
            go_wp2_with fail
            refine count_any (ps := [(r1.root, es1), (qn, es2)]) H7.out rfl HJ7.out rfl (fun t ht => ?_) (fun e he => by cases he) ?_ (by simp) ?_
            · obtain ⟨x, x1, x2, x3, -⟩ := kid_node HA7.out t ht
              exact ⟨x, x1, x2, x3⟩
            · have := HAB.out
              simp only [List.length_append] at this
              simp [partsE, MN.zero]; omega
            intro f w8 h8 hf
            have ep : partsE [(r1.root, es1), (qn, es2)] = es1 ++ es2 := by simp [partsE]
            have H8 := Lib.hid h8
            have HF8 := Lib.hid hf
            have HEP := Lib.hid ep
            clear h8 hf ep
            go_wp2_with fail
            go_roundw
            case rel =>
              refine ⟨q + 1, by omega, by go_num, Lib.hid (Rope.mk (H8.out.swap.drop) (HO.out.put (HM6.out.1.labels.trans HM5.out.1.labels) (HM6.out.1.sees.trans HM5.out.1.sees) ⟨hh + 1, by have := HB.out.2.2.2.2.1; omega, ?_⟩ ?_ HB.out.2.2.1 HB.out.2.2.2.1))⟩
              · have ha8 := HA7.out.set { MN.zero with vk := .slice (some ⟨w5.heap.size, 0, none⟩) 2 2, kids := [r1.root, qn], size := ((partsE [(r1.root, es1), (qn, es2)]).length : Nat), of := f }
                have ha9 := knot_tree (es := es.take i ++ l.take (q + 1) ++ es.drop i) ha8 rfl (by simp) rfl (by rw [HEP.out, HEQ.out]) ⟨by rw [← HEQ.out, ← HEP.out], fun t ht => by rw [← HEQ.out, ← HEP.out]; exact HF8.out t ht, by simp⟩
                exact ha9
              · show (r3.ms.set j _).length ≤ _
                rw [List.length_set]
                have := HM5.out.2; have := HM6.out.2; have := HB.out.2.2.2.2.1
                omega
            case measure => simp [intOf]; omega
        · obtain rfl : q = l.length := by omega
          have h5 := HS.out
          rw [List.take_of_length_le (Nat.le_refl _)] at h5
          have HXX := Lib.hid (HRR.out _ h5)
          clear h5
          go_wp2
          exact HXX.out
theorem insert_any {i : Int} {A : Option Addr} {n cp : Nat} (h : St k w (Rope g P es c :: X :: L)) (hX : RowLike 3 (.slice A n cp) n (elsC l) X) (hn : n = l.length) (hnm : n ≤ maxLen) (hi : -9223372036854775808 ≤ i ∧ i ≤ 9223372036854775807) (hc : (insertP P es i l).1 = 0 → c + l.length ≤ 90000)
    (hR : ∀ w', St k w' (Rope g P (insertP P es i l).2 (if (insertP P es i l).1 = 0 then c + l.length else c) :: X :: L) → R (.returned (.int .i64 (insertP P es i l).1)) w') :
    Calls Try.prog 33 #[.pointer (some ⟨g, 0, none⟩), .int .i64 i, .slice A n cp] w R := by
  by_cases hb : i < 0 ∨ (es.length : Int) < i ∨ 1048576 - (es.length : Int) < (l.length : Int)
  · have e : insertP P es i l = (1, es) := by rw [insertP, if_pos hb]
    rw [e] at hR
    exact insert_bad h hi hn hnm hb fun w' h' => hR w' (by simpa using h')
  · have hi2 : ∃ j : Nat, i = j := ⟨i.toNat, by omega⟩
    obtain ⟨j, rfl⟩ := hi2
    have e : insertP P es j l = if badE P l = 0 then (0, es.take j ++ l ++ es.drop j) else (badE P l, es) := by rw [insertP, if_neg hb, Int.toNat_natCast]
    rw [e] at hR hc
    refine insert_main h hX hn (by omega) (by omega) (fun h0 => hc (by rw [if_pos h0])) fun w' h' => ?_
    have h2 := hR w'
    by_cases h0 : badE P l = 0
    · rw [if_pos h0, if_pos rfl] at h2
      rw [if_pos h0, if_pos h0] at h'
      rw [h0]; exact h2 h'
    · rw [if_neg h0, if_neg h0] at h2
      rw [if_neg h0, if_neg h0] at h'
      exact h2 h'
end
end Go.Proofs.Ytdgaffcfcgmfnaa
