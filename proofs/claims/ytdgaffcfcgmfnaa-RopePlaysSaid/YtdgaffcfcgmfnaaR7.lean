/- split of a knot. -/
import Derived.Test.YtdgaffcfcgmfnaaR6
namespace Go.Proofs.Ytdgaffcfcgmfnaa
open Go.RowKit Go.Sl

attribute [local go_sem ↓ high] load107 store107 load105 store105 slice82
section
variable {k w : World} {L : List Asn} {F : List (Asg MN)} {g : Nat} {r : RM} {R : Ending → World → Prop}
set_option maxRecDepth 100000 in
set_option maxHeartbeats 2000000 in
theorem split_knot {j h : Nat} {jI : Int} {m : MN} {ps : List Part} (hs : St k w (ropeA g r :: L)) (hjI : jI = (j : Int)) (ha : Ar r.ms r.free (nd j m :: Trees h ps :: F)) (hk : m.kids = partsK ps) (hme : m.elems = []) (hne : ps ≠ []) (hsz : m.size = (partsE ps).length) (hof : ∀ l, l < 32 → m.of l = cnt (partsE ps) l) (hp9 : ps.length ≤ 9)
    (hlen : (partsE ps).length ≤ 10000000) (hN : r.ms.length ≤ 10000000000)
    (hR : ∀ r' w' (next : Int), St k w' (ropeA g r' :: L) → Meta r r' → r'.ms.length ≤ r.ms.length + 1 →
      (next = -1 ∧ Ar r'.ms r'.free (Tree (h + 1) j (partsE ps) :: F) ∨ ∃ (q : Nat) (e1 e2 : List El), next = q ∧ e1 ++ e2 = partsE ps ∧ Ar r'.ms r'.free (Tree (h + 1) j e1 :: Tree (h + 1) q e2 :: F)) → R (.returned (.int .i64 next)) w') :
    Calls Try.prog 84 #[.pointer (some ⟨g, 0, none⟩), .int .i64 jI] w R := by
  subst hjI
  have hj := ha.at_
  have hjl := ha.ltlen
  obtain ⟨bn, cap, hv, -, -, -⟩ := rope_nodes hs hjl
  have c0 := rope_0 hs
  rw [hv] at c0
  obtain ⟨⟨Ae, ce, hve, -, -⟩, Ak, ck, hvk, hk1, hk2, hAk⟩ := rope_heads hs hj
  have hpl : 0 < ps.length := List.length_pos_iff.2 hne
  have ekl : m.kids.length = ps.length := by rw [hk]; simp [partsK]
  obtain ⟨bk, ok, rfl, -⟩ := rope_kids hs hj hvk (by omega)
  have n1 := rope_node hs hv hj (t := 1) rfl
  rw [hvk, ekl] at n1
  have b1 : (j : Int) < (r.ms.length : Int) := by omega
  have b2 : (0 : Int) ≤ (j : Int) := by omega
  by_cases h8 : ps.length ≤ 8
  · have b3 : (ps.length : Int) ≤ 8 := by omega
    have HR := Lib.hid (hR r w (-1) hs (Meta.refl r) (by omega) (.inl ⟨rfl, knot_tree ha hme hne hk rfl ⟨hsz, hof, by omega⟩⟩))
    clear hs ha hk hme hne hsz hof hp9 hlen hN hR hj hjl hve hvk hAk hv hk1 hk2 ekl h8
    go_enter Try.func84, Try.ntmps84
    go_wp2_with (go_at_call 58; refine leaf_any n1 ?_)
    exact HR.out
  · have b3 : (8 : Int) < (ps.length : Int) := by omega
    obtain ⟨N, hNl⟩ : ∃ N, ps.length = N := ⟨_, rfl⟩
    obtain ⟨H, hH⟩ : ∃ H, H = N / 2 := ⟨_, rfl⟩
    have hE := rope_readK hs hj
    rw [hvk, ekl, hNl] at hE
    rw [hNl] at n1 b3 hp9
    rw [ekl, hNl] at hk1
    have hd1 := (hE.drop (i := H) (by omega))
    have ht1 := (hE.take (i := H) (by omega))
    rw [intsC_drop, Nat.mul_one] at hd1
    rw [intsC_take] at ht1
    have h1b : (N - H) * 8 ≤ 140737488355328 := by omega
    have h2b : H * 8 ≤ 140737488355328 := by omega
    have HS := Lib.hid hs
    have HA := Lib.hid ha
    have HK := Lib.hid hk
    have HME := Lib.hid hme
    have HLEN := Lib.hid hlen
    have HN := Lib.hid hN
    have HQ := Lib.hid hR
    have HJ := Lib.hid hj
    have HV := Lib.hid hv
    have HVK := Lib.hid hvk
    have HEK := Lib.hid ekl
    have HNL := Lib.hid hNl
    have HH := Lib.hid hH
    have HD := Lib.hid (And.intro hd1 (And.intro ht1 (And.intro h1b h2b)))
    have b5 : (N : Int) / 2 = (H : Int) := by omega
    have b6 : H ≤ N := by omega
    have b7 : ¬ (ck = H) := by omega
    have b8 : H ≤ ck := by omega
    have b9 : (N : Int) ≤ 9 := by omega
    have b10 : (0 : Int) < (H : Int) := by omega
    clear hs ha hk hme hne hsz hof hp9 hlen hN hR hj hjl hvk hAk hv hve hk2 hE hd1 ht1 hNl hH h1b h2b hk1 ekl h8
    go_enter Try.func84, Try.ntmps84
    go_wp2_with (go_at_call 58; refine leaf_any n1 ?_)
    refine cloneI HS.out HD.out.1 (intsC_one _) HD.out.2.2.1 ?_
    intro v1 w1 h1 e1
    obtain ⟨A1, k1, rfl, -⟩ := h1.readsA.at_
    have m0 := rope_node h1.swap HV.out HJ.out (t := 1) rfl
    have hE1 := rope_readK h1.swap HJ.out
    rw [HVK.out, HEK.out, HNL.out] at m0
    rw [HVK.out, HEK.out, HNL.out] at hE1
    have ht1 := hE1.take (i := H) b6
    rw [intsC_take] at ht1
    have HT := Lib.hid ht1
    have HS1 := Lib.hid h1
    have HE1 := Lib.hid e1
    clear h1 hE1 ht1 e1
    go_wp2_with fail
    refine cloneI HS1.out HT.out (intsC_one _) HD.out.2.2.2 ?_
    intro v2 w2 h2 e2
    obtain ⟨A2, k2, rfl, -⟩ := h2.readsA.at_
    have m1 := rope_node (h2.pull 2) HV.out HJ.out (t := 1) rfl
    have m1f := rope_nodef (h2.pull 2) HV.out (j * 35 + 1)
    have m1l := World.block_lt_of_cell? _ _ m1
    have hlt : (m.kids.take H).length = H := by rw [List.length_take, HEK.out, HNL.out]; omega
    have hld : (m.kids.drop H).length = N - H := by rw [List.length_drop, HEK.out, HNL.out]
    have hb10 : 0 < H := by omega
    have hset := rope_setvk ((h2.pull 2).swap) hlt.symm (by
      rw [e2]
      constructor
      · intro e; cases e
      · intro e; rw [e] at hlt; simp at hlt; omega) HV.out HJ.out
    have HSET := Lib.hid hset
    have HLT := Lib.hid (And.intro hlt hld)
    clear h2 hset hlt hld e2 hb10
    go_wp2_with fail
    have hjl := (List.getElem?_eq_some_iff.1 HJ.out).1
    have ekt : m.kids.take H = partsK (ps.take H) := by rw [HK.out]; simp [partsK]
    have ekd : m.kids.drop H = partsK (ps.drop H) := by rw [HK.out]; simp [partsK]
    have ha0 : Ar (r.ms.set j { m with vk := .slice A2 H k2, kids := m.kids.take H }) r.free (nd j { m with vk := .slice A2 H k2, kids := m.kids.take H } :: Trees h (ps.take H) :: Trees h (ps.drop H) :: F) := by
      have h1 := (HA.out.set { m with vk := .slice A2 H k2, kids := m.kids.take H }).swap
      have h2 : Ar (r.ms.set j { m with vk := .slice A2 H k2, kids := m.kids.take H }) r.free (Trees h (ps.take H ++ ps.drop H) :: nd j { m with vk := .slice A2 H k2, kids := m.kids.take H } :: F) := by rw [List.take_append_drop]; exact h1
      exact (trees_app.1 h2).pull 2
    have hkt : (ps.take H).length ≤ 1000 := by rw [List.length_take]; omega
    have hpe : (partsE (ps.take H)).length ≤ (partsE ps).length := partsE_take_le ps H
    refine count_any (ps := ps.take H) HSET.out rfl (List.getElem?_set_self hjl) ekt (fun q hq => ?_) (fun e he => by rw [HME.out] at he; cases he) ?_ hkt ?_
    · obtain ⟨x, h1, h2, h3, -⟩ := kid_node ha0 q hq
      exact ⟨x, h1, h2, h3⟩
    · show (m.elems ++ _).length ≤ _
      rw [HME.out, List.nil_append]; have := HLEN.out; omega
    intro f w3 h3 hf
    simp only [List.set_set, HME.out, List.nil_append] at h3 hf
    have hf3 := h3.swap.freezeA
    have hz := nodeS_nil (nodeS_rowK hf3 HLT.out.2.symm) MN.zero rfl rfl rfl rfl
    have hnew := nodeS_vk hz.swap (by
      rw [HE1.out]
      constructor
      · intro e; cases e
      · intro e; have := HLT.out.2; rw [e] at this; simp at this; omega)
    have ha1 := ha0.set { m with vk := .slice A2 H k2, elems := [], kids := m.kids.take H, size := ((partsE (ps.take H)).length : Nat), of := f }
    simp only [List.set_set] at ha1
    obtain ⟨r1, hnew, ha1, hm1, hl1⟩ : ∃ r1 : RM, St k w3 (nodeS { MN.zero with vk := .slice A1 (N - H) k1, kids := m.kids.drop H } :: ropeA g r1 :: L) ∧ Ar r1.ms r1.free (nd j { m with vk := .slice A2 H k2, elems := [], kids := m.kids.take H, size := ((partsE (ps.take H)).length : Nat), of := f } :: Trees h (ps.take H) :: Trees h (ps.drop H) :: F) ∧ Meta r r1 ∧ r1.ms.length ≤ r.ms.length :=
      ⟨{ r with ms := r.ms.set j { m with vk := .slice A2 H k2, elems := [], kids := m.kids.take H, size := ((partsE (ps.take H)).length : Nat), of := f } }, hnew, ha1, ⟨rfl, rfl, rfl⟩, by simp⟩
    have HNEW := Lib.hid hnew
    have HA1 := Lib.hid ha1
    have HF := Lib.hid hf
    have HM1 := Lib.hid (And.intro hm1 hl1)
    have HEKT := Lib.hid (And.intro ekt ekd)
    clear h3 hf3 hz hnew ha1 hf hm1 hl1 ha0 ekt ekd hkt hpe hjl
    go_wp2_with fail
    refine take_k HNEW.out ⟨_, _, _, rfl⟩ HA1.out (by have := HN.out; have := HM1.out.2; omega) ?_
    intro r2 q w4 h4 ha4 hmeta hle
    replace hmeta := HM1.out.1.trans hmeta
    replace hle := Nat.le_trans hle (Nat.succ_le_succ HM1.out.2)
    have hq4 := ha4.at_
    have H4 := Lib.hid h4
    have HA4 := Lib.hid ha4
    have HM := Lib.hid (And.intro hmeta hle)
    have HQ4 := Lib.hid hq4
    clear h4 ha4 hmeta hle hq4
    go_wp2_with fail
    have ha5 : Ar r2.ms r2.free (nd q { MN.zero with vk := .slice A1 (N - H) k1, kids := m.kids.drop H } :: Trees h (ps.drop H) :: nd j { m with vk := .slice A2 H k2, elems := [], kids := m.kids.take H, size := ((partsE (ps.take H)).length : Nat), of := f } :: Trees h (ps.take H) :: F) := (HA4.out.pull 3).swap
    have hsum : (partsE (ps.take H)).length + (partsE (ps.drop H)).length = (partsE ps).length := by
      rw [← List.length_append]; unfold partsE; rw [← List.flatMap_append, List.take_append_drop]
    refine count_any (ps := ps.drop H) H4.out rfl HQ4.out HEKT.out.2 (fun q2 hq2 => ?_) (fun e he => by cases he) ?_ (by rw [List.length_drop]; have := HNL.out; omega) ?_
    · obtain ⟨x, h1, h2, h3, -⟩ := kid_node ha5 q2 hq2
      exact ⟨x, h1, h2, h3⟩
    · show ([] ++ _ : List El).length ≤ _
      rw [List.nil_append]; have := HLEN.out; omega
    intro f2 w5 h5 hf2
    change St k w5 (ropeA g { r2 with ms := r2.ms.set q { MN.zero with vk := .slice A1 (N - H) k1, kids := m.kids.drop H, size := ((partsE (ps.drop H)).length : Nat), of := f2 } } :: L) at h5
    change ∀ l, l < 32 → f2 l = cnt (partsE (ps.drop H)) l at hf2
    have ha6 := ha5.set { MN.zero with vk := .slice A1 (N - H) k1, kids := m.kids.drop H, size := ((partsE (ps.drop H)).length : Nat), of := f2 }
    have hH1 : 0 < H := by omega
    have hH2 : H < ps.length := by have := HNL.out; omega
    have t1 := knot_tree ha6 rfl (fun e => by have := congrArg List.length e; rw [List.length_drop, List.length_nil] at this; omega) HEKT.out.2 rfl ⟨rfl, hf2, by show (m.kids.drop H).length ≤ 8; rw [HLT.out.2]; omega⟩
    have t2 := knot_tree (t1.push 2) rfl (fun e => by have := congrArg List.length e; rw [List.length_take, List.length_nil] at this; omega) HEKT.out.1 rfl ⟨rfl, HF.out, by show (m.kids.take H).length ≤ 8; rw [HLT.out.1]; omega⟩
    have hes : partsE (ps.take H) ++ partsE (ps.drop H) = partsE ps := by unfold partsE; rw [← List.flatMap_append, List.take_append_drop]
    have HX := Lib.hid (HQ.out _ _ (q : Int) h5 ⟨HM.out.1.root, HM.out.1.labels, HM.out.1.sees⟩ (by rw [List.length_set]; exact HM.out.2) (.inr ⟨q, _, _, rfl, hes, t2⟩))
    clear h5 hf2 ha5 ha6 t1 t2 hsum hes
    go_wp2
    exact HX.out
end
end Go.Proofs.Ytdgaffcfcgmfnaa
