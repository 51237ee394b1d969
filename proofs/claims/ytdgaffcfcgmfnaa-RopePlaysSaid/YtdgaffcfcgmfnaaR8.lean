/- put, into a leaf. -/
import Derived.Test.YtdgaffcfcgmfnaaR7
import Derived.Deep.DeepCutAuto
import Derived.Deep.CutBlock
namespace Go.Proofs.Ytdgaffcfcgmfnaa
open Go.RowKit Go.Sl

attribute [local go_sem ↓ high] load107 store107 load105 store105 slice82
/-- A code point, put. -/
def insAt (es : List El) (i : Nat) (e : El) : List El := es.take i ++ e :: es.drop i
theorem insAt_len (es : List El) (i : Nat) (e : El) : (insAt es i e).length = es.length + 1 := by
  have := congrArg List.length (List.take_append_drop i es)
  simp only [insAt, List.length_append, List.length_cons] at this ⊢
  omega
theorem insAt_cnt (es : List El) (i : Nat) (e : El) (l : Nat) : cnt (insAt es i e) l = cnt es l + if e.label = (l : Int) then 1 else 0 := by
  have : cnt es l = cnt (es.take i) l + cnt (es.drop i) l := by rw [← cnt_append, List.take_append_drop]
  rw [insAt, cnt_append, cnt_cons, this]
  omega
theorem elsC_ins (es : List El) (i : Nat) (e : El) : (elsC es).take (i * 3) ++ elC e ++ (elsC es).drop (i * 3) = elsC (insAt es i e) := by
  rw [elsC_take, elsC_drop]
  simp [insAt, elsC]
theorem insAt_labs {es : List El} {i : Nat} {e : El} (h : Labs es) (he : 0 ≤ e.label ∧ e.label < 32) : Labs (insAt es i e) := by
  intro x hx
  simp only [insAt, List.mem_append, List.mem_cons] at hx
  rcases hx with hx | rfl | hx
  · exact h x (List.mem_of_mem_take hx)
  · exact he
  · exact h x (List.mem_of_mem_drop hx)
abbrev elV (e : El) : Value := .agg #[.int .i64 e.id, .int .i32 e.rune, .int .i64 e.label]
abbrev elO (e : El) : Obj := .cells #[.int .i64 e.id, .int .i32 e.rune, .int .i64 e.label] 39 (0, 0)
section
variable {k w : World} {L : List Asn} {F : List (Asg MN)} {g : Nat} {r : RM} {R : Ending → World → Prop}
set_option maxRecDepth 100000 in
set_option maxHeartbeats 4000000 in
theorem put_leaf {j i : Nat} {jI iI : Int} {es : List El} {e : El} (hs : St k w (ropeA g r :: L)) (hjI : jI = (j : Int)) (hiI : iI = (i : Int)) (ha : Ar r.ms r.free (Tree 0 j es :: F)) (hi : i ≤ es.length) (hl : Labs es) (he : 0 ≤ e.label ∧ e.label < 32) (hlen : es.length + 1 ≤ 10000000) (hN : r.ms.length ≤ 10000000000)
    (hR : ∀ r' w' (next : Int), St k w' (ropeA g r' :: L) → Meta r r' → r'.ms.length ≤ r.ms.length + 1 →
      (next = -1 ∧ Ar r'.ms r'.free (Tree 0 j (insAt es i e) :: F) ∨ ∃ (q : Nat) (e1 e2 : List El), next = q ∧ e1 ++ e2 = insAt es i e ∧ Ar r'.ms r'.free (Tree 0 j e1 :: Tree 0 q e2 :: F)) → R (.returned (.int .i64 next)) w') :
    Calls Try.prog 68 #[.pointer (some ⟨g, 0, none⟩), .int .i64 jI, .int .i64 iI, elV e] w R := by
  subst hjI hiI
  obtain ⟨m, ha1, hk, hm, hg⟩ := tree_leaf ha
  subst hm
  clear ha
  have hj := ha1.at_
  have hjl := ha1.ltlen
  obtain ⟨bn, cap, hv, -, -, -⟩ := rope_nodes hs hjl
  have hs0 := (hs.alloc (elO e)).swap
  obtain ⟨b7, hb7⟩ : ∃ b, w.heap.size = b := ⟨_, rfl⟩
  have c0 := rope_0 hs0
  rw [hv] at c0
  obtain ⟨⟨Ae, ce, hve, hce1, hce2⟩, Ak, ck, hvk, hk1, hk2, hAk⟩ := rope_heads hs hj
  obtain rfl : Ak = none := hAk.2 hk
  have n1 := rope_node hs0 hv hj (t := 1) rfl
  rw [hvk, hk] at n1
  have n0 := rope_node hs0 hv hj (t := 0) rfl
  rw [hve, Nat.add_zero] at n0
  have b1 : (j : Int) < (r.ms.length : Int) := by omega
  have b2 : (0 : Int) ≤ (j : Int) := by omega
  simp only [List.length_nil] at n1
  obtain ⟨N, hNl⟩ : ∃ N, m.elems.length = N := ⟨_, rfl⟩
  rw [hNl] at n0
  have HS := Lib.hid hs0
  have HA := Lib.hid ha1
  have HK := Lib.hid hk
  have HG := Lib.hid hg
  have HL := Lib.hid hl
  have HE := Lib.hid he
  have HN := Lib.hid (And.intro hN (And.intro hlen hi))
  have HQ := Lib.hid hR
  have HJ := Lib.hid hj
  have HV := Lib.hid hv
  have HVE := Lib.hid hve
  have HNL := Lib.hid hNl
  clear hs hs0 ha1 hk hg hl he hN hR hj hv hve hvk hAk hce1 hce2 hk1 hk2 hNl hlen hi hb7
  go_enter Try.func68, Try.ntmps68
  go_wp2_with (go_at_call 58; refine leaf_any n1 ?_)
  refine gen_world HS.out fun w0 h0 => ?_
  have m0 := rope_node h0 HV.out HJ.out (t := 0) rfl
  rw [HVE.out, HNL.out, Nat.add_zero] at m0
  have f0 := rope_nodef h0 HV.out (j * 35)
  have l0 := World.block_lt_of_cell? _ _ m0
  have d0 : w0.cell? ⟨w.heap.size, 0, none⟩ = some (.int .i64 e.id) := blk_cell h0.swap.lies 0
  have d1 : w0.cell? ⟨w.heap.size, 1, none⟩ = some (.int .i32 e.rune) := blk_cell h0.swap.lies 1
  have d2 : w0.cell? ⟨w.heap.size, 2, none⟩ = some (.int .i64 e.label) := blk_cell h0.swap.lies 2
  have hrE := rope_readE h0 HJ.out
  rw [HVE.out, HNL.out] at hrE
  have hbA := h0.drew.alloc (elO e)
  have HA0 := Lib.hid (And.intro h0.drew hrE.drew)
  have HB0 := Lib.hid (And.intro hbA (hrE.drew.alloc (elO e)))
  have HNB := Lib.hid (show N * 24 ≤ 140737488355328 ∧ (N + 1) * 24 ≤ 140737488355328 by have := HN.out.2.1; have := HNL.out; omega)
  have hiN : i ≤ N := by have := HN.out.2.2; have := HNL.out; omega
  have HIN := Lib.hid hiN
  clear h0 hrE hbA hiN
  go_cut [] (fun wc => Hid (∃ A2 k2, St k wc (ropeA g { r with ms := r.ms.set j { m with ve := .slice A2 (N + 1) k2, elems := insAt m.elems i e } } :: pt w.heap.size (elO e) :: L)))
  case first =>
   go_region_with
    (first
      | (go_at_call 35; refine cloneE HA0.out.1 HA0.out.2 (elsC_one _) HNB.out.1 ?_
         intro v1 w1 h1 _
         obtain ⟨A1, k1, rfl, -⟩ := h1.readsA.at_
         have p0 := rope_node h1.swap HV.out HJ.out (t := 0) rfl
         rw [HVE.out, HNL.out, Nat.add_zero] at p0
         have pf := rope_nodef h1.swap HV.out (j * 35)
         have p1 : w1.cell? ⟨w.heap.size, 0, none⟩ = some (.int .i64 e.id) := blk_cell (h1.pull 2).lies 0
         have p2 : w1.cell? ⟨w.heap.size, 1, none⟩ = some (.int .i32 e.rune) := blk_cell (h1.pull 2).lies 1
         have p3 : w1.cell? ⟨w.heap.size, 2, none⟩ = some (.int .i64 e.label) := blk_cell (h1.pull 2).lies 2
         have h2 := ((h1.alloc (elO e)).shutA (n := 1) (cap := 1) (sz := 3) (cs := elC e) (Nat.le_refl _) (by decide) rfl rfl).swap
         have H1 := Lib.hid h2
         clear h1 h2)
      | (go_at_call 35; refine cloneE HB0.out.1 HB0.out.2 (elsC_one _) HNB.out.1 ?_
         intro v1 w1 h1 _
         obtain ⟨A1, k1, rfl, -⟩ := h1.readsA.at_
         have p0 := rope_node (h1.pull 2) HV.out HJ.out (t := 0) rfl
         rw [HVE.out, HNL.out, Nat.add_zero] at p0
         have pf := rope_nodef (h1.pull 2) HV.out (j * 35)
         have p1 : w1.cell? ⟨w.heap.size, 0, none⟩ = some (.int .i64 e.id) := blk_cell (h1.pull 3).lies 0
         have p2 : w1.cell? ⟨w.heap.size, 1, none⟩ = some (.int .i32 e.rune) := blk_cell (h1.pull 3).lies 1
         have p3 : w1.cell? ⟨w.heap.size, 2, none⟩ = some (.int .i64 e.label) := blk_cell (h1.pull 3).lies 2
         have h2 := (h1.swap.shutA (n := 1) (cap := 1) (sz := 3) (cs := elC e) (Nat.le_refl _) (by decide) rfl rfl).swap
         have H1 := Lib.hid h2
         clear h1 h2)
      | (go_at_call 82; refine insertE H1.out rfl HIN.out (by decide) (elsC_one _) (fun u hu => by simp [elC] at hu; rcases hu with rfl | rfl | rfl <;> rfl) HNB.out.2 ?_
         intro v2 w2 h3 _
         obtain ⟨A2, k2, rfl, -⟩ := h3.readsA.at_
         have q0 := rope_node (h3.pull 2) HV.out HJ.out (t := 0) rfl
         rw [HVE.out, HNL.out, Nat.add_zero] at q0
         have qf := rope_nodef (h3.pull 2) HV.out (j * 35)
         have ql := World.block_lt_of_cell? _ _ q0
         have q1 : w2.cell? ⟨w.heap.size, 0, none⟩ = some (.int .i64 e.id) := blk_cell (h3.pull 3).lies 0
         have q2 : w2.cell? ⟨w.heap.size, 1, none⟩ = some (.int .i32 e.rune) := blk_cell (h3.pull 3).lies 1
         have q3 : w2.cell? ⟨w.heap.size, 2, none⟩ = some (.int .i64 e.label) := blk_cell (h3.pull 3).lies 2
         have H3 := Lib.hid h3
         clear h3))
   all_goals
    go_wp2_with fail
    go_meet
    case rel =>
      have h4 := H3.out.swap.drop
      rw [elsC_ins] at h4
      exact Lib.hid ⟨A2, k2, rope_setve h4 (by rw [insAt_len, HNL.out]) HV.out HJ.out⟩
  case rest =>
    obtain ⟨A2, k2, h4⟩ := hcut.out
    have hil := insAt_len m.elems i e
    rw [HNL.out] at hil
    obtain ⟨r1, hr1⟩ : ∃ r1 : RM, r1 = { r with ms := r.ms.set j { m with ve := .slice A2 (N + 1) k2, elems := insAt m.elems i e } } := ⟨_, rfl⟩
    have hj1 : r1.ms[j]? = some { m with ve := .slice A2 (N + 1) k2, elems := insAt m.elems i e } := by rw [hr1]; exact List.getElem?_set_self hjl
    have ha1 : Ar r1.ms r1.free (nd j { m with ve := .slice A2 (N + 1) k2, elems := insAt m.elems i e } :: F) := by rw [hr1]; exact HA.out.set _
    have hv1 : r1.vn = .slice (some ⟨bn, 0, none⟩) r1.ms.length cap := by rw [hr1]; simpa using HV.out
    have hm1 : Meta r r1 ∧ r1.ms.length = r.ms.length := by rw [hr1]; exact ⟨⟨rfl, rfl, rfl⟩, by simp⟩
    rw [← hr1] at h4
    have g0 := rope_0 h4
    rw [hv1, hm1.2] at g0
    have s0 := rope_node h4 hv1 hj1 (t := 2) rfl
    change wc.cell? _ = some (.int .i64 m.size) at s0
    rw [HG.out.size, HNL.out] at s0
    have s0f := rope_nodef h4 hv1 (j * 35 + 2)
    have s0l := World.block_lt_of_cell? _ _ s0
    have hsz := rope_size (u := (N : Int) + 1) h4 hv1 hj1
    have HSZ := Lib.hid hsz
    have HV1 := Lib.hid (And.intro hv1 hm1)
    have HA1 := Lib.hid ha1
    have HIL := Lib.hid hil
    have b3 : (N : Int) + 1 ≤ 10000000 := by have := HN.out.2.1; have := HNL.out; omega
    have b4 : (0 : Int) ≤ (N : Int) + 1 := by omega
    clear h4 hil hr1 hj1 ha1 hv1 hm1 hsz
    go_wp2
    refine gen_world HSZ.out fun w3 h3 => ?_
    have hjl1 : j < r1.ms.length := by rw [HV1.out.2.2]; exact hjl
    have hj2 : (r1.ms.set j { m with ve := .slice A2 (N + 1) k2, elems := insAt m.elems i e, size := (N : Int) + 1 })[j]? = some { m with ve := .slice A2 (N + 1) k2, elems := insAt m.elems i e, size := (N : Int) + 1 } := List.getElem?_set_self hjl1
    have hll : e.label.toNat < 32 := by have := HE.out; omega
    obtain ⟨lb0, lb1⟩ := HE.out
    have o1 : w3.cell? ⟨w.heap.size, 2, none⟩ = some (.int .i64 e.label) := blk_cell h3.swap.lies 2
    have o2 := rope_ofc h3 HV1.out.1 hj2 hll
    have o2f := rope_nodef h3 HV1.out.1 (j * 35 + 3 + e.label.toNat)
    have o2l := World.block_lt_of_cell? _ _ o2
    change w3.cell? _ = some (.int .i64 (m.of e.label.toNat)) at o2
    have hfl := HG.out.of _ hll
    have hcb := cnt_le m.elems e.label.toNat
    have q1 : 0 ≤ m.of e.label.toNat := by omega
    have q2 : m.of e.label.toNat ≤ 10000000 := by have := HNL.out; omega
    have HSET := Lib.hid ((rope_of (u := m.of e.label.toNat + 1) h3 HV1.out.1 hj2 hll).swap.drop).drew
    have HJ2 := Lib.hid hjl1
    clear h3 hj2 hfl hcb hjl1
    go_region
    go_wp2_with fail
    have h5 := HSET.out
    simp only [List.set_set] at h5
    have ha5 := HA1.out.set { m with ve := .slice A2 (N + 1) k2, elems := insAt m.elems i e, size := (N : Int) + 1, of := fun l => if l = e.label.toNat then m.of e.label.toNat + 1 else m.of l }
    obtain ⟨r2, h6, ha6, hm6, hl6⟩ : ∃ r2 : RM, St k _ (ropeA g r2 :: L) ∧ Ar r2.ms r2.free (nd j { m with ve := .slice A2 (N + 1) k2, elems := insAt m.elems i e, size := (N : Int) + 1, of := fun l => if l = e.label.toNat then m.of e.label.toNat + 1 else m.of l } :: F) ∧ Meta r r2 ∧ r2.ms.length = r.ms.length :=
      ⟨_, h5, ha5, ⟨HV1.out.2.1.root, HV1.out.2.1.labels, HV1.out.2.1.sees⟩, by simpa using HV1.out.2.2⟩
    refine split_leaf h6 rfl ha6 HK.out ⟨?_, fun l hl => ?_, ?_⟩ (insAt_labs HL.out HE.out) ?_ (by rw [hl6]; exact HN.out.1) fun r' w' next s1 s2 s3 s4 => ?_
    · show (N : Int) + 1 = ((insAt m.elems i e).length : Nat)
      rw [HIL.out]; simp
    · show (if l = e.label.toNat then _ else _) = cnt (insAt m.elems i e) l
      rw [insAt_cnt]
      by_cases hc : l = e.label.toNat
      · subst hc
        rw [if_pos rfl, if_pos (by omega), HG.out.of _ hll]
      · rw [if_neg hc, if_neg (by omega), HG.out.of _ hl]; omega
    · show m.kids.length ≤ 8
      rw [HK.out]; simp
    · show (insAt m.elems i e).length ≤ _
      rw [insAt_len]; exact HN.out.2.1
    have HX := Lib.hid (HQ.out r' w' next s1 (hm6.trans s2) (by omega) s4)
    clear h5 ha5 h6 ha6 hm6 hl6 s1 s2 s3 s4
    go_wp2
    exact HX.out
end
end Go.Proofs.Ytdgaffcfcgmfnaa
