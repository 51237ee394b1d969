/- mend. -/
import Derived.Test.YtdgaffcfcgmfnaaS9
import Derived.Test.YtdgaffcfcgmfnaaZb
namespace Go.Proofs.Ytdgaffcfcgmfnaa
open Go.RowKit Go.Sl

attribute [local go_sem ↓ high] load107 store107 load105 store105 slice82
section
variable {k w : World} {L : List Asn} {F : List (Asg MN)} {g : Nat} {r : RM} {R : Ending → World → Prop}
theorem split_two (ps : List Part) (q : Nat) (h : q + 1 < ps.length) : ∃ pa a b pb, ps = pa ++ a :: b :: pb ∧ pa.length = q := by
  refine ⟨ps.take q, ps[q], ps[q + 1], ps.drop (q + 2), ?_, by rw [List.length_take]; omega⟩
  conv => lhs; rw [← List.take_append_drop q ps, List.drop_eq_getElem_cons (by omega), List.drop_eq_getElem_cons (by omega)]
set_option maxRecDepth 100000 in
set_option maxHeartbeats 1000000 in
theorem mend_few {j : Nat} {q : Int} {m : MN} (hs : St k w (ropeA g r :: L)) (hj : r.ms[j]? = some m) (hm : m.kids.length < 2) (hR : R (.returned (.tuple #[])) w) : Calls Try.prog 81 #[.pointer (some ⟨g, 0, none⟩), .int .i64 j, .int .i64 q] w R := by
  have hjl := (List.getElem?_eq_some_iff.1 hj).1
  obtain ⟨bn, cap, hv, -, -, -⟩ := rope_nodes hs hjl
  have c0 := rope_0 hs
  rw [hv] at c0
  obtain ⟨-, Ak, ck, hvk, hk1, hk2, hAk⟩ := rope_heads hs hj
  have n1 := rope_node hs hv hj (t := 1) rfl
  rw [hvk] at n1
  have b1 : (j : Int) < (r.ms.length : Int) := by omega
  have b2 : (0 : Int) ≤ (j : Int) := by omega
  have b3 : (m.kids.length : Int) < 2 := by omega
  have HR := Lib.hid hR
  clear hs hj hm hR hv hvk hk1 hk2 hAk hjl
  go_enter Try.func81, Try.ntmps81
  go_wp2
  go_end0
  exact HR.out
theorem mend_any {h j q : Nat} {m : MN} {ps : List Part} (hs : St k w (ropeA g r :: L)) (ha : Ar r.ms r.free (nd j m :: Trees h ps :: F)) (hk : m.kids = partsK ps) (hp8 : ps.length ≤ 8) (hq : q < ps.length) (hl : Labs (partsE ps)) (hlen : (partsE ps).length ≤ 10000000) (hN : r.ms.length ≤ 10000000000)
    (hR : ∀ r' w' m' ps', St k w' (ropeA g r' :: L) → Ar r'.ms r'.free (nd j m' :: Trees h ps' :: F) → m'.kids = partsK ps' → ps' ≠ [] → ps'.length ≤ 8 → partsE ps' = partsE ps → m'.elems = m.elems → m'.size = m.size → m'.of = m.of → Meta r r' → r'.ms.length = r.ms.length → R (.returned (.tuple #[])) w') :
    Calls Try.prog 81 #[.pointer (some ⟨g, 0, none⟩), .int .i64 j, .int .i64 q] w R := by
  have hkl : m.kids.length = ps.length := by rw [hk]; simp [partsK]
  by_cases h2 : ps.length < 2
  · exact mend_few hs ha.at_ (by omega) (hR r w m ps hs ha hk (by intro e; subst e; simp at hq) hp8 rfl rfl rfl rfl (Meta.refl r) rfl)
  · obtain ⟨q0, hq0, hqq⟩ : ∃ q0, q0 + 1 < ps.length ∧ (q = q0 ∨ q = q0 + 1 ∧ q0 + 2 = ps.length) := by
      by_cases h3 : q + 1 = ps.length
      · exact ⟨q - 1, by omega, .inr (by omega)⟩
      · exact ⟨q, by omega, .inl rfl⟩
    obtain ⟨pa, ⟨a, ea⟩, ⟨b, eb⟩, pb, rfl, hpa⟩ := split_two ps q0 hq0
    have h3 := trees_open (ha.swap)
    have h4 := trees_open (a := []) (h3.pull 2)
    have h5 := (trees_nil.1 h4.swap).pull 2
    obtain ⟨x, psx, h6, hx1, hx2, hx3, hx4⟩ := tree_under h5
    obtain ⟨y, psy, h7, hy1, hy2, hy3, hy4⟩ := tree_under (h6.pull 2)
    simp only at hx2 hy2
    have h8 := (h7.pull 2).pull 6
    have h9 : Ar r.ms r.free (Under h x psx :: Under h y psy :: Trees h pb :: Trees h pa :: F) := h8.drop.drop.drop.swap
    have hul := under_list h9
    rw [← hx2, ← hy2] at hul
    have h10 : Ar r.ms r.free (Under h x psx :: Under h y psy :: nd a x :: Trees h pb :: Trees h pa :: F) := ((h8.drop).swap.drop.push 2).swap
    have h11 := (under_app (m := { x with elems := x.elems ++ y.elems }) h10 rfl).swap
    have hpe : partsE (pa ++ (a, ea) :: (b, eb) :: pb) = partsE pa ++ (ea ++ eb) ++ partsE pb := by rw [partsE_app, partsE_cons, partsE_cons]; simp
    have hlab : Labs (ea ++ eb) := fun e he => hl e (by rw [hpe]; simp only [List.mem_append] at he ⊢; exact .inl (.inr he))
    have hlen2 : (ea ++ eb).length ≤ 10000000 := by rw [hpe] at hlen; simp only [List.length_append] at hlen ⊢; omega
    have hkx : psx.length ≤ 8 := by have := hx3.few; rw [hx1] at this; simpa [partsK] using this
    have hky : psy.length ≤ 8 := by have := hy3.few; rw [hy1] at this; simpa [partsK] using this
    have hxy : ∀ e ∈ x.elems ++ y.elems, 0 ≤ e.label ∧ e.label < 32 := fun e he => hlab e (by rw [← hul]; exact List.mem_append_left _ he)
    refine mend_walk (q := q0) (ka := partsK pa) (kb := partsK pb) (psx := psx) (psy := psy) hs h8 (by rw [hk]; simp [partsK]) (by simp [partsK, hpa]) ?_ (by omega) hx1 hy1 (fun t ht => under_kid h11 t ht) hxy (by rw [hul]; exact hlen2) (by rw [List.length_append]; omega) (by omega) ?_ ?_
    · rcases hqq with rfl | ⟨rfl, h3⟩
      · exact .inl rfl
      · refine .inr ⟨by omega, ?_⟩
        simp only [List.length_append, List.length_cons] at h3
        have : pb = [] := List.length_eq_zero_iff.1 (by omega)
        rw [this]; rfl
    · intro w' h'
      exact hR r w' m _ h' ha hk (by simp) hp8 rfl rfl rfl rfl (Meta.refl r) rfl
    · intro r' w' x' m' s1 s2 s3 s4 s5 s6 s7 s8 t1 t2 t3 t4 t5
      have u1 := (((s2.pull 3).pull 3).swap)
      have u2 := (under_app (m := x') u1 t2).pull 2
      have hlx : x'.elems ++ partsE (psx ++ psy) = ea ++ eb := by rw [t2, hul]
      have u3 := under_tree (es := ea ++ eb) u2 (by rw [t1, hx1, hy1]; simp [partsK]) hlx.symm ⟨by rw [t3, hul], fun l hll => by rw [t4 l hll, hul], by
        rw [t1, List.length_append]
        rcases t5 with t5 | t5
        · have h0 := hx4.1 t5
          rw [hy4.2 h0, t5]; simp
        · omega⟩
      have u4 := (((u3.pull 3).pull 3).pull 1).pull 2
      have u5 := trees_shut (q := (a, ea ++ eb)) u4
      refine hR r' w' m' (pa ++ (a, ea ++ eb) :: pb) s1 u5.swap (by rw [s5]; simp [partsK]) (by simp) (by simp only [List.length_append, List.length_cons] at hp8 ⊢; omega) ?_ s6 s7 s8 s3 s4
      rw [hpe, partsE_app, partsE_cons]; simp
end
end Go.Proofs.Ytdgaffcfcgmfnaa
