/- Clone. -/
import Derived.Test.YtdgaffcfcgmfnaaK1
import Derived.Test.YtdgaffcfcgmfnaaSc
namespace Go.Sl
def allocBig (t : TypeId) : Sem Value := Instr.alloc t true (.tuple #[])
theorem run_alloc {P : Program} {t : TypeId} {z : Value} {n : Nat} (w : World) (hi : (P.info? t).map (fun i => (i.zero, i.size)) = some (some z, n)) : (allocBig t).run P w = .ok (.pointer (some ⟨w.heap.size, 0, none⟩)) (w.alloc (.cells z.cells t)) := by
  cases hq : P.info? t with
  | none => simp [hq] at hi
  | some i =>
    simp only [hq, Option.map_some, Option.some.injEq, Prod.mk.injEq] at hi
    simp [allocBig, Instr.alloc, zeroValue, typeInfo, hq, hi.1, newVar, newRow]
end Go.Sl
namespace Go.Proofs.Ytdgaffcfcgmfnaa
open Go.RowKit Go.Sl

theorem alloc88 (o : Value) : Instr.alloc 88 true o = allocBig 88 := rfl
theorem load88 (a : Value) : Instr.loadAt 88 a = loadBig 88 a := rfl
theorem store88 (a v : Value) : Instr.storeAt 88 a v = storeBig 88 a v := rfl
def zero88 : Array Value := (.slice none 0 0 :: .slice none 0 0 :: .int .i64 0 :: .int .i64 0 :: List.replicate 1025 (.bool false)).toArray
theorem info88 : (Try.prog.info? 88).map (fun i => (i.zero, i.size)) = some (some (.agg zero88), 1029) := by kernel_rfl
attribute [local go_sem ↓ high] load88 store88 alloc88
section
variable {k w : World} {L : List Asn} {g c : Nat} {P : Pol} {es : List El} {R : Ending → World → Prop}
theorem clone_copy {r : RM} (h : St k w (ropeA g r :: L)) (hs : r.sees.length = 1024) :
    (loadBig 88 (.pointer (some ⟨g, 0, none⟩))).run Try.prog w = .ok (.agg (ropeL r).toArray) w ∧
    ∃ w1, (storeBig 88 (.pointer (some ⟨w.heap.size, 0, none⟩)) (.agg (ropeL r).toArray)).run Try.prog (w.alloc (.cells zero88 88)) = .ok () w1 ∧ St k w1 (pt w.heap.size (.cells (ropeL r).toArray 88 (0, 0)) :: ropeA g r :: L) := by
  have hlen : (ropeL r).length = 1029 := by simp [ropeL, hs]
  have h0 := rope_open h
  obtain ⟨A1, d1, hv, -⟩ := h0.swap.readsA.at_
  obtain ⟨A2, d2, hf, -⟩ := (h0.pull 2).readsA.at_
  refine ⟨load_run (P := Try.prog) (ty := 88) (fun j u hu => by rw [Nat.zero_add, rope_cell h, hu]) Try.underlying88 rfl (by rw [hlen]; kernel_rfl), ?_⟩
  have h1 := h.alloc (.cells zero88 88)
  have hz : zero88.size = 1029 := by kernel_rfl
  refine ⟨_, store_run (P := Try.prog) (ty := 88) h1.lies 0 (by rw [List.size_toArray, hlen]; kernel_rfl) (fun u hu => ?_) (by rw [List.size_toArray, hlen, hz]; exact Nat.le_refl _), ?_⟩
  · simp only [ropeL, hv, hf, List.mem_cons, List.mem_append, List.mem_map, List.not_mem_nil, or_false] at hu
    rcases hu with rfl | rfl | rfl | rfl | ⟨b, -, rfl⟩ | rfl <;> rfl
  · have h2 := h1.setRow (c' := spl zero88 0 (ropeL r))
    have e : spl zero88 0 (ropeL r) = (ropeL r).toArray := by
      unfold spl
      apply Array.ext'
      simp [hlen, hz]
    rw [e] at h2
    have e' : spl zero88 0 (ropeL r).toArray.toList = (ropeL r).toArray := by rw [List.toList_toArray]; exact e
    rw [e']
    exact h2
theorem clone_shut {r : RM} {b N F cn cf k3 k4 : Nat} {An Af A3 A4 : Option Addr} {X : Array Value} (hs : r.vn = .slice An N cn ∧ r.vf = .slice Af F cf ∧ r.ms.length = N ∧ r.free.length = F ∧ (ropeL r).toArray = X)
    (h : St k w (rowA 3 1 (.slice A4 F k4) F (intsC r.free) :: rowA 107 35 (.slice A3 N k3) N (nodesC r.ms) :: pt b (.cells X 88 (0, 0)) :: pt g (.cells X 88 (0, 0)) :: rowA 107 35 (.slice An N cn) N (nodesC r.ms) :: rowA 3 1 (.slice Af F cf) F (intsC r.free) :: nodesS r.ms :: L)) :
    St k ((w.setCell ⟨b, 0, none⟩ (.slice A3 N k3)).setCell ⟨b, 1, none⟩ (.slice A4 F k4)) (ropeA b { r with vn := .slice A3 N k3, vf := .slice A4 F k4 } :: ropeA g r :: L) := by
  obtain ⟨hvn, hvf, rfl, rfl, rfl⟩ := hs
  have h1 := ((h.pull 2).set 0 (.slice A3 r.ms.length k3)).set 1 (.slice A4 r.free.length k4)
  have e : (((ropeL r).toArray.setIfInBounds 0 (.slice A3 r.ms.length k3)).setIfInBounds 1 (.slice A4 r.free.length k4)) = (ropeL { r with vn := .slice A3 r.ms.length k3, vf := .slice A4 r.free.length k4 }).toArray := by simp [ropeL]
  rw [e, ← hvn, ← hvf] at h1
  have h2 := (h1.pull 6).again (nodesS_shared _)
  have h3 := (((((((h2.pull 7).pull 7).pull 7).pull 3).pull 6).pull 7).pull 7)
  have h4 := rope_shut (r := { r with vn := .slice A3 r.ms.length k3, vf := .slice A4 r.free.length k4 }) h3
  exact (rope_shut (r := r) (h4.push 4)).swap
theorem nodesC_one {r : RM} (h : St k w (ropeA g r :: L)) : ∀ u ∈ nodesC r.ms, u.oneCell' = true := by
  intro u hu
  unfold nodesC at hu
  obtain ⟨m, hm, hu⟩ := List.mem_flatMap.1 hu
  obtain ⟨j, hj, rfl⟩ := List.getElem_of_mem hm
  obtain ⟨⟨Ae, ce, he, -⟩, Ak, ck, hk, -⟩ := rope_heads h (List.getElem?_eq_getElem hj)
  exact nodeC_one he hk u hu
set_option maxRecDepth 100000 in
set_option maxHeartbeats 2000000 in
theorem clone_any (h : St k w (Rope g P es c :: L)) (hc : c ≤ 90000) (hR : ∀ g' w', St k w' (Rope g' P es c :: Rope g P es c :: L) → R (.returned (.pointer (some ⟨g', 0, none⟩))) w') : Calls Try.prog 47 #[.pointer (some ⟨g, 0, none⟩)] w R := by
  obtain ⟨r, h1, ho⟩ := Rope.out h
  have d0 := rope_dead h1 ho
  obtain ⟨hld, w1, hst, h2⟩ := clone_copy h1 (by rw [ho.sees]; exact ho.slen)
  have hal : (allocBig 88).run Try.prog w = .ok (.pointer (some ⟨w.heap.size, 0, none⟩)) (w.alloc (.cells zero88 88)) := run_alloc w info88
  obtain ⟨b, hb⟩ : ∃ b, w.heap.size = b := ⟨_, rfl⟩
  obtain ⟨X, hX⟩ : ∃ X, (ropeL r).toArray = X := ⟨_, rfl⟩
  have h3 := rope_open h2.swap
  have e0 := rope_0 h2.swap
  have e1 := rope_1 h2.swap
  have x0 : X[0]? = some r.vn := by rw [← hX]; simp [ropeL]
  have x1 : X[1]? = some r.vf := by rw [← hX]; simp [ropeL]
  rw [hX] at hld hst h2 h3
  rw [hb] at hst h2 h3 hal
  have h4 : St k w1 (pt b (.cells X 88 (0, 0)) :: pt g (.cells X 88 (0, 0)) :: rowA 107 35 r.vn r.ms.length (nodesC r.ms) :: rowA 3 1 r.vf r.free.length (intsC r.free) :: nodesS r.ms :: L) := h3.pull 4
  have hne : b ≠ g := h4.ne
  have fb := fun j => blk_frozen h4.lies j
  have lb := blk_lt h4.lies
  obtain ⟨An, cn, hvn, -, hcn, -⟩ := (h4.pull 2).readsA.at_
  obtain ⟨Af, cf, hvf, -, hcf, -⟩ := (h4.pull 3).readsA.at_
  have hfew := ho.few
  have hsq : (c + 2) * (c + 2) ≤ 90002 * 90002 := Nat.mul_le_mul (by omega) (by omega)
  have hfl : r.free.length ≤ r.ms.length := by
    obtain ⟨hh, -, ha⟩ := ho.ar
    exact nodup_le _ _ ha.nodup ha.lt
  obtain ⟨N, hN⟩ : ∃ N, r.ms.length = N := ⟨_, rfl⟩
  obtain ⟨F, hF⟩ : ∃ F, r.free.length = F := ⟨_, rfl⟩
  rw [hN] at hvn hfew hfl h4
  rw [hF] at hvf hfl h4
  have hb1 : N * 312 ≤ 140737488355328 := by omega
  have hb2 : F * 8 ≤ 140737488355328 := by omega
  rw [hvn] at e0 h4 x0
  rw [hvf] at e1 h4 x1
  have HX0 := Lib.hid (And.intro x0 x1)
  have HS := Lib.hid (And.intro hvn (And.intro hvf (And.intro hN (And.intro hF hX))))
  have HO := Lib.hid ho
  have HR := Lib.hid hR
  have H4 := Lib.hid h4
  have HB := Lib.hid (And.intro hb1 hb2)
  have HN1 := Lib.hid (nodesC_one h2.swap)
  clear h hR h1 h2 h3 ho hvn hvf hcn hcf hfew hsq hfl hN hF hb1 hb2 hX h4 x0 x1
  go_enter Try.func47, Try.ntmps47
  go_upto_region 4 with (go_at_call 55; refine dead_any d0 ?_)
  clear hld hst hal d0
  go_cut [] (fun wc => Hid (∃ A3 k3 A4 k4, St k wc (ropeA b { r with vn := .slice A3 N k3, vf := .slice A4 F k4 } :: ropeA g r :: L)))
  case first =>
    refine wp_region_any (by kernel_rfl) ?_
    try (change wpAny _ _ _ _ _ _ _ (World.drew _))
    refine wpAny_take (i := 0) (v := ?_) rfl (by kernel_rfl) (by kernel_rfl) (by kernel_rfl) (fun _ _ _ h => h) (Or.inl ⟨by rfl, ?_⟩) ?_
    rotate_left 1
    · intro w
      go_simp
      try with_reducible rfl
    refine wpAny_take (i := 1) (v := ?_) rfl (by kernel_rfl) (by kernel_rfl) (by kernel_rfl) (fun _ _ _ h => h) (Or.inl ⟨by rfl, ?_⟩) ?_
    rotate_left 1
    · intro w
      go_simp
      try with_reducible rfl
    refine wpAny_take (i := 2) (v := ?_) rfl (by kernel_rfl) (by kernel_rfl) (by kernel_rfl) (fun _ _ _ h => h) (Or.inl ⟨by rfl, ?_⟩) ?_
    rotate_left 1
    · intro w
      go_simp
      try with_reducible rfl
    refine wpAny_take (i := 3) (v := ?_) rfl (by kernel_rfl) (by kernel_rfl) (by kernel_rfl) (fun _ _ _ h => h) (Or.inl ⟨by rfl, ?_⟩) ?_
    rotate_left 1
    · intro w
      go_simp
      try with_reducible rfl
    refine wpAny_take (i := 6) (v := ?_) rfl (by kernel_rfl) (by kernel_rfl) (by kernel_rfl) (fun _ _ _ h => h) (Or.inl ⟨by rfl, ?_⟩) ?_
    rotate_left 1
    · intro w
      go_simp
      try with_reducible rfl
    refine wpAny_take (i := 7) (v := ?_) rfl (by kernel_rfl) (by kernel_rfl) (by kernel_rfl) (fun _ _ _ h => h) (Or.inl ⟨by rfl, ?_⟩) ?_
    rotate_left 1
    · intro w
      go_simp
      try with_reducible rfl
    refine wpAny_take (i := 8) (v := ?_) rfl (by kernel_rfl) (by kernel_rfl) (by kernel_rfl) (fun _ _ _ h => h) (Or.inl ⟨by rfl, ?_⟩) ?_
    rotate_left 1
    · intro w
      go_simp
      try with_reducible rfl
    refine wpAny_take (i := 9) (v := ?_) rfl (by kernel_rfl) (by kernel_rfl) (by kernel_rfl) (fun _ _ _ h => h) (Or.inl ⟨by rfl, ?_⟩) ?_
    rotate_left 1
    · intro w
      go_simp
      try with_reducible rfl
    refine wpAnyC_any (C := (fun w' : World => w'.cell? ⟨g, 0, none⟩ = some (.slice An N cn) ∧ w'.cell? ⟨g, 1, none⟩ = some (.slice Af F cf))) (T := [11, 12, 13, 14, 15, 16, 17]) _ _ _ _ ?_
    refine wpAnyC_take (i := 4) (v := ?_) rfl (by kernel_rfl) (by kernel_rfl) (by kernel_rfl) (by kernel_rfl) (fun _ _ _ h => h) (by rfl) ?_ ?_ ?_
    rotate_left 1
    · refine ⟨?_, ?_⟩ <;> go_simp
    · intro w hw
      obtain ⟨c1, c2⟩ := hw; go_simp
      try with_reducible rfl
    refine wpAnyC_take (i := 10) (v := ?_) rfl (by kernel_rfl) (by kernel_rfl) (by kernel_rfl) (by kernel_rfl) (fun _ _ _ h => h) (by rfl) ?_ ?_ ?_
    rotate_left 1
    · refine ⟨?_, ?_⟩ <;> go_simp
    · intro w hw
      obtain ⟨c1, c2⟩ := hw; go_simp
      try with_reducible rfl
    refine wpAnyC_ready (rs := [5]) (by kernel_rfl) (by simp) ?_
    refine AllC.cons rfl (fun K hK => ?_) ?_
    · go_simp
      go_wp2_with (first
        | (go_at_call 74; refine cloneN H4.out.drew (H4.out.drew.pull 2).readsA HN1.out HB.out.1 ?_
           intro v3 w3 h5 e5
           obtain ⟨A3, k3, rfl, -⟩ := h5.readsA.at_
           have q0 := (blk_cell (h5.pull 2).lies 0).trans HX0.out.1
           have q1 := (blk_cell (h5.pull 2).lies 1).trans HX0.out.2
           have qf := fun j => blk_frozen (h5.pull 1).lies j
           have ql := blk_lt (h5.pull 1).lies
           have H5 := Lib.hid h5
           clear h5 e5)
        | (go_at_call 75; refine cloneI H5.out (H5.out.pull 4).readsA (intsC_one _) HB.out.2 ?_
           intro v4 w4 h6 e6
           obtain ⟨A4, k4, rfl, -⟩ := h6.readsA.at_
           have s0 := (blk_cell (h6.pull 3).lies 0).trans HX0.out.1
           have s1 := (blk_cell (h6.pull 3).lies 1).trans HX0.out.2
           have sf := fun j => blk_frozen (h6.pull 2).lies j
           have sl := blk_lt (h6.pull 2).lies
           have t0 := (blk_cell (h6.pull 2).lies 0).trans HX0.out.1
           have t1 := (blk_cell (h6.pull 2).lies 1).trans HX0.out.2
           have H6 := Lib.hid h6
           clear h6 e6))
      refine And.intro ?_ ?_
      · intro _
        refine ⟨?_, ?_⟩ <;> go_simp
      refine wpAnyC_ready (rs := [11]) (by kernel_rfl) (by simp) ?_
      refine AllC.cons rfl (fun K hK => ?_) ?_
      · go_simp
        go_wp2_with (first
          | (go_at_call 74; refine cloneN H4.out.drew (H4.out.drew.pull 2).readsA HN1.out HB.out.1 ?_
             intro v3 w3 h5 e5
             obtain ⟨A3, k3, rfl, -⟩ := h5.readsA.at_
             have q0 := (blk_cell (h5.pull 2).lies 0).trans HX0.out.1
             have q1 := (blk_cell (h5.pull 2).lies 1).trans HX0.out.2
             have qf := fun j => blk_frozen (h5.pull 1).lies j
             have ql := blk_lt (h5.pull 1).lies
             have H5 := Lib.hid h5
             clear h5 e5)
          | (go_at_call 75; refine cloneI H5.out (H5.out.pull 4).readsA (intsC_one _) HB.out.2 ?_
             intro v4 w4 h6 e6
             obtain ⟨A4, k4, rfl, -⟩ := h6.readsA.at_
             have s0 := (blk_cell (h6.pull 3).lies 0).trans HX0.out.1
             have s1 := (blk_cell (h6.pull 3).lies 1).trans HX0.out.2
             have sf := fun j => blk_frozen (h6.pull 2).lies j
             have sl := blk_lt (h6.pull 2).lies
             have t0 := (blk_cell (h6.pull 2).lies 0).trans HX0.out.1
             have t1 := (blk_cell (h6.pull 2).lies 1).trans HX0.out.2
             have H6 := Lib.hid h6
             clear h6 e6))
        refine And.intro ?_ ?_
        · intro h
          exact absurd h (by decide)
        refine wpAnyC_takeP (i := 12) (v := ?_) rfl (by kernel_rfl) (by kernel_rfl) (by kernel_rfl) (by kernel_rfl) (fun _ _ _ h => h) (by rfl) ?_ ?_
        rotate_left 1
        · intro w
          go_simp
          try with_reducible rfl
        refine wpAnyC_takeP (i := 13) (v := ?_) rfl (by kernel_rfl) (by kernel_rfl) (by kernel_rfl) (by kernel_rfl) (fun _ _ _ h => h) (by rfl) ?_ ?_
        rotate_left 1
        · intro w
          go_simp
          try with_reducible rfl
        refine wpAnyC_ready (rs := [14]) (by kernel_rfl) (by simp) ?_
        refine AllC.cons rfl (fun K hK => ?_) ?_
        · go_simp
          refine hK _ _ ?_
          clear hK K
          refine And.intro ?_ ?_
          · intro h
            exact absurd h (by decide)
          refine wpAnyC_takeP (i := 15) (v := ?_) rfl (by kernel_rfl) (by kernel_rfl) (by kernel_rfl) (by kernel_rfl) (fun _ _ _ h => h) (by rfl) ?_ ?_
          rotate_left 1
          · intro w
            go_simp
            try with_reducible rfl
          refine wpAnyC_takeP (i := 16) (v := ?_) rfl (by kernel_rfl) (by kernel_rfl) (by kernel_rfl) (by kernel_rfl) (fun _ _ _ h => h) (by rfl) ?_ ?_
          rotate_left 1
          · intro w
            go_simp
            try with_reducible rfl
          refine wpAnyC_ready (rs := [17]) (by kernel_rfl) (by simp) ?_
          refine AllC.cons rfl (fun K hK => ?_) ?_
          · go_simp
            refine hK _ _ ?_
            clear hK K
            refine And.intro ?_ ?_
            · intro h
              exact absurd h (by decide)
            refine wpAnyC_done (by kernel_rfl) ?_ _
            go_wp2_with fail
            go_meet
            case rel =>
              exact Lib.hid ⟨A3, k3, A4, k4, clone_shut HS.out H6.out⟩
          exact AllC.nil
        exact AllC.nil
      exact AllC.nil
    exact AllC.nil
  case rest =>
    obtain ⟨A3, k3, A4, k4, h5⟩ := hcut.out
    have h6 := HR.out b _ (Rope.mk (Rope.mk h5.swap HO.out).swap ⟨HO.out.ar, HO.out.few, HO.out.fit, HO.out.labels, HO.out.l32, HO.out.sees, HO.out.slen, HO.out.len⟩)
    have HX := Lib.hid h6
    clear h5 h6
    go_wp2
    exact HX.out
end
end Go.Proofs.Ytdgaffcfcgmfnaa
