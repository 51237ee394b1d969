/- The sequence's small functions: leaf, label, dead, Len, take, give, add, count. -/
import Derived.Test.YtdgaffcfcgmfnaaRo
namespace Go.Proofs.Ytdgaffcfcgmfnaa
open Go.RowKit Go.Sl

section
variable {k w : World} {L : List Asn} {g : Nat} {r : RM} {R : Ending → World → Prop}
set_option maxRecDepth 100000 in
theorem leaf_any {b o n c : Nat} {A : Option Addr} (hc : w.cell? ⟨b, o + 1, none⟩ = some (.slice A n c)) (hR : R (.returned (.bool A.isNone)) w) : Calls Try.prog 58 #[.pointer (some ⟨b, o, none⟩)] w R := by
  have q := fun (w : World) a n c => Lib.run_eql_slice_nil w 51 3 a n c 0 0 Try.underlying51
  have HR := Lib.hid hR
  clear hR
  go_enter Try.func58, Try.ntmps58
  go_wp2
  exact HR.out
set_option maxRecDepth 100000 in
theorem dead_any (hm : w.cell? ⟨g, 1028, none⟩ = some (.bool true)) (hR : R (.returned (.bool false)) w) : Calls Try.prog 55 #[.pointer (some ⟨g, 0, none⟩)] w R := by
  have HR := Lib.hid hR
  clear hR
  go_enter Try.func55, Try.ntmps55
  go_wp2
  exact HR.out
set_option maxRecDepth 100000 in
theorem label_any {n : Nat} {l : Int} {b : Bool} (hm : w.cell? ⟨g, 3, none⟩ = some (.int .i64 n)) (hb : b = decide (0 ≤ l ∧ l < n)) (hR : R (.returned (.bool b)) w) : Calls Try.prog 56 #[.pointer (some ⟨g, 0, none⟩), .int .i64 l] w R := by
  have HR := Lib.hid hR
  have HB := Lib.hid hb
  clear hR hb
  by_cases h0 : 0 ≤ l
  · go_enter Try.func56, Try.ntmps56
    go_wp2
    have e : decide (l < n) = b := by rw [HB.out]; simp [h0]
    simp only [e]
    exact HR.out
  · go_enter Try.func56, Try.ntmps56
    go_wp2
    have e : false = b := by rw [HB.out]; simp; omega
    rw [e]
    exact HR.out
theorem size107 : (Try.prog.info? 107).map (·.size) = some 35 := by kernel_rfl
theorem info107 : (Try.prog.info? 107).map (fun i => (i.zero, i.size, i.bytes)) = some (some (.agg (nodeC MN.zero).toArray), 35, 312) := by kernel_rfl
theorem nodeC_one {m : MN} {n1 c1 n2 c2 : Nat} {A1 A2 : Option Addr} (h1 : m.ve = .slice A1 n1 c1) (h2 : m.vk = .slice A2 n2 c2) : ∀ u ∈ nodeC m, u.oneCell' = true := by
  intro u hu
  simp only [nodeC, List.mem_cons, List.mem_map] at hu
  rcases hu with rfl | rfl | rfl | ⟨l, _, rfl⟩
  · rw [h1]; rfl
  · rw [h2]; rfl
  · rfl
  · rfl
theorem load107 (a : Value) : Instr.loadAt 107 a = loadBig 107 a := rfl
theorem store107 (a v : Value) : Instr.storeAt 107 a v = storeBig 107 a v := rfl
theorem load105 (a : Value) : Instr.loadAt 105 a = loadBig 105 a := rfl
theorem store105 (a v : Value) : Instr.storeAt 105 a v = storeBig 105 a v := rfl
theorem slice82 (n : Nat) (ps : Array (Nat × Value)) : Instr.buildSlice 82 n ps = sliceBig 82 n ps := rfl
attribute [local go_sem ↓ high] load107 store107 load105 store105 slice82
set_option maxRecDepth 100000 in
set_option maxHeartbeats 1000000 in
theorem take_free {m x : MN} {f0 : List Nat} {j : Nat} (h : St k w (nodeS m :: ropeA g r :: L)) (h1 : ∀ u ∈ nodeC m, u.oneCell' = true) (hf : r.free = f0 ++ [j]) (hj : r.ms[j]? = some x) (hfl : f0.length ≤ 20000000000)
    (hR : ∀ vf w', St k w' (ropeA g { r with ms := r.ms.set j m, free := f0, vf := vf } :: L) → R (.returned (.int .i64 j)) w') : Calls Try.prog 62 #[.pointer (some ⟨g, 0, none⟩), .agg (nodeC m).toArray] w R := by
  have hjl : j < r.ms.length := (List.getElem?_eq_some_iff.1 hj).1
  have c1 := cell_alloc (rope_1 h.swap) (.cells (nodeC m).toArray 107)
  have cz := rope_f h.swap 1
  have hz := blk_lt (rope_open h.swap).lies
  have hl : r.free.length = f0.length + 1 := by rw [hf]; simp
  obtain ⟨A, c, hvf, hnc, hcm, hA, hcf⟩ := ((rope_open h.swap).pull 2).readsA.at_
  cases A with
  | none => have := (hA rfl).1; omega
  | some a =>
    obtain ⟨gf, o, sp⟩ := a
    obtain ⟨hsp, hcf⟩ := hcf _ rfl
    obtain rfl := hsp (by omega)
    have cf : (w.alloc (.cells (nodeC m).toArray 107)).cell? ⟨gf, o + f0.length, none⟩ = some (.int .i64 j) := cell_alloc (hcf f0.length _ (by rw [hf]; simp [intsC])) _
    have hw2 := (rope_cutf h.swap hvf (i := f0.length) (by omega)).alloc (.cells (nodeC m).toArray 107)
    rw [hf, List.take_left, size_setCell] at hw2
    obtain ⟨bn, cap, hv, hnl, hcm2, hbg⟩ := rope_nodes h.swap hjl
    rw [hvf, hl] at c1
    have hn2 : (f0.length : Int) ≤ 20000000000 := by omega
    have hnc2 : f0.length ≤ c := by omega
    have hI : (0 : Int) ≤ (j : Int) ∧ (j : Int) < r.ms.length := by omega
    obtain ⟨hI1, hI2⟩ := hI
    have H2 := Lib.hid hw2
    have H1 := Lib.hid h1
    have HQ := Lib.hid hR
    have HV := Lib.hid hv
    have HJ := Lib.hid hj
    obtain ⟨n, hn⟩ : ∃ n, n = f0.length := ⟨_, rfl⟩
    obtain ⟨N, hN⟩ : ∃ N, N = r.ms.length := ⟨_, rfl⟩
    rw [← hn] at c1 cf hn2 hnc2
    rw [← hN] at hI2
    have HE := Lib.hid hn
    have HEN := Lib.hid hN
    clear hl hA hcf hw2 h h1 hf hR hcm hnc hvf hv hnl hcm2 hbg hfl hjl hn hN hj
    go_enter Try.func62, Try.ntmps62
    go_wp2
    rw [HE.out]
    refine gen_world (H2.out) fun w2 h2 => ?_
    have h3 : St k w2.drew (pt w.heap.size (.cells (nodeC m).toArray 107) :: _) := h2.drew
    have c0 := rope_0 h3.swap
    rw [HV.out, ← HEN.out] at c0
    have hld := load_run (P := Try.prog) (ty := 107) (b := w.heap.size) (o := 0) (cs := nodeC m) (w := w2.drew) (by
      intro t u hu
      rw [Nat.zero_add, blk_cell h3.lies]; simpa using hu) Try.underlying107 rfl (by simpa [nodeC_len] using size107)
    obtain ⟨w3, hst, h4⟩ := rope_put (m' := m) (j := j) (h3.drop.swap) HV.out HJ.out H1.out size107
    rw [load107] at hld
    rw [store107] at hst
    go_region
    go_wp2
    exact HQ.out _ _ h4
theorem agg_row (m : MN) : (Value.agg (nodeC m).toArray).cells = (nodeC m).toArray := rfl
set_option maxRecDepth 100000 in
set_option maxHeartbeats 1000000 in
theorem take_new {m : MN} (h : St k w (nodeS m :: ropeA g r :: L)) (h1 : ∀ u ∈ nodeC m, u.oneCell' = true) (hf : r.free = []) (hfl : r.ms.length ≤ 20000000000)
    (hR : ∀ vn w', St k w' (ropeA g { r with ms := r.ms ++ [m], vn := vn } :: L) → R (.returned (.int .i64 r.ms.length)) w') : Calls Try.prog 62 #[.pointer (some ⟨g, 0, none⟩), .agg (nodeC m).toArray] w R := by
  have c1 := cell_alloc (rope_1 h.swap) (.cells (nodeC m).toArray 107)
  have c0 := cell_alloc (rope_0 h.swap) (.cells (nodeC m).toArray 107)
  have cz := rope_f h.swap 0
  have hz := blk_lt (rope_open h.swap).lies
  have hal := h.alloc (.cells (nodeC m).toArray 107)
  obtain ⟨A, c, hvf, hnc, hcm, hA, hcf⟩ := ((rope_open h.swap).pull 2).readsA.at_
  obtain ⟨An, cn, hvn, hncn, hcmn, hAn, hcfn⟩ := ((rope_open h.swap).pull 1).readsA.at_
  rw [hvf, hf] at c1
  rw [hvn] at c0
  have hn : (r.ms.length : Int) ≤ 20000000000 := by omega
  have H := Lib.hid hal
  have H1 := Lib.hid h1
  have HQ := Lib.hid hR
  have HV := Lib.hid hvn
  clear hvf hnc hcm hA hcf hvn hncn hcmn hAn hcfn h hR h1 hfl hal
  simp only [List.length_nil] at c1
  go_enter Try.func62, Try.ntmps62
  go_wp2
  refine gen_world (H.out) fun w2 h2 => ?_
  have h3 := h2.drew
  have hld := load_run (P := Try.prog) (ty := 107) (b := w.heap.size) (o := 0) (cs := nodeC m) (w := w2.drew) (by
    intro t u hu
    rw [Nat.zero_add, blk_cell h3.lies]; simpa using hu) Try.underlying107 rfl (by simpa [nodeC_len] using size107)
  rw [load107] at hld
  have c0 := rope_0 (h2.pull 2)
  change w2.cell? _ = some r.vn at c0
  rw [HV.out] at c0
  have c0b := cell_alloc c0 (.cells (nodeC m).toArray 107)
  have h4 := ((rope_open (h3.pull 2)).pull 1)
  change St k w2.drew (rowA 107 35 r.vn r.ms.length (nodesC r.ms) :: _) at h4
  rw [HV.out] at h4
  have H4 := Lib.hid h4
  clear h2 h3 h4
  have e35 : (nodeC m).toArray.size = 1 * 35 := by simpa using nodeC_len m
  have E35 := Lib.hid e35
  clear e35
  have hbs := buildSlice_run (w := w2.drew) (t := 82) Try.underlying82 info107 (by decide) (by decide) (.agg (nodeC m).toArray) (by simpa [Value.cells] using nodeC_len m)
  rw [slice82, agg_row] at hbs
  go_region_law ((refine step_of rfl (wp_append _ _ rfl Try.underlying82 info107 (by kernel_rfl) (by decide) (n := r.ms.length) (cs := nodesC r.ms) (m := 1) ((H4.out.alloc (.cells (nodeC m).toArray 107)).swap) ((H4.out.alloc (.cells (nodeC m).toArray 107)).readsP E35.out (Nat.le_refl _) (by decide)) (by simp [Act.eval]) (by simp [Act.eval]) (by simpa using H1.out) (by unfold maxLen; omega) (by omega) ?_); intro v' w' h5 h6; obtain ⟨A', c', rfl, -⟩ := h5.readsA.at_; have c0' : w'.cell? ⟨g, 0, none⟩ = some r.vn := blk_cell (h5.pull 2).lies 0; have f0' := blk_frozen (h5.pull 2).lies 0; have l0' := blk_lt (h5.pull 2).lies; have H5 := Lib.hid h5; clear h5 h6))
  all_goals
    go_wp2
    have h6 := ((H5.out.pull 2).set 0 (.slice A' (r.ms.length + 1) c'))
    have h9 := ((((h6.pull 2).drop.pull 4).drop.pull 4).pull 4).merge (C := nodesS (r.ms ++ [m])) (nodesS_shared _) (nodeS_shared _) (fun p hA hB x hx => by
      rcases List.mem_append.1 hx with hx | hx
      · exact hA x hx
      · simp at hx; subst hx; exact hB)
    have e1 : (r.ms ++ [m]).length = r.ms.length + 1 := by simp
    have e2 : nodesC (r.ms ++ [m]) = nodesC r.ms ++ nodeC m := by simp [nodesC]
    refine HQ.out (.slice A' (r.ms.length + 1) c') _ (rope_shut ?_)
    show St k _ (pt g (.cells _ 88 (0, 0)) :: rowA 107 35 (.slice A' (r.ms.length + 1) c') (r.ms ++ [m]).length (nodesC (r.ms ++ [m])) :: rowA 3 1 r.vf r.free.length (intsC r.free) :: nodesS (r.ms ++ [m]) :: L)
    rw [e1, e2]
    exact h9.push 3
end
end Go.Proofs.Ytdgaffcfcgmfnaa
