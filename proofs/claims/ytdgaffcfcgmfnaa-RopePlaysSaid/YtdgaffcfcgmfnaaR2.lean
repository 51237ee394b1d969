/- The sequence's small functions: give, add, count. -/
import Derived.Test.YtdgaffcfcgmfnaaR1
namespace Go.Proofs.Ytdgaffcfcgmfnaa
open Go.RowKit Go.Sl

attribute [local go_sem ↓ high] load107 store107 load105 store105 slice82
/-- The same labels, the same root. -/
structure Meta (r r' : RM) : Prop where
  root : r'.root = r.root
  labels : r'.labels = r.labels
  sees : r'.sees = r.sees
theorem Meta.refl (r : RM) : Meta r r := ⟨rfl, rfl, rfl⟩
theorem Meta.trans {a b c : RM} (h : Meta a b) (k : Meta b c) : Meta a c := ⟨k.root.trans h.root, k.labels.trans h.labels, k.sees.trans h.sees⟩
theorem nodup_le : ∀ (n : Nat) (l : List Nat), l.Nodup → (∀ x ∈ l, x < n) → l.length ≤ n
  | 0, l, _, h => by
    cases l with
    | nil => simp
    | cons x l => have := h x (by simp); omega
  | n + 1, l, hd, h => by
    have h1 := nodup_le n (l.erase n) (hd.erase n) (fun x hx => by
      have h2 := (List.Nodup.mem_erase_iff hd).1 hx
      have := h x h2.2
      omega)
    by_cases hm : n ∈ l
    · have := List.length_erase_of_mem hm
      omega
    · rw [List.erase_of_not_mem hm] at h1; omega
section
variable {k w : World} {L : List Asn} {F : List (Asg MN)} {g : Nat} {r : RM} {R : Ending → World → Prop}
/-- take. -/
theorem take_any {m : MN} (h : St k w (nodeS m :: ropeA g r :: L)) (h1 : ∀ u ∈ nodeC m, u.oneCell' = true) (ha : Ar r.ms r.free F) (hn : r.ms.length ≤ 20000000000)
    (hR : ∀ r' j w', St k w' (ropeA g r' :: L) → Ar r'.ms r'.free (nd j m :: F) → Meta r r' → r'.ms.length ≤ r.ms.length + 1 → R (.returned (.int .i64 (j : Nat))) w') : Calls Try.prog 62 #[.pointer (some ⟨g, 0, none⟩), .agg (nodeC m).toArray] w R := by
  have hfl := nodup_le _ _ ha.nodup ha.lt
  rcases List.eq_nil_or_concat r.free with hf | ⟨f0, j, hf⟩
  · refine take_new h h1 hf hn fun vn w' h2 => hR _ _ _ h2 ?_ ⟨rfl, rfl, rfl⟩ (by simp)
    exact ha.new m
  · rw [List.concat_eq_append] at hf
    have hjl : j < r.ms.length := ha.lt j (by rw [hf]; simp)
    refine take_free h h1 hf (List.getElem?_eq_getElem hjl) (by rw [hf] at hfl; simp at hfl; omega) fun vf w' h2 => hR _ _ _ h2 ?_ ⟨rfl, rfl, rfl⟩ (by simp)
    rw [hf] at ha
    exact ha.take m
theorem zero_c : (nodeC MN.zero).toArray = #[.slice none 0 0, .slice none 0 0, .int .i64 0, .int .i64 0, .int .i64 0, .int .i64 0, .int .i64 0, .int .i64 0, .int .i64 0, .int .i64 0, .int .i64 0, .int .i64 0, .int .i64 0, .int .i64 0, .int .i64 0, .int .i64 0, .int .i64 0, .int .i64 0, .int .i64 0, .int .i64 0, .int .i64 0, .int .i64 0, .int .i64 0, .int .i64 0, .int .i64 0, .int .i64 0, .int .i64 0, .int .i64 0, .int .i64 0, .int .i64 0, .int .i64 0, .int .i64 0, .int .i64 0, .int .i64 0, .int .i64 0] := by kernel_rfl
theorem nodeS_nil (h : St k w L) (m : MN) (h1 : m.ve = .slice none 0 0) (h2 : m.vk = .slice none 0 0) (h3 : m.elems = []) (h4 : m.kids = []) : St k w (nodeS m :: L) := by
  refine ((h.nilS 3).nilS 1).merge (C := nodeS m) (rowS_shared _ _ _ _) (rowS_shared _ _ _ _) fun p hA hB => ?_
  unfold nodeS
  simp only [h1, h2, h3, h4]
  exact ⟨hB, hA, by simp⟩
set_option maxRecDepth 100000 in
set_option maxHeartbeats 1000000 in
theorem give_any {j : Nat} {x : MN} {jI : Int} (h : St k w (ropeA g r :: L)) (hjI : jI = (j : Int)) (ha : Ar r.ms r.free (nd j x :: F)) (hn : r.ms.length ≤ 20000000000)
    (hR : ∀ r' w', St k w' (ropeA g r' :: L) → Ar r'.ms r'.free F → Meta r r' → r'.ms.length = r.ms.length → R (.returned (.tuple #[])) w') : Calls Try.prog 66 #[.pointer (some ⟨g, 0, none⟩), .int .i64 jI] w R := by
  subst hjI
  have hfl := nodup_le _ _ ha.nodup ha.lt
  have hj := ha.at_
  have hjl := ha.ltlen
  obtain ⟨bn, cap, hv, hnl, hcm2, hbg⟩ := rope_nodes h hjl
  have c0 := rope_0 h
  rw [hv] at c0
  have hz := nodeS_nil h MN.zero rfl rfl rfl rfl
  obtain ⟨w1, hst, h1⟩ := rope_put hz hv hj (nodeC_one rfl rfl) size107
  rw [store107, zero_c] at hst
  have c1 := rope_1 h1
  change w1.cell? _ = some r.vf at c1
  have h2 := (rope_open h1).pull 2
  change St k w1 (rowA 3 1 r.vf r.free.length (intsC r.free) :: pt g (.cells (ropeL r).toArray 88 (0, 0)) :: rowA 107 35 r.vn (r.ms.set j MN.zero).length (nodesC (r.ms.set j MN.zero)) :: nodesS (r.ms.set j MN.zero) :: L) at h2
  obtain ⟨A, c, hvf, hnc, hcm, hA, hcf⟩ := h2.readsA.at_
  rw [hvf] at c1 h2
  have h3 := (h2.alloc (.cells #[.int .i64 (j : Int)] 3))
  have hI1 : (0 : Int) ≤ (j : Int) := by omega
  have hI2 : (j : Int) < (r.ms.length : Int) := by omega
  have H3 := Lib.hid h3
  have HA := Lib.hid (ha.give MN.zero)
  have HQ := Lib.hid hR
  clear h hv hnl hcm2 hbg hz h1 h2 h3 hvf hnc hcm hA hcf ha hR hj hjl
  go_enter Try.func66, Try.ntmps66
  go_wp2_with ((at_builtin; refine wpList_append rfl _ _ rfl Try.underlying51 info3 rfl (by decide) (n := r.free.length) (cs := intsC r.free) H3.out.swap (H3.out.readsP rfl (Nat.le_refl _) (by decide)) rfl rfl (by simp [Value.oneCell']) (by unfold maxLen; omega) (by omega) ?_; intro v' w' h5 h6; obtain ⟨A', c', rfl, -⟩ := h5.readsA.at_; have c0' : w'.cell? ⟨g, 1, none⟩ = some r.vf := blk_cell (h5.pull 2).lies 1; have f0' := blk_frozen (h5.pull 2).lies 1; have l0' := blk_lt (h5.pull 2).lies; have H5 := Lib.hid h5; clear h5 h6))
  go_end0
  have h6 := ((H5.out.pull 2).set 1 (.slice A' (r.free.length + 1) c'))
  refine HQ.out { r with ms := r.ms.set j MN.zero, free := r.free ++ [j], vf := .slice A' (r.free.length + 1) c' } _ (rope_shut ?_) HA.out ⟨rfl, rfl, rfl⟩ (by simp)
  have e1 : (r.free ++ [j]).length = r.free.length + 1 := by simp
  have e2 : intsC (r.free ++ [j]) = intsC r.free ++ [.int .i64 (j : Int)] := by simp [intsC]
  show St k _ (pt g (.cells _ 88 (0, 0)) :: rowA 107 35 r.vn (r.ms.set j MN.zero).length (nodesC (r.ms.set j MN.zero)) :: rowA 3 1 (.slice A' (r.free.length + 1) c') (r.free ++ [j]).length (intsC (r.free ++ [j])) :: nodesS (r.ms.set j MN.zero) :: L)
  rw [e1, e2]
  exact ((h6.pull 2).drop.pull 2).swap
def ofC (f : Nat → Int) : List Value := (List.range 32).map fun l => Value.int .i64 (f l)
theorem ofC_len (f : Nat → Int) : (ofC f).length = 32 := by simp [ofC]
theorem ofC_get (f : Nat → Int) {l : Nat} (h : l < 32) : (ofC f)[l]? = some (.int .i64 (f l)) := by simp [ofC, h]
theorem nodeC_of (m : MN) : nodeC m = m.ve :: m.vk :: .int .i64 m.size :: ofC m.of := rfl
theorem nodeC_3 (m : MN) {l : Nat} (h : l < 32) : (nodeC m)[3 + l]? = some (.int .i64 (m.of l)) := by
  rw [nodeC_of, show 3 + l = l + 3 by omega]
  show (ofC m.of)[l]? = _
  exact ofC_get _ h
theorem ofC_set (f : Nat → Int) (l : Nat) (u : Int) : (ofC f).set l (.int .i64 u) = ofC fun i => if i = l then u else f i := by
  apply List.ext_getElem?
  intro i
  rw [List.getElem?_set]
  by_cases hi : i < 32
  · rw [ofC_get _ hi, ofC_get _ hi, ofC_len]
    by_cases h : l = i
    · subst h; simp [hi]
    · rw [if_neg h, if_neg (Ne.symm h)]
  · rw [List.getElem?_eq_none (l := ofC f) (by rw [ofC_len]; omega), List.getElem?_eq_none (l := ofC _) (by rw [ofC_len]; omega), ofC_len]
    split
    · rw [if_neg (by omega)]
    · rfl
theorem set_self {α : Type} {l : List α} {i : Nat} {x : α} (h : l[i]? = some x) : l.set i x = l := by
  obtain ⟨h1, rfl⟩ := List.getElem?_eq_some_iff.1 h
  exact List.set_getElem_self h1
theorem nodeC_set3 (m : MN) (l : Nat) (u : Int) : nodeC { m with of := fun i => if i = l then u else m.of i } = (nodeC m).set (3 + l) (.int .i64 u) := by
  rw [nodeC_of, nodeC_of, show 3 + l = l + 3 by omega]
  simp only [List.set_cons_succ]
  rw [ofC_set]
theorem nodeC_set2 (m : MN) (u : Int) : nodeC { m with size := u } = (nodeC m).set 2 (.int .i64 u) := rfl
theorem nodeC_set0 (m : MN) (u : Value) (es : List El) : nodeC { m with ve := u, elems := es } = (nodeC m).set 0 u := rfl
theorem nodeC_set1 (m : MN) (u : Value) (ks : List Nat) : nodeC { m with vk := u, kids := ks } = (nodeC m).set 1 u := rfl
theorem nodeS_same {m m' : MN} (h : St k w (nodeS m :: L)) (h1 : m'.ve = m.ve) (h2 : m'.vk = m.vk) (h3 : m'.elems = m.elems) (h4 : m'.kids = m.kids) : St k w (nodeS m' :: L) :=
  h.head fun _ _ hA => by
    cases m; cases m'
    simp only at h1 h2 h3 h4
    subst h1 h2 h3 h4
    exact hA
/-- A number of a node is turned. -/
theorem rope_of {bn cap n j l : Nat} {m : MN} {u : Int} (h : St k w (ropeA g r :: L)) (hv : r.vn = .slice (some ⟨bn, 0, none⟩) n cap) (hj : r.ms[j]? = some m) (hl : l < 32) :
    St k (w.setCell ⟨bn, j * 35 + 3 + l, none⟩ (.int .i64 u)) (ropeA g { r with ms := r.ms.set j { m with of := fun i => if i = l then u else m.of i } } :: L) :=
  Nat.add_assoc (j * 35) 3 l ▸ rope_set (nodeS_same (rope_nodeS h hj) rfl rfl rfl rfl) hv hj (by omega) (nodeC_set3 m l u)
theorem rope_ofc {bn cap n j l : Nat} {m : MN} (h : St k w (ropeA g r :: L)) (hv : r.vn = .slice (some ⟨bn, 0, none⟩) n cap) (hj : r.ms[j]? = some m) (hl : l < 32) : w.cell? ⟨bn, j * 35 + 3 + l, none⟩ = some (.int .i64 (m.of l)) :=
  Nat.add_assoc (j * 35) 3 l ▸ rope_node h hv hj (nodeC_3 m hl)
theorem rope_size {bn cap n j : Nat} {m : MN} {u : Int} (h : St k w (ropeA g r :: L)) (hv : r.vn = .slice (some ⟨bn, 0, none⟩) n cap) (hj : r.ms[j]? = some m) :
    St k (w.setCell ⟨bn, j * 35 + 2, none⟩ (.int .i64 u)) (ropeA g { r with ms := r.ms.set j { m with size := u } } :: L) :=
  rope_set (nodeS_same (rope_nodeS h hj) rfl rfl rfl rfl) hv hj (by omega) (nodeC_set2 m u)
set_option maxRecDepth 100000 in
set_option maxHeartbeats 1000000 in
/-- counts.add, into a node's own. -/
theorem add_any {bn cap n j : Nat} {m : MN} {b : Nat → Int} (h : St k w (ropeA g r :: L)) (hv : r.vn = .slice (some ⟨bn, 0, none⟩) n cap) (hj : r.ms[j]? = some m) (hb : ∀ l, l < 32 → 0 ≤ b l ∧ b l ≤ 10000000000) (hm : ∀ l, l < 32 → 0 ≤ m.of l ∧ m.of l ≤ 10000000000)
    (hR : ∀ w', St k w' (ropeA g { r with ms := r.ms.set j { m with of := fun l => if l < 32 then m.of l + b l else m.of l } } :: L) → R (.returned (.tuple #[])) w') :
    Calls Try.prog 85 #[.pointer (some ⟨bn, j * 35 + 3, none⟩), .agg (ofC b).toArray, .int .i64 1] w R := by
  have hjl := (List.getElem?_eq_some_iff.1 hj).1
  have H := Lib.hid (h.alloc (.cells (ofC b).toArray 105))
  have HV := Lib.hid hv
  have HJ := Lib.hid hj
  have HB := Lib.hid hb
  have HM := Lib.hid hm
  have HQ := Lib.hid hR
  clear h hv hj hb hm hR
  go_enter Try.func85, Try.ntmps85
  go_wp2
  go_loopw [7] (fun i wr => ∃ q : Nat, q ≤ 32 ∧ i = .int .i64 q ∧ Hid (St k wr (pt w.heap.size (.cells (ofC b).toArray 105) :: ropeA g { r with ms := r.ms.set j { m with of := fun l => if l < q then m.of l + b l else m.of l } } :: L))) (fun i _ => 32 - (intOf i).toNat)
  case atStart => 
    refine ⟨0, by omega, rfl, Lib.hid ?_⟩
    have e : r.ms.set j { m with of := fun l => if l < 0 then m.of l + b l else m.of l } = r.ms := by
      simp only [Nat.not_lt_zero, if_false]
      exact set_self HJ.out
    rw [e]
    exact H.out
  case round =>
    obtain ⟨q, hq, rfl, HS⟩ := hrel
    by_cases hlt : q < 32
    · have c1 : wr.cell? ⟨w.heap.size, q, none⟩ = some (.int .i64 (b q)) := by rw [blk_cell HS.out.lies]; simpa using ofC_get b hlt
      have hj2 : (r.ms.set j { m with of := fun l => if l < q then m.of l + b l else m.of l })[j]? = some { m with of := fun l => if l < q then m.of l + b l else m.of l } := List.getElem?_set_self hjl
      have c2 := rope_ofc HS.out.swap HV.out hj2 hlt
      simp only [Nat.lt_irrefl, if_false] at c2
      have f2 := rope_nodef HS.out.swap HV.out (j * 35 + 3 + q)
      have hset := rope_of (u := m.of q + b q) HS.out.swap HV.out hj2 hlt
      obtain ⟨b1, b2⟩ := HB.out q hlt
      obtain ⟨b3, b4⟩ := HM.out q hlt
      have HSET := Lib.hid hset
      have hbl := World.block_lt_of_cell? _ _ c2
      clear hset hj2
      go_wp2
      go_region
      go_wp2
      go_roundw
      case rel =>
        refine ⟨q + 1, by omega, by go_num, Lib.hid ?_⟩
        have e : (fun i => if i = q then m.of q + b q else if i < q then m.of i + b i else m.of i) = fun l => if l < q + 1 then m.of l + b l else m.of l := by
          funext i
          by_cases h1 : i = q
          · subst h1; simp
          · rw [if_neg h1]
            by_cases h2 : i < q
            · rw [if_pos h2, if_pos (by omega)]
            · rw [if_neg h2, if_neg (by omega)]
        have h1 := HSET.out.swap
        simp only [List.set_set, e] at h1
        exact h1.drew
      case measure => simp [intOf]; omega
    · obtain rfl : q = 32 := by omega
      go_wp2
      go_end0
      exact HQ.out _ HS.out.drop
end
end Go.Proofs.Ytdgaffcfcgmfnaa
