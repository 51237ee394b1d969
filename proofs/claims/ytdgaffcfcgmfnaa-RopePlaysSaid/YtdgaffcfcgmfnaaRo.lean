/- A sequence (rope.Rope) as it lies in memory. -/
import Derived.Test.YtdgaffcfcgmfnaaZb
import Derived.Test.YtdgaffcfcgmfnaaXe
import Derived.Test.YtdgaffcfcgmfnaaXi
namespace Go.Proofs.Ytdgaffcfcgmfnaa
open Go.RowKit Go.Sl

/-- What is shared of a node. -/
def nodeS (m : MN) : Asn :=
  ⟨fun _ p => (rowS 3 m.ve m.elems.length (elsC m.elems)).holds PH.none p ∧ (rowS 1 m.vk m.kids.length (intsC m.kids)).holds PH.none p ∧ (m.vk = .slice none 0 0 ↔ m.kids = []),
   fun _ hp ⟨h1, h2, h3⟩ => ⟨Asg.mono _ (PH.le.refl _) hp h1, Asg.mono _ (PH.le.refl _) hp h2, h3⟩⟩
theorem nodeS_shared (m : MN) : Shared (nodeS m) := ⟨fun h => h⟩
def nodesS (ms : List MN) : Asn := ⟨fun _ p => ∀ m ∈ ms, (nodeS m).holds PH.none p, fun _ hp h m hm => Asg.mono _ (PH.le.refl _) hp (h m hm)⟩
theorem nodesS_shared (ms : List MN) : Shared (nodesS ms) := ⟨fun h => h⟩
/-- A sequence's parts. -/
structure RM where
  ms : List MN
  free : List Nat
  root : Nat
  labels : Nat
  sees : List Bool
  vn : Value
  vf : Value
def ropeL (r : RM) : List Value := r.vn :: r.vf :: .int .i64 r.root :: .int .i64 r.labels :: (r.sees.map Value.bool ++ [.bool true])
def ropeP (g : Nat) (r : RM) : List Asn := [pt g (.cells (ropeL r).toArray 88 (0, 0)), rowA 107 35 r.vn r.ms.length (nodesC r.ms), rowA 3 1 r.vf r.free.length (intsC r.free), nodesS r.ms]
/-- The sequence behind a pointer to block g. -/
def ropeA (g : Nat) (r : RM) : Asn := Asg.list (ropeP g r)

section
variable {k w : World} {L : List Asn} {g : Nat} {r : RM}
theorem rope_open (h : St k w (ropeA g r :: L)) : St k w (pt g (.cells (ropeL r).toArray 88 (0, 0)) :: rowA 107 35 r.vn r.ms.length (nodesC r.ms) :: rowA 3 1 r.vf r.free.length (intsC r.free) :: nodesS r.ms :: L) := h.open_list
theorem rope_shut (h : St k w (pt g (.cells (ropeL r).toArray 88 (0, 0)) :: rowA 107 35 r.vn r.ms.length (nodesC r.ms) :: rowA 3 1 r.vf r.free.length (intsC r.free) :: nodesS r.ms :: L)) : St k w (ropeA g r :: L) := h.shut_list (ropeP g r)
theorem rope_cell (h : St k w (ropeA g r :: L)) (j : Nat) : w.cell? ⟨g, j, none⟩ = (ropeL r)[j]? := by
  rw [blk_cell (rope_open h).lies j]; simp
theorem rope_0 (h : St k w (ropeA g r :: L)) : w.cell? ⟨g, 0, none⟩ = some r.vn := rope_cell h 0
theorem rope_1 (h : St k w (ropeA g r :: L)) : w.cell? ⟨g, 1, none⟩ = some r.vf := rope_cell h 1
theorem rope_2 (h : St k w (ropeA g r :: L)) : w.cell? ⟨g, 2, none⟩ = some (.int .i64 r.root) := rope_cell h 2
theorem rope_3 (h : St k w (ropeA g r :: L)) : w.cell? ⟨g, 3, none⟩ = some (.int .i64 r.labels) := rope_cell h 3
theorem rope_f (h : St k w (ropeA g r :: L)) (j : Nat) : w.frozen? ⟨g, j, none⟩ = false := blk_frozen (rope_open h).lies j
theorem rope_made (h : St k w (ropeA g r :: L)) (hs : r.sees.length = 1024) : w.cell? ⟨g, 1028, none⟩ = some (.bool true) := by
  rw [rope_cell h]
  show (r.sees.map Value.bool ++ [Value.bool true])[1024]? = _
  rw [List.getElem?_append_right (by simp [hs])]
  simp [hs]
theorem rope_sees (h : St k w (ropeA g r :: L)) {j : Nat} {b : Bool} (hj : r.sees[j]? = some b) : w.cell? ⟨g, 4 + j, none⟩ = some (.bool b) := by
  rw [rope_cell h]
  show (ropeL r)[4 + j]? = _
  rw [show 4 + j = j + 4 by omega]
  show (r.sees.map Value.bool ++ [Value.bool true])[j]? = _
  have hlt := (List.getElem?_eq_some_iff.1 hj).1
  rw [List.getElem?_append_left (by simpa using hlt)]
  simp [hj]
/-- Where the nodes lie. -/
theorem rope_nodes (h : St k w (ropeA g r :: L)) {j : Nat} (hj : j < r.ms.length) : ∃ bn cap, r.vn = .slice (some ⟨bn, 0, none⟩) r.ms.length cap ∧ r.ms.length ≤ cap ∧ cap ≤ maxLen ∧ bn ≠ g := by
  rcases (rope_open h).swap.openA with ⟨_, h0, _⟩ | ⟨bn, cap, cur, hv, hn, hc, hs, ht, hl, h'⟩
  · omega
  · exact ⟨bn, cap, hv, hn, hc, h'.ne⟩
/-- A node's cells. -/
theorem rope_node (h : St k w (ropeA g r :: L)) {bn cap n : Nat} (hv : r.vn = .slice (some ⟨bn, 0, none⟩) n cap) {j : Nat} {m : MN} (hj : r.ms[j]? = some m) {t : Nat} {u : Value} (ht : (nodeC m)[t]? = some u) : w.cell? ⟨bn, j * 35 + t, none⟩ = some u := by
  have htl : t < 35 := by have := (List.getElem?_eq_some_iff.1 ht).1; rwa [nodeC_len] at this
  obtain ⟨A, c, hv', -, -, -, hc⟩ := (rope_open h).swap.readsA.at_
  rw [hv] at hv'
  injection hv' with hv' _ _
  have := (hc _ hv'.symm).2 (j * 35 + t) u (by
    unfold nodesC
    rw [flat_get nodeC_len _ _ _ htl, hj]; exact ht)
  simpa using this
theorem rope_nodef (h : St k w (ropeA g r :: L)) {bn cap n : Nat} (hv : r.vn = .slice (some ⟨bn, 0, none⟩) n cap) (j : Nat) : w.frozen? ⟨bn, j, none⟩ = false := by
  rcases (rope_open h).swap.openA with ⟨h0, _⟩ | ⟨bn', cap', cur, hv', hn, hc, hs, ht, hl, h'⟩
  · rw [h0] at hv; injection hv with hv; cases hv
  · rw [hv] at hv'
    injection hv' with e1 e2 e3
    injection e1 with e1
    injection e1 with e1
    subst e1
    exact blk_frozen h'.lies j
theorem rope_nodeS (h : St k w (ropeA g r :: L)) {j : Nat} {m : MN} (hj : r.ms[j]? = some m) : St k w (nodeS m :: ropeA g r :: L) := by
  have h1 := ((rope_open h).pull 3).again (nodesS_shared _)
  have h2 : St k w (nodeS m :: nodesS r.ms :: pt g (.cells (ropeL r).toArray 88 (0, 0)) :: rowA 107 35 r.vn r.ms.length (nodesC r.ms) :: rowA 3 1 r.vf r.free.length (intsC r.free) :: L) :=
    h1.head fun a p hA => Asg.mono _ (PH.none_le _) (PH.le.refl _) (hA m (List.mem_of_getElem? hj))
  exact (rope_shut ((h2.push 4).push 3)).swap
/-- A store into a node. -/
theorem rope_set {bn cap n j t : Nat} {m m' : MN} {u : Value} (h : St k w (nodeS m' :: ropeA g r :: L)) (hv : r.vn = .slice (some ⟨bn, 0, none⟩) n cap) (hj : r.ms[j]? = some m) (ht : t < 35) (hu : nodeC m' = (nodeC m).set t u) :
    St k (w.setCell ⟨bn, j * 35 + t, none⟩ u) (ropeA g { r with ms := r.ms.set j m' } :: L) := by
  have hjl : j < r.ms.length := (List.getElem?_eq_some_iff.1 hj).1
  have h1 := (rope_open h.swap).pull 1
  rcases h1.openA with ⟨h0, _⟩ | ⟨bn', cap', cur, hv', hn, hc, hs, htk, hl, h'⟩
  · rw [h0] at hv; injection hv with hv; cases hv
  · have hv2 := hv
    rw [hv'] at hv
    injection hv with e1 e2 e3
    injection e1 with e1
    injection e1 with e1
    subst e1 e3
    have h2 := h'.set (j * 35 + t) u
    have h3 := h2.shutA (n := r.ms.length) (cs := (nodesC r.ms).set (j * 35 + t) u) hn hc (by simpa using hs) (by
      rw [Array.toList_setIfInBounds, List.take_set, htk])
    unfold nodesC at h3
    rw [flat_set nodeC_len _ _ _ m m' u ht hj hu] at h3
    have h4 := (h3.pull 4).pull 4
    have h5 := h4.merge (C := nodesS (r.ms.set j m')) (nodesS_shared _) (nodeS_shared _) (fun p hA hB m hm => by
      rcases List.mem_or_eq_of_mem_set hm with h6 | rfl
      · exact hA m h6
      · exact hB)
    refine rope_shut (r := { r with ms := r.ms.set j m' }) ?_
    show St k _ (pt g (.cells (ropeL r).toArray 88 (0, 0)) :: rowA 107 35 r.vn (r.ms.set j m').length (nodesC (r.ms.set j m')) :: rowA 3 1 r.vf r.free.length (intsC r.free) :: nodesS (r.ms.set j m') :: L)
    rw [List.length_set, hv']
    exact (h5.push 3).swap
/-- The row of free places is cut. -/
theorem rope_cutf {A : Option Addr} {n c i : Nat} (h : St k w (ropeA g r :: L)) (hv : r.vf = .slice A n c) (hi : i ≤ r.free.length) : St k (w.setCell ⟨g, 1, none⟩ (.slice A i c)) (ropeA g { r with vf := .slice A i c, free := r.free.take i } :: L) := by
  have h1 := (rope_open h).set 1 (.slice A i c)
  have h2 := h1.pull 2
  have e : n = r.free.length := by
    obtain ⟨A', c', hv', -⟩ := h2.readsA.at_
    rw [hv] at hv'; injection hv'
  subst e
  have h3 : St k (w.setCell ⟨g, 1, none⟩ (.slice A i c)) (rowA 3 1 r.vf r.free.length (intsC r.free) :: pt g (.cells ((ropeL r).toArray.setIfInBounds 1 (.slice A i c)) 88 (0, 0)) :: rowA 107 35 r.vn r.ms.length (nodesC r.ms) :: nodesS r.ms :: L) := h2
  rw [hv] at h3
  have h5 := (h3.cutA hi).push 2
  refine rope_shut (r := { r with vf := .slice A i c, free := r.free.take i }) ?_
  have e1 : (r.free.take i).length = i := by rw [List.length_take, Nat.min_eq_left hi]
  have e2 : intsC (r.free.take i) = (intsC r.free).take (i * 1) := by simp [intsC]
  show St k _ (pt g (.cells _ 88 (0, 0)) :: rowA 107 35 r.vn r.ms.length (nodesC r.ms) :: rowA 3 1 (.slice A i c) (r.free.take i).length (intsC (r.free.take i)) :: nodesS r.ms :: L)
  rw [e1, e2]
  exact h5
/-- A whole node is stored. -/
theorem rope_put {bn cap n j : Nat} {m m' : MN} (h : St k w (nodeS m' :: ropeA g r :: L)) (hv : r.vn = .slice (some ⟨bn, 0, none⟩) n cap) (hj : r.ms[j]? = some m) (h1 : ∀ u ∈ nodeC m', u.oneCell' = true) (hi : (Try.prog.info? 107).map (·.size) = some 35) :
    ∃ w', (Instr.storeAt 107 (.pointer (some ⟨bn, j * 35, none⟩)) (.agg (nodeC m').toArray)).run Try.prog w = .ok () w' ∧ St k w' (ropeA g { r with ms := r.ms.set j m' } :: L) := by
  have hjl : j < r.ms.length := (List.getElem?_eq_some_iff.1 hj).1
  have h2 := (rope_open h.swap).pull 1
  rcases h2.openA with ⟨h0, _⟩ | ⟨bn', cap', cur, hv', hn, hc, hs, htk, hl, h'⟩
  · rw [h0] at hv; injection hv with hv; cases hv
  · rw [hv'] at hv
    injection hv with e1 e2 e3
    injection e1 with e1
    injection e1 with e1
    subst e1 e3
    have hfit : j * 35 + (nodeC m').length ≤ cur.size := by rw [nodeC_len, hs]; omega
    refine ⟨_, store_run (P := Try.prog) (ty := 107) h'.lies (j * 35) (by simpa [nodeC_len] using hi) (by simpa using h1) (by simpa using hfit), ?_⟩
    have h3 := (h'.setRow (c' := spl cur (j * 35) (nodeC m'))).shutA (n := r.ms.length) (cs := nodesC (r.ms.set j m')) hn hc (by rw [spl_size _ _ _ hfit]; exact hs) (by
      exact flat_put nodeC_len htk j m' hjl)
    have h4 := (h3.pull 4).pull 4
    have h5 := h4.merge (C := nodesS (r.ms.set j m')) (nodesS_shared _) (nodeS_shared _) (fun p hA hB m hm => by
      rcases List.mem_or_eq_of_mem_set hm with h6 | rfl
      · exact hA m h6
      · exact hB)
    refine rope_shut (r := { r with ms := r.ms.set j m' }) ?_
    show St k _ (pt g (.cells (ropeL r).toArray 88 (0, 0)) :: rowA 107 35 r.vn (r.ms.set j m').length (nodesC (r.ms.set j m')) :: rowA 3 1 r.vf r.free.length (intsC r.free) :: nodesS (r.ms.set j m') :: L)
    rw [List.length_set, hv']
    exact (h5.push 3).swap
end
end Go.Proofs.Ytdgaffcfcgmfnaa
