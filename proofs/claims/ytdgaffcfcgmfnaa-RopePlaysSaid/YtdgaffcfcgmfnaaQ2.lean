/- walk, at one node. -/
import Derived.Test.YtdgaffcfcgmfnaaQ1
import Derived.Test.YtdgaffcfcgmfnaaR9
import Derived.RangeFuncLeaves
import Derived.Shelf.Abstract
import Derived.Shelf.RegionOpen
import Derived.WalkKit
import Derived.TacticsInMore
import Derived.LoopIn
namespace Go.Proofs.Ytdgaffcfcgmfnaa
open Go.RowKit Go.Sl Go.Shelf

attribute [local go_sem] Oper.semAt_some
attribute [local go_sem ↓ high] load107 store107 load105 store105 slice82
section
variable {k w : World} {L : List Asn} {g : Nat} {r : RM}
set_option maxRecDepth 100000 in
set_option maxHeartbeats 1000000 in
theorem walk_node {j l n : Nat} {m : MN} {ps : List Part} {J : List El → Asn} {pre : List El} (hj : r.ms[j]? = some m) (hk : m.kids = partsK ps) (hp : ps.length ≤ 8) (hel : m.elems.length ≤ 10000000000)
    (hY : ∀ a x b, m.elems = a ++ x :: b → Round Try.prog k l #[elV x] (Asg.list [ropeA g r, J (pre ++ a)]) (Asg.list [ropeA g r, J (pre ++ (a ++ [x]))]))
    (hK : ∀ a q b, ps = a ++ q :: b → ∀ (n : Nat) W L, St k W (ropeA g r :: J (pre ++ (m.elems ++ partsE a)) :: L) → CallsIn Fence.wide n Try.prog 79 #[.pointer (some ⟨g, 0, none⟩), .int .i64 (q.1 : Nat), .func (.yield l) #[] #[]] W fun e W' => e = .returned (.bool true) ∧ St k W' (ropeA g r :: J (pre ++ (m.elems ++ (partsE a ++ q.2))) :: L))
    (hs : St k w (ropeA g r :: J pre :: L)) :
    CallsIn Fence.wide n Try.prog 79 #[.pointer (some ⟨g, 0, none⟩), .int .i64 (j : Nat), .func (.yield l) #[] #[]] w fun e W' => e = .returned (.bool true) ∧ St k W' (ropeA g r :: J (pre ++ (m.elems ++ partsE ps)) :: L) := by
  have hjl := (List.getElem?_eq_some_iff.1 hj).1
  obtain ⟨bn, cap, hv, -, -, -⟩ := rope_nodes hs hjl
  have c0 := rope_0 hs
  rw [hv] at c0
  have hld := load_run (P := Try.prog) (ty := 107) (b := bn) (o := j * 35) (cs := nodeC m) (w := w) (fun t u hu => rope_node hs hv hj hu) Try.underlying107 rfl (by simpa [nodeC_len] using size107)
  rw [load107] at hld
  have b1 : (j : Int) < (r.ms.length : Int) := by omega
  have b2 : (0 : Int) ≤ (j : Int) := by omega
  have H := Lib.hid hs
  have HK := Lib.hid hK
  have HY := Lib.hid hY
  have HP := Lib.hid hp
  have HKI := Lib.hid hk
  have HJ := Lib.hid hj
  have HV := Lib.hid hv
  obtain ⟨⟨Ae, ce, hve, -⟩, Ak, ck, hvk, -⟩ := rope_heads hs hj
  have hone : ∀ u ∈ (nodeC m).toArray.toList, u.oneCell' = true := by simpa using nodeC_one (m := m) hve hvk
  have HO := Lib.hid hone
  have HVE := Lib.hid hve
  have HVK := Lib.hid hvk
  clear hs hj hk hp hY hK hv hone hjl hve hvk
  refine callsIn_of_wp Try.func79 rfl trivial ?_ rfl
  simp only [Try.ntmps79, List.size_toArray, List.length_cons, List.length_nil, Nat.reduceAdd, Nat.reduceSub, Array.replicate_succ, Array.replicate_zero, List.push_toArray, List.append_toArray, List.nil_append, List.cons_append]
  gi_wp2_with (refine wpListIn_store_all rfl _ _ rfl (H.out.alloc _) rfl rfl (by simpa [nodeC_len] using size107) (by simpa using HO.out) (by simp [nodeC_len]) ?_; intro w1 h1; have v0 := blk_cell h1.lies 0; have v1 := blk_cell h1.lies 1; change _ = some m.ve at v0; change _ = some m.vk at v1; rw [HVE.out] at v0; rw [HVK.out] at v1; have H1 := Lib.hid h1; clear h1)
  obtain ⟨bl, hbl⟩ : ∃ bl, w.heap.size = bl := ⟨_, rfl⟩
  rw [hbl] at v0 v1 H1 ⊢
  clear v0 hld c0
  gi_loopw [23] (fun s wr => ∃ q : Nat, q ≤ m.elems.length ∧ s = .int .i64 q ∧ Hid (St k wr (pt bl (.cells (nodeC m).toArray 107 (0, 0)) :: ropeA g r :: J (pre ++ m.elems.take q) :: L))) (fun s _ => m.elems.length - (intOf s).toNat)
  case atStart => exact ⟨0, by omega, rfl, by simpa using H1⟩
  case round =>
    obtain ⟨q, hq, rfl, HW⟩ := hrel
    by_cases hlt : q < m.elems.length
    · have h2 := HW.out.swap
      obtain ⟨be, oe, hAe, hcell⟩ := rope_elems h2 HJ.out HVE.out (by omega)
      obtain ⟨e, he⟩ : ∃ e, m.elems[q]? = some e := ⟨_, List.getElem?_eq_getElem hlt⟩
      have e0 := hcell q e 0 _ he rfl
      have e1 := hcell q e 1 _ he rfl
      have e2 := hcell q e 2 _ he rfl
      rw [Nat.add_zero] at e0
      have htk : m.elems.take (q + 1) = m.elems.take q ++ [e] := by rw [List.take_add_one, he]; rfl
      have hsp : m.elems = m.elems.take q ++ e :: m.elems.drop (q + 1) := by
        conv => lhs; rw [← List.take_append_drop q m.elems, List.drop_eq_getElem_cons hlt]
        rw [List.getElem?_eq_getElem hlt] at he
        injection he with he
        rw [he]
      have h3 := h2.alloc (.cells #[.int .i64 e.id, .int .i32 e.rune, .int .i64 e.label] 39)
      have h4 := St.shut_list [ropeA g r, J (pre ++ m.elems.take q)] ((h3.drop.pull 2).swap)
      have hb2 : (q : Int) < (m.elems.length : Int) := by omega
      obtain ⟨fn, tmps, assign, body, hy, hR⟩ := HY.out _ e _ hsp (n - 1) _ _ h4
      dsimp only [elV] at hy
      have HT := Lib.hid htk
      clear h2 h3 h4 hcell hsp he htk
      subst hAe
      gi_wp2_with ((try refine ⟨fun h => by simp [Fence.wide] at h, ?_⟩); refine hR.mono ?_; clear hR; rintro e' W2 ⟨rfl, h5⟩)
      have h6 := (h5.open_list (M := [ropeA g r, J (pre ++ (m.elems.take q ++ [e]))])).pull 2
      rw [← HT.out] at h6
      have H6 := Lib.hid h6
      clear h5 h6
      have hn : (m.elems.length : Int) ≤ 10000000000 := by omega
      gi_wp2
      go_roundw
      case rel => exact ⟨q + 1, by omega, by go_num, H6⟩
      case measure => simp [intOf]; omega
    · obtain rfl : q = m.elems.length := by omega
      have h2 := HW.out
      rw [List.take_length] at h2
      have v1 := blk_cell h2.lies 1
      change _ = some m.vk at v1
      rw [HVK.out] at v1
      have H2 := Lib.hid h2
      clear h2 HW
      gi_wp2
      have hkl : m.kids.length = ps.length := by rw [HKI.out]; simp [partsK]
      rw [hkl] at HVK ⊢
      gi_loopw [35] (fun s wr => ∃ q : Nat, q ≤ ps.length ∧ s = .int .i64 q ∧ Hid (St k wr (pt bl (.cells (nodeC m).toArray 107 (0, 0)) :: ropeA g r :: J (pre ++ (m.elems ++ partsE (ps.take q))) :: L))) (fun s _ => ps.length - (intOf s).toNat)
      case atStart => exact ⟨0, by omega, rfl, by simpa [partsE] using H2⟩
      case round =>
        obtain ⟨q, hq, rfl, HW⟩ := hrel
        by_cases hlt : q < ps.length
        · have h2 := HW.out.swap
          obtain ⟨bk, ok, rfl, hcell⟩ := rope_kids h2 HJ.out HVK.out (by omega)
          have e0 := hcell q (ps[q]).1 (by rw [HKI.out]; simp [partsK, hlt])
          have hdec := (List.take_append_drop q ps).symm
          rw [List.drop_eq_getElem_cons hlt] at hdec
          have h3 := HK.out _ _ _ hdec (n - 1) _ _ (h2.pull 2 |>.swap)
          have htk := partsE_take ps q hlt
          rw [← htk] at h3
          have HD := Lib.hid h3
          have hb2 : (q : Int) < (ps.length : Int) := by omega
          have hb3 : (ps.length : Int) ≤ 8 := by have := HP.out; omega
          obtain ⟨x, hx⟩ : ∃ x, (ps[q]).1 = x := ⟨_, rfl⟩
          rw [hx] at HD e0
          clear h2 h3 hcell hdec htk hx
          gi_wp2_with (refine ⟨trivial, fun h => by simp [Fence.wide] at h, ?_⟩; gi_at_call 79; refine HD.out.mono ?_; clear HD; rintro e' W2 ⟨rfl, h5⟩; have H6 := Lib.hid (h5.pull 2); clear h5)
          go_roundw
          case rel => exact ⟨q + 1, by omega, by go_num, H6⟩
          case measure => simp [intOf]; omega
        · obtain rfl : q = ps.length := by omega
          have h2 := HW.out
          rw [List.take_length] at h2
          have H2 := Lib.hid h2.drop
          clear h2 HW
          gi_wp2
          go_ret
          exact ⟨rfl, H2.out⟩
end
end Go.Proofs.Ytdgaffcfcgmfnaa
