/- What is read of a sequence: seen, kid, at. -/
import Derived.Test.YtdgaffcfcgmfnaaR3
namespace Go.Proofs.Ytdgaffcfcgmfnaa
open Go.RowKit Go.Sl

attribute [local go_sem ↓ high] load107 store107 load105 store105 slice82
/-- Of numbers by labels, those that are seen. -/
def seenL (sees : List Bool) (v : Nat) (f : Nat → Int) : Nat → Int
  | 0 => 0
  | q + 1 => seenL sees v f q + if sees.getD (v * 32 + q) false = true then f q else 0
theorem seenL_bd (sees : List Bool) (v : Nat) (f : Nat → Int) (B : Int) (h : ∀ l, l < 32 → 0 ≤ f l ∧ f l ≤ B) : ∀ q, q ≤ 32 → 0 ≤ seenL sees v f q ∧ seenL sees v f q ≤ q * B
  | 0, _ => by simp [seenL]
  | q + 1, hq => by
    have ih := seenL_bd sees v f B h q (by omega)
    have h1 := h q (by omega)
    simp only [seenL]
    have e : ((q + 1 : Nat) : Int) * B = q * B + B := by rw [Int.natCast_add, Int.add_mul]; simp
    rw [e]
    split <;> omega
section
variable {k w : World} {L : List Asn} {g : Nat} {r : RM} {R : Ending → World → Prop}
theorem load_of {bn cap n j : Nat} {m : MN} (h : St k w (ropeA g r :: L)) (hv : r.vn = .slice (some ⟨bn, 0, none⟩) n cap) (hj : r.ms[j]? = some m) :
    (loadBig 105 (.pointer (some ⟨bn, j * 35 + 3, none⟩))).run Try.prog w = .ok (.agg (ofC m.of).toArray) w := by
  have := load_run (P := Try.prog) (ty := 105) (b := bn) (o := j * 35 + 3) (cs := ofC m.of) (w := w) (by
    intro t u hu
    have ht : t < 32 := by have := (List.getElem?_eq_some_iff.1 hu).1; rwa [ofC_len] at this
    rw [ofC_get _ ht] at hu
    rw [rope_ofc h hv hj ht]; exact hu) Try.underlying105 rfl (by simpa [ofC_len] using size105)
  exact this
def indexBig (t : TypeId) (a i : Value) : Sem Value := Instr.index t a i
theorem index105 (a i : Value) : Instr.index 105 a i = indexBig 105 a i := rfl
theorem index_of (f : Nat → Int) (q : Nat) (hq : q < 32) (w : World) : (indexBig 105 (.agg (ofC f).toArray) (.int .i64 q)).run Try.prog w = .ok (.int .i64 (f q)) w := by
  have hz : (sizeOf 3).run Try.prog w = .ok 1 w := size_run (by kernel_rfl)
  simp [indexBig, Instr.index, asIntOf, run_underlying Try.underlying105, part, hz, ofC_get f hq]
  intro h
  omega
attribute [local go_sem ↓ high] index105
set_option maxRecDepth 100000 in
set_option maxHeartbeats 1000000 in
theorem seen_any {bn cap n j v : Nat} {m : MN} (h : St k w (ropeA g r :: L)) (hv : r.vn = .slice (some ⟨bn, 0, none⟩) n cap) (hj : r.ms[j]? = some m) (hvw : v < 32) (hs : r.sees.length = 1024) (hm : ∀ l, l < 32 → 0 ≤ m.of l ∧ m.of l ≤ 10000000000)
    (hR : R (.returned (.int .i64 (seenL r.sees v m.of 32))) w) : Calls Try.prog 57 #[.pointer (some ⟨g, 0, none⟩), .int .i64 v, .int .i64 j] w R := by
  have hjl := (List.getElem?_eq_some_iff.1 hj).1
  have c0 := rope_0 h
  rw [hv, (show n = r.ms.length from by
    obtain ⟨A, c, hv', -⟩ := (rope_open h).swap.readsA.at_
    rw [hv] at hv'; injection hv')] at c0
  have hld := load_of h hv hj
  have hsee : ∀ q, q < 32 → w.cell? ⟨g, 4 + v * 32 + q, none⟩ = some (.bool (r.sees.getD (v * 32 + q) false)) := fun q hq => by
    rw [Nat.add_assoc]
    refine rope_sees h ?_
    rw [List.getD_eq_getElem?_getD, List.getElem?_eq_getElem (by omega)]
    rfl
  have HBD := Lib.hid (seenL_bd r.sees v m.of 10000000000 hm)
  have HM := Lib.hid hm
  have HS := Lib.hid hsee
  have HR := Lib.hid hR
  have b1 : (0 : Int) ≤ (v : Int) := by omega
  have b2 : (v : Int) < 32 := by omega
  have b3 : (j : Int) < (r.ms.length : Int) := by omega
  have b4 : (0 : Int) ≤ (j : Int) := by omega
  clear h hv hj hs hm hR hsee
  go_enter Try.func57, Try.ntmps57
  go_wp2
  go_loop [7, 19] (fun t i => ∃ q : Nat, q ≤ 32 ∧ i = .int .i64 q ∧ ∃ s : Int, t = .int .i64 s ∧ Hid (s = seenL r.sees v m.of q)) (fun _ i => 32 - (intOf i).toNat)
  case atStart => exact ⟨0, by omega, rfl, 0, rfl, Lib.hid rfl⟩
  case round =>
    obtain ⟨q, hq, rfl, s, rfl, hs⟩ := hrel
    by_cases hlt : q < 32
    · have c1 := HS.out q hlt
      have c2 := index_of m.of q hlt w
      have b5 : (q : Int) < 32 := by omega
      have hb := HBD.out q hq
      rw [← hs.out] at hb
      obtain ⟨b6, b7⟩ := hb
      have b8 : s ≤ 320000000000 := by omega
      obtain ⟨b9, b10⟩ := HM.out q hlt
      obtain ⟨y, hy⟩ : ∃ y, r.sees.getD (v * 32 + q) false = y := ⟨_, rfl⟩
      rw [hy] at c1
      have HY := Lib.hid hy
      clear hy b7
      cases y
      all_goals
        go_wp2
        go_round
        case rel =>
          refine ⟨q + 1, by omega, by go_num, _, rfl, Lib.hid ?_⟩
          simp only [seenL, HY.out, hs.out]
          simp
        case measure => simp [intOf]; omega
    · obtain rfl : q = 32 := by omega
      have e := hs.out
      have HE := Lib.hid e
      clear e
      go_wp2
      rw [HE.out]
      exact HR.out
set_option maxRecDepth 100000 in
set_option maxHeartbeats 1000000 in
theorem kid_any {bn cap n j i : Nat} {iI : Int} {m : MN} {ps : List Part} (h : St k w (ropeA g r :: L)) (hv : r.vn = .slice (some ⟨bn, 0, none⟩) n cap) (hj : r.ms[j]? = some m) (hk : m.kids = partsK ps) (hne : ps ≠ [])
    (hkid : ∀ q (hq : q < ps.length), ∃ x, r.ms[(ps[q]).1]? = some x ∧ x.size = (ps[q]).2.length) (hI : iI = (i : Int)) (hi : i ≤ 10000000000) (hps : ps.length ≤ 1000)
    (hR : ∀ (a : List Part) q b (rest : Nat), ps = a ++ q :: b → i = (partsE a).length + rest → (rest < q.2.length ∨ b = []) → R (.returned (.tuple #[.int .i64 a.length, .int .i64 rest])) w) :
    Calls Try.prog 59 #[.pointer (some ⟨g, 0, none⟩), .int .i64 j, .int .i64 iI] w R := by
  subst hI
  have hjl := (List.getElem?_eq_some_iff.1 hj).1
  have hnl : n = r.ms.length := by
    obtain ⟨A, c, hv', -⟩ := (rope_open h).swap.readsA.at_
    rw [hv] at hv'; injection hv'
  subst hnl
  have c0 := rope_0 h
  rw [hv] at c0
  obtain ⟨-, Ak, ck, hvk, hnk, hck, hAk⟩ := rope_heads h hj
  have n1 := rope_node h hv hj (t := 1) rfl
  have hpl : 0 < ps.length := List.length_pos_iff.2 hne
  have ekl : m.kids.length = ps.length := by rw [hk]; simp [partsK]
  obtain ⟨bk, ok, rfl, hcell⟩ := rope_kids h hj hvk (by omega)
  rw [hvk, ekl] at n1
  have hkc : ∀ q (hq : q < ps.length), w.cell? ⟨bk, ok + q, none⟩ = some (.int .i64 ((ps[q]).1 : Nat)) := fun q hq => hcell q _ (by rw [hk]; simp [partsK, hq])
  have hks : ∀ q (hq : q < ps.length), (ps[q]).1 < r.ms.length ∧ w.cell? ⟨bn, (ps[q]).1 * 35 + 2, none⟩ = some (.int .i64 ((ps[q]).2.length : Nat)) := fun q hq => by
    obtain ⟨x, hx, hxs⟩ := hkid q hq
    refine ⟨(List.getElem?_eq_some_iff.1 hx).1, ?_⟩
    rw [← hxs]
    exact rope_node h hv hx (t := 2) rfl
  have b1 : (j : Int) < (r.ms.length : Int) := by omega
  have b2 : (0 : Int) ≤ (j : Int) := by omega
  have HKC := Lib.hid hkc
  have HKS := Lib.hid hks
  have HQ := Lib.hid hR
  clear h hv hj hk hne hkid hR hnk hck hAk hvk ekl hcell hkc hks
  go_enter Try.func59, Try.ntmps59
  go_wp2
  go_loop [2, 23] (fun t x => ∃ q c : Nat, q ≤ ps.length ∧ x = .int .i64 q ∧ t = .int .i64 c ∧ c ≤ 10000000000 ∧ Hid (i = (partsE (ps.take q)).length + c) ∧ (0 < q → q < ps.length)) (fun _ x => ps.length - (intOf x).toNat)
  case atStart => exact ⟨0, i, by omega, rfl, rfl, hi, Lib.hid (by simp [partsE]), by omega⟩
  case round =>
    obtain ⟨q, c, hq, rfl, rfl, hc, hic, hq2⟩ := hrel
    have hlt : q < ps.length := by omega
    obtain ⟨hl1, s1⟩ := HKS.out q hlt
    have s0 := HKC.out q hlt
    obtain ⟨kd, hkd⟩ : ∃ kd, (ps[q]).1 = kd := ⟨_, rfl⟩
    obtain ⟨N, hN⟩ : ∃ N, (ps[q]).2.length = N := ⟨_, rfl⟩
    rw [hkd] at s0 s1 hl1
    rw [hN] at s1
    have b3 : (kd : Int) < (r.ms.length : Int) := by omega
    have b4 : (0 : Int) ≤ (kd : Int) := by omega
    have hdec := (List.take_append_drop q ps).symm
    rw [List.drop_eq_getElem_cons hlt] at hdec
    have hfin : (c < N ∨ ps.drop (q + 1) = []) → R (.returned (.tuple #[.int .i64 q, .int .i64 c])) w := fun ho => by
      have := HQ.out (ps.take q) (ps[q]) (ps.drop (q + 1)) c hdec hic.out (by rw [hN]; exact ho)
      rwa [List.length_take, Nat.min_eq_left hq] at this
    have HFIN := Lib.hid hfin
    have hlast : q + 1 = ps.length → ps.drop (q + 1) = [] := fun e => List.drop_eq_nil_iff.2 (by omega)
    have HLAST := Lib.hid hlast
    have htk := partsE_take ps q hlt
    have HTK := Lib.hid htk
    have HN := Lib.hid hN
    clear hdec hfin hlast htk hN hkd
    by_cases hcN : c < N
    · have hcN2 : (c : Int) < (N : Int) := by omega
      have HF := Lib.hid (HFIN.out (.inl hcN))
      go_wp2
      exact HF.out
    · have hcN2 : (N : Int) ≤ (c : Int) := by omega
      by_cases hql : q + 1 = ps.length
      · have HF := Lib.hid (HFIN.out (.inr (HLAST.out hql)))
        have e1 : ((q : Int) == (ps.length : Int) - 1) = true := by simp; omega
        clear hql
        go_wp2
        exact HF.out
      · have e1 : ((q : Int) == (ps.length : Int) - 1) = false := by simp; omega
        go_wp2
        go_round
        case rel =>
          refine ⟨q + 1, c - N, by omega, by go_num, ?_, by omega, Lib.hid ?_, by omega⟩
          · rw [Int.ofNat_sub (by omega)]
          · rw [HTK.out, List.length_append, HN.out]; have := hic.out; omega
        case measure => simp [intOf]; omega
end
end Go.Proofs.Ytdgaffcfcgmfnaa
