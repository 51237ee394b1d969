/- New: parts. New: the walk. The example's policy. The example. -/
import Derived.Test.YtdgaffcfcgmfnaaL3
import Derived.Test.YtdgaffcfcgmfnaaS8
import Derived.Laws.Tables
import Derived.Laws.MakeOwn
import Derived.Test.YtdgaffcfcgmfnaaQ6
set_option linter.unusedVariables false
set_option linter.unusedSimpArgs false
namespace Go.Proofs.Ytdgaffcfcgmfnaa
open Go.RowKit Go.Sl

def buildBig (t : TypeId) (ps : Array (Nat × Value)) : Sem Value := Instr.build t ps
def boxBig (t : TypeId) (v : Value) : Sem Value := Instr.box t v
theorem build88 (ps : Array (Nat × Value)) : Instr.build 88 ps = buildBig 88 ps := rfl
theorem box88 (v : Value) : Instr.box 88 v = boxBig 88 v := rfl
/-- A new sequence, of n labels, with the table s. -/
def newR (n : Nat) (s : List Bool) : RM := { ms := [], free := [], root := 0, labels := n, sees := s, vn := .slice none 0 0, vf := .slice none 0 0 }
def noSees : List Bool := List.replicate 1024 false
theorem build_run (n : Nat) (w : World) : (buildBig 88 #[(2, .int .i64 (n : Nat)), (4, .bool true)]).run Try.prog w = .ok (.agg (ropeL (newR n noSees)).toArray) w := run_build w 88 _ _ (by kernel_rfl)
theorem box_run (X : Array Value) (w : World) : (boxBig 88 (.agg X)).run Try.prog w = .ok (.pointer (some ⟨w.heap.size, 0, none⟩)) (w.alloc (.cells X 88)) := by
  unfold boxBig
  simp [Instr.box, go_sem]

def polOf (p : PV) : Pol := { labels := p.labels.length, sees := (List.range 1024).map fun j => seesB p ((j / 32 : Nat)) ((j % 32 : Nat)) }
theorem polOf_see (p : PV) {v u : Nat} (hv : v < 32) (hu : u < 32) : (polOf p).see v (u : Nat) = seesB p v u := by
  unfold Pol.see polOf
  simp only [Int.toNat_natCast]
  rw [List.getD_eq_getElem?_getD, List.getElem?_map, List.getElem?_range (by omega)]
  have e1 : (v * 32 + u) / 32 = v := by omega
  have e2 : (v * 32 + u) % 32 = u := by omega
  simp only [Option.map_some, Option.getD_some, e1, e2]
/-- The table, so far. -/
structure Tab (p : PV) (s : List Bool) (f : Nat → Bool) : Prop where
  len : s.length = 1024
  at_ : ∀ j, j < 1024 → s[j]? = some (f j)
theorem Tab.set {p : PV} {s : List Bool} {f : Nat → Bool} (h : Tab p s f) (i : Nat) : Tab p (s.set i true) (fun j => decide (j = i) || f j) :=
  ⟨by rw [List.length_set]; exact h.len, fun j hj => by
    rw [List.getElem?_set]
    split
    · rename_i e; subst e
      rw [if_pos (by rw [h.len]; exact hj)]; simp
    · rename_i e; rw [h.at_ j hj]; simp [Ne.symm e]⟩
theorem Tab.congr {p : PV} {s : List Bool} {f f' : Nat → Bool} (h : Tab p s f) (he : ∀ j, j < 1024 → f j = f' j) : Tab p s f' := ⟨h.len, fun j hj => by rw [h.at_ j hj, he j hj]⟩
/-- Rows below v are done, and of row v the first i of those that are seen. -/
def tabF (p : PV) (N v i : Nat) (j : Nat) : Bool := (decide (j / 32 < v) && seesB p ((j / 32 : Nat)) ((j % 32 : Nat))) || (decide (j / 32 = v) && decide (j % 32 ∈ (seenW p v N).take i))
theorem tab_start (p : PV) (N : Nat) : Tab p noSees (tabF p N 0 0) := ⟨by unfold noSees; rw [List.length_replicate], fun j hj => by
  unfold noSees
  rw [List.getElem?_replicate, if_pos hj]
  simp [tabF]⟩
theorem tab_step (p : PV) {N v i x : Nat} {s : List Bool} (h : Tab p s (tabF p N v i)) (hx : (seenW p v N)[i]? = some x) (hx2 : x < 32) : Tab p (s.set (v * 32 + x) true) (tabF p N v (i + 1)) := by
  refine (h.set _).congr fun j hj => ?_
  unfold tabF
  rw [List.take_add_one, hx]
  rw [Bool.eq_iff_iff]
  simp only [Bool.or_eq_true, Bool.and_eq_true, decide_eq_true_eq, Option.toList_some, List.mem_append, List.mem_singleton]
  constructor
  · rintro (e | h1 | ⟨h2, h3⟩)
    · subst e
      exact .inr ⟨by omega, .inr (by omega)⟩
    · exact .inl h1
    · exact .inr ⟨h2, .inl h3⟩
  · rintro (h1 | ⟨h2, h3 | h3⟩)
    · exact .inr (.inl h1)
    · exact .inr (.inr ⟨h2, h3⟩)
    · exact .inl (by omega)
theorem seenW_mem (p : PV) (v : Int) (N u : Nat) : u ∈ seenW p v N ↔ u < N ∧ seesB p v (u : Nat) = true := by
  unfold seenW
  simp [List.mem_filter, List.mem_range]
theorem seesB_lt {p : PV} {v u : Int} (h : seesB p v u = true) : 0 ≤ v ∧ v < (p.labels.length : Int) ∧ 0 ≤ u ∧ u < (p.labels.length : Int) := by
  unfold seesB at h
  simp only [Bool.and_eq_true, decide_eq_true_eq] at h
  obtain ⟨⟨⟨⟨h1, h2⟩, h3⟩, h4⟩, _⟩ := h
  exact ⟨h1, h2, h3, h4⟩
theorem tab_next (p : PV) {v : Nat} {s : List Bool} (h : Tab p s (tabF p p.labels.length v (seenW p v p.labels.length).length)) : Tab p s (tabF p p.labels.length (v + 1) 0) := by
  refine h.congr fun j hj => ?_
  unfold tabF
  rw [List.take_length, Bool.eq_iff_iff]
  simp only [List.take_zero, Bool.or_eq_true, Bool.and_eq_true, decide_eq_true_eq, List.not_mem_nil, and_false, or_false, seenW_mem]
  constructor
  · rintro (⟨h1, h2⟩ | ⟨h1, h2, h3⟩)
    · exact ⟨by omega, h2⟩
    · exact ⟨by omega, by rw [h1]; exact h3⟩
  · rintro ⟨h1, h2⟩
    by_cases h3 : j / 32 < v
    · exact .inl ⟨h3, h2⟩
    · have e : j / 32 = v := by omega
      rw [e] at h2
      have := seesB_lt h2
      exact .inr ⟨e, by omega, h2⟩
theorem tab_end (p : PV) {s : List Bool} (h : Tab p s (tabF p p.labels.length p.labels.length 0)) : s = (polOf p).sees := by
  apply List.ext_getElem?
  intro j
  by_cases hj : j < 1024
  · rw [h.at_ j hj]
    unfold polOf tabF
    rw [List.getElem?_map, List.getElem?_range hj]
    simp only [Option.map_some, List.take_zero, List.not_mem_nil, decide_false, Bool.and_false, Bool.or_false, Option.some.injEq]
    cases hs : seesB p ((j / 32 : Nat)) ((j % 32 : Nat))
    · simp
    · have := seesB_lt hs
      have : j / 32 < p.labels.length := by omega
      simp [this]
  · rw [List.getElem?_eq_none (by rw [h.len]; omega), List.getElem?_eq_none (by unfold polOf; simp; omega)]
section
variable {k w : World} {L : List Asn} {g : Nat} {r : RM}
theorem reads_int {w : World} {S : List Nat} {A : Option Addr} {n c : Nat} (h : Reads w 1 (.slice A n c) n (intsC S)) (hp : 0 < n) :
    ∃ b o, A = some ⟨b, o, none⟩ ∧ ∀ i x, S[i]? = some x → w.cell? ⟨b, o + i, none⟩ = some (.int .i64 (x : Nat)) := by
  obtain ⟨A', c', hv', -, -, hA, hc⟩ := h.at_
  injection hv' with e1 e2 e3
  subst e1 e3
  cases A with
  | none => have := (hA rfl).1; omega
  | some a =>
    obtain ⟨b, o, sp⟩ := a
    obtain ⟨hsp, hc⟩ := hc _ rfl
    obtain rfl := hsp (by omega)
    exact ⟨b, o, rfl, fun i x hx => hc i _ (by simp [intsC, hx])⟩
theorem rope_see (h : St k w (ropeA g r :: L)) {j : Nat} (hj : j < r.sees.length) : St k (w.setCell ⟨g, 4 + j, none⟩ (.bool true)) (ropeA g { r with sees := r.sees.set j true } :: L) := by
  have h1 := (rope_open h).set (4 + j) (.bool true)
  have e : (ropeL r).toArray.setIfInBounds (4 + j) (.bool true) = (ropeL { r with sees := r.sees.set j true }).toArray := by
    apply Array.ext'
    rw [Array.toList_setIfInBounds]
    show (ropeL r).set (4 + j) (.bool true) = _
    rw [show 4 + j = j + 4 by omega]
    simp only [ropeL, List.set_cons_succ]
    rw [List.set_append_left _ _ (by simpa using hj)]
    simp [List.map_set]
  rw [e] at h1
  exact rope_shut (r := { r with sees := r.sees.set j true }) h1
end
end Go.Proofs.Ytdgaffcfcgmfnaa
namespace Go.Proofs.Ytdgaffcfcgmfnaa
open Go.RowKit Go.Sl

attribute [local go_sem ↓ high] load107 store107 load105 store105 slice82 build88 box88
section
variable {k w : World} {L : List Asn} {p : PV} {A0 A1 A2 : Option Addr} {c0 c1 c2 : Nat} {R : Ending → World → Prop}
theorem rightN_bad (h : rightN p ≠ 0) : rightN p = 11 := by
  unfold rightN at h ⊢
  split <;> simp_all
theorem rightN_len (h : rightN p = 0) : 1 ≤ p.labels.length ∧ p.labels.length ≤ 32 := by
  unfold rightN rightB sizesB at h
  split at h
  · rename_i h1
    simp only [Bool.and_eq_true, decide_eq_true_eq] at h1
    exact ⟨h1.1.1.1.1.1.1, h1.1.1.1.1.1.2⟩
  · cases h
set_option maxHeartbeats 1000000 in
theorem new_bad (h : St k w (polS p A0 A1 A2 c0 c1 c2 :: L)) (hr : rightN p ≠ 0) (hR : ∀ w', St k w' (polS p A0 A1 A2 c0 c1 c2 :: L) → R (.returned (.tuple #[.pointer none, .int .i64 11])) w') :
    Calls Try.prog 24 #[polV p A0 A1 A2 c0 c1 c2] w R := by
  have h1 := h.alloc (.cells #[.slice A0 p.labels.length c0, .slice A1 p.quotas.length c1, .slice A2 p.entries.length c2] 26)
  obtain ⟨q0, q1, q2, q3⟩ := polS_out h1.swap
  have hri := right_any p A0 A1 A2 c0 c1 c2 _ q0 q1 q2 q3
  rw [rightN_bad hr] at hri
  have H1 := Lib.hid h1
  have HR := Lib.hid hR
  have HRI := Lib.hid hri
  clear h h1 hri q0 q1 q2 q3 hr hR
  go_enter Try.func24, Try.ntmps24
  go_wp2_with (go_at_call 15; refine HRI.out.mono ?_; rintro e w1 ⟨rfl, hb⟩; have HX := Lib.hid (HR.out _ (st_later H1.out hb).drop); clear hb)
  exact HX.out
set_option maxRecDepth 100000 in
set_option maxHeartbeats 1000000 in
theorem new_any (h : St k w (polS p A0 A1 A2 c0 c1 c2 :: L)) (hr : rightN p = 0) (hR : ∀ g w', St k w' (Rope g (polOf p) [] 0 :: polS p A0 A1 A2 c0 c1 c2 :: L) → R (.returned (.tuple #[.pointer (some ⟨g, 0, none⟩), .int .i64 0])) w') :
    Calls Try.prog 24 #[polV p A0 A1 A2 c0 c1 c2] w R := by
  have h1 := h.alloc (.cells #[.slice A0 p.labels.length c0, .slice A1 p.quotas.length c1, .slice A2 p.entries.length c2] 26)
  obtain ⟨q0, q1, q2, q3⟩ := polS_out h1.swap
  have hri := right_any p A0 A1 A2 c0 c1 c2 _ q0 q1 q2 q3
  obtain ⟨n1, n2⟩ := rightN_len hr
  rw [hr] at hri
  obtain ⟨N, hN⟩ : ∃ N, p.labels.length = N := ⟨_, rfl⟩
  have H1 := Lib.hid h1
  have HR := Lib.hid hR
  have HRI := Lib.hid hri
  rw [hN] at n1 n2
  unfold polV
  rw [hN] at H1 HRI ⊢
  have HN := Lib.hid hN
  clear h h1 hri q0 q1 q2 q3 hr hR hN
  obtain ⟨B, hB⟩ : ∃ B, w.heap.size = B := ⟨_, rfl⟩
  rw [hB] at H1
  go_enter Try.func24, Try.ntmps24
  go_wp2_with (go_at_call 15; refine HRI.out.mono ?_; rintro e w1 ⟨rfl, hb⟩; have h2 := st_later H1.out hb; have y0 := blk_cell h2.lies 0; have y1 := blk_cell h2.lies 1; have y2 := blk_cell h2.lies 2; change _ = some (Value.slice A0 N c0) at y0; change _ = some (Value.slice A1 p.quotas.length c1) at y1; change _ = some (Value.slice A2 p.entries.length c2) at y2; have hbu := build_run N w1; have hbx := box_run (ropeL (newR N (noSees))).toArray w1; have z0 := cell_alloc y0 (.cells (ropeL (newR N noSees)).toArray 88); have H2 := Lib.hid h2; clear hb h2)
  obtain ⟨g, hg⟩ : ∃ g, w1.heap.size = g := ⟨_, rfl⟩
  have h3 := H2.out.alloc (.cells (ropeL (newR N noSees)).toArray 88)
  rw [hg] at h3 ⊢
  have h4 : St k (w1.alloc (.cells (ropeL (newR N noSees)).toArray 88)) (ropeA g (newR N noSees) :: pt B (.cells #[.slice A0 N c0, .slice A1 p.quotas.length c1, .slice A2 p.entries.length c2] 26 (0, 0)) :: polS p A0 A1 A2 c0 c1 c2 :: L) := by
    refine rope_shut ?_
    have h5 := ((h3.nilA 107 35).nilA 3 1).pull 2
    have h6 : St k (w1.alloc (.cells (ropeL (newR N noSees)).toArray 88)) (nodesS [] :: pt g (.cells (ropeL (newR N noSees)).toArray 88 (0, 0)) :: rowA 3 1 (.slice none 0 0) 0 [] :: rowA 107 35 (.slice none 0 0) 0 [] :: pt B (.cells #[.slice A0 N c0, .slice A1 p.quotas.length c1, .slice A2 p.entries.length c2] 26 (0, 0)) :: polS p A0 A1 A2 c0 c1 c2 :: L) := by
      refine (h5.shut_pure (φ := True) trivial).head fun _ _ _ => ?_
      intro m hm
      cases hm
    exact ((h6.push 3).pull 2).swap
  have H4 := Lib.hid h4
  clear h3 h4 hbx hbu y0 y1 y2 H2
  clear H1 HRI hB z0
  go_loopw [22] (fun i wr => ∃ v : Nat, v ≤ N ∧ i = .int .i64 v ∧ ∃ s, Hid (Tab p s (tabF p N v 0)) ∧ Hid (St k wr (ropeA g (newR N s) :: pt B (.cells #[.slice A0 N c0, .slice A1 p.quotas.length c1, .slice A2 p.entries.length c2] 26 (0, 0)) :: polS p A0 A1 A2 c0 c1 c2 :: L))) (fun i _ => N - (intOf i).toNat)
  case atStart => exact ⟨0, by omega, rfl, noSees, Lib.hid (tab_start p N), H4⟩
  case round =>
    obtain ⟨v, hv, rfl, s, HT, HS⟩ := hrel
    have y0 := blk_cell HS.out.swap.lies 0
    have y1 := blk_cell HS.out.swap.lies 1
    have y2 := blk_cell HS.out.swap.lies 2
    change _ = some (Value.slice A0 N c0) at y0
    change _ = some (Value.slice A1 p.quotas.length c1) at y1
    change _ = some (Value.slice A2 p.entries.length c2) at y2
    by_cases hlt : v < N
    · have hlt2 : (v : Int) < (N : Int) := by omega
      have hse := fun (Q : Ending → World → Prop) => seenl_any (R := Q) (v := (v : Nat)) (HS.out.pull 2) (by rw [HN.out]; omega)
      unfold polV at hse
      rw [HN.out] at hse
      have HSE := Lib.hid hse
      clear hse
      go_wp2_with (go_at_call 27; refine HSE.out _ ?_; intro u w2 h6; obtain ⟨A, c, rfl, -⟩ := h6.readsA.at_; have H6 := Lib.hid (h6.pull 2); clear h6)
      have hSl : (seenW p (v : Nat) N).length ≤ N := seenW_le _ _ _
      have hSm : ∀ i x, (seenW p (v : Nat) N)[i]? = some x → x < N := fun i x hx => ((seenW_mem _ _ _ _).1 (List.mem_of_getElem? hx)).1
      obtain ⟨S, hS⟩ : ∃ S, seenW p (v : Nat) N = S := ⟨_, rfl⟩
      have HSt := Lib.hid (fun i x s' => hS ▸ @tab_step p N v i x s')
      have hsn : ∀ s', Tab p s' (tabF p N v S.length) → Tab p s' (tabF p N (v + 1) 0) := fun s' h => by
        have := @tab_next p v s'
        rw [HN.out, hS] at this
        exact this h
      have HSn := Lib.hid hsn
      clear hsn
      rw [hS] at H6 hSl hSm ⊢
      have HSm := Lib.hid hSm
      clear y0 y1 y2 hSm HSE HS H4
      obtain ⟨M, hM⟩ : ∃ M, S.length = M := ⟨_, rfl⟩
      rw [hM] at H6 hSl ⊢
      have HM := Lib.hid hM
      have hM2 : (M : Int) ≤ 32 := by omega
      clear hM
      go_loopw [29] (fun i wr => ∃ q : Nat, q ≤ M ∧ i = .int .i64 q ∧ ∃ s, Hid (Tab p s (tabF p N v q)) ∧ Hid (St k wr (ropeA g (newR N s) :: rowA 3 1 (.slice A M c) M (intsC S) :: polS p A0 A1 A2 c0 c1 c2 :: pt B (.cells #[.slice A0 N c0, .slice A1 p.quotas.length c1, .slice A2 p.entries.length c2] 26 (0, 0)) :: L))) (fun i _ => M - (intOf i).toNat)
      case atStart => exact ⟨0, by omega, rfl, s, HT, H6⟩
      case round =>
        obtain ⟨q, hq, rfl, s2, HT2, HS2⟩ := hrel
        by_cases hlt3 : q < M
        · have hlt4 : (q : Int) < (M : Int) := by omega
          obtain ⟨b, o, rfl, hcell⟩ := reads_int HS2.out.swap.readsA (by omega)
          obtain ⟨x, hx⟩ : ∃ x, S[q]? = some x := ⟨_, List.getElem?_eq_getElem (by rw [HM.out]; exact hlt3)⟩
          have e0 := hcell q x hx
          have hxN := HSm.out q x hx
          have f0 := rope_f HS2.out (4 + v * 32 + x)
          have l0 := blk_lt (rope_open HS2.out).lies
          have z0 := rope_sees HS2.out (j := v * 32 + x) (b := tabF p N v q (v * 32 + x)) (HT2.out.at_ _ (by omega))
          rw [← Nat.add_assoc] at z0
          have b1 : (x : Int) < 32 := by omega
          have b2 : (v : Int) < 32 := by omega
          have HX := Lib.hid (rope_see HS2.out (j := v * 32 + x) (by show _ < s2.length; rw [HT2.out.len]; omega))
          have HY := Lib.hid (HSt.out q x s2 HT2.out hx (by omega))
          clear hcell hx HS2 HT2
          go_wp2
          go_roundw
          case rel =>
            have h8 := HX.out
            rw [← Nat.add_assoc] at h8
            exact ⟨q + 1, by omega, by go_num, _, HY, Lib.hid h8⟩
          case measure => simp [intOf]; omega
        · obtain rfl : q = M := by omega
          have h9 := HT2.out
          rw [← HM.out] at h9
          have HX := Lib.hid (HS2.out.swap.drop.pull 2).swap
          have HY := Lib.hid (HSn.out _ h9)
          clear h9 HS2 HT2
          go_wp2
          go_roundw
          case rel =>
            exact ⟨v + 1, by omega, by go_num, s2, HY, HX⟩
          case measure => simp [intOf]; omega
    · obtain rfl : v = N := by omega
      have ht := HT.out
      rw [← HN.out] at ht
      have hse := tab_end p ht
      subst hse
      have hz := nodeS_nil HS.out MN.zero rfl rfl rfl rfl
      have HTK := Lib.hid (fun (Q : Ending → World → Prop) => take_any (R := Q) hz (nodeC_one rfl rfl) (show Ar (newR v (polOf p).sees).ms (newR v (polOf p).sees).free [] from ⟨List.nodup_nil, by simp [newR], PH.none, fun _ _ e => (nomatch e), trivial⟩) (by simp [newR]))
      rw [zero_c] at HTK
      clear hz ht HT y0 y1 y2 H4
      go_wp2_with (go_at_call 62; refine HTK.out _ ?_; intro r' j w2 h6 ha hm hlen; have d2 := rope_2 h6; have f2 := rope_f h6 2; have l2 := blk_lt (rope_open h6).lies; have H6 := Lib.hid h6; have HA := Lib.hid ha; have HM := Lib.hid (And.intro hm hlen); clear h6 ha hm hlen)
      have h7 := rope_root j H6.out
      have h8 := HN.out
      have hok : Ok { r' with root := j } (polOf p) [] 0 := by
        refine ⟨⟨0, Nat.le_refl _, leaf_tree HA.out rfl rfl ⟨rfl, fun _ _ => rfl, by simp [MN.zero]⟩⟩, ?_, ⟨(fun _ he => nomatch he), (fun _ he => nomatch he)⟩, ?_, ?_, ?_, ?_, by simp⟩
        · have := HM.out.2; simp [newR] at this; simp; omega
        · show r'.labels = _
          rw [HM.out.1.labels]; exact h8.symm
        · show p.labels.length ≤ 32; omega
        · show r'.sees = _
          rw [HM.out.1.sees]; rfl
        · simp [polOf]
      exact HR.out g _ (Rope.mk h7 hok).swap.drop.swap.swap
end
end Go.Proofs.Ytdgaffcfcgmfnaa
namespace Go.Proofs.Ytdgaffcfcgmfnaa
open Go.RowKit Go.Sl

def pTwo : PV := { labels := [⟨0, 0⟩, ⟨1, 0⟩], quotas := [⟨0, 0, 0⟩, ⟨0, 0, 0⟩], entries := [⟨0, ⟨#[115]⟩, false⟩] }
theorem info98 : (Try.prog.info? 98).map (fun i => (i.zero, i.size, i.bytes)) = some (some (.agg #[.int .i64 0, .int .i64 0, .int .i64 0]), 3, 24) := by kernel_rfl
theorem make2 (w : World) : (Instr.makeSlice 23 (.int .i64 2) (.int .i64 2)).run Try.prog w = .ok (.slice (some ⟨w.heap.size, 0, none⟩) 2 2) (w.alloc (.cells #[.int .i64 0, .int .i64 0, .int .i64 0, .int .i64 0, .int .i64 0, .int .i64 0] 98)) := by
  obtain ⟨i, hi, hz, hs, hb⟩ := info_parts' info98
  have := run_make (P := Try.prog) w 23 98 i _ Try.underlying23 hi hz .i64 .i64 2 2 (by decide) (by decide) (by rw [hb]; decide) (by decide)
  rw [hs, show madeCells (Value.agg #[.int .i64 0, .int .i64 0, .int .i64 0]).cells (Int.toNat 2 * 3) = #[.int .i64 0, .int .i64 0, .int .i64 0, .int .i64 0, .int .i64 0, .int .i64 0] by kernel_rfl] at this
  exact this
attribute [local go_sem] make2
section
variable {k w : World} {L : List Asn} {R : Ending → World → Prop}
theorem polS_mk {p : PV} {A0 A1 A2 : Option Addr} {c0 c1 c2 : Nat} (h : St k w (rowS 2 (.slice A0 p.labels.length c0) p.labels.length (p.labels.flatMap labC) :: rowS 3 (.slice A1 p.quotas.length c1) p.quotas.length (p.quotas.flatMap quoC) :: rowS 3 (.slice A2 p.entries.length c2) p.entries.length (p.entries.flatMap entC) :: L)) : St k w (polS p A0 A1 A2 c0 c1 c2 :: L) := by
  let C : Asn := ⟨fun _ P => (rowS 2 (.slice A0 p.labels.length c0) p.labels.length (p.labels.flatMap labC)).holds PH.none P ∧ (rowS 3 (.slice A1 p.quotas.length c1) p.quotas.length (p.quotas.flatMap quoC)).holds PH.none P, fun _ hp ⟨h1, h2⟩ => ⟨Asg.mono _ (PH.le.refl _) hp h1, Asg.mono _ (PH.le.refl _) hp h2⟩⟩
  have h1 := h.merge (C := C) (rowS_shared _ _ _ _) (rowS_shared _ _ _ _) (fun p h1 h2 => ⟨h1, h2⟩)
  exact h1.merge (C := polS p A0 A1 A2 c0 c1 c2) ⟨fun h => h⟩ (rowS_shared _ _ _ _) (fun p h1 h2 => ⟨h1.1, h1.2, h2⟩)
set_option maxRecDepth 100000 in
set_option maxHeartbeats 1000000 in
theorem two_any (h : St k w L) (hR : ∀ A0 A1 A2 c0 c1 c2 w', St k w' (polS pTwo A0 A1 A2 c0 c1 c2 :: L) → R (.returned (polV pTwo A0 A1 A2 c0 c1 c2)) w') : Calls Try.prog 54 #[] w R := by
  have h1 := (((h.alloc (.cells #[.slice (some ⟨w.heap.size + 1, 0, none⟩) 2 2, .slice (some ⟨w.heap.size + 1 + 1, 0, none⟩) 2 2, .slice (some ⟨w.heap.size + 1 + 1 + 1, 0, none⟩) 1 1] 26)).alloc (.cells #[.int .i64 0, .int .u32 0, .int .i64 1, .int .u32 0] 93)).alloc (.cells #[.int .i64 0, .int .i64 0, .int .i64 0, .int .i64 0, .int .i64 0, .int .i64 0] 98)).alloc (.cells #[.int .i64 0, .string ⟨#[115]⟩, .bool false] 100)
  simp only [World.size_alloc] at h1
  obtain ⟨B, hB⟩ : ∃ B, w.heap.size = B := ⟨_, rfl⟩
  rw [hB] at h1
  have h2 := (h1.shutA (sz := 3) (n := 1) (cap := 1) (cs := pTwo.entries.flatMap entC) (Nat.le_refl _) (by decide) rfl rfl).freezeA
  have h3 := (h2.swap.shutA (sz := 3) (n := 2) (cap := 2) (cs := pTwo.quotas.flatMap quoC) (Nat.le_refl _) (by decide) rfl rfl).freezeA
  have h4 := ((h3.pull 2).shutA (sz := 2) (n := 2) (cap := 2) (cs := pTwo.labels.flatMap labC) (Nat.le_refl _) (by decide) rfl rfl).freezeA
  have h5 := polS_mk (p := pTwo) h4
  have y0 := blk_cell h5.swap.lies 0
  have y1 := blk_cell h5.swap.lies 1
  have y2 := blk_cell h5.swap.lies 2
  change _ = some (Value.slice (some ⟨B + 1, 0, none⟩) 2 2) at y0
  change _ = some (Value.slice (some ⟨B + 1 + 1, 0, none⟩) 2 2) at y1
  change _ = some (Value.slice (some ⟨B + 1 + 1 + 1, 0, none⟩) 1 1) at y2
  have HX := Lib.hid (hR _ _ _ _ _ _ _ h5.swap.drop)
  clear h h1 h2 h3 h4 h5 hR
  go_enter Try.func54, Try.ntmps54
  go_wp2
  exact bodyPost_ret (v := polV pTwo (some ⟨B + 1, 0, none⟩) (some ⟨B + 1 + 1, 0, none⟩) (some ⟨B + 1 + 1 + 1, 0, none⟩) 2 2 1) (by simp [results, Try.results54, go_sem, y0, y1, y2, hB]; exact ⟨rfl, rfl, rfl⟩) rfl HX.out
end
end Go.Proofs.Ytdgaffcfcgmfnaa
namespace Go.Proofs.Ytdgaffcfcgmfnaa
open Go.RowKit Go.Sl

def esA : List El := [⟨0, 97, 0⟩, ⟨0, 66, 1⟩, ⟨0, 99, 0⟩]
theorem aw1 : rightN pTwo = 0 := by kernel_rfl
theorem aw2 : insertP (polOf pTwo) [] 0 esA = (0, esA) := by kernel_rfl
theorem aw3 : placeP (polOf pTwo) 0 esA 1 = (1, 0) := by kernel_rfl
theorem aw4 : indexP (polOf pTwo) 0 esA 1 = (2, 0) := by kernel_rfl
theorem aw5 : viewP (polOf pTwo) 0 esA 2 = (1, 0) := by kernel_rfl
theorem aw6 : textE (seenE (polOf pTwo) 1 esA) = ⟨#[97, 66, 99]⟩ := by kernel_rfl
theorem aw7 : textE (seenE (polOf pTwo) 0 esA) = ⟨#[97, 99]⟩ := by kernel_rfl
section
variable {k w : World} {L : List Asn} {R : Ending → World → Prop}
set_option maxRecDepth 100000 in
set_option maxHeartbeats 1000000 in
theorem awake_any (h : St k w L) (hR : ∀ w', St k w' L → R (.returned (.bool true)) w') : Calls Try.prog 16 #[] w R := by
  have H := Lib.hid h
  have HR := Lib.hid hR
  clear h hR
  go_enter Try.func16, Try.ntmps16
  go_wp2_with fail
  refine two_any H.out ?_
  intro A0 A1 A2 c0 c1 c2 w1 h1
  have HN := Lib.hid (fun (Q : Ending → World → Prop) => new_any (R := Q) h1 aw1)
  clear h1 H
  go_wp2_with (go_at_call 24; refine HN.out _ ?_; clear HN; intro g w2 h2; have H2 := Lib.hid ((h2.swap.drop.alloc (.cells #[.int .i64 0, .int .i32 97, .int .i64 0, .int .i64 0, .int .i32 66, .int .i64 1, .int .i64 0, .int .i32 99, .int .i64 0] 39)).shutA (sz := 3) (n := 3) (cap := 3) (cs := elsC esA) (Nat.le_refl _) (by decide) rfl rfl).swap; clear h2)
  refine insert_any (l := esA) H2.out (rowLike_A 39 3 (.slice (some ⟨w2.heap.size, 0, none⟩) 3 3) 3 (elsC esA)) rfl (by decide) (by decide) (fun _ => by decide) ?_
  rw [aw2]
  intro w3 h3
  have HP := Lib.hid (fun (Q : Ending → World → Prop) => place_any (R := Q) (v := 0) (n := 1) h3 (by decide))
  rw [aw3] at HP
  clear h3 H2
  go_wp2_with (go_at_call 21; refine HP.out _ ?_; clear HP; intro w4 h4; have HI := Lib.hid (fun (Q : Ending → World → Prop) => index_any (R := Q) (v := 0) (n := 1) h4); rw [aw4] at HI; clear h4)
  refine HI.out _ ?_
  clear HI
  intro w5 h5
  have HV := Lib.hid (fun (Q : Ending → World → Prop) => view_any (R := Q) (v := 0) (i := 2) h5)
  rw [aw5] at HV
  clear h5
  go_wp2_with fail
  refine HV.out _ ?_
  clear HV
  intro w6 h6
  have HT := Lib.hid (fun (Q : Ending → World → Prop) => text_any (R := Q) (v := 1) h6 (by decide))
  rw [aw6] at HT
  clear h6
  go_wp2_with fail
  refine HT.out _ ?_
  clear HT
  intro w7 h7
  have HT := Lib.hid (fun (Q : Ending → World → Prop) => text_any (R := Q) (v := 0) h7 (by decide))
  rw [aw7] at HT
  clear h7
  go_wp2_with fail
  refine HT.out _ ?_
  clear HT
  intro w8 h8
  have HX := Lib.hid (HR.out _ h8.drop.drop)
  clear h8
  go_wp2
  exact HX.out
end
end Go.Proofs.Ytdgaffcfcgmfnaa
