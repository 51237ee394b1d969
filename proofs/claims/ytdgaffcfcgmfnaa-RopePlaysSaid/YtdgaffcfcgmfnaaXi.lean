/- slices at int. -/
import Derived.Test.YtdgaffcfcgmfnaaZa
set_option linter.unusedVariables false
set_option linter.unusedSimpArgs false
namespace Go.Proofs.Ytdgaffcfcgmfnaa
open Go.RowKit Go.Sl

theorem info3 : (Try.prog.info? 3).map (fun i => (i.zero, i.size, i.bytes)) = some (some (.int .i64 0), 1, 8) := by kernel_rfl
theorem size3 : (Try.prog.info? 3).map (·.size) = some 1 := by kernel_rfl
theorem zone3 : ∀ v ∈ (.int .i64 0 : Value).cells, v.oneCell' = true := by
  intro v hv
  have : ((.int .i64 0 : Value).cells.all fun v => v.oneCell') = true := by kernel_rfl
  exact Array.all_eq_true_iff_forall_mem.1 this v hv
set_option maxRecDepth 100000 in
set_option maxHeartbeats 1000000 in
theorem cloneI {k w : World} {L : List Asn} {v : Value} {n : Nat} {cs : List Value} {R : Ending → World → Prop} (h : St k w L) (hr : Reads w 1 v n cs) (h1 : ∀ u ∈ cs, u.oneCell' = true) (hb : n * 8 ≤ 140737488355328)
    (hR : ∀ v' w', St k w' (rowA 3 1 v' n cs :: L) → (v' = .slice none 0 0 ↔ v = .slice none 0 0) → R (.returned v') w') :
    Calls Try.prog 75 #[v] w R := by
  have H := Lib.hid h
  have HR := Lib.hid hr
  have H1 := Lib.hid h1
  have HB := Lib.hid hb
  have HQ := Lib.hid hR
  clear h h1 hb hR
  obtain ⟨A, c, rfl, hnc, hcm, hA, -⟩ := hr.at_
  have hn : n ≤ maxLen := Nat.le_trans hnc hcm
  clear hr
  have q := fun (w : World) a n c => Lib.run_eql_slice_nil w 51 3 a n c 0 0 Try.underlying51
  cases A with
  | none =>
    obtain ⟨rfl, rfl⟩ := hA rfl
    go_enter Try.func75, Try.ntmps75
    go_wp2
    have hl := HR.out.len
    obtain rfl : cs = [] := List.eq_nil_of_length_eq_zero (by simpa using hl)
    exact HQ.out _ _ (H.out.nilA 3 1) (by simp)
  | some a =>
    clear hA
    go_enter Try.func75, Try.ntmps75
    go_wp2_with ((at_builtin; refine wpList_append rfl _ _ rfl Try.underlying51 info3 rfl (by decide) (n := 0) (cs := []) ((H.out.alloc (.cells #[] 3)).shutA (cap := 0) (sz := 1) (Nat.le_refl _) (by decide) rfl rfl) (HR.out.alloc _) rfl rfl H1.out (by simpa using hn) (by simpa using HB.out) ?_; intro v' w' h2 h3))
    refine HQ.out _ _ ?_ ?_
    · simpa using h2
    · exact h3.trans (by simp)
set_option maxRecDepth 100000 in
set_option maxHeartbeats 1000000 in
theorem insertI_shift {k w : World} {L : List Asn} {x : Value} {g n cap m i : Nat} {cs news : List Value} {R : Ending → World → Prop} (h : St k w (rowA 3 1 (.slice (some ⟨g, 0, none⟩) n cap) n cs :: rowA 3 1 x m news :: L))
    (hi : i < n) (hm : 0 < m) (hroom : n + m ≤ cap) (h1 : ∀ u ∈ cs, u.oneCell' = true) (h2 : ∀ u ∈ news, u.oneCell' = true)
    (hR : ∀ v' w', St k w' (rowA 3 1 v' (n + m) (cs.take (i * 1) ++ news ++ cs.drop (i * 1)) :: rowA 3 1 x m news :: L) → v' ≠ .slice none 0 0 → R (.returned v') w') :
    Calls Try.prog 83 #[.slice (some ⟨g, 0, none⟩) n cap, .int .i64 i, x] w R := by
  rcases h.openA with ⟨hv, -⟩ | ⟨g', cap', cur, hv, hn, hc, hs, ht, hl, h'⟩
  · cases hv
  injection hv with e1 e2 e3
  injection e1 with e1
  injection e1 with e1
  subst e1 e3
  rcases h'.swap.openA with ⟨rfl, rfl, -⟩ | ⟨gx, capx, curx, rfl, hnx, hcx, hsx, htx, hlx, hx⟩
  · cases hm
  have hne := hx.ne
  have H := Lib.hid h'
  have HX := Lib.hid hx
  have H1 := Lib.hid h1
  have H2 := Lib.hid h2
  have HQ := Lib.hid hR
  have hc' : cap ≤ 9223372036854775807 := minLen hc
  have hov : ∀ lb cb, (callFunc 94 #[.slice (some ⟨gx, 0, none⟩) m capx, .slice (some ⟨g, (i + m), none⟩) lb cb]).run Try.prog w = .ok (.value (.bool false)) w := fun lb cb => by
    rw [run_callFunc_extern Try.func94 (by kernel_rfl) (by kernel_rfl) (by kernel_rfl) (e := Extern.SlicesOverlaps.overlaps #[51, 51] #[4]) (by kernel_rfl),
      Lib.run_overlaps_apart w 51 4 3 Try.underlying51 1 (fun w => size_run size3) ⟨gx, 0, none⟩ ⟨g, (i + m), none⟩ m capx lb cb hne 3 3 curx.size cur.size (blk_shape hx.lies) (blk_shape h'.lies) (by omega) (blk_frozen hx.lies 0) (blk_frozen hx.lies _)]
    rfl
  have HL := Lib.hid (And.intro hl (And.intro hs ht))
  have HLX := Lib.hid (And.intro hlx (And.intro hsx htx))
  clear h h' hx h1 h2 hR hl hs ht hlx hsx htx hne hc
  have hz1 : ¬ ((m : Int) = 0) := by omega
  have hz2 : ¬ ((i : Int) = (n : Int)) := by omega
  have hw1 : IntKind.i64.wrap ((i : Int) + (m : Int)) = (i : Int) + (m : Int) := by rw [IntKind.wrap_i64]; omega
  have hb1 : (0 : Int) ≤ (i : Int) + (m : Int) := by omega
  have hin : i ≤ n := by omega
  have htn : ((i : Int) + (m : Int)).toNat = i + m := by omega
  have hb2 : ¬ (cap = i + m) := by omega
  have hb3 : (i : Int) ≤ (n : Int) + (m : Int) := by omega
  have hb4 : ¬ (cap = i) := by omega
  obtain ⟨W1, hW1⟩ : ∃ W, w.drew.setRow g (spl cur ((i + m) * 1) (cs.drop (i * 1))) = W := ⟨_, rfl⟩
  have hW1' : ∀ ty, (Builtin.copy_ #[51, 51] ty #[.slice (some ⟨g, (i + m), none⟩) (n + m - (i + m)) (cap - (i + m)), .slice (some ⟨g, i, none⟩) (n + m - i) (cap - i)]).run Try.prog w.drew = .ok (.int .i64 ((n - i : Nat) : Int)) W1 := fun ty => by
    rw [← hW1]
    have := copy_run' (P := Try.prog) (sT := 51) (ty := ty) Try.underlying51 size3 H.out.drew.lies ((i + m) * 1) (n + m - (i + m)) (cap - (i + m)) g (i * 1) (n + m - i) (cap - i) (n - i) (cs.drop (i * 1)) (by omega) ?_ ?_ (fun u hu => H1.out u (List.mem_of_mem_drop hu)) ?_
    · simpa using this
    · rw [List.length_drop, HL.out.1]; omega
    · intro j u hu
      rw [List.getElem?_drop] at hu
      have := take_get HL.out.2.2 hu
      rw [Array.getElem?_toList] at this
      rw [blk_cell H.out.drew.lies]; exact this
    · rw [HL.out.2.1]; omega
  have h3 : St k W1 (pt g (.cells (spl cur ((i + m) * 1) (cs.drop (i * 1))) 3 (0, 0)) :: rowA 3 1 (.slice (some ⟨gx, 0, none⟩) m capx) m news :: L) := by rw [← hW1]; exact H.out.drew.setRow
  have hs1 : (spl cur ((i + m) * 1) (cs.drop (i * 1))).size = cap * 1 := by rw [spl_size _ _ _ (by rw [List.length_drop, HL.out.1, HL.out.2.1]; omega), HL.out.2.1]
  obtain ⟨W2, hW2⟩ : ∃ W, W1.setRow g (spl (spl cur ((i + m) * 1) (cs.drop (i * 1))) (i * 1) news) = W := ⟨_, rfl⟩
  have hW2' : ∀ ty, (Builtin.copy_ #[51, 51] ty #[.slice (some ⟨g, i, none⟩) (n + m - i) (cap - i), .slice (some ⟨gx, 0, none⟩) m capx]).run Try.prog W1 = .ok (.int .i64 (m : Int)) W2 := fun ty => by
    rw [← hW2]
    have := copy_run' (P := Try.prog) (sT := 51) (ty := ty) Try.underlying51 size3 h3.lies (i * 1) (n + m - i) (cap - i) gx 0 m capx m news (by omega) HLX.out.1 ?_ H2.out ?_
    · simpa using this
    · intro j u hu
      obtain ⟨A, c, hv, -, -, -, hh⟩ := h3.swap.readsA.at_
      injection hv with hv _ _
      exact (hh ⟨gx, 0, none⟩ hv.symm).2 j u hu
    · rw [hs1]; omega
  have h4 : St k W2 (pt g (.cells (spl (spl cur ((i + m) * 1) (cs.drop (i * 1))) (i * 1) news) 3 (0, 0)) :: rowA 3 1 (.slice (some ⟨gx, 0, none⟩) m capx) m news :: L) := by rw [← hW2]; exact h3.setRow
  have H4 := Lib.hid h4
  have HS1 := Lib.hid hs1
  clear hW1 hW2 h3 h4 hs1
  go_enter Try.func83, Try.ntmps83
  go_wp2
  go_region
  go_wp2
  refine HQ.out _ _ (H4.out.shutA hroom hc' ?_ ?_) (by simp)
  · rw [spl_size _ _ _ (by rw [HS1.out, HLX.out.1]; omega), HS1.out]
  · have := shift_take (A := i * 1) (M := m * 1) (N := n * 1) (by omega) (by rw [HL.out.2.1]; omega) HL.out.2.2 HL.out.1 HLX.out.1
    rw [← Nat.add_mul, ← Nat.add_mul] at this
    exact this
set_option maxRecDepth 100000 in
set_option maxHeartbeats 1000000 in
theorem insertI_grow {k w : World} {L : List Asn} {x : Value} {g n cap m i : Nat} {cs news : List Value} {R : Ending → World → Prop} (h : St k w (rowA 3 1 (.slice (some ⟨g, 0, none⟩) n cap) n cs :: rowA 3 1 x m news :: L))
    (hi : i < n) (hm : 0 < m) (hroom : cap < n + m) (h1 : ∀ u ∈ cs, u.oneCell' = true) (h2 : ∀ u ∈ news, u.oneCell' = true) (hb : (n + m) * 8 ≤ 140737488355328)
    (hR : ∀ v' w', St k w' (rowA 3 1 v' (n + m) (cs.take (i * 1) ++ news ++ cs.drop (i * 1)) :: rowA 3 1 x m news :: L) → v' ≠ .slice none 0 0 → R (.returned v') w') :
    Calls Try.prog 83 #[.slice (some ⟨g, 0, none⟩) n cap, .int .i64 i, x] w R := by
  rcases h.openA with ⟨hv, -⟩ | ⟨g', cap', cur, hv, hn, hc, hs, ht, hl, h'⟩
  · cases hv
  injection hv with e1 e2 e3
  injection e1 with e1
  injection e1 with e1
  subst e1 e3
  obtain ⟨A, capx, rfl, hnx, hcx, hA, hxc⟩ := h.swap.readsA.at_
  cases A with
  | none => have := (hA rfl).1; omega
  | some ax =>
  obtain ⟨gx, ox, spx⟩ := ax
  obtain ⟨hsp, -⟩ := hxc _ rfl
  obtain rfl := hsp (by omega)
  obtain rfl : ox = 0 := by
    rcases h'.swap.openA with ⟨hv, -⟩ | ⟨_, _, _, hv, -⟩
    · cases hv
    · injection hv with e1; injection e1 with e1; injection e1
  clear hxc hA
  have hlx := h.swap.readsA.len
  have hmax : n + m ≤ maxLen := by unfold maxLen; omega
  have hcut : Reads w 1 (.slice (some ⟨g, 0, none⟩) i cap) i (cs.take (i * 1)) := (h.cutA (i := i) (by omega)).readsA
  have hc0 : cap ≤ 9223372036854775807 := minLen hc
  have hw0 : IntKind.i64.wrap ((n : Int) + (m : Int)) = (n : Int) + (m : Int) := by rw [IntKind.wrap_i64]; unfold maxLen at hmax; omega
  have hw1 : IntKind.i64.wrap ((i : Int) + (m : Int)) = (i : Int) + (m : Int) := by rw [IntKind.wrap_i64]; unfold maxLen at hmax; omega
  obtain ⟨g2, c2, W1, hr1, hc2, hm2, h3⟩ := zeros_run (P := Try.prog) (ty := 51) (kn := .i64) Try.underlying51 Try.underlying3 info3 rfl (by decide) (m := n + m - i) h hcut (by omega) (by omega) (by omega) (by omega)
  have en : i + (n + m - i) = n + m := by omega
  rw [en] at hr1 hc2 h3
  have hr1' : (Builtin.append_ #[51, 3] 51 #[.slice (some ⟨g, 0, none⟩) i cap, .int .i64 ((n : Int) + (m : Int) - (i : Int))]).run Try.prog w = .ok (.slice (some ⟨g2, 0, none⟩) (n + m) c2) W1 := by
    rw [← hr1, show (n : Int) + (m : Int) - (i : Int) = ((n + m - i : Nat) : Int) by omega]
  rcases h3.openA with ⟨hv, -⟩ | ⟨g', cap', cur2, hv, -, -, hs2, ht2, hl2, h3'⟩
  · cases hv
  injection hv with e1 e2 e3
  injection e1 with e1
  injection e1 with e1
  subst e1 e3
  have hc2' : c2 ≤ 9223372036854775807 := minLen hm2
  obtain ⟨W2, hW2⟩ : ∃ W, W1.setRow g2 (spl cur2 (i * 1) news) = W := ⟨_, rfl⟩
  have hW2' : ∀ ty, (Builtin.copy_ #[51, 51] ty #[.slice (some ⟨g2, i, none⟩) (n + m - i) (c2 - i), .slice (some ⟨gx, 0, none⟩) m capx]).run Try.prog W1 = .ok (.int .i64 (m : Int)) W2 := fun ty => by
    rw [← hW2]
    have := copy_run' (P := Try.prog) (sT := 51) (ty := ty) Try.underlying51 size3 h3'.lies (i * 1) (n + m - i) (c2 - i) gx 0 m capx m news (by omega) hlx ?_ h2 ?_
    · simpa using this
    · intro j u hu
      obtain ⟨A, c, hv, -, -, -, hh⟩ := (h3'.pull 2).readsA.at_
      injection hv with hv _ _
      exact (hh ⟨gx, 0, none⟩ hv.symm).2 j u hu
    · rw [hs2]; omega
  have h4 : St k W2 (pt g2 (.cells (spl cur2 (i * 1) news) 3 (0, 0)) :: rowA 3 1 (.slice (some ⟨g, 0, none⟩) n cap) n cs :: rowA 3 1 (.slice (some ⟨gx, 0, none⟩) m capx) m news :: L) := by rw [← hW2]; exact h3'.setRow
  have hs3 : (spl cur2 (i * 1) news).size = c2 * 1 := by rw [spl_size _ _ _ (by rw [hlx, hs2]; omega), hs2]
  obtain ⟨W3, hW3⟩ : ∃ W, W2.drew.setRow g2 (spl (spl cur2 (i * 1) news) ((i + m) * 1) (cs.drop (i * 1))) = W := ⟨_, rfl⟩
  have hW3' : ∀ ty a1 c1 a2, a1 = (some ⟨g2, (i + m), none⟩ : Option Addr) → a2 = (some ⟨g, i, none⟩ : Option Addr) → (Builtin.copy_ #[51, 51] ty #[.slice a1 (n + m - (i + m)) c1, .slice a2 (n - i) (cap - i)]).run Try.prog W2.drew = .ok (.int .i64 ((n - i : Nat) : Int)) W3 := fun ty a1 c1 a2 ea1 ea2 => by
    subst ea1 ea2
    rw [← hW3]
    have := copy_run' (P := Try.prog) (sT := 51) (ty := ty) Try.underlying51 size3 h4.drew.lies ((i + m) * 1) (n + m - (i + m)) c1 g (i * 1) (n - i) (cap - i) (n - i) (cs.drop (i * 1)) (by omega) ?_ ?_ (fun u hu => h1 u (List.mem_of_mem_drop hu)) ?_
    · simpa using this
    · rw [List.length_drop, hl]; omega
    · intro j u hu
      rw [List.getElem?_drop] at hu
      obtain ⟨A, c, hv, -, -, -, hh⟩ := h4.drew.swap.readsA.at_
      injection hv with hv _ _
      have := (hh ⟨g, 0, none⟩ hv.symm).2 _ u hu
      simpa using this
    · rw [hs3]; omega
  have h5 : St k W3 (pt g2 (.cells (spl (spl cur2 (i * 1) news) ((i + m) * 1) (cs.drop (i * 1))) 3 (0, 0)) :: rowA 3 1 (.slice (some ⟨g, 0, none⟩) n cap) n cs :: rowA 3 1 (.slice (some ⟨gx, 0, none⟩) m capx) m news :: L) := by rw [← hW3]; exact h4.drew.setRow
  have hW4' := hW3' 3 _ (c2 - (i + m)) _ rfl rfl
  have hend : (spl (spl cur2 (i * 1) news) ((i + m) * 1) (cs.drop (i * 1))).toList.take ((n + m) * 1) = cs.take (i * 1) ++ news ++ cs.drop (i * 1) := by
    have := grow_take (A := i * 1) (M := m * 1) (N := n * 1) (c := cur2) (news := news) (cs := cs) (by omega) (by rw [hs2]; omega) (by rw [← Nat.add_mul]; exact ht2) hl hlx
    rw [← Nat.add_mul, ← Nat.add_mul] at this
    exact this
  have hs5 : (spl (spl cur2 (i * 1) news) ((i + m) * 1) (cs.drop (i * 1))).size = c2 * 1 := by
    rw [spl_size _ _ _ (by rw [hs3, List.length_drop, hl]; omega), hs3]
  have H5 := Lib.hid (hR _ _ ((h5.swap.drop).shutA (n := n + m) hc2 hm2 hs5 hend) (by simp))
  clear h h' h1 h2 hR hl hs ht hlx hcut hr1 h3 h3' hs2 ht2 hl2 hW2 h4 hs3 hW3 hW3' h5 hc hm2 hmax hcx en hs5 hend hb
  have hz1 : ¬ ((m : Int) = 0) := by omega
  have hz2 : ¬ ((i : Int) = (n : Int)) := by omega
  have hb1 : (0 : Int) ≤ (i : Int) + (m : Int) := by omega
  have hin : i ≤ n := by omega
  have hic : i ≤ cap := by omega
  have hin2 : i ≤ n + m := by omega
  have hi2 : (i : Int) ≤ (n : Int) + (m : Int) := by omega
  have hno : (cap : Int) < (n : Int) + (m : Int) := by omega
  have htn : ((i : Int) + (m : Int)).toNat = i + m := by omega
  have hb2 : ¬ (c2 = i + m) := by omega
  have hb3 : ¬ (c2 = i) := by omega
  have hb4 : ¬ (cap = i) := by omega
  have hb5 : ((i : Int) + (m : Int)) ≤ (n : Int) + (m : Int) := by omega
  have hw2 : IntKind.i64.wrap ((n : Int) + (m : Int) - (i : Int)) = (n : Int) + (m : Int) - (i : Int) := by rw [IntKind.wrap_i64]; omega
  go_enter Try.func83, Try.ntmps83
  go_wp2_with ((at_builtin; refine list_of rfl fun K hK => wp_append_run _ _ 51 3 rfl hr1' rfl rfl (hK _ _ ?_); clear hK))
  go_region
  go_wp2
  exact H5.out
set_option maxRecDepth 100000 in
set_option maxHeartbeats 1000000 in
/-- slices.Insert. -/
theorem insertI {k w : World} {L : List Asn} {s x : Value} {n m i : Nat} {iI : Int} {cs news : List Value} {R : Ending → World → Prop} (h : St k w (rowA 3 1 s n cs :: rowA 3 1 x m news :: L))
    (hI : iI = (i : Int)) (hi : i ≤ n) (hm : 0 < m) (h1 : ∀ u ∈ cs, u.oneCell' = true) (h2 : ∀ u ∈ news, u.oneCell' = true) (hb : (n + m) * 8 ≤ 140737488355328)
    (hR : ∀ v' w', St k w' (rowA 3 1 v' (n + m) (cs.take (i * 1) ++ news ++ cs.drop (i * 1)) :: rowA 3 1 x m news :: L) → v' ≠ .slice none 0 0 → R (.returned v') w') :
    Calls Try.prog 83 #[s, .int .i64 iI, x] w R := by
  subst hI
  have hmax : n + m ≤ maxLen := by unfold maxLen; omega
  by_cases hin : i < n
  · rcases h.openA with ⟨-, rfl, -⟩ | ⟨g, cap, cur, rfl, -⟩
    · omega
    · by_cases hroom : n + m ≤ cap
      · exact insertI_shift h hin hm hroom h1 h2 hR
      · exact insertI_grow h hin hm (by omega) h1 h2 hb hR
  · obtain rfl : i = n := by omega
    have hl := h.readsA.len
    have hl2 := h.swap.readsA.len
    obtain ⟨A, c, rfl, hnc, hcm, hA, -⟩ := h.readsA.at_
    obtain ⟨Ax, cx, rfl, hncx, hcmx, hAx, -⟩ := h.swap.readsA.at_
    have H := Lib.hid h
    have H1 := Lib.hid h1
    have H2 := Lib.hid h2
    have HB := Lib.hid hb
    have hc' : c ≤ 9223372036854775807 := minLen hcm
    have e1 : List.take (i * 1) cs = cs := List.take_of_length_le (by omega)
    have e2 : List.drop (i * 1) cs = [] := List.drop_eq_nil_iff.2 (by omega)
    rw [e1, e2, List.append_nil] at hR
    have HQ := Lib.hid hR
    clear h h1 h2 hb hR hl hl2 e1 e2 hin hi hcm hcmx
    have hz1 : ¬ ((m : Int) = 0) := by omega
    have HM := Lib.hid hmax
    clear hmax
    by_cases hci : c = i
    · subst hci
      go_enter Try.func83, Try.ntmps83
      go_wp2_with ((at_builtin; refine wpList_append rfl _ _ rfl Try.underlying51 info3 rfl (by decide) (n := c) (cs := cs) H.out H.out.swap.readsA rfl rfl H2.out HM.out HB.out ?_; intro v' w' h2 h3))
      exact HQ.out _ _ h2 (fun e => by have := (h3.1 e).2; omega)
    · go_enter Try.func83, Try.ntmps83
      go_wp2_with ((at_builtin; refine wpList_append rfl _ _ rfl Try.underlying51 info3 rfl (by decide) (n := i) (cs := cs) H.out H.out.swap.readsA rfl rfl H2.out HM.out HB.out ?_; intro v' w' h2 h3))
      exact HQ.out _ _ h2 (fun e => by have := (h3.1 e).2; omega)

set_option maxRecDepth 100000 in
set_option maxHeartbeats 1000000 in
/-- slices.Delete. -/
theorem deleteI {k w : World} {L : List Asn} {s : Value} {n i j : Nat} {iI jI : Int} {cs : List Value} {R : Ending → World → Prop} (h : St k w (rowA 3 1 s n cs :: L))
    (hI : iI = (i : Int)) (hJ : jI = (j : Int)) (hi : i < j) (hj : j ≤ n) (h1 : ∀ u ∈ cs, u.oneCell' = true)
    (hR : ∀ v' w', St k w' (rowA 3 1 v' (i + (n - j)) (cs.take (i * 1) ++ cs.drop (j * 1)) :: L) → v' ≠ .slice none 0 0 → R (.returned v') w') :
    Calls Try.prog 91 #[s, .int .i64 iI, .int .i64 jI] w R := by
  subst hI hJ
  rcases h.openA with ⟨-, rfl, -⟩ | ⟨g, cap, cur, rfl, hn, hc, hs, ht, hl, h'⟩
  · omega
  have hc' : cap ≤ 9223372036854775807 := minLen hc
  obtain ⟨W1, hW1⟩ : ∃ W, w.drew.setRow g (spl cur (i * 1) (cs.drop (j * 1))) = W := ⟨_, rfl⟩
  have hs1 : (spl cur (i * 1) (cs.drop (j * 1))).size = cap * 1 := by rw [spl_size _ _ _ (by rw [List.length_drop, hl, hs]; omega), hs]
  have hW1' : ∀ ty (a1 : Option Addr) c1, (a1 = some ⟨g, j, none⟩ ∨ a1 = some ⟨g, 0, none⟩ ∧ n = j) → (Builtin.append_ #[51, 51] ty #[.slice (some ⟨g, 0, none⟩) i cap, .slice a1 (n - j) c1]).run Try.prog w.drew = .ok (.slice (some ⟨g, 0, none⟩) (i + (n - j)) cap) W1 := fun ty a1 c1 ha => by
    rw [← hW1]
    rcases ha with rfl | ⟨rfl, rfl⟩
    · have := room_run (P := Try.prog) (ty := ty) (n := i) (cap := cap) Try.underlying51 size3 h'.drew.lies g (j * 1) (n - j) c1 (cs.drop (j * 1)) ?_ ?_ (fun u hu => h1 u (List.mem_of_mem_drop hu)) (by omega) (by rw [hs]; omega)
      · simpa using this
      · rw [List.length_drop, hl]; omega
      · intro q u hu
        rw [List.getElem?_drop] at hu
        have := take_get ht hu
        rw [Array.getElem?_toList] at this
        rw [blk_cell h'.drew.lies]; exact this
    · have e2 : List.drop (n * 1) cs = [] := List.drop_eq_nil_iff.2 (by omega)
      rw [e2]
      have := room_run (P := Try.prog) (ty := ty) (n := i) (cap := cap) Try.underlying51 size3 h'.drew.lies g 0 (n - n) c1 [] (by simp) (by simp) (by simp) (by omega) (by rw [hs]; omega)
      simpa using this
  have h2 : St k W1 (pt g (.cells (spl cur (i * 1) (cs.drop (j * 1))) 3 (0, 0)) :: L) := by rw [← hW1]; exact h'.drew.setRow
  obtain ⟨W2, hW2⟩ : ∃ W, W1.setRow g (spl (spl cur (i * 1) (cs.drop (j * 1))) ((i + (n - j)) * 1) (Builtin.zeroCells (.int .i64 0 : Value).cells (n - (i + (n - j)))).toList) = W := ⟨_, rfl⟩
  have hW2' : ∀ ty c1, (Builtin.clear_ #[51] ty #[.slice (some ⟨g, (i + (n - j)), none⟩) (n - (i + (n - j))) c1]).run Try.prog W1 = .ok (.tuple #[]) W2 := fun ty c1 => by
    rw [← hW2]
    have := clear_run (P := Try.prog) (ty := ty) Try.underlying51 info3 rfl zone3 h2.lies ((i + (n - j)) * 1) (n - (i + (n - j))) c1 (by rw [hs1]; omega)
    simpa using this
  have h3 : St k W2 (pt g (.cells (spl (spl cur (i * 1) (cs.drop (j * 1))) ((i + (n - j)) * 1) (Builtin.zeroCells (.int .i64 0 : Value).cells (n - (i + (n - j)))).toList) 3 (0, 0)) :: L) := by rw [← hW2]; exact h2.setRow
  have hzl : (Builtin.zeroCells (.int .i64 0 : Value).cells (n - (i + (n - j)))).toList.length = (n - (i + (n - j))) * 1 := by rw [Array.length_toList, size_zeroCells]; rfl
  have hs2 : (spl (spl cur (i * 1) (cs.drop (j * 1))) ((i + (n - j)) * 1) (Builtin.zeroCells (.int .i64 0 : Value).cells (n - (i + (n - j)))).toList).size = cap * 1 := by
    rw [spl_size _ _ _ (by rw [hzl, hs1]; omega), hs1]
  have hend := del_take (c := cur) (cs := cs) (A := i * 1) (B := j * 1) (N := n * 1) (z := (Builtin.zeroCells (.int .i64 0 : Value).cells (n - (i + (n - j)))).toList) (M := (i + (n - j)) * 1) (by omega) (by omega) (by rw [hs]; omega) ht hl (by rw [hzl]; omega) (by omega)
  have H5 := Lib.hid (hR _ _ (h3.shutA (n := i + (n - j)) (by omega) hc hs2 hend) (by simp))
  have hb1 : ¬ ((i : Int) = (j : Int)) := by omega
  have hb2 : i ≤ n := by omega
  have hb3 : i ≤ j := by omega
  have hb4 : i ≤ cap := by omega
  have hb5 : ¬ (n = i) := by omega
  have hb6 : ¬ (cap = i + (n - j)) := by omega
  have hb7 : i + (n - j) ≤ n := by omega
  have hA := hW1' 51 (some ⟨g, j, none⟩) (cap - j) (.inl rfl)
  have hB := Lib.hid (fun (e : n = j) => hW1' 51 (some ⟨g, 0, none⟩) 0 (.inr ⟨rfl, e⟩))
  clear h h' h1 hR hs ht hl hW1 hs1 hW1' h2 hW2 h3 hzl hs2 hend hc
  by_cases hcj : cap = j
  · obtain rfl : n = j := by omega
    subst hcj
    have hB' := hB.out rfl
    have h6 := H5.out
    simp only [Nat.sub_self, Nat.add_zero] at hB' hW2' h6 hb6
    have H6 := Lib.hid h6
    clear hA hB H5 h6
    go_enter Try.func91, Try.ntmps91
    go_wp2
    go_region_law (refine step_of rfl (wp_append_run _ _ 51 51 rfl hB' (by simp [Act.eval, Act.put]) (by simp [Act.eval, Act.put]) ?_))
    go_wp2
    exact H6.out
  · go_enter Try.func91, Try.ntmps91
    go_wp2
    go_region_law (refine step_of rfl (wp_append_run _ _ 51 51 rfl hA (by simp [Act.eval, Act.put]) (by simp [Act.eval, Act.put]) ?_))
    go_wp2
    exact H5.out
set_option maxRecDepth 100000 in
set_option maxHeartbeats 1000000 in
/-- slices.Grow of nil. -/
theorem growI {k w : World} {L : List Asn} {n : Nat} {nI : Int} {R : Ending → World → Prop} (h : St k w L) (hI : nI = (n : Int)) (hb : n * 8 ≤ 140737488355328)
    (hR : ∀ v' w', St k w' (rowA 3 1 v' 0 [] :: L) → (v' = .slice none 0 0 ↔ n = 0) → R (.returned v') w') :
    Calls Try.prog 100 #[.slice none 0 0, .int .i64 nI] w R := by
  subst hI
  rcases Nat.eq_zero_or_pos n with rfl | hpos
  · have H := Lib.hid (hR _ _ (h.nilA 3 1) (by simp))
    clear h hR
    go_enter Try.func100, Try.ntmps100
    go_wp2
    exact H.out
  · obtain ⟨g, c, W1, hr1, hc2, hm2, h3⟩ := zeros_run (P := Try.prog) (ty := 51) (kn := .i64) Try.underlying51 Try.underlying3 info3 rfl (by decide) (m := n) h (Reads.nil w 1) hpos (by omega) (by unfold maxLen; omega) (by omega)
    have h4 := h3.cutA (i := 0) (Nat.zero_le _)
    simp only [Nat.zero_mul, List.take_zero, Nat.zero_add] at h4 hr1 hc2
    have hn : (n : Int) ≤ 9223372036854775807 := by omega
    have hc : c ≤ 9223372036854775807 := minLen hm2
    have HQ := Lib.hid (hR _ _ h4 (by simp; omega))
    have hp : (0 : Int) < n := by omega
    clear h hR h3 h4 hb
    go_enter Try.func100, Try.ntmps100
    go_wp2_with ((at_builtin; refine list_of rfl fun K hK => wp_append_run _ _ 51 3 rfl hr1 rfl rfl (hK _ _ ?_); clear hK))
    exact HQ.out

def sumI (n1 n2 : Nat) : Nat → Nat | 0 => 0 | 1 => n1 | _ => n1 + n2
def catI (c1 c2 : List Value) : Nat → List Value | 0 => [] | 1 => c1 | _ => c1 ++ c2
set_option maxRecDepth 100000 in
set_option maxHeartbeats 1000000 in
/-- slices.Concat of two. -/
theorem concatI {k w : World} {L : List Asn} {gv n1 n2 : Nat} {v1 v2 : Value} {c1 c2 : List Value} {R : Ending → World → Prop}
    (h : St k w (pt gv (.cells #[v1, v2] 51 (0, 0)) :: rowS 1 v1 n1 c1 :: rowS 1 v2 n2 c2 :: L)) (h1 : ∀ u ∈ c1, u.oneCell' = true) (h2 : ∀ u ∈ c2, u.oneCell' = true) (hb : (n1 + n2) * 8 ≤ 140737488355328)
    (hR : ∀ v' w', St k w' (rowA 3 1 v' (n1 + n2) (c1 ++ c2) :: L) → (v' = .slice none 0 0 ↔ n1 + n2 = 0) → R (.returned v') w') :
    Calls Try.prog 90 #[.slice (some ⟨gv, 0, none⟩) 2 2] w R := by
  have HI := Lib.hid h
  obtain ⟨A1, p1, rfl, hp1, -⟩ := h.swap.readsS.at_
  obtain ⟨A2, p2, rfl, hp2, -⟩ := (h.pull 2).readsS.at_
  have g0 : w.cell? ⟨gv, 0, none⟩ = some (.slice A1 n1 p1) := blk_cell h.lies 0
  have g1 : w.cell? ⟨gv, 1, none⟩ = some (.slice A2 n2 p2) := blk_cell h.lies 1
  have H1 := Lib.hid h1
  have H2 := Lib.hid h2
  have HB := Lib.hid hb
  have HQ := Lib.hid hR
  have hn1 : (n1 : Int) ≤ 100000000000000000 := by omega
  have hn2 : (n2 : Int) ≤ 100000000000000000 := by omega
  have hmx : Hid (n1 + n2 ≤ maxLen) := Lib.hid (by unfold maxLen; omega)
  clear h h1 h2 hb hR hp1 hp2
  go_enter Try.func90, Try.ntmps90
  go_wp2
  go_loop [3, 11] (fun n i => ∃ q : Nat, q ≤ 2 ∧ i = .int .i64 q ∧ n = .int .i64 (sumI n1 n2 q)) (fun _ i => 2 - (intOf i).toNat)
  case atStart => exact ⟨0, Nat.zero_le _, rfl, rfl⟩
  case round =>
    obtain ⟨q, hq, rfl, rfl⟩ := hrel
    obtain rfl | rfl | rfl : q = 0 ∨ q = 1 ∨ q = 2 := by omega
    · simp only [sumI]
      go_wp2
      go_round
      case rel => exact ⟨1, by omega, rfl, by simp [sumI]⟩
      case measure => simp [intOf]
    · simp only [sumI]
      go_wp2
      go_round
      case rel => exact ⟨2, by omega, rfl, by simp [sumI]⟩
      case measure => simp [intOf]
    · simp only [sumI]
      go_wp2_with fail
      refine growI (n := n1 + n2) HI.out (by omega) HB.out ?_
      intro v0 w1 h3 h4
      have HN := Lib.hid h4
      have H3 := Lib.hid h3
      clear h3 h4 g0 g1
      go_wp2
      go_loopw [6, 27] (fun v i wr => ∃ q : Nat, q ≤ 2 ∧ i = .int .i64 q ∧ Hid (St k wr (rowA 3 1 v (sumI n1 n2 q) (catI c1 c2 q) :: pt gv (.cells #[.slice A1 n1 p1, .slice A2 n2 p2] 51 (0, 0)) :: rowS 1 (.slice A1 n1 p1) n1 c1 :: rowS 1 (.slice A2 n2 p2) n2 c2 :: L)) ∧ Hid (v = .slice none 0 0 ↔ n1 + n2 = 0)) (fun _ i _ => 2 - (intOf i).toNat)
      case atStart => exact ⟨0, Nat.zero_le _, rfl, H3.out, HN.out⟩
      case round =>
        obtain ⟨q, hq, rfl, HS, HV⟩ := hrel
        obtain rfl | rfl | rfl : q = 0 ∨ q = 1 ∨ q = 2 := by omega
        · have g0 : wr.cell? ⟨gv, 0, none⟩ = some (.slice A1 n1 p1) := blk_cell HS.out.swap.lies 0
          go_wp2_with ((at_builtin; refine wpList_append rfl _ _ rfl Try.underlying51 info3 rfl (by decide) HS.out (HS.out.pull 2).readsS rfl rfl H1.out (by have := hmx.out; show 0 + n1 ≤ maxLen; omega) (by have := HB.out; show (0 + n1) * 8 ≤ _; omega) ?_; intro v' w' h2 h3; have HS' := Lib.hid h2; have HV' := Lib.hid h3; clear h2 h3 g0))
          go_roundw
          case rel => exact ⟨1, by omega, rfl, Lib.hid (by simpa [sumI, catI] using HS'.out), Lib.hid (nil_keep HV'.out HV.out (by omega))⟩
          case measure => simp [intOf]
        · have g1 : wr.cell? ⟨gv, 1, none⟩ = some (.slice A2 n2 p2) := blk_cell HS.out.swap.lies 1
          go_wp2_with ((at_builtin; refine wpList_append rfl _ _ rfl Try.underlying51 info3 rfl (by decide) HS.out (HS.out.pull 3).readsS rfl rfl H2.out (by have := hmx.out; show n1 + n2 ≤ maxLen; omega) (by have := HB.out; show (n1 + n2) * 8 ≤ _; omega) ?_; intro v' w' h2 h3; have HS' := Lib.hid h2; have HV' := Lib.hid h3; clear h2 h3 g1))
          go_roundw
          case rel => exact ⟨2, by omega, rfl, Lib.hid (by simpa [sumI, catI] using HS'.out), Lib.hid (nil_keep HV'.out HV.out (by omega))⟩
          case measure => simp [intOf]
        · go_wp2
          exact HQ.out _ _ ((((HS.out.swap.drop).swap.drop).swap.drop)) HV.out

end Go.Proofs.Ytdgaffcfcgmfnaa
