/- Seen. -/
import Derived.Test.YtdgaffcfcgmfnaaQ4
namespace Go.Proofs.Ytdgaffcfcgmfnaa
open Go.RowKit Go.Sl Go.Shelf

attribute [local go_sem] Oper.semAt_some
attribute [local go_sem ↓ high] load107 store107 load105 store105 slice82
section
variable {k w : World} {L : List Asn} {g c : Nat} {P : Pol} {es : List El} {R : Ending → World → Prop}
def seenE (P : Pol) (v : Int) (es : List El) : List El := if P.has v = true then es.filter fun e => P.see v.toNat e.label else []
theorem filt_snoc (f : El → Bool) (pre : List El) (x : El) : (pre ++ [x]).filter f = pre.filter f ++ if f x = true then [x] else [] := by
  rw [List.filter_append]
  cases h : f x <;> simp [h]
set_option maxRecDepth 100000 in
set_option maxHeartbeats 1000000 in
theorem seenx_any {v : Int} (h : St k w (Rope g P es c :: L)) (hR : ∀ u w', (u = .slice none 0 0 ↔ seenE P v es = []) → St k w' (rowA 39 3 u (seenE P v es).length (elsC (seenE P v es)) :: Rope g P es c :: L) → R (.returned u) w') : Calls Try.prog 42 #[.pointer (some ⟨g, 0, none⟩), .int .i64 v] w R := by
  obtain ⟨r, h1, ho⟩ := Rope.out (((h.alloc (.cells #[.pointer (some ⟨g, 0, none⟩)] 33)).alloc (.cells #[.int .i64 v] 3)).alloc (.cells #[.slice none 0 0] 46) |>.pull 3)
  simp only [World.size_alloc] at h1
  have d0 := rope_dead h1 ho
  have c3 := rope_3 h1
  have HR := Lib.hid hR
  have HO := Lib.hid ho
  have H1 := Lib.hid h1
  have hlb := ho.label v
  clear h hR h1 ho
  cases hb : P.has v
  · have e : seenE P v es = [] := by unfold seenE; rw [hb]; rfl
    rw [e] at HR
    have HX := Lib.hid (HR.out (.slice none 0 0) _ (by simp) ((Rope.mk (H1.out.pull 1 |>.drop.pull 1 |>.drop.pull 1 |>.drop) HO.out).nilA 39 3))
    rw [hb] at hlb
    have HLB := Lib.hid hlb
    clear hlb hb e HR
    refine (callsIn_wide (n := 3)).1 ?_
    refine callsIn_of_wp_marks Try.func42 rfl trivial ?_ rfl
    simp only [Try.ntmps42, List.size_toArray, List.length_cons, List.length_nil, Nat.reduceAdd, Nat.reduceSub, Array.replicate_succ, Array.replicate_zero, List.push_toArray, List.append_toArray, List.nil_append, List.cons_append]
    gi_wp2_with (first | (refine ⟨trivial, ?_⟩; gi_at_call 55; refine callsIn_wide.2 (dead_any d0 ?_)) | (refine ⟨trivial, ?_⟩; gi_at_call 56; refine callsIn_wide.2 (label_any c3 HLB.out ?_)))
    exact ⟨.slice none 0 0, by simp [results, Try.results42, go_sem], HX.out⟩
  · have hl32 := HO.out.l32
    obtain ⟨v0, v1⟩ := Pol.has_iff.1 hb
    obtain ⟨n, rfl⟩ : ∃ n : Nat, v = n := ⟨v.toNat, by omega⟩
    have e : seenE P n es = es.filter fun e => P.see n e.label := by unfold seenE; rw [hb]; rfl
    rw [e] at HR
    rw [hb] at hlb
    have HLB := Lib.hid hlb
    clear hlb hb e
    obtain ⟨B2, hB2⟩ : ∃ b, w.heap.size = b := ⟨_, rfl⟩
    rw [hB2] at H1
    let J : List El → Asn := fun pre => Asg.list [pt B2 (.cells #[.pointer (some ⟨g, 0, none⟩)] 33 (0, 0)), pt (B2 + 1) (.cells #[.int .i64 (n : Nat)] 3 (0, 0)), grows (B2 + 1 + 1) (pre.filter fun e => P.see n e.label)]
    have hJ : ∀ pre, J pre = Asg.list [pt B2 (.cells #[.pointer (some ⟨g, 0, none⟩)] 33 (0, 0)), pt (B2 + 1) (.cells #[.int .i64 (n : Nat)] 3 (0, 0)), grows (B2 + 1 + 1) (pre.filter fun e => P.see n e.label)] := fun _ => rfl
    have h2 : St k _ (grows (B2 + 1 + 1) [] :: pt (B2 + 1) (.cells #[.int .i64 (n : Nat)] 3 (0, 0)) :: pt B2 (.cells #[.pointer (some ⟨g, 0, none⟩)] 33 (0, 0)) :: ropeA g r :: L) := grows_mk (xs := []) (((H1.out.push 3).nilA 39 3).swap) (by simp)
    have h3 : St k _ (ropeA g r :: J [] :: L) := St.swap (St.shut_list [pt B2 (.cells #[.pointer (some ⟨g, 0, none⟩)] 33 (0, 0)), pt (B2 + 1) (.cells #[.int .i64 (n : Nat)] 3 (0, 0)), grows (B2 + 1 + 1) []] ((h2.pull 1).pull 2))
    have HJ := Lib.hid hJ
    have H3 := Lib.hid h3
    have hlen := HO.out.len
    have HE := Lib.hid (every_gives (k := k) (g := g) HO.out)
    clear h2 h3
    refine (callsIn_wide (n := 3)).1 ?_
    refine callsIn_of_wp_marks Try.func42 rfl trivial ?_ rfl
    simp only [Try.ntmps42, List.size_toArray, List.length_cons, List.length_nil, Nat.reduceAdd, Nat.reduceSub, Array.replicate_succ, Array.replicate_zero, List.push_toArray, List.append_toArray, List.nil_append, List.cons_append]
    gi_wp2_with (first | (refine ⟨trivial, ?_⟩; gi_at_call 55; refine callsIn_wide.2 (dead_any d0 ?_)) | (refine ⟨trivial, ?_⟩; gi_at_call 56; refine callsIn_wide.2 (label_any c3 HLB.out ?_)))
    clear hJ
    clear_value J
    refine gen_worldIn H3.out fun w1 h4 => ?_
    refine wpIn_range (gf := 64) (fs := #[.pointer (some ⟨g, 0, none⟩)]) rfl (enters_of Try.func64 (by kernel_rfl) rfl) HE.out (fun _ => rfl) J
      (boxE fun x b => { tmps := #[.pointer (some ⟨g, 0, none⟩), .int .i64 n, .pointer (some ⟨B2, 0, none⟩), .pointer (some ⟨B2 + 1, 0, none⟩), .slice none 0 0, .pointer (some ⟨B2 + 1 + 1, 0, none⟩), .pointer (some ⟨b, 0, none⟩), .pointer (some ⟨g, 0, none⟩), .bool false, .bool false, .pointer (some ⟨g, 0, none⟩), .int .i64 n, .bool true, .bool false, .bool false, undef, .pointer (some ⟨g, 0, none⟩), .func (.func 64) #[.pointer (some ⟨g, 0, none⟩)] #[], elV x, undef, undef, undef, undef, undef, undef, undef, undef, undef, undef, undef, undef, undef, undef], defers := [] }) h4 ?assign ?body ?done
    case assign =>
      intro l m x W L' K hW hK
      gi_wp2
      exact boxE_mk (hW.alloc _)
    case body =>
      intro l m pre x suf a₁ W L' hx hW
      obtain ⟨b, h5, rfl⟩ := boxE_out hW
      have hfit := HO.out.fit.lab x (by rw [hx]; simp)
      have hpl : pre.length + 1 ≤ 1048576 := by rw [hx] at hlen; simp at hlen; omega
      have hfl : (pre.filter fun e => P.see n e.label).length ≤ pre.length := List.length_filter_le _ _
      have h6 := h5.pull 2
      rw [HJ.out pre] at h6
      have h7 := h6.open_list
      have y0 := blk_cell h7.lies 0
      have y1 := blk_cell h7.swap.lies 0
      have e0 : W.cell? ⟨b, 0, none⟩ = some (.int .i64 x.id) := blk_cell (h7.pull 3).lies 0
      have e1 : W.cell? ⟨b, 1, none⟩ = some (.int .i32 x.rune) := blk_cell (h7.pull 3).lies 1
      have e2 : W.cell? ⟨b, 2, none⟩ = some (.int .i64 x.label) := blk_cell (h7.pull 3).lies 2
      have z0 := rope_sees (h7.pull 4) (j := n * 32 + x.label.toNat) (b := P.see n x.label) (by
        rw [HO.out.sees, Pol.see, List.getD_eq_getElem?_getD, List.getElem?_eq_getElem (by rw [HO.out.slen]; omega)]
        rfl)
      rw [← Nat.add_assoc] at z0
      obtain ⟨f1, f2⟩ := hfit
      have f3 : x.label < 32 := by omega
      have f4 : (n : Int) < 32 := by omega
      have HSN := Lib.hid (filt_snoc (fun e => P.see n e.label) pre x)
      obtain ⟨s, hs⟩ : ∃ s, P.see n x.label = s := ⟨_, rfl⟩
      rw [hs] at z0
      have HS := Lib.hid hs
      have H7 := Lib.hid h7
      clear hx hW h5 h6 h7 H1 h4 H3 HR hs d0 c3
      change _ = some (Value.pointer (some ⟨g, 0, none⟩)) at y0
      change _ = some (Value.int .i64 (n : Nat)) at y1
      have hmx : Try.prog.follows .mixedOrders = true := by kernel_rfl
      gi_wp2
      refine wpIn_mono (Q := fun e a' w' => e = .normal ∧ a' = { tmps := #[.pointer (some ⟨g, 0, none⟩), .int .i64 n, .pointer (some ⟨B2, 0, none⟩), .pointer (some ⟨B2 + 1, 0, none⟩), .slice none 0 0, .pointer (some ⟨B2 + 1 + 1, 0, none⟩), .pointer (some ⟨b, 0, none⟩), .pointer (some ⟨g, 0, none⟩), .bool false, .bool false, .pointer (some ⟨g, 0, none⟩), .int .i64 n, .bool true, .bool false, .bool false, undef, .pointer (some ⟨g, 0, none⟩), .func (.func 64) #[.pointer (some ⟨g, 0, none⟩)] #[], elV x, .pointer (some ⟨g, 0, none⟩), .int .i64 n, .pointer (some ⟨b, 2, none⟩), .int .i64 x.label, .pointer (some ⟨g, 0, none⟩), .pointer (some ⟨g, 4, none⟩), .pointer (some ⟨g, 4 + n * 32, none⟩), .pointer (some ⟨g, 4 + n * 32 + x.label.toNat, none⟩), .bool s, undef, undef, undef, undef, undef], defers := [] } ∧ w' = W.drew) ?_ ?_
      · clear HSN H7 HS HJ HE HO HLB e0 e1
        gi_region_with_o (fail)
        all_goals exact ⟨rfl, rfl, rfl⟩
      · rintro e a2 w2 ⟨rfl, rfl, rfl⟩
        cases s
        · rw [HS.out] at HSN
          have h8 := (H7.out.pull 3).drop.drew
          have h9 : St k W.drew (ropeA g r :: J (pre ++ [x]) :: L') := by
            refine St.swap ?_
            rw [HJ.out (pre ++ [x]), HSN.out]
            refine St.shut_list [pt B2 (.cells #[.pointer (some ⟨g, 0, none⟩)] 33 (0, 0)), pt (B2 + 1) (.cells #[.int .i64 (n : Nat)] 3 (0, 0)), grows (B2 + 1 + 1) _] ?_
            simpa using h8
          have H9 := Lib.hid h9
          clear h8 h9
          dsimp only
          gi_wp2
          exact H9.out
        · rw [HS.out] at HSN
          have h8 := (((H7.out.drew.pull 4).pull 4).pull 4)
          change St k W.drew (grows (B2 + 1 + 1) (pre.filter fun e => P.see n e.label) :: pt b (elO x) :: ropeA g r :: pt B2 (.cells #[.pointer (some ⟨g, 0, none⟩)] 33 (0, 0)) :: pt (B2 + 1) (.cells #[.int .i64 (n : Nat)] 3 (0, 0)) :: L') at h8
          obtain ⟨v, h9, hv⟩ := grows_out h8
          have c3 := blk_cell h9.lies 0
          change _ = some v at c3
          have H9 := Lib.hid (h9.alloc (elO x))
          have HV := Lib.hid hv
          obtain ⟨N, hN⟩ : ∃ N, (pre.filter fun e => P.see n e.label).length = N := ⟨_, rfl⟩
          have hNl : N ≤ 1048576 := by omega
          rw [hN] at H9
          have HN := Lib.hid hN
          clear h8 h9 hv hfl hN z0 y0 y1
          dsimp only
          gi_wp2_with ((gi_at_builtin; refine wpListIn_append rfl _ _ rfl Try.underlying46 info39 rfl (by decide) (n := N) (cs := elsC (pre.filter fun e => P.see n e.label)) (H9.out.pull 2) (H9.out.readsP (sz := 3) (n := 1) (cap := 1) rfl (Nat.le_refl _) (by decide)) rfl rfl (fun u hu => by simp at hu; rcases hu with rfl | rfl | rfl <;> rfl) (by unfold maxLen; omega) (by omega) ?_; intro v' w5 h6 h7; obtain ⟨A', c', rfl, -⟩ := h6.readsA.at_; have c3' := blk_cell (h6.pull 2).lies 0; have f3' := blk_frozen (h6.pull 2).lies 0; have H6 := Lib.hid h6; have H7 := Lib.hid h7; clear h6 h7))
          have h10 := H6.out
          rw [← HN.out] at h10 ⊢
          have h11 := ((grows_push h10).swap.pull 3).pull 3
          refine St.swap ?_
          rw [HJ.out (pre ++ [x]), HSN.out]
          exact St.shut_list [pt B2 (.cells #[.pointer (some ⟨g, 0, none⟩)] 33 (0, 0)), pt (B2 + 1) (.cells #[.int .i64 (n : Nat)] 3 (0, 0)), grows (B2 + 1 + 1) _] h11
    case done =>
      intro D W hW
      have h5 := hW.pull 2
      rw [HJ.out] at h5
      have h6 : St k W (grows (B2 + 1 + 1) (es.filter fun e => P.see n e.label) :: pt D (.deferred (some [])) :: ropeA g r :: L) := (h5.open_list.drop.drop)
      obtain ⟨v, h7, hv⟩ := grows_out h6
      have c3 := blk_cell h7.lies 0
      change _ = some v at c3
      have h8 := h7.pull 2
      have hK := h8.lies
      have h9 := (h8.putObj (.deferred none)).drop.drop
      have h10 := HR.out v _ hv (Rope.mk h9.swap HO.out).swap
      have H10 := Lib.hid h10
      clear hW h5 h6 h7 h8 h9 h10 hv H1 H3 h4
      gi_wp2
      refine ⟨by simp, .inl ⟨_, _, rfl, run_takeDeferred hK, ?_⟩⟩
      exact ⟨v, by simp [results, Try.results42, go_sem], H10.out⟩
end
end Go.Proofs.Ytdgaffcfcgmfnaa
