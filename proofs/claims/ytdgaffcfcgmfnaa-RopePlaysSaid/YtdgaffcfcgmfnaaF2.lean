/- The reference's sequence: label, Index. -/
import Derived.Test.YtdgaffcfcgmfnaaF1
import Derived.Test.YtdgaffcfcgmfnaaP5
namespace Go.Proofs.Ytdgaffcfcgmfnaa
open Go.RowKit Go.Sl

abbrev refC (p : PV) (A0 A1 A2 : Option Addr) (c0 c1 c2 : Nat) (v : Value) : Array Value := #[.slice A0 p.labels.length c0, .slice A1 p.quotas.length c1, .slice A2 p.entries.length c2, v]
/-- The reference's sequence behind a pointer to block g. -/
def refA (g : Nat) (p : PV) (A0 A1 A2 : Option Addr) (c0 c1 c2 : Nat) (es : List El) : Asn := Asg.ex fun v => Asg.list [pt g (.cells (refC p A0 A1 A2 c0 c1 c2 v) 72 (0, 0)), rowA 39 3 v es.length (elsC es)]
section
variable {k w : World} {L : List Asn} {g : Nat} {p : PV} {A0 A1 A2 : Option Addr} {c0 c1 c2 : Nat} {es : List El} {R : Ending → World → Prop}
theorem ref_out (h : St k w (refA g p A0 A1 A2 c0 c1 c2 es :: L)) : ∃ A c, St k w (pt g (.cells (refC p A0 A1 A2 c0 c1 c2 (.slice A es.length c)) 72 (0, 0)) :: rowA 39 3 (.slice A es.length c) es.length (elsC es) :: L) := by
  obtain ⟨v, h1⟩ := h.open_ex
  have h2 := h1.open_list
  obtain ⟨A, c, rfl, -⟩ := (h2.pull 1).readsA.at_
  exact ⟨A, c, h2⟩
theorem ref_mk {v : Value} (h : St k w (pt g (.cells (refC p A0 A1 A2 c0 c1 c2 v) 72 (0, 0)) :: rowA 39 3 v es.length (elsC es) :: L)) : St k w (refA g p A0 A1 A2 c0 c1 c2 es :: L) :=
  St.shut_ex v (St.shut_list [pt g (.cells (refC p A0 A1 A2 c0 c1 c2 v) 72 (0, 0)), rowA 39 3 v es.length (elsC es)] h)
theorem boxR {v : Value} (h : St k w (pt g (.cells (refC p A0 A1 A2 c0 c1 c2 v) 72 (0, 0)) :: L)) : w.cell? ⟨g, 0, none⟩ = some (.slice A0 p.labels.length c0) ∧ w.cell? ⟨g, 1, none⟩ = some (.slice A1 p.quotas.length c1) ∧ w.cell? ⟨g, 2, none⟩ = some (.slice A2 p.entries.length c2) ∧ w.cell? ⟨g, 3, none⟩ = some v :=
  ⟨blk_cell h.lies 0, blk_cell h.lies 1, blk_cell h.lies 2, blk_cell h.lies 3⟩
theorem polOf_has (p : PV) (v : Int) : (polOf p).has v = decide (0 ≤ v ∧ v < (p.labels.length : Int)) := rfl
set_option maxHeartbeats 1000000 in
theorem rlabel_any {v : Int} {x : Value} (h : St k w (pt g (.cells (refC p A0 A1 A2 c0 c1 c2 x) 72 (0, 0)) :: L)) (hR : R (.returned (.bool ((polOf p).has v))) w) : Calls Try.prog 72 #[.pointer (some ⟨g, 0, none⟩), .int .i64 v] w R := by
  obtain ⟨y0, -⟩ := boxR h
  obtain ⟨N, hN⟩ : ∃ N, p.labels.length = N := ⟨_, rfl⟩
  rw [polOf_has, hN] at hR
  rw [hN] at y0
  have HR := Lib.hid hR
  clear h hR hN
  rcases (show v < 0 ∨ (0 ≤ v ∧ v < (N : Int)) ∨ (0 ≤ v ∧ (N : Int) ≤ v) by omega) with h1 | ⟨h1, h2⟩ | ⟨h1, h2⟩
  · rw [decide_eq_false (by omega)] at HR
    go_enter Try.func72, Try.ntmps72
    go_wp2
    exact HR.out
  · rw [decide_eq_true ⟨h1, h2⟩] at HR
    go_enter Try.func72, Try.ntmps72
    go_wp2
    exact HR.out
  · rw [decide_eq_false (by omega)] at HR
    have d : decide (v < (N : Int)) = false := decide_eq_false (by omega)
    go_enter Try.func72, Try.ntmps72
    go_wp2
    exact HR.out
theorem rsees_is {v u : Int} {s : Bool} (hs : seesB p v u = s) (hL : ∀ x ∈ p.labels, inLab x) {w : World} (h0 : CL w A0 p.labels) :
    Calls Try.prog 73 #[.agg #[.slice A0 p.labels.length c0, .slice A1 p.quotas.length c1, .slice A2 p.entries.length c2], .int .i64 v, .int .i64 u] w fun e w' => e = .returned (.bool s) ∧ Below w.heap.size w w' := by
  rw [← hs]; exact rsees_any p v u A0 A1 A2 c0 c1 c2 w h0 hL
theorem split_at {es : List El} {q : Nat} {e : El} (h : es[q]? = some e) : es = es.take q ++ e :: es.drop (q + 1) := by
  obtain ⟨hl, rfl⟩ := List.getElem?_eq_some_iff.1 h
  rw [List.getElem_cons_drop, List.take_append_drop]
theorem index_hit {P : Pol} {v : Int} {q : Nat} {e : El} (hv : P.has v = true) (h : es[q]? = some e) (hs : P.see v.toNat e.label = true) : indexP P v es (seenN P v.toNat (es.take q) : Nat) = ((q : Int), 0) := by
  have hq := (List.getElem?_eq_some_iff.1 h).1
  have hi := idxF_at (i := q) ⟨es.take q, e, es.drop (q + 1), split_at h, hs, rfl, by rw [List.length_take]; omega⟩
  have hlt : seenN P v.toNat (es.take q) < seenN P v.toNat es := by
    conv => rhs; rw [split_at h]
    rw [seenN_app, seenN_cons, if_pos hs]; omega
  unfold indexP
  rw [if_pos hv, if_pos ⟨by omega, by omega⟩, Int.toNat_natCast, ← hi]
set_option maxRecDepth 100000 in
set_option maxHeartbeats 4000000 in
theorem rindex_any {v n : Int} (h : St k w (refA g p A0 A1 A2 c0 c1 c2 es :: polS p A0 A1 A2 c0 c1 c2 :: L)) (hL : ∀ x ∈ p.labels, inLab x) (h32 : p.labels.length ≤ 32) (hf : Fit (polOf p) es) (hlen : es.length ≤ 1048576)
    (hR : ∀ w', St k w' (refA g p A0 A1 A2 c0 c1 c2 es :: polS p A0 A1 A2 c0 c1 c2 :: L) → R (.returned (pairV (indexP (polOf p) v es n))) w') : Calls Try.prog 44 #[.pointer (some ⟨g, 0, none⟩), .int .i64 v, .int .i64 n] w R := by
  obtain ⟨A, cx, h1⟩ := ref_out h
  cases hb : (polOf p).has v
  · have e : indexP (polOf p) v es n = (0, 10) := by rw [indexP, if_neg (by rw [hb]; simp)]
    rw [e] at hR
    have HR0 := Lib.hid (hR _ h)
    have HH := Lib.hid (And.intro h1 hb)
    clear h h1 hR hb e hL hf
    go_enter Try.func44, Try.ntmps44
    go_wp2_with (go_at_call 72; refine rlabel_any HH.out.1 ?_; rw [HH.out.2])
    exact HR0.out
  · obtain ⟨v0, v1⟩ := Pol.has_iff.1 hb
    have v2 : v < (p.labels.length : Int) := v1
    have HR := Lib.hid (fun w' (h : St k w' (pt g (.cells (refC p A0 A1 A2 c0 c1 c2 (.slice A es.length cx)) 72 (0, 0)) :: rowA 39 3 (.slice A es.length cx) es.length (elsC es) :: polS p A0 A1 A2 c0 c1 c2 :: L)) => hR w' (ref_mk h))
    have HH := Lib.hid (And.intro h1 hb)
    obtain ⟨-, -, -, y3⟩ := boxR h1
    have HL := Lib.hid hL
    have hsb : ∀ (q : Nat) (e : El), es[q]? = some e → seesB p v e.label = (polOf p).see v.toNat e.label := fun q e he => by
      have hl := hf.lab e (List.mem_of_getElem? he)
      have hl2 : e.label < (p.labels.length : Int) := hl.2
      exact (seesB_of v0 (by omega) hl.1 (by omega)).symm
    have HSBX := Lib.hid hsb
    have H1 := Lib.hid h1
    obtain ⟨M, hM⟩ : ∃ M, es.length = M := ⟨_, rfl⟩
    have HM := Lib.hid hM
    rw [hM] at hlen y3 H1 HR
    have hM2 : (M : Int) ≤ 1048576 := by omega
    clear h h1 hR hb hL hf hM hsb v1 v2 v0 h32 hlen
    go_enter Try.func44, Try.ntmps44
    go_wp2_with (go_at_call 72; refine rlabel_any HH.out.1 ?_; rw [HH.out.2])
    clear y3
    go_loopw [8, 20] (fun m i wr => ∃ q c : Nat, q ≤ M ∧ i = .int .i64 q ∧ m = .int .i64 (c : Nat) ∧ c ≤ q ∧ Hid (c = seenN (polOf p) v.toNat (es.take q)) ∧ Hid (n < 0 ∨ (c : Int) ≤ n) ∧ Hid (St k wr (pt g (.cells (refC p A0 A1 A2 c0 c1 c2 (.slice A M cx)) 72 (0, 0)) :: rowA 39 3 (.slice A M cx) M (elsC es) :: polS p A0 A1 A2 c0 c1 c2 :: L))) (fun _ i _ => M - (intOf i).toNat)
    case atStart => exact ⟨0, 0, by omega, rfl, rfl, by omega, Lib.hid rfl, Lib.hid (by omega), H1⟩
    case round =>
      obtain ⟨q, c, hq, rfl, rfl, hcq, HC, HG, HW⟩ := hrel
      have hq2 : (q : Int) ≤ 1048576 := by omega
      have hc2 : (c : Int) ≤ 1048576 := by omega
      by_cases hlt : q < M
      · obtain ⟨b, o, rfl, hcell⟩ := reads_el (n := M) (by have := (HW.out.pull 1).readsA; rw [HM.out]; exact this) rfl (by rw [HM.out]; omega)
        obtain ⟨e, he⟩ : ∃ e, es[q]? = some e := ⟨_, List.getElem?_eq_getElem (by rw [HM.out]; exact hlt)⟩
        have e0 := hcell q e 0 _ he rfl
        have e1 := hcell q e 1 _ he rfl
        have e2 := hcell q e 2 _ he rfl
        rw [Nat.add_zero] at e0
        have hsn := seenN_take_snoc (polOf p) v.toNat es q e he
        rw [← HC.out] at hsn
        have hsb := HSBX.out q e he
        rw [← hsb] at hsn
        obtain ⟨s, hs⟩ : ∃ s, seesB p v e.label = s := ⟨_, rfl⟩
        rw [hs] at hsn hsb
        have HSB := Lib.hid hs
        have HSN := Lib.hid (And.intro hsn (And.intro he hsb))
        have hb2 : (q : Int) < (M : Int) := by omega
        clear hcell he hsn hs hsb
        cases s
        · simp only [Bool.false_eq_true, if_false, Nat.add_zero] at HSN
          go_upto_region 7 with fail
          obtain ⟨W1, hW1⟩ : ∃ W1, W1 = wr.alloc (.cells #[.int .i64 e.id, .int .i32 e.rune, .int .i64 e.label] 39) := ⟨_, rfl⟩
          have h2 := HW.out.alloc (.cells #[.int .i64 e.id, .int .i32 e.rune, .int .i64 e.label] 39)
          rw [← hW1] at h2 ⊢
          obtain ⟨r0, r1, r2, -⟩ := boxR (h2.pull 1)
          have s0 : ∀ n : Later W1, n.w.cell? ⟨g, 0, none⟩ = some (.slice A0 p.labels.length c0) := later_cell r0
          have s1 : ∀ n : Later W1, n.w.cell? ⟨g, 1, none⟩ = some (.slice A1 p.quotas.length c1) := later_cell r1
          have s2 : ∀ n : Later W1, n.w.cell? ⟨g, 2, none⟩ = some (.slice A2 p.entries.length c2) := later_cell r2
          have s3 : ∀ n : Later W1, n.w.cell? ⟨wr.heap.size, 2, none⟩ = some (.int .i64 e.label) := later_cell (blk_cell h2.lies 2)
          have HSE := Lib.hid (fun n : Later W1 => rsees_is (A0 := A0) (A1 := A1) (A2 := A2) (c0 := c0) (c1 := c1) (c2 := c2) (w := n.w) HSB.out HL.out (polS_out ((st_later h2 n.h).pull 3)).1)
          have H2 := Lib.hid h2
          clear h2 r0 r1 r2 hW1
          refine wp_region_later (by kernel_rfl) (by kernel_rfl) ?_
          repeat (go_big_quiet_step (first | exact calls_later (HSE.out _)))
          refine wpQuiet_nil ?_
          rintro _ ⟨⟨w2, hb2⟩, rfl⟩
          have H3 := Lib.hid (st_later H2.out hb2).drop
          clear hb2 H2 HSE s0 s1 s2 s3
          clear e0 e1 e2
          go_wp2
          go_roundw
          case rel => exact ⟨q + 1, c, by omega, by go_num, rfl, by omega, Lib.hid HSN.out.1.symm, HG, H3⟩
          case measure => simp [intOf]; omega
        · simp only [if_true] at HSN
          by_cases hcn : (c : Int) = n
          · have hX := HR.out
            have hidx := index_hit HH.out.2 HSN.out.2.1 HSN.out.2.2.symm
            rw [← HC.out, hcn] at hidx
            rw [hidx] at hX
            have HX := Lib.hid hX
            clear hX
            have g3 : ((c : Int) == n) = true := by rw [hcn]; simp
            clear hidx HR hcn
            go_upto_region 7 with fail
            obtain ⟨W1, hW1⟩ : ∃ W1, W1 = wr.alloc (.cells #[.int .i64 e.id, .int .i32 e.rune, .int .i64 e.label] 39) := ⟨_, rfl⟩
            have h2 := HW.out.alloc (.cells #[.int .i64 e.id, .int .i32 e.rune, .int .i64 e.label] 39)
            rw [← hW1] at h2 ⊢
            obtain ⟨r0, r1, r2, -⟩ := boxR (h2.pull 1)
            have s0 : ∀ n : Later W1, n.w.cell? ⟨g, 0, none⟩ = some (.slice A0 p.labels.length c0) := later_cell r0
            have s1 : ∀ n : Later W1, n.w.cell? ⟨g, 1, none⟩ = some (.slice A1 p.quotas.length c1) := later_cell r1
            have s2 : ∀ n : Later W1, n.w.cell? ⟨g, 2, none⟩ = some (.slice A2 p.entries.length c2) := later_cell r2
            have s3 : ∀ n : Later W1, n.w.cell? ⟨wr.heap.size, 2, none⟩ = some (.int .i64 e.label) := later_cell (blk_cell h2.lies 2)
            have HSE := Lib.hid (fun n : Later W1 => rsees_is (A0 := A0) (A1 := A1) (A2 := A2) (c0 := c0) (c1 := c1) (c2 := c2) (w := n.w) HSB.out HL.out (polS_out ((st_later h2 n.h).pull 3)).1)
            have H2 := Lib.hid h2
            clear h2 r0 r1 r2 hW1
            refine wp_region_later (by kernel_rfl) (by kernel_rfl) ?_
            repeat (go_big_quiet_step (first | exact calls_later (HSE.out _)))
            refine wpQuiet_nil ?_
            rintro _ ⟨⟨w2, hb2⟩, rfl⟩
            have H3 := Lib.hid (st_later H2.out hb2).drop
            clear hb2 H2 HSE s0 s1 s2 s3
            clear e0 e1 e2
            have HY := Lib.hid (HX.out _ H3.out)
            go_wp2
            exact HY.out
          · have g3 : ((c : Int) == n) = false := by simpa using hcn
            have HG2 := Lib.hid (show n < 0 ∨ ((c + 1 : Nat) : Int) ≤ n by have := HG.out; omega)
            clear hcn
            go_upto_region 7 with fail
            obtain ⟨W1, hW1⟩ : ∃ W1, W1 = wr.alloc (.cells #[.int .i64 e.id, .int .i32 e.rune, .int .i64 e.label] 39) := ⟨_, rfl⟩
            have h2 := HW.out.alloc (.cells #[.int .i64 e.id, .int .i32 e.rune, .int .i64 e.label] 39)
            rw [← hW1] at h2 ⊢
            obtain ⟨r0, r1, r2, -⟩ := boxR (h2.pull 1)
            have s0 : ∀ n : Later W1, n.w.cell? ⟨g, 0, none⟩ = some (.slice A0 p.labels.length c0) := later_cell r0
            have s1 : ∀ n : Later W1, n.w.cell? ⟨g, 1, none⟩ = some (.slice A1 p.quotas.length c1) := later_cell r1
            have s2 : ∀ n : Later W1, n.w.cell? ⟨g, 2, none⟩ = some (.slice A2 p.entries.length c2) := later_cell r2
            have s3 : ∀ n : Later W1, n.w.cell? ⟨wr.heap.size, 2, none⟩ = some (.int .i64 e.label) := later_cell (blk_cell h2.lies 2)
            have HSE := Lib.hid (fun n : Later W1 => rsees_is (A0 := A0) (A1 := A1) (A2 := A2) (c0 := c0) (c1 := c1) (c2 := c2) (w := n.w) HSB.out HL.out (polS_out ((st_later h2 n.h).pull 3)).1)
            have H2 := Lib.hid h2
            clear h2 r0 r1 r2 hW1
            refine wp_region_later (by kernel_rfl) (by kernel_rfl) ?_
            repeat (go_big_quiet_step (first | exact calls_later (HSE.out _)))
            refine wpQuiet_nil ?_
            rintro _ ⟨⟨w2, hb2⟩, rfl⟩
            have H3 := Lib.hid (st_later H2.out hb2).drop
            clear hb2 H2 HSE s0 s1 s2 s3
            clear e0 e1 e2
            go_wp2
            go_roundw
            case rel => exact ⟨q + 1, c + 1, by omega, by go_num, by go_num, by omega, Lib.hid HSN.out.1.symm, HG2, H3⟩
            case measure => simp [intOf]; omega
      · obtain rfl : q = M := by omega
        have hx := HC.out
        rw [List.take_of_length_le (by rw [HM.out]; omega)] at hx
        have e : indexP (polOf p) v es n = (0, 1) := by
          rw [indexP, if_pos HH.out.2, if_neg (by have := HG.out; omega)]
        have h2 := HR.out _ HW.out
        rw [e] at h2
        have HX := Lib.hid h2
        clear hx e h2
        go_wp2
        exact HX.out
set_option maxRecDepth 100000 in
set_option maxHeartbeats 4000000 in
theorem rplace_any {v n : Int} (h : St k w (refA g p A0 A1 A2 c0 c1 c2 es :: polS p A0 A1 A2 c0 c1 c2 :: L)) (hL : ∀ x ∈ p.labels, inLab x) (h32 : p.labels.length ≤ 32) (hf : Fit (polOf p) es) (hlen : es.length ≤ 1048576)
    (hR : ∀ w', St k w' (refA g p A0 A1 A2 c0 c1 c2 es :: polS p A0 A1 A2 c0 c1 c2 :: L) → R (.returned (pairV (placeP (polOf p) v es n))) w') : Calls Try.prog 45 #[.pointer (some ⟨g, 0, none⟩), .int .i64 v, .int .i64 n] w R := by
  obtain ⟨A, cx, h1⟩ := ref_out h
  cases hb : (polOf p).has v
  · have e : placeP (polOf p) v es n = (0, 10) := by rw [placeP, if_neg (by rw [hb]; simp)]
    rw [e] at hR
    have HR0 := Lib.hid (hR _ h)
    have HH := Lib.hid (And.intro h1 hb)
    clear h h1 hR hb e hL hf
    go_enter Try.func45, Try.ntmps45
    go_wp2_with (go_at_call 72; refine rlabel_any HH.out.1 ?_; rw [HH.out.2])
    exact HR0.out
  · obtain ⟨v0, v1⟩ := Pol.has_iff.1 hb
    have v2 : v < (p.labels.length : Int) := v1
    have HR := Lib.hid (fun w' (h : St k w' (pt g (.cells (refC p A0 A1 A2 c0 c1 c2 (.slice A es.length cx)) 72 (0, 0)) :: rowA 39 3 (.slice A es.length cx) es.length (elsC es) :: polS p A0 A1 A2 c0 c1 c2 :: L)) => hR w' (ref_mk h))
    have HH := Lib.hid (And.intro h1 hb)
    obtain ⟨-, -, -, y3⟩ := boxR h1
    have HL := Lib.hid hL
    have hsb : ∀ (q : Nat) (e : El), es[q]? = some e → seesB p v e.label = (polOf p).see v.toNat e.label := fun q e he => by
      have hl := hf.lab e (List.mem_of_getElem? he)
      have hl2 : e.label < (p.labels.length : Int) := hl.2
      exact (seesB_of v0 (by omega) hl.1 (by omega)).symm
    have HSBX := Lib.hid hsb
    have H1 := Lib.hid h1
    obtain ⟨M, hM⟩ : ∃ M, es.length = M := ⟨_, rfl⟩
    have HM := Lib.hid hM
    rw [hM] at hlen y3 H1 HR
    have hM2 : (M : Int) ≤ 1048576 := by omega
    clear h h1 hR hb hL hf hM hsb v1 v2 v0 h32 hlen
    go_enter Try.func45, Try.ntmps45
    by_cases hn0 : n = 0
    · subst hn0
      have e : placeP (polOf p) v es 0 = (0, 0) := by rw [placeP, if_pos HH.out.2]; rfl
      have h2 := HR.out _ H1.out
      rw [e] at h2
      have HX := Lib.hid h2
      clear h2 e
      go_wp2_with (go_at_call 72; refine rlabel_any HH.out.1 ?_; rw [HH.out.2])
      exact HX.out
    have g0 : (n == 0) = false := by simpa using hn0
    have HN0 := Lib.hid hn0
    clear hn0
    go_wp2_with (go_at_call 72; refine rlabel_any HH.out.1 ?_; rw [HH.out.2])
    clear y3 g0
    go_loopw [8, 22] (fun m i wr => ∃ q c : Nat, q ≤ M ∧ i = .int .i64 q ∧ m = .int .i64 (c : Nat) ∧ c ≤ q ∧ Hid (c = seenN (polOf p) v.toNat (es.take q)) ∧ Hid (n < 0 ∨ (c : Int) < n) ∧ Hid (St k wr (pt g (.cells (refC p A0 A1 A2 c0 c1 c2 (.slice A M cx)) 72 (0, 0)) :: rowA 39 3 (.slice A M cx) M (elsC es) :: polS p A0 A1 A2 c0 c1 c2 :: L))) (fun _ i _ => M - (intOf i).toNat)
    case atStart => exact ⟨0, 0, by omega, rfl, rfl, by omega, Lib.hid rfl, Lib.hid (by have := HN0.out; omega), H1⟩
    case round =>
      obtain ⟨q, c, hq, rfl, rfl, hcq, HC, HG, HW⟩ := hrel
      have hq2 : (q : Int) ≤ 1048576 := by omega
      have hc2 : (c : Int) ≤ 1048576 := by omega
      by_cases hlt : q < M
      · obtain ⟨b, o, rfl, hcell⟩ := reads_el (n := M) (by have := (HW.out.pull 1).readsA; rw [HM.out]; exact this) rfl (by rw [HM.out]; omega)
        obtain ⟨e, he⟩ : ∃ e, es[q]? = some e := ⟨_, List.getElem?_eq_getElem (by rw [HM.out]; exact hlt)⟩
        have e0 := hcell q e 0 _ he rfl
        have e1 := hcell q e 1 _ he rfl
        have e2 := hcell q e 2 _ he rfl
        rw [Nat.add_zero] at e0
        have hsn := seenN_take_snoc (polOf p) v.toNat es q e he
        rw [← HC.out] at hsn
        have hsb := HSBX.out q e he
        rw [← hsb] at hsn
        obtain ⟨s, hs⟩ : ∃ s, seesB p v e.label = s := ⟨_, rfl⟩
        rw [hs] at hsn hsb
        have HSB := Lib.hid hs
        have HSN := Lib.hid (And.intro hsn (And.intro he hsb))
        have hb2 : (q : Int) < (M : Int) := by omega
        clear hcell he hsn hs hsb
        cases s
        · simp only [Bool.false_eq_true, if_false, Nat.add_zero] at HSN
          go_upto_region 9 with fail
          obtain ⟨W1, hW1⟩ : ∃ W1, W1 = wr.alloc (.cells #[.int .i64 e.id, .int .i32 e.rune, .int .i64 e.label] 39) := ⟨_, rfl⟩
          have h2 := HW.out.alloc (.cells #[.int .i64 e.id, .int .i32 e.rune, .int .i64 e.label] 39)
          rw [← hW1] at h2 ⊢
          obtain ⟨r0, r1, r2, -⟩ := boxR (h2.pull 1)
          have s0 : ∀ n : Later W1, n.w.cell? ⟨g, 0, none⟩ = some (.slice A0 p.labels.length c0) := later_cell r0
          have s1 : ∀ n : Later W1, n.w.cell? ⟨g, 1, none⟩ = some (.slice A1 p.quotas.length c1) := later_cell r1
          have s2 : ∀ n : Later W1, n.w.cell? ⟨g, 2, none⟩ = some (.slice A2 p.entries.length c2) := later_cell r2
          have s3 : ∀ n : Later W1, n.w.cell? ⟨wr.heap.size, 2, none⟩ = some (.int .i64 e.label) := later_cell (blk_cell h2.lies 2)
          have HSE := Lib.hid (fun n : Later W1 => rsees_is (A0 := A0) (A1 := A1) (A2 := A2) (c0 := c0) (c1 := c1) (c2 := c2) (w := n.w) HSB.out HL.out (polS_out ((st_later h2 n.h).pull 3)).1)
          have H2 := Lib.hid h2
          clear h2 r0 r1 r2 hW1
          refine wp_region_later (by kernel_rfl) (by kernel_rfl) ?_
          repeat (go_big_quiet_step (first | exact calls_later (HSE.out _)))
          refine wpQuiet_nil ?_
          rintro _ ⟨⟨w2, hb2⟩, rfl⟩
          have H3 := Lib.hid (st_later H2.out hb2).drop
          clear hb2 H2 HSE s0 s1 s2 s3
          clear e0 e1 e2
          go_wp2
          go_roundw
          case rel => exact ⟨q + 1, c, by omega, by go_num, rfl, by omega, Lib.hid HSN.out.1.symm, HG, H3⟩
          case measure => simp [intOf]; omega
        · simp only [if_true] at HSN
          by_cases hcn : (c : Int) + 1 = n
          · have hX := HR.out
            have hidx := index_hit HH.out.2 HSN.out.2.1 HSN.out.2.2.symm
            rw [← HC.out] at hidx
            have hpl : placeP (polOf p) v es n = ((q : Int) + 1, 0) := by
              rw [placeP, if_pos HH.out.2, if_neg (by omega), if_neg (by omega), show n - 1 = (c : Int) by omega, hidx]
              rfl
            rw [hpl] at hX
            have HX := Lib.hid hX
            clear hX
            have g3 : ((c : Int) + 1 == n) = true := by rw [hcn]; simp
            clear hidx HR hcn hpl
            go_upto_region 9 with fail
            obtain ⟨W1, hW1⟩ : ∃ W1, W1 = wr.alloc (.cells #[.int .i64 e.id, .int .i32 e.rune, .int .i64 e.label] 39) := ⟨_, rfl⟩
            have h2 := HW.out.alloc (.cells #[.int .i64 e.id, .int .i32 e.rune, .int .i64 e.label] 39)
            rw [← hW1] at h2 ⊢
            obtain ⟨r0, r1, r2, -⟩ := boxR (h2.pull 1)
            have s0 : ∀ n : Later W1, n.w.cell? ⟨g, 0, none⟩ = some (.slice A0 p.labels.length c0) := later_cell r0
            have s1 : ∀ n : Later W1, n.w.cell? ⟨g, 1, none⟩ = some (.slice A1 p.quotas.length c1) := later_cell r1
            have s2 : ∀ n : Later W1, n.w.cell? ⟨g, 2, none⟩ = some (.slice A2 p.entries.length c2) := later_cell r2
            have s3 : ∀ n : Later W1, n.w.cell? ⟨wr.heap.size, 2, none⟩ = some (.int .i64 e.label) := later_cell (blk_cell h2.lies 2)
            have HSE := Lib.hid (fun n : Later W1 => rsees_is (A0 := A0) (A1 := A1) (A2 := A2) (c0 := c0) (c1 := c1) (c2 := c2) (w := n.w) HSB.out HL.out (polS_out ((st_later h2 n.h).pull 3)).1)
            have H2 := Lib.hid h2
            clear h2 r0 r1 r2 hW1
            refine wp_region_later (by kernel_rfl) (by kernel_rfl) ?_
            repeat (go_big_quiet_step (first | exact calls_later (HSE.out _)))
            refine wpQuiet_nil ?_
            rintro _ ⟨⟨w2, hb2⟩, rfl⟩
            have H3 := Lib.hid (st_later H2.out hb2).drop
            clear hb2 H2 HSE s0 s1 s2 s3
            clear e0 e1 e2
            have HY := Lib.hid (HX.out _ H3.out)
            go_wp2
            exact HY.out
          · have g3 : ((c : Int) + 1 == n) = false := by simpa using hcn
            have HG2 := Lib.hid (show n < 0 ∨ ((c + 1 : Nat) : Int) < n by have := HG.out; omega)
            clear hcn
            go_upto_region 9 with fail
            obtain ⟨W1, hW1⟩ : ∃ W1, W1 = wr.alloc (.cells #[.int .i64 e.id, .int .i32 e.rune, .int .i64 e.label] 39) := ⟨_, rfl⟩
            have h2 := HW.out.alloc (.cells #[.int .i64 e.id, .int .i32 e.rune, .int .i64 e.label] 39)
            rw [← hW1] at h2 ⊢
            obtain ⟨r0, r1, r2, -⟩ := boxR (h2.pull 1)
            have s0 : ∀ n : Later W1, n.w.cell? ⟨g, 0, none⟩ = some (.slice A0 p.labels.length c0) := later_cell r0
            have s1 : ∀ n : Later W1, n.w.cell? ⟨g, 1, none⟩ = some (.slice A1 p.quotas.length c1) := later_cell r1
            have s2 : ∀ n : Later W1, n.w.cell? ⟨g, 2, none⟩ = some (.slice A2 p.entries.length c2) := later_cell r2
            have s3 : ∀ n : Later W1, n.w.cell? ⟨wr.heap.size, 2, none⟩ = some (.int .i64 e.label) := later_cell (blk_cell h2.lies 2)
            have HSE := Lib.hid (fun n : Later W1 => rsees_is (A0 := A0) (A1 := A1) (A2 := A2) (c0 := c0) (c1 := c1) (c2 := c2) (w := n.w) HSB.out HL.out (polS_out ((st_later h2 n.h).pull 3)).1)
            have H2 := Lib.hid h2
            clear h2 r0 r1 r2 hW1
            refine wp_region_later (by kernel_rfl) (by kernel_rfl) ?_
            repeat (go_big_quiet_step (first | exact calls_later (HSE.out _)))
            refine wpQuiet_nil ?_
            rintro _ ⟨⟨w2, hb2⟩, rfl⟩
            have H3 := Lib.hid (st_later H2.out hb2).drop
            clear hb2 H2 HSE s0 s1 s2 s3
            clear e0 e1 e2
            go_wp2
            go_roundw
            case rel => exact ⟨q + 1, c + 1, by omega, by go_num, by go_num, by omega, Lib.hid HSN.out.1.symm, HG2, H3⟩
            case measure => simp [intOf]; omega
      · obtain rfl : q = M := by omega
        have hx := HC.out
        rw [List.take_of_length_le (by rw [HM.out]; omega)] at hx
        have e : placeP (polOf p) v es n = (0, 1) := by
          rw [placeP, if_pos HH.out.2]
          split
          · rfl
          · rw [if_neg HN0.out]
            have e1 : indexP (polOf p) v es (n - 1) = (0, 1) := by
              rw [indexP, if_pos HH.out.2, if_neg (by have := HG.out; omega)]
            rw [e1]
            rfl
        have h2 := HR.out _ HW.out
        rw [e] at h2
        have HX := Lib.hid h2
        clear hx e h2
        go_wp2
        exact HX.out
set_option maxRecDepth 100000 in
set_option maxHeartbeats 4000000 in
theorem rview_any {v n : Int} (h : St k w (refA g p A0 A1 A2 c0 c1 c2 es :: polS p A0 A1 A2 c0 c1 c2 :: L)) (hL : ∀ x ∈ p.labels, inLab x) (h32 : p.labels.length ≤ 32) (hf : Fit (polOf p) es) (hlen : es.length ≤ 1048576)
    (hR : ∀ w', St k w' (refA g p A0 A1 A2 c0 c1 c2 es :: polS p A0 A1 A2 c0 c1 c2 :: L) → R (.returned (pairV (viewP (polOf p) v es n))) w') : Calls Try.prog 46 #[.pointer (some ⟨g, 0, none⟩), .int .i64 v, .int .i64 n] w R := by
  obtain ⟨A, cx, h1⟩ := ref_out h
  cases hb : (polOf p).has v
  · have e : viewP (polOf p) v es n = (0, 10) := by rw [viewP, if_neg (by rw [hb]; simp)]
    rw [e] at hR
    have HR0 := Lib.hid (hR _ h)
    have HH := Lib.hid (And.intro h1 hb)
    clear h h1 hR hb e hL hf
    go_enter Try.func46, Try.ntmps46
    go_wp2_with (go_at_call 72; refine rlabel_any HH.out.1 ?_; rw [HH.out.2])
    exact HR0.out
  · obtain ⟨v0, v1⟩ := Pol.has_iff.1 hb
    have v2 : v < (p.labels.length : Int) := v1
    have HR := Lib.hid (fun w' (h : St k w' (pt g (.cells (refC p A0 A1 A2 c0 c1 c2 (.slice A es.length cx)) 72 (0, 0)) :: rowA 39 3 (.slice A es.length cx) es.length (elsC es) :: polS p A0 A1 A2 c0 c1 c2 :: L)) => hR w' (ref_mk h))
    have HH := Lib.hid (And.intro h1 hb)
    obtain ⟨-, -, -, y3⟩ := boxR h1
    have HL := Lib.hid hL
    have hsb : ∀ (q : Nat) (e : El), es[q]? = some e → seesB p v e.label = (polOf p).see v.toNat e.label := fun q e he => by
      have hl := hf.lab e (List.mem_of_getElem? he)
      have hl2 : e.label < (p.labels.length : Int) := hl.2
      exact (seesB_of v0 (by omega) hl.1 (by omega)).symm
    have HSBX := Lib.hid hsb
    have H1 := Lib.hid h1
    obtain ⟨M, hM⟩ : ∃ M, es.length = M := ⟨_, rfl⟩
    have HM := Lib.hid hM
    rw [hM] at hlen y3 H1 HR
    have hM2 : (M : Int) ≤ 1048576 := by omega
    clear h h1 hR hb hL hf hM hsb v1 v2 v0 h32 hlen
    go_enter Try.func46, Try.ntmps46
    by_cases hn0 : 0 ≤ n ∧ n ≤ (M : Int)
    case neg =>
      have e : viewP (polOf p) v es n = (0, 1) := by rw [viewP, if_pos HH.out.2, if_neg (by rw [HM.out]; exact hn0)]
      have h2 := HR.out _ H1.out
      rw [e] at h2
      have HX := Lib.hid h2
      clear h2 e
      rcases (show n < 0 ∨ (0 ≤ n ∧ (M : Int) < n) by omega) with g0 | ⟨g0, g1⟩
      · clear hn0
        go_wp2_with (go_at_call 72; refine rlabel_any HH.out.1 ?_; rw [HH.out.2])
        exact HX.out
      · clear hn0
        go_wp2_with (go_at_call 72; refine rlabel_any HH.out.1 ?_; rw [HH.out.2])
        exact HX.out
    obtain ⟨g0, g1⟩ := hn0
    obtain ⟨I, rfl⟩ : ∃ I : Nat, n = I := ⟨n.toNat, by omega⟩
    have hcx : M ≤ cx ∧ (cx : Int) ≤ 9223372036854775807 := by
      obtain ⟨A', c', hv', q1, q2, -⟩ := (H1.out.pull 1).readsA.at_
      injection hv' with e1 e2 e3
      have := minLen q2
      omega
    obtain ⟨hcx1, hcx2⟩ := hcx
    have hcx3 : (I : Int) ≤ (cx : Int) := by omega
    have hIM : I ≤ M := by omega
    have hA : (A = none → cx = 0) := by
      obtain ⟨A', c', hv', q1, q2, q3, -⟩ := (H1.out.pull 1).readsA.at_
      injection hv' with e1 e2 e3
      subst e1 e3
      exact fun h => (q3 h).2
    have HA := Lib.hid hA
    clear hA hcx1
    have e : viewP (polOf p) v es (I : Int) = (((seenN (polOf p) v.toNat (es.take I) : Nat) : Int), 0) := by
      rw [viewP, if_pos HH.out.2, if_pos ⟨g0, by rw [HM.out]; exact g1⟩, Int.toNat_natCast]
    have HR1 := HR
    have hX := HR.out
    rw [e] at hX
    have HR := Lib.hid hX
    clear hX e HR1
    cases A with
    | none =>
      have := HA.out rfl
      subst this
      obtain rfl : I = 0 := by omega
      go_wp2_with (go_at_call 72; refine rlabel_any HH.out.1 ?_; rw [HH.out.2])
      go_loopw [8, 33] (fun m i wr => m = .int .i64 0 ∧ i = .int .i64 0 ∧ Hid (St k wr (pt g (.cells (refC p A0 A1 A2 c0 c1 c2 (.slice none M 0)) 72 (0, 0)) :: rowA 39 3 (.slice none M 0) M (elsC es) :: polS p A0 A1 A2 c0 c1 c2 :: L))) (fun _ i _ => 0)
      case atStart => exact ⟨rfl, rfl, H1⟩
      case round =>
        obtain ⟨rfl, rfl, HW⟩ := hrel
        have HX := Lib.hid (HR.out _ HW.out)
        go_wp2
        exact HX.out
    | some a =>
      go_wp2_with (go_at_call 72; refine rlabel_any HH.out.1 ?_; rw [HH.out.2])
      clear y3 HA g0
      go_loopw [8, 33] (fun m i wr => ∃ q c : Nat, q ≤ I ∧ i = .int .i64 q ∧ m = .int .i64 (c : Nat) ∧ c ≤ q ∧ Hid (c = seenN (polOf p) v.toNat (es.take q)) ∧ Hid (St k wr (pt g (.cells (refC p A0 A1 A2 c0 c1 c2 (.slice (some a) M cx)) 72 (0, 0)) :: rowA 39 3 (.slice (some a) M cx) M (elsC es) :: polS p A0 A1 A2 c0 c1 c2 :: L))) (fun _ i _ => I - (intOf i).toNat)
      case atStart => exact ⟨0, 0, by omega, rfl, rfl, by omega, Lib.hid rfl, H1⟩
      case round =>
        obtain ⟨q, c, hq, rfl, rfl, hcq, HC, HW⟩ := hrel
        have hq2 : (q : Int) ≤ 1048576 := by omega
        have hc2 : (c : Int) ≤ 1048576 := by omega
        by_cases hltI : q < I
        · have hlt : q < M := by omega
          have hbI : (q : Int) < (I : Int) := by omega
          obtain ⟨b, o, e5, hcell⟩ := reads_el (n := M) (by have := (HW.out.pull 1).readsA; rw [HM.out]; exact this) rfl (by rw [HM.out]; omega)
          injection e5 with e5
          subst e5
          obtain ⟨e, he⟩ : ∃ e, es[q]? = some e := ⟨_, List.getElem?_eq_getElem (by rw [HM.out]; exact hlt)⟩
          have e0 := hcell q e 0 _ he rfl
          have e1 := hcell q e 1 _ he rfl
          have e2 := hcell q e 2 _ he rfl
          rw [Nat.add_zero] at e0
          have hsn := seenN_take_snoc (polOf p) v.toNat es q e he
          rw [← HC.out] at hsn
          have hsb := HSBX.out q e he
          rw [← hsb] at hsn
          obtain ⟨s, hs⟩ : ∃ s, seesB p v e.label = s := ⟨_, rfl⟩
          rw [hs] at hsn hsb
          have HSB := Lib.hid hs
          have HSN := Lib.hid (And.intro hsn (And.intro he hsb))
          have hb2 : (q : Int) < (M : Int) := by omega
          clear hcell he hsn hs hsb
          cases s
          · simp only [Bool.false_eq_true, if_false, Nat.add_zero] at HSN
            go_upto_region 9 with fail
            obtain ⟨W1, hW1⟩ : ∃ W1, W1 = wr.alloc (.cells #[.int .i64 e.id, .int .i32 e.rune, .int .i64 e.label] 39) := ⟨_, rfl⟩
            have h2 := HW.out.alloc (.cells #[.int .i64 e.id, .int .i32 e.rune, .int .i64 e.label] 39)
            rw [← hW1] at h2 ⊢
            obtain ⟨r0, r1, r2, -⟩ := boxR (h2.pull 1)
            have s0 : ∀ n : Later W1, n.w.cell? ⟨g, 0, none⟩ = some (.slice A0 p.labels.length c0) := later_cell r0
            have s1 : ∀ n : Later W1, n.w.cell? ⟨g, 1, none⟩ = some (.slice A1 p.quotas.length c1) := later_cell r1
            have s2 : ∀ n : Later W1, n.w.cell? ⟨g, 2, none⟩ = some (.slice A2 p.entries.length c2) := later_cell r2
            have s3 : ∀ n : Later W1, n.w.cell? ⟨wr.heap.size, 2, none⟩ = some (.int .i64 e.label) := later_cell (blk_cell h2.lies 2)
            have HSE := Lib.hid (fun n : Later W1 => rsees_is (A0 := A0) (A1 := A1) (A2 := A2) (c0 := c0) (c1 := c1) (c2 := c2) (w := n.w) HSB.out HL.out (polS_out ((st_later h2 n.h).pull 3)).1)
            have H2 := Lib.hid h2
            clear h2 r0 r1 r2 hW1
            refine wp_region_later (by kernel_rfl) (by kernel_rfl) ?_
            repeat (go_big_quiet_step (first | exact calls_later (HSE.out _)))
            refine wpQuiet_nil ?_
            rintro _ ⟨⟨w2, hb2⟩, rfl⟩
            have H3 := Lib.hid (st_later H2.out hb2).drop
            clear hb2 H2 HSE s0 s1 s2 s3
            clear e0 e1 e2
            go_wp2
            go_roundw
            case rel => exact ⟨q + 1, c, by omega, by go_num, rfl, by omega, Lib.hid HSN.out.1.symm, H3⟩
            case measure => simp [intOf]; omega
          · simp only [if_true] at HSN
            go_upto_region 9 with fail
            obtain ⟨W1, hW1⟩ : ∃ W1, W1 = wr.alloc (.cells #[.int .i64 e.id, .int .i32 e.rune, .int .i64 e.label] 39) := ⟨_, rfl⟩
            have h2 := HW.out.alloc (.cells #[.int .i64 e.id, .int .i32 e.rune, .int .i64 e.label] 39)
            rw [← hW1] at h2 ⊢
            obtain ⟨r0, r1, r2, -⟩ := boxR (h2.pull 1)
            have s0 : ∀ n : Later W1, n.w.cell? ⟨g, 0, none⟩ = some (.slice A0 p.labels.length c0) := later_cell r0
            have s1 : ∀ n : Later W1, n.w.cell? ⟨g, 1, none⟩ = some (.slice A1 p.quotas.length c1) := later_cell r1
            have s2 : ∀ n : Later W1, n.w.cell? ⟨g, 2, none⟩ = some (.slice A2 p.entries.length c2) := later_cell r2
            have s3 : ∀ n : Later W1, n.w.cell? ⟨wr.heap.size, 2, none⟩ = some (.int .i64 e.label) := later_cell (blk_cell h2.lies 2)
            have HSE := Lib.hid (fun n : Later W1 => rsees_is (A0 := A0) (A1 := A1) (A2 := A2) (c0 := c0) (c1 := c1) (c2 := c2) (w := n.w) HSB.out HL.out (polS_out ((st_later h2 n.h).pull 3)).1)
            have H2 := Lib.hid h2
            clear h2 r0 r1 r2 hW1
            refine wp_region_later (by kernel_rfl) (by kernel_rfl) ?_
            repeat (go_big_quiet_step (first | exact calls_later (HSE.out _)))
            refine wpQuiet_nil ?_
            rintro _ ⟨⟨w2, hb2⟩, rfl⟩
            have H3 := Lib.hid (st_later H2.out hb2).drop
            clear hb2 H2 HSE s0 s1 s2 s3
            clear e0 e1 e2
            go_wp2
            go_roundw
            case rel => exact ⟨q + 1, c + 1, by omega, by go_num, by go_num, by omega, Lib.hid HSN.out.1.symm, H3⟩
            case measure => simp [intOf]; omega
        · obtain rfl : q = I := by omega
          have h2 := HR.out _ HW.out
          rw [← HC.out] at h2
          have HX := Lib.hid h2
          clear h2
          go_wp2
          exact HX.out
end
end Go.Proofs.Ytdgaffcfcgmfnaa
