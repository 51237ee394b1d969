/- RopeSight: slices.ContainsFunc at its closure. RopeSight: the walk. -/
import Derived.Test.YtdgaffcfcgmfnaaF4
import Derived.Test.YtdgaffcfcgmfnaaZp
import Derived.Test.YtdgaffcfcgmfnaaSv
import Derived.Test.YtdgaffcfcgmfnaaSc
namespace Go.Proofs.Ytdgaffcfcgmfnaa
open Go.RowKit Go.Sl

section
variable {k w : World} {L : List Asn} {B Bv : Nat} {p : PV} {A0 A1 A2 : Option Addr} {c0 c1 c2 : Nat} {es : List El} {R : Ending → World → Prop} {v : Int}
set_option maxHeartbeats 1000000 in
theorem clo_any {e : El} {s : Bool} (h : St k w (polS p A0 A1 A2 c0 c1 c2 :: pt B (.cells (polC p A0 A1 A2 c0 c1 c2) 26 (0, 0)) :: pt Bv (.cells #[.int .i64 v] 3 (0, 0)) :: L)) (hs : seesB p v e.label = s) (hR : ∀ w', St k w' (polS p A0 A1 A2 c0 c1 c2 :: pt B (.cells (polC p A0 A1 A2 c0 c1 c2) 26 (0, 0)) :: pt Bv (.cells #[.int .i64 v] 3 (0, 0)) :: L) → R (.returned (.bool s)) w') :
    Calls Try.prog 50 #[.agg #[.int .i64 e.id, .int .i32 e.rune, .int .i64 e.label], .pointer (some ⟨B, 0, none⟩), .pointer (some ⟨Bv, 0, none⟩)] w R := by
  have h1 := h.alloc (.cells #[.int .i64 e.id, .int .i32 e.rune, .int .i64 e.label] 39)
  obtain ⟨y0, y1, y2⟩ := boxP (h1.pull 2)
  have yv := blk_cell (h1.pull 3).lies 0
  change _ = some (Value.int .i64 v) at yv
  have hsb := sees_any p v e.label A0 A1 A2 c0 c1 c2 _ (polS_out (h1.pull 1)).1
  rw [hs] at hsb
  have HSB := Lib.hid hsb
  have H1 := Lib.hid h1
  have HR := Lib.hid hR
  clear h h1 hR hsb hs
  go_enter Try.func50, Try.ntmps50
  go_wp2_with fail
  refine HSB.out.mono ?_
  rintro _ w2 ⟨rfl, hb⟩
  have HX := Lib.hid (HR.out _ (st_later H1.out hb).drop)
  clear hb
  go_wp2
  exact HX.out
set_option maxRecDepth 100000 in
set_option maxHeartbeats 4000000 in
theorem indexf_any {A : Option Addr} {n cp : Nat} {X : Asn} (h : St k w (polS p A0 A1 A2 c0 c1 c2 :: pt B (.cells (polC p A0 A1 A2 c0 c1 c2) 26 (0, 0)) :: pt Bv (.cells #[.int .i64 v] 3 (0, 0)) :: X :: L)) (hX : RowLike 3 (.slice A n cp) n (elsC es) X) (hn : n = es.length)
    (hR : ∀ i w', (i = -1 ∧ (∀ e ∈ es, seesB p v e.label = false) ∨ 0 ≤ i ∧ i ≤ 9223372036854775807 ∧ ∃ e ∈ es, seesB p v e.label = true) → St k w' (polS p A0 A1 A2 c0 c1 c2 :: pt B (.cells (polC p A0 A1 A2 c0 c1 c2) 26 (0, 0)) :: pt Bv (.cells #[.int .i64 v] 3 (0, 0)) :: X :: L) → R (.returned (.int .i64 i)) w') :
    Calls Try.prog 76 #[.slice A n cp, .func (.func 50) #[] #[.pointer (some ⟨B, 0, none⟩), .pointer (some ⟨Bv, 0, none⟩)]] w R := by
  have hrd := hX _ _ _ (h.pull 3)
  obtain ⟨A', c', hv', hcn, hcm, -⟩ := hrd.at_
  have hmx := minLen hcm
  have H := Lib.hid h
  have HR := Lib.hid hR
  have HN := Lib.hid hn
  have hnmx : (n : Int) ≤ 9223372036854775807 := by omega
  clear hv' h hrd hcn hcm hmx hn hR
  go_enter Try.func76, Try.ntmps76
  go_wp2
  go_loopw [8] (fun i wr => ∃ q : Nat, q ≤ n ∧ i = .int .i64 q ∧ Hid (∀ e ∈ es.take q, seesB p v e.label = false) ∧ Hid (St k wr (polS p A0 A1 A2 c0 c1 c2 :: pt B (.cells (polC p A0 A1 A2 c0 c1 c2) 26 (0, 0)) :: pt Bv (.cells #[.int .i64 v] 3 (0, 0)) :: X :: L))) (fun i _ => n - (intOf i).toNat)
  case atStart => exact ⟨0, by omega, rfl, Lib.hid (by simp), H⟩
  case round =>
    obtain ⟨q, hq, rfl, HQ, HW⟩ := hrel
    by_cases hlt : q < n
    · obtain ⟨b, o, rfl, hcell⟩ := reads_el (n := n) (by have := hX _ _ _ (HW.out.pull 3); rw [← HN.out]; exact this) rfl (by rw [← HN.out]; omega)
      obtain ⟨e, he⟩ : ∃ e, es[q]? = some e := ⟨_, List.getElem?_eq_getElem (by rw [← HN.out]; exact hlt)⟩
      have e0 := hcell q e 0 _ he rfl
      have e1 := hcell q e 1 _ he rfl
      have e2 := hcell q e 2 _ he rfl
      rw [Nat.add_zero] at e0
      have hb2 : (q : Int) < (n : Int) := by omega
      have HE := Lib.hid he
      obtain ⟨s, hs⟩ : ∃ s, seesB p v e.label = s := ⟨_, rfl⟩
      have HS := Lib.hid hs
      clear hcell he hs
      go_wp2_with fail
      refine clo_any HW.out HS.out fun w2 h2 => ?_
      have H2 := Lib.hid h2
      clear h2 HW e0 e1 e2
      cases s
      · go_wp2
        go_roundw
        case rel =>
          refine ⟨q + 1, by omega, by go_num, Lib.hid (fun x hx => ?_), H2⟩
          rw [List.take_add_one, HE.out] at hx
          rcases List.mem_append.1 hx with hx | hx
          · exact HQ.out x hx
          · simp at hx; rw [hx]; exact HS.out
        case measure => simp [intOf]; omega
      · have HX := Lib.hid (HR.out (q : Nat) _ (.inr ⟨by omega, by omega, e, List.mem_of_getElem? HE.out, HS.out⟩) H2.out)
        go_wp2
        exact HX.out
    · obtain rfl : q = n := by omega
      have hx := HQ.out
      rw [List.take_of_length_le (by rw [← HN.out]; exact Nat.le_refl _)] at hx
      have HX := Lib.hid (HR.out (-1) _ (.inl ⟨rfl, hx⟩) HW.out)
      clear hx
      go_wp2
      exact HX.out
set_option maxHeartbeats 1000000 in
theorem contains_any {A : Option Addr} {n cp : Nat} {X : Asn} (h : St k w (polS p A0 A1 A2 c0 c1 c2 :: pt B (.cells (polC p A0 A1 A2 c0 c1 c2) 26 (0, 0)) :: pt Bv (.cells #[.int .i64 v] 3 (0, 0)) :: X :: L)) (hX : RowLike 3 (.slice A n cp) n (elsC es) X) (hn : n = es.length)
    (hR : ∀ s w', (s = false → ∀ e ∈ es, seesB p v e.label = false) → St k w' (polS p A0 A1 A2 c0 c1 c2 :: pt B (.cells (polC p A0 A1 A2 c0 c1 c2) 26 (0, 0)) :: pt Bv (.cells #[.int .i64 v] 3 (0, 0)) :: X :: L) → R (.returned (.bool s)) w') :
    Calls Try.prog 49 #[.slice A n cp, .func (.func 50) #[] #[.pointer (some ⟨B, 0, none⟩), .pointer (some ⟨Bv, 0, none⟩)]] w R := by
  have HC := Lib.hid (fun (Q : Ending → World → Prop) => indexf_any (R := Q) h hX hn)
  have HR := Lib.hid hR
  clear h hX hn hR
  go_enter Try.func49, Try.ntmps49
  go_wp2_with fail
  refine HC.out _ ?_
  intro i w2 hi h2
  have H2 := Lib.hid h2
  rcases hi with ⟨rfl, hi⟩ | ⟨h0, h1, hi⟩
  · have HX := Lib.hid (HR.out false _ (fun _ => hi) h2)
    clear HC h2 hi
    go_wp2
    exact HX.out
  · have HX := Lib.hid (HR.out true _ (fun h => by cases h) h2)
    clear HC h2 hi
    go_wp2
    exact HX.out
/-- What is put or taken unseen. -/
theorem sight_rem (f : El → Bool) (es : List El) (i n : Nat) (h : ∀ e ∈ (es.drop i).take n, f e = false) : (es.take i ++ es.drop (i + n)).filter f = es.filter f := by
  have h1 : ((es.drop i).take n).filter f = [] := by
    rw [List.filter_eq_nil_iff]
    intro e he hf
    rw [h e he] at hf; cases hf
  conv => rhs; rw [← List.take_append_drop i es, ← List.take_append_drop n (es.drop i)]
  rw [List.filter_append, List.filter_append, List.filter_append, h1, List.drop_drop]
  rfl
theorem sight_lbl (f : El → Bool) (es : List El) (i n : Nat) (l : Int) (h : ∀ e ∈ (es.drop i).take n, f e = false) (hl : ∀ e : El, f { e with label := l } = false) : (lblAll es i n l).filter f = es.filter f := by
  have h1 : ((es.drop i).take n).filter f = [] := by
    rw [List.filter_eq_nil_iff]
    intro e he hf
    rw [h e he] at hf; cases hf
  have h2 : (((es.drop i).take n).map (fun e : El => { e with label := l })).filter f = [] := by
    rw [List.filter_eq_nil_iff]
    intro e he hf
    obtain ⟨e', -, rfl⟩ := List.mem_map.1 he
    rw [hl] at hf; cases hf
  conv => rhs; rw [← List.take_append_drop i es, ← List.take_append_drop n (es.drop i)]
  unfold lblAll
  rw [List.filter_append, List.filter_append, List.filter_append, List.filter_append, h1, h2, List.drop_drop]
  simp
theorem sight_ins (f : El → Bool) (es l : List El) (i : Nat) (h : ∀ e ∈ l, f e = false) : (es.take i ++ l ++ es.drop i).filter f = es.filter f := by
  have h1 : l.filter f = [] := by
    rw [List.filter_eq_nil_iff]
    intro e he hf
    rw [h e he] at hf; cases hf
  conv => rhs; rw [← List.take_append_drop i es]
  rw [List.filter_append, List.filter_append, List.filter_append, h1]
  simp
end
end Go.Proofs.Ytdgaffcfcgmfnaa
namespace Go.Proofs.Ytdgaffcfcgmfnaa
open Go.RowKit Go.Sl

section
variable {k w : World} {L : List Asn} {A A0 A1 A2 : Option Addr} {cp c0 c1 c2 : Nat} {ds : List DoM} {d : DoM} {p : PV} {R : Ending → World → Prop} {v : Int}
theorem slc46 (x : Value) (lo hi mx : Option Value) : Instr.sliceAt 46 x lo hi mx = cutBig 46 x lo hi mx := rfl
/-- What a call touches. -/
def touchP (es : List El) (d : DoM) : List El := if bits .and .i64 d.op 7 = 4 ∨ bits .and .i64 d.op 7 = 5 ∨ bits .and .i64 d.op 7 = 6 then (if badR es d.i d.n then [] else (es.drop d.i.toNat).take d.n.toNat) else d.L
theorem sight_law {P : Pol} {es : List El} {d : DoM} (f : Int → Bool) (hw : d.wide = false) (hT : ∀ e ∈ touchP es d, f e.label = false) (h6 : bits .and .i64 d.op 7 = 6 → f d.label = false) :
    (doP P es d).2.2.filter (fun e => f e.label) = es.filter fun e => f e.label := by
  have hN : callN d = d.n := by unfold callN; rw [hw]; rfl
  have hL : callL d = d.L := by unfold callL; rw [hw]; rfl
  unfold doP
  unfold touchP at hT
  rw [hN, hL]
  split
  · rename_i h
    rw [if_pos (by omega)] at hT
    unfold removeP
    split
    · rfl
    · rename_i hb
      rw [if_neg hb] at hT
      exact sight_rem _ _ _ _ hT
  · rename_i h
    split
    · rename_i h1
      rw [if_pos (by omega)] at hT
      unfold relabelP
      split
      · rfl
      · rename_i hb
        rw [if_neg hb] at hT
        split
        · exact sight_lbl _ _ _ _ _ hT (fun _ => h6 h1)
        · rfl
    · rename_i h1
      rw [if_neg (by omega)] at hT
      unfold insertP
      split
      · rfl
      · split
        · exact sight_ins _ _ _ _ hT
        · rfl
theorem sizeP_seen (P : Pol) (v : Int) (es : List El) : sizeP P v es = ((seenE P v es).length : Nat) := by
  unfold sizeP seenE seenN
  split <;> rfl
theorem store48 (a v : Value) : Instr.storeAt 48 a v = storeBig 48 a v := rfl
attribute [local go_sem ↓ high] slc46 store48
set_option maxRecDepth 100000 in
set_option maxHeartbeats 4000000 in
theorem sight_walk (h : St k w (polS p A0 A1 A2 c0 c1 c2 :: dosS A cp ds :: doS d :: L)) (hL : ∀ x ∈ p.labels, inLab x) (hf : Fits ds) (hi : I64 d.i) (hn : I64 d.n) (hsz : ds.length * 64 ≤ 140737488351232) (hR : ∀ w', St k w' L → R (.returned (.bool true)) w') :
    Calls Try.prog 11 #[polV p A0 A1 A2 c0 c1 c2, .slice A ds.length cp, doV d, .int .i64 v] w R := by
  obtain ⟨B, hB⟩ : ∃ B, w.heap.size = B := ⟨_, rfl⟩
  have h1 := (((h.alloc (.cells (polC p A0 A1 A2 c0 c1 c2) 26)).alloc (.cells (doC d).toArray 48)).alloc (.cells #[.int .i64 v] 3)).alloc (.cells (doC d).toArray 48)
  simp only [World.size_alloc, hB] at h1
  have h2 := h1.shutA (sz := 6) (n := 1) (cap := 1) (cs := doC d) (Nat.le_refl _) (by decide) rfl rfl
  have hrd := St.readsS ((h1.pull 5).head (B := rowS 6 (.slice A ds.length cp) ds.length (ds.flatMap doC)) fun _ _ hA => Asg.mono _ (PH.none_le _) (PH.le.refl _) hA.1)
  have HSL := Lib.hid (show 1 + ds.length ≤ maxLen ∧ (1 + ds.length) * 64 ≤ 140737488355328 from ⟨by unfold maxLen; omega, by omega⟩)
  have H2 := Lib.hid h2
  have HRD := Lib.hid hrd
  have HR := Lib.hid hR
  have HF := Lib.hid (And.intro hf (And.intro hi (And.intro hn hL)))
  have hNmax : (ds.length : Int) ≤ 140737488351232 := by omega
  clear h h1 h2 hrd hR hf hi hn hsz hL
  unfold polV doV
  go_enter Try.func11, Try.ntmps11
  go_wp2_with (at_builtin; refine wpList_append rfl _ _ rfl Try.underlying27 info48 rfl (by decide) (n := 1) (cs := doC d) H2.out HRD.out rfl rfl (doC_one ds) HSL.out.1 HSL.out.2 ?_; intro v' w5 h6 h7; obtain ⟨A5, c5, rfl, -⟩ := h6.readsA.at_; have H6 := Lib.hid h6; clear h6 h7 H2 HRD)
  have h7 := dos_cons (d := d) (show 1 + ds.length = (d :: ds).length by simp; omega) rfl (((H6.out.pull 5).pull 6).pull 2)
  rw [show 1 + ds.length = (d :: ds).length by simp; omega]
  refine short_any h7 ?_
  have H7 := Lib.hid ((((((h7.drop.pull 2).pull 3).pull 4).pull 3).pull 4).pull 5)
  clear h7 H6
  change Hid (St k w5 (polS p A0 A1 A2 c0 c1 c2 :: dosS A cp ds :: doS d :: pt B (.cells (polC p A0 A1 A2 c0 c1 c2) 26 (0, 0)) :: pt (B + 1) (.cells (doC d).toArray 48 (0, 0)) :: pt (B + 2) (.cells #[.int .i64 v] 3 (0, 0)) :: L)) at H7
  cases hs : shortB (d :: ds)
  · clear hs
    go_wp2_with fail
    refine awake_any H7.out.drop.drop.drop.drop.drop.drop fun wz hz => ?_
    have HX := Lib.hid (HR.out _ hz)
    clear hz
    go_wp2
    exact HX.out
  have HS := Lib.hid hs
  clear hs
  obtain ⟨y0, y1, y2⟩ := boxP (H7.out.pull 3)
  go_wp2_with fail
  refine small_st (p := p) (A0 := A0) (A1 := A1) (A2 := A2) (c0 := c0) (c1 := c1) (c2 := c2) H7.out fun w6 h8 => ?_
  have H8 := Lib.hid h8
  clear h8 H7 y0 y1 y2
  cases hsm : smallB p
  · clear hsm
    go_wp2_with fail
    refine awake_any H8.out.drop.drop.drop.drop.drop.drop fun wz hz => ?_
    have HX := Lib.hid (HR.out _ hz)
    clear hz
    go_wp2
    exact HX.out
  clear hsm
  obtain ⟨y0, y1, y2⟩ := boxP (H8.out.pull 3)
  go_wp2_with fail
  refine right_st (p := p) (A0 := A0) (A1 := A1) (A2 := A2) (c0 := c0) (c1 := c1) (c2 := c2) H8.out fun w7 h9 => ?_
  have H9 := Lib.hid h9
  clear h9 H8 y0 y1 y2
  by_cases hr : rightN p = 0
  case neg =>
    have hr2 : (rightN p == 0) = false := by simpa using hr
    clear hr
    go_wp2_with fail
    refine awake_any H9.out.drop.drop.drop.drop.drop.drop fun wz hz => ?_
    have HX := Lib.hid (HR.out _ hz)
    clear hz
    go_wp2
    exact HX.out
  have HRN := Lib.hid hr
  rw [hr]
  clear hr
  obtain ⟨n1, n2⟩ := rightN_len HRN.out
  obtain ⟨y0, y1, y2⟩ := boxP (H9.out.pull 3)
  go_wp2_with fail
  have hcs := cntL_short HS.out
  have hcd : cntL (d :: ds) = (callL d).length + cntL ds := rfl
  rw [hcd] at hcs
  have HCS := Lib.hid hcs
  refine made_any H9.out HRN.out HF.out.1 (by omega) ?_
  intro g w8 h10
  clear y0 y1 y2 hcd hcs
  have HP32 := Lib.hid n2
  clear n1 n2
  obtain ⟨es, hes⟩ : ∃ es, madeP (polOf p) [] ds = es := ⟨_, rfl⟩
  rw [hes] at h10
  obtain ⟨c, hc⟩ : ∃ c, cntL ds = c := ⟨_, rfl⟩
  rw [hc] at h10 HCS
  obtain ⟨r, -, ho⟩ := Rope.out h10
  have HO := Lib.hid (And.intro ho.fit (And.intro ho.len ho.l32))
  have H10 := Lib.hid h10
  have yv := blk_cell (h10.pull 6).lies 0
  change _ = some (Value.int .i64 v) at yv
  clear h10 H9 hes hc ho
  obtain ⟨S, hS⟩ : ∃ S, sizeP (polOf p) v es = S := ⟨_, rfl⟩
  have HSZ := Lib.hid hS
  clear hS
  obtain ⟨E, hE⟩ : ∃ E, seenE (polOf p) v es = E := ⟨_, rfl⟩
  have HE := Lib.hid hE
  clear hE
  go_upto_region 5 with fail
  go_cut [10, 11] (fun s t wc => ∃ A5 k5, s = .slice A5 E.length k5 ∧ t = .int .i64 S ∧ Hid (St k wc (rowA 39 3 s E.length (elsC E) :: Rope g (polOf p) es c :: polS p A0 A1 A2 c0 c1 c2 :: dosS A cp ds :: doS d :: pt B (.cells (polC p A0 A1 A2 c0 c1 c2) 26 (0, 0)) :: pt (B + 1) (.cells (doC d).toArray 48 (0, 0)) :: pt (B + 2) (.cells #[.int .i64 v] 3 (0, 0)) :: L)))
  case first =>
    refine wp_region_any (by kernel_rfl) ?_
    try (change wpAny _ _ _ _ _ _ _ (World.drew _))
    refine wpAny_take (i := 0) (v := ?_) rfl (by kernel_rfl) (by kernel_rfl) (by kernel_rfl) (fun _ _ _ h => h) (Or.inl ⟨by rfl, ?_⟩) ?_
    rotate_left 1
    · intro w
      go_simp
      try with_reducible rfl
    refine wpAny_take (i := 3) (v := ?_) rfl (by kernel_rfl) (by kernel_rfl) (by kernel_rfl) (fun _ _ _ h => h) (Or.inl ⟨by rfl, ?_⟩) ?_
    rotate_left 1
    · intro w
      go_simp
      try with_reducible rfl
    refine wpAnyC_any (C := (fun w' : World => w'.cell? ⟨B + 2, 0, none⟩ = some (.int .i64 v))) (T := [5, 6, 7]) _ _ _ _ ?_
    refine wpAnyC_take (i := 1) (v := ?_) rfl (by kernel_rfl) (by kernel_rfl) (by kernel_rfl) (by kernel_rfl) (fun _ _ _ h => h) (by rfl) ?_ ?_ ?_
    rotate_left 1
    · go_simp
    · intro w hw
      go_simp
      try with_reducible rfl
    refine wpAnyC_take (i := 4) (v := ?_) rfl (by kernel_rfl) (by kernel_rfl) (by kernel_rfl) (by kernel_rfl) (fun _ _ _ h => h) (by rfl) ?_ ?_ ?_
    rotate_left 1
    · go_simp
    · intro w hw
      go_simp
      try with_reducible rfl
    refine wpAnyC_ready (rs := [2]) (by kernel_rfl) (by simp) ?_
    refine AllC.cons rfl (fun K hK => ?_) ?_
    · go_simp
      go_wp2_with (first
        | (go_at_call 42; refine seenx_any H10.out.drew ?_
           rw [HE.out]
           intro u w9 _ h11
           obtain ⟨A5, k5, rfl, -⟩ := h11.readsA.at_
           have y5 := blk_cell (h11.pull 7).lies 0
           change _ = some (Value.int .i64 v) at y5
           have H11 := Lib.hid h11
           clear h11)
        | (go_at_call 18; refine size_any (H11.out.pull 1) ?_
           rw [HSZ.out]
           intro w10 h12
           have y6 := blk_cell (h12.pull 7).lies 0
           change _ = some (Value.int .i64 v) at y6
           have H12 := Lib.hid (h12.pull 1)
           clear h12)
        | (go_at_call 18; refine size_any H10.out.drew ?_
           rw [HSZ.out]
           intro w9 h11
           have y5 := blk_cell (h11.pull 6).lies 0
           change _ = some (Value.int .i64 v) at y5
           have H11 := Lib.hid h11
           clear h11)
        | (go_at_call 42; refine seenx_any H11.out ?_
           rw [HE.out]
           intro u w10 _ h12
           obtain ⟨A5, k5, rfl, -⟩ := h12.readsA.at_
           have y6 := blk_cell (h12.pull 7).lies 0
           change _ = some (Value.int .i64 v) at y6
           have H12 := Lib.hid h12
           clear h12))
      refine And.intro ?_ ?_
      · intro _
        go_simp
      refine wpAnyC_ready (rs := [5]) (by kernel_rfl) (by simp) ?_
      refine AllC.cons rfl (fun K hK => ?_) ?_
      · go_simp
        go_wp2_with (first
          | (go_at_call 42; refine seenx_any H10.out.drew ?_
             rw [HE.out]
             intro u w9 _ h11
             obtain ⟨A5, k5, rfl, -⟩ := h11.readsA.at_
             have y5 := blk_cell (h11.pull 7).lies 0
             change _ = some (Value.int .i64 v) at y5
             have H11 := Lib.hid h11
             clear h11)
          | (go_at_call 18; refine size_any (H11.out.pull 1) ?_
             rw [HSZ.out]
             intro w10 h12
             have y6 := blk_cell (h12.pull 7).lies 0
             change _ = some (Value.int .i64 v) at y6
             have H12 := Lib.hid (h12.pull 1)
             clear h12)
          | (go_at_call 18; refine size_any H10.out.drew ?_
             rw [HSZ.out]
             intro w9 h11
             have y5 := blk_cell (h11.pull 6).lies 0
             change _ = some (Value.int .i64 v) at y5
             have H11 := Lib.hid h11
             clear h11)
          | (go_at_call 42; refine seenx_any H11.out ?_
             rw [HE.out]
             intro u w10 _ h12
             obtain ⟨A5, k5, rfl, -⟩ := h12.readsA.at_
             have y6 := blk_cell (h12.pull 7).lies 0
             change _ = some (Value.int .i64 v) at y6
             have H12 := Lib.hid h12
             clear h12))
        refine And.intro ?_ ?_
        · intro h
          exact absurd h (by decide)
        refine wpAnyC_takeP (i := 6) (v := ?_) rfl (by kernel_rfl) (by kernel_rfl) (by kernel_rfl) (by kernel_rfl) (fun _ _ _ h => h) (by rfl) ?_ ?_
        rotate_left 1
        · intro w
          go_simp
          try with_reducible rfl
        refine wpAnyC_takeP (i := 7) (v := ?_) rfl (by kernel_rfl) (by kernel_rfl) (by kernel_rfl) (by kernel_rfl) (fun _ _ _ h => h) (by rfl) ?_ ?_
        rotate_left 1
        · intro w
          go_simp
          try with_reducible rfl
        refine wpAnyC_done (by kernel_rfl) ?_ _
        go_wp2_with fail
        go_meet
        exact ⟨_, _, rfl, rfl, H12⟩
      exact AllC.nil
    exact AllC.nil
  obtain ⟨A5, k5, rfl, rfl, H13⟩ := hcut
  clear yv H10
  go_upto_region 6 with (first | (go_at_call 30; refine elems_any H13.out.swap ?_; intro v1 w9 _ h14; obtain ⟨E1, k1, rfl, -⟩ := h14.readsA.at_; obtain ⟨z0, z1, z2, z3, z4, z5⟩ := boxD (h14.pull 7); have H14 := Lib.hid h14; clear h14 H13))
  go_wp2_with fail
  refine call_any (H14.out.pull 5) HF.out.2.2.1 ?_
  clear z0 z1 z2 z3 z4 z5
  intro d' w10 hE h15
  have hN64 := callN_64 HF.out.2.2.1
  have hI64 := HF.out.2.1
  have hcs := HCS.out
  obtain ⟨op', i', n', label', L', wide', A', cp'⟩ := d'
  obtain ⟨e1, e2, e3, e4, e5⟩ := hE
  simp only at e1 e2 e3 e4 e5
  obtain ⟨op, hop⟩ : ∃ op, d.op = op := ⟨_, rfl⟩
  obtain ⟨i, hi⟩ : ∃ i, d.i = i := ⟨_, rfl⟩
  obtain ⟨n, hn⟩ : ∃ n, callN d = n := ⟨_, rfl⟩
  obtain ⟨lb, hlb⟩ : ∃ lb, d.label = lb := ⟨_, rfl⟩
  obtain ⟨M, hM⟩ : ∃ M, callL d = M := ⟨_, rfl⟩
  rw [hop] at e1
  rw [hi] at e2 hI64
  rw [hn] at e3 hN64
  rw [hlb] at e4
  rw [hM] at e5 hcs
  subst e1 e2 e3 e4 e5
  have hb := h15.pull 8
  have hst := store_run (P := Try.prog) (ty := 48) (cells := #[.int .i64 op', .int .i64 i', .int .i64 n', .int .i64 label', .slice A' L'.length cp', .bool wide']) hb.lies 0 (by kernel_rfl) (by intro u hu; simp at hu; rcases hu with rfl | rfl | rfl | rfl | rfl | rfl <;> rfl) (Nat.le_refl _)
  have h16 := hb.setRow (c' := spl (doC d).toArray 0 [.int .i64 op', .int .i64 i', .int .i64 n', .int .i64 label', .slice A' L'.length cp', .bool wide'])
  obtain ⟨w11, hw11⟩ : ∃ w11, w10.setRow (B + 1) (spl (doC d).toArray 0 [.int .i64 op', .int .i64 i', .int .i64 n', .int .i64 label', .slice A' L'.length cp', .bool wide']) = w11 := ⟨_, rfl⟩
  change _ = Result.ok () (w10.setRow (B + 1) (spl (doC d).toArray 0 [.int .i64 op', .int .i64 i', .int .i64 n', .int .i64 label', .slice A' L'.length cp', .bool wide'])) at hst
  rw [hw11] at hst h16
  rw [store48] at hst
  change St k w11 (pt (B + 1) (.cells #[.int .i64 op', .int .i64 i', .int .i64 n', .int .i64 label', .slice A' L'.length cp', .bool wide'] 48 (0, 0)) :: _) at h16
  obtain ⟨D, hD⟩ : ∃ D : DoM, D = ⟨op', i', n', label', L', false, A', cp'⟩ := ⟨_, rfl⟩
  have hDS : doS ⟨op', i', n', label', L', wide', A', cp'⟩ = doS D := by rw [hD]; rfl
  rw [hDS] at h16
  have H16 := Lib.hid h16
  have HD := Lib.hid hD
  have HI := Lib.hid (And.intro hI64 (And.intro hN64 hcs))
  clear hb h15 h16 hDS hw11 hop hi hn hlb hM hD hI64 hN64 hcs H14
  unfold doV
  go_upto_region 7 with fail
  have h17 := H16.out
  have x0 : _ = some (Value.int .i64 op') := blk_cell h17.lies 0
  have x1 : _ = some (Value.int .i64 i') := blk_cell h17.lies 1
  have x2 : _ = some (Value.int .i64 n') := blk_cell h17.lies 2
  have x3 : _ = some (Value.int .i64 label') := blk_cell h17.lies 3
  have x4 : _ = some (Value.slice A' L'.length cp') := blk_cell h17.lies 4
  have yv := blk_cell (h17.pull 9).lies 0
  change _ = some (Value.int .i64 v) at yv
  obtain ⟨y0, y1, y2⟩ := boxP (h17.pull 8)
  have H17 := Lib.hid h17
  clear h17 H16 hst
  obtain ⟨o, ho⟩ : ∃ o, bits .and .i64 op' 7 = o := ⟨_, rfl⟩
  have HO2 := Lib.hid ho
  go_upto_region 7 with fail
  iterate 8 go_step
  have hEL := HO.out.2.1
  obtain ⟨N, hN⟩ : ∃ N, es.length = N := ⟨_, rfl⟩
  have HN := Lib.hid hN
  rw [hN] at hEL
  have hN2 : (N : Int) ≤ 1048576 := by omega
  rw [hN]
  clear hEL hN
  go_cut [13] (fun s wc => ∃ A6 n6 k6 T, s = .slice A6 n6 k6 ∧ n6 = T.length ∧ Hid (RowLike 3 (.slice A6 n6 k6) n6 (elsC T) (Asg.list ([pt (B + 1) (.cells #[.int .i64 op', .int .i64 i', .int .i64 n', .int .i64 label', .slice A' L'.length cp', .bool wide'] 48 (0, 0)), doS D, doS d, rowA 39 3 (.slice E1 es.length k1) es.length (elsC es), Rope g (polOf p) es c, rowA 39 3 (.slice A5 E.length k5) E.length (elsC E), dosS A cp ds]))) ∧ Hid (T = touchP es D ∧ (o = 6 → seesB p v label' = false)) ∧ Hid (St k wc (polS p A0 A1 A2 c0 c1 c2 :: pt B (.cells (polC p A0 A1 A2 c0 c1 c2) 26 (0, 0)) :: pt (B + 2) (.cells #[.int .i64 v] 3 (0, 0)) :: Asg.list ([pt (B + 1) (.cells #[.int .i64 op', .int .i64 i', .int .i64 n', .int .i64 label', .slice A' L'.length cp', .bool wide'] 48 (0, 0)), doS D, doS d, rowA 39 3 (.slice E1 es.length k1) es.length (elsC es), Rope g (polOf p) es c, rowA 39 3 (.slice A5 E.length k5) E.length (elsC E), dosS A cp ds]) :: L)))
  case first =>
    have h18 := ((St.shut_list [pt (B + 1) (.cells #[.int .i64 op', .int .i64 i', .int .i64 n', .int .i64 label', .slice A' L'.length cp', .bool wide'] 48 (0, 0)), doS D, doS d, rowA 39 3 (.slice E1 es.length k1) es.length (elsC es), Rope g (polOf p) es c, rowA 39 3 (.slice A5 E.length k5) E.length (elsC E), dosS A cp ds] ((H17.out.pull 6).push 7)).push 3)
    have H18 := Lib.hid h18
    change Hid (St k w11 (polS p A0 A1 A2 c0 c1 c2 :: pt B (.cells (polC p A0 A1 A2 c0 c1 c2) 26 (0, 0)) :: pt (B + 2) (.cells #[.int .i64 v] 3 (0, 0)) :: Asg.list ([pt (B + 1) (.cells #[.int .i64 op', .int .i64 i', .int .i64 n', .int .i64 label', .slice A' L'.length cp', .bool wide'] 48 (0, 0)), doS D, doS d, rowA 39 3 (.slice E1 es.length k1) es.length (elsC es), Rope g (polOf p) es c, rowA 39 3 (.slice A5 E.length k5) E.length (elsC E), dosS A cp ds]) :: L)) at H18
    by_cases h456 : o = 4 ∨ o = 5 ∨ o = 6
    case neg =>
      have e4 : (o == 4) = false := by simp; omega
      have e5 : (o == 5) = false := by simp; omega
      have e6 : (o == 6) = false := by simp; omega
      have HT : Hid (L' = touchP es D ∧ (o = 6 → seesB p v label' = false)) := Lib.hid (by
        refine ⟨?_, fun h => absurd (Or.inr (Or.inr h)) h456⟩
        unfold touchP
        rw [HD.out, if_neg (by simp only [HO2.out]; exact h456)])
      have HRL : Hid (RowLike 3 (.slice A' L'.length cp') L'.length (elsC L') (Asg.list ([pt (B + 1) (.cells #[.int .i64 op', .int .i64 i', .int .i64 n', .int .i64 label', .slice A' L'.length cp', .bool wide'] 48 (0, 0)), doS D, doS d, rowA 39 3 (.slice E1 es.length k1) es.length (elsC es), Rope g (polOf p) es c, rowA 39 3 (.slice A5 E.length k5) E.length (elsC E), dosS A cp ds]))) := Lib.hid (fun k w L h => by
        have h1 := (h.open_list.pull 1)
        have h2 : St k w (doS D :: _) := h1
        rw [HD.out] at h2
        exact St.readsS h2)
      clear h456
      go_wp2_with fail
      go_meet
      exact ⟨_, _, _, L', rfl, rfl, HRL, HT, H18⟩
    obtain ⟨⟨i1, i2⟩, ⟨n1, n2⟩, hcs⟩ := HI.out
    by_cases hb : badR es i' n'
    case pos =>
      have HT : (o = 6 → seesB p v label' = false) → Hid ([] = touchP es D ∧ (o = 6 → seesB p v label' = false)) := fun h6 => Lib.hid ⟨by
        unfold touchP
        rw [HD.out, if_pos (by simp only [HO2.out]; exact h456), if_pos hb], h6⟩
      have HRL : Hid (RowLike 3 (.slice none 0 0) 0 (elsC []) (Asg.list ([pt (B + 1) (.cells #[.int .i64 op', .int .i64 i', .int .i64 n', .int .i64 label', .slice A' L'.length cp', .bool wide'] 48 (0, 0)), doS D, doS d, rowA 39 3 (.slice E1 es.length k1) es.length (elsC es), Rope g (polOf p) es c, rowA 39 3 (.slice A5 E.length k5) E.length (elsC E), dosS A cp ds]))) := Lib.hid (fun _ _ _ _ => Reads.nil _ _)
      have hb2 : i' < 0 ∨ (0 ≤ i' ∧ n' < 0) ∨ (0 ≤ i' ∧ 0 ≤ n' ∧ (N : Int) < i') ∨ (0 ≤ i' ∧ 0 ≤ n' ∧ i' ≤ (N : Int) ∧ (N : Int) - i' < n') := by
        unfold badR at hb
        rw [HN.out] at hb
        omega
      clear hb
      rcases hb2 with g1 | ⟨g1, g2⟩ | ⟨g1, g2, g3⟩ | ⟨g1, g2, g3, g4⟩
      all_goals
        rcases h456 with rfl | rfl | rfl
        · go_wp2_with fail
          go_meet
          exact ⟨_, _, _, [], rfl, rfl, HRL, HT (fun h => absurd h (by decide)), H18⟩
        · go_wp2_with fail
          go_meet
          exact ⟨_, _, _, [], rfl, rfl, HRL, HT (fun h => absurd h (by decide)), H18⟩
        · cases hsl : seesB p v label'
          · have HH : Hid ([] = touchP es D ∧ ((6 : Int) = 6 → seesB p v label' = false)) := HT (fun _ => hsl)
            have hsb := sees_any p v label' A0 A1 A2 c0 c1 c2 w11 (polS_out H18.out).1
            rw [hsl] at hsb
            have HSB := Lib.hid hsb
            clear hsb HT hsl
            go_wp2_with (go_at_call 23; refine HSB.out.mono ?_; rintro _ w12 ⟨rfl, hb⟩; have H19 := Lib.hid (st_later H18.out hb); clear hb)
            go_meet
            exact ⟨_, _, _, [], rfl, rfl, HRL, HH, H19⟩
          · have hsb := sees_any p v label' A0 A1 A2 c0 c1 c2 w11 (polS_out H18.out).1
            rw [hsl] at hsb
            have HSB := Lib.hid hsb
            clear hsb HT hsl
            go_wp2_with (first | (go_at_call 23; refine HSB.out.mono ?_; rintro _ w12 ⟨rfl, hb⟩; have H19 := Lib.hid (st_later H18.out hb); clear hb) | (go_at_call 16; refine awake_any H19.out.drop.drop.drop.drop fun wz hz => ?_; have HX := Lib.hid (HR.out _ hz); clear hz))
            exact HX.out
    case neg =>
      have hb2 : 0 ≤ i' ∧ 0 ≤ n' ∧ i' ≤ (N : Int) ∧ n' ≤ (N : Int) - i' := by
        unfold badR at hb
        rw [HN.out] at hb
        omega
      obtain ⟨I, rfl⟩ : ∃ I : Nat, i' = I := ⟨i'.toNat, by omega⟩
      obtain ⟨J, rfl⟩ : ∃ J : Nat, n' = J := ⟨n'.toNat, by omega⟩
      obtain ⟨g1, g2, g3, g4⟩ := hb2
      obtain ⟨A7, k7, hv7, q1, q2, -⟩ := (H17.out.pull 3).readsA.at_
      injection hv7 with e1 e2 e3
      subst e1 e3
      rw [HN.out] at q1
      have hkc := cut_lh (P := Try.prog) (t := 46) (e := 39) (sz := 3) (A := E1) (n := N) (c := k1) (i := I) (j := I + J) (k1 := .i64) (k2 := .i64) Try.underlying46 size39 (by omega) (by omega)
      obtain ⟨A6, k6, hV⟩ : ∃ A6 k6, sliced E1 I (I + J) k1 3 = .slice A6 J k6 := ⟨_, _, by unfold sliced; rw [Nat.add_sub_cancel_left]⟩
      rw [hV, Int.natCast_add] at hkc
      have HRL : Hid (RowLike 3 (.slice A6 J k6) J (elsC ((es.drop I).take J)) (Asg.list ([pt (B + 1) (.cells #[.int .i64 op', .int .i64 (I : Int), .int .i64 (J : Int), .int .i64 label', .slice A' L'.length cp', .bool wide'] 48 (0, 0)), doS D, doS d, rowA 39 3 (.slice E1 es.length k1) es.length (elsC es), Rope g (polOf p) es c, rowA 39 3 (.slice A5 E.length k5) E.length (elsC E), dosS A cp ds]))) := Lib.hid (fun k w L h => by
        have h1 := (h.open_list.pull 3)
        have h2 : St k w (rowA 39 3 (.slice E1 es.length k1) es.length (elsC es) :: _) := h1
        have h3 := h2.readsA.sliced (i := I) (j := I + J) (by omega) (by rw [HN.out]; omega)
        rw [hV, Nat.add_sub_cancel_left, elsC_drop, elsC_take] at h3
        exact h3)
      have hTL : J = ((es.drop I).take J).length := by rw [List.length_take, List.length_drop, HN.out]; omega
      have HTL := Lib.hid hTL
      have HT : (o = 6 → seesB p v label' = false) → Hid ((es.drop I).take J = touchP es D ∧ (o = 6 → seesB p v label' = false)) := fun h6 => Lib.hid ⟨by
        unfold touchP
        rw [HD.out, if_pos (by simp only [HO2.out]; exact h456), if_neg hb, Int.toNat_natCast, Int.toNat_natCast], h6⟩
      have g5 : (I : Int) + (J : Int) ≤ 1048576 := by omega
      clear hb hV hTL q1 q2
      rcases h456 with rfl | rfl | rfl
      · go_wp2_with fail
        go_meet
        exact ⟨_, _, _, _, rfl, HTL.out, HRL, HT (fun h => absurd h (by decide)), H18⟩
      · go_wp2_with fail
        go_meet
        exact ⟨_, _, _, _, rfl, HTL.out, HRL, HT (fun h => absurd h (by decide)), H18⟩
      · cases hsl : seesB p v label'
        · have HH : Hid ((es.drop I).take J = touchP es D ∧ ((6 : Int) = 6 → seesB p v label' = false)) := HT (fun _ => hsl)
          have hsb := sees_any p v label' A0 A1 A2 c0 c1 c2 w11 (polS_out H18.out).1
          rw [hsl] at hsb
          have HSB := Lib.hid hsb
          clear hsb HT hsl
          go_wp2_with (go_at_call 23; refine HSB.out.mono ?_; rintro _ w12 ⟨rfl, hb⟩; have H19 := Lib.hid (st_later H18.out hb); clear hb)
          go_meet
          exact ⟨_, _, _, _, rfl, HTL.out, HRL, HH, H19⟩
        · have hsb := sees_any p v label' A0 A1 A2 c0 c1 c2 w11 (polS_out H18.out).1
          rw [hsl] at hsb
          have HSB := Lib.hid hsb
          clear hsb HT hsl
          go_wp2_with (first | (go_at_call 23; refine HSB.out.mono ?_; rintro _ w12 ⟨rfl, hb⟩; have H19 := Lib.hid (st_later H18.out hb); clear hb) | (go_at_call 16; refine awake_any H19.out.drop.drop.drop.drop fun wz hz => ?_; have HX := Lib.hid (HR.out _ hz); clear hz))
          exact HX.out
  obtain ⟨A6, n6, k6, T, rfl, hn6, HRL, HT, H18⟩ := hcut
  have HN6 := Lib.hid hn6
  clear hn6 H17 x0 x1 x2 x3 x4 y0 y1 y2 yv ho
  go_wp2_with fail
  refine contains_any H18.out HRL.out HN6.out ?_
  intro s w12 hs h19
  have H19 := Lib.hid h19
  have HS2 := Lib.hid hs
  clear h19 H18 hs
  cases s
  case true =>
    go_wp2_with fail
    refine awake_any H19.out.drop.drop.drop.drop fun wz hz => ?_
    have HX := Lib.hid (HR.out _ hz)
    clear hz
    go_wp2
    exact HX.out
  have hun := HS2.out rfl
  have h20 := (H19.out.pull 3).open_list
  change St k w12 ([pt (B + 1) (.cells #[.int .i64 op', .int .i64 i', .int .i64 n', .int .i64 label', .slice A' L'.length cp', .bool wide'] 48 (0, 0)), doS D, doS d, rowA 39 3 (.slice E1 es.length k1) es.length (elsC es), Rope g (polOf p) es c, rowA 39 3 (.slice A5 E.length k5) E.length (elsC E), dosS A cp ds, polS p A0 A1 A2 c0 c1 c2, pt B (.cells (polC p A0 A1 A2 c0 c1 c2) 26 (0, 0)), pt (B + 2) (.cells #[.int .i64 v] 3 (0, 0))] ++ L) at h20
  have h21 := (h20.pull 1).pull 4
  change St k w12 (Rope g (polOf p) es c :: doS D :: pt (B + 1) (.cells #[.int .i64 op', .int .i64 i', .int .i64 n', .int .i64 label', .slice A' L'.length cp', .bool wide'] 48 (0, 0)) :: doS d :: rowA 39 3 (.slice E1 es.length k1) es.length (elsC es) :: rowA 39 3 (.slice A5 E.length k5) E.length (elsC E) :: dosS A cp ds :: polS p A0 A1 A2 c0 c1 c2 :: pt B (.cells (polC p A0 A1 A2 c0 c1 c2) 26 (0, 0)) :: pt (B + 2) (.cells #[.int .i64 v] 3 (0, 0)) :: L) at h21
  have x0 : _ = some (Value.int .i64 op') := blk_cell (h21.pull 2).lies 0
  have x1 : _ = some (Value.int .i64 i') := blk_cell (h21.pull 2).lies 1
  have x2 : _ = some (Value.int .i64 n') := blk_cell (h21.pull 2).lies 2
  have x3 : _ = some (Value.int .i64 label') := blk_cell (h21.pull 2).lies 3
  have x4 : _ = some (Value.slice A' L'.length cp') := blk_cell (h21.pull 2).lies 4
  have H21 := Lib.hid h21
  have HUN := Lib.hid hun
  have hcl : callL D = L' := by rw [HD.out]; rfl
  have hdo := fun (Q : Ending → World → Prop) => does_any (R := Q) h21 (by rw [HD.out]; exact HI.out.1) (by rw [HD.out]; exact HI.out.2.1) (by rw [hcl]; have := HI.out.2.2; omega)
  have hdv : doV D = .agg #[.int .i64 op', .int .i64 i', .int .i64 n', .int .i64 label', .slice A' L'.length cp', .bool false] := by rw [HD.out]
  rw [hdv] at hdo
  have HDO := Lib.hid hdo
  clear h20 h21 hun hdo hdv hcl
  go_wp2_with fail
  refine HDO.out _ ?_
  intro u w13 h22
  have h23 := h22.pull 1
  obtain ⟨es', hes'⟩ : ∃ es', (doP (polOf p) es D).2.2 = es' := ⟨_, rfl⟩
  rw [hes'] at h23
  obtain ⟨r2, -, ho2⟩ := Rope.out h23
  have hsame : seenE (polOf p) v es' = E := by
    rw [← HE.out, ← seen_filter HP32.out ho2.fit v, ← seen_filter HP32.out HO.out.1 v, ← hes']
    refine sight_law (fun l => seesB p v l) (by rw [HD.out]) ?_ ?_
    · rw [← HT.out.1]; exact HUN.out
    · intro h6
      have h7 := HT.out.2
      rw [HD.out] at h6 ⊢
      exact h7 (HO2.out.symm.trans h6)
  have hsz : sizeP (polOf p) v es' = S := by rw [sizeP_seen, hsame, ← HE.out, ← sizeP_seen, HSZ.out]
  have HSA := Lib.hid (And.intro hsame hsz)
  have yv := blk_cell (h23.pull 10).lies 0
  change _ = some (Value.int .i64 v) at yv
  have H23 := Lib.hid h23
  obtain ⟨c', hc'⟩ : ∃ c', c + (callL D).length = c' := ⟨_, rfl⟩
  rw [hc'] at H23
  clear h22 h23 hes' ho2 hsame hsz hc' H21 HDO x0 x1 x2 x3 x4
  go_wp2_with fail
  refine seenx_any H23.out ?_
  rw [HSA.out.1]
  intro u2 w14 _ h24
  obtain ⟨A8, k8, rfl, -⟩ := h24.readsA.at_
  have h25 := h24.pull 7
  have h26 : St k w14 (rowA 39 3 (.slice A5 E.length k5) E.length (elsC E) :: rowA 39 3 (.slice A8 E.length k8) E.length (elsC E) :: Rope g (polOf p) es' c' :: _) := h25
  have H26 := Lib.hid h26
  clear h24 h25 h26 H23 yv
  go_wp2_with fail
  refine same_any (a := E) (b := E) H26.out (rowLike_A 39 3 (.slice A5 E.length k5) E.length (elsC E)) (rowLike_A 39 3 (.slice A8 E.length k8) E.length (elsC E)) rfl rfl ?_
  intro w15 h27
  rw [decide_eq_true (rfl : E = E)]
  have h28 := h27.pull 2
  have yv := blk_cell (h28.pull 11).lies 0
  change _ = some (Value.int .i64 v) at yv
  have H28 := Lib.hid h28
  clear h27 h28 H26
  go_wp2_with fail
  refine size_any H28.out ?_
  rw [HSA.out.2]
  intro w16 h29
  have H29 := Lib.hid h29.drop.drop.drop.drop.drop.drop.drop.drop.drop.drop.drop.drop
  clear h29 H28 yv
  go_wp2_with fail
  refine awake_any H29.out fun wz hz => ?_
  have HX := Lib.hid (HR.out _ hz)
  clear hz
  go_wp2
  exact HX.out
end
end Go.Proofs.Ytdgaffcfcgmfnaa
