/- The reference's sequence: Text. The reference's sequence: Insert. The reference's sequence: Remove, Relabel. -/
import Derived.Test.YtdgaffcfcgmfnaaF4
import Derived.Laws.Concat
import Derived.Test.YtdgaffcfcgmfnaaSv
import Derived.Test.YtdgaffcfcgmfnaaZn
import Derived.Test.YtdgaffcfcgmfnaaSc
namespace Go.Proofs.Ytdgaffcfcgmfnaa
open Go.RowKit Go.Sl

theorem enc_le (r : Int) : (Utf8.encode r).size ≤ 4 := by
  unfold Utf8.encode
  simp only
  repeat' split
  all_goals simp [ByteArray.size]
theorem textE_snoc (l : List El) (e : El) : textE (l ++ [e]) = textE l ++ Utf8.encode e.rune := by
  unfold textE runesBytes
  rw [List.map_append, List.foldl_append]
  rfl
section
variable {k w : World} {L : List Asn} {g : Nat} {p : PV} {A0 A1 A2 : Option Addr} {c0 c1 c2 : Nat} {es : List El} {R : Ending → World → Prop}
attribute [local go_sem high] run_string_add
set_option maxRecDepth 100000 in
set_option maxHeartbeats 4000000 in
theorem rtext_any {v : Int} (h : St k w (refA g p A0 A1 A2 c0 c1 c2 es :: polS p A0 A1 A2 c0 c1 c2 :: L)) (hL : ∀ x ∈ p.labels, inLab x) (h32 : p.labels.length ≤ 32) (hf : Fit (polOf p) es) (hlen : es.length ≤ 1048576)
    (hR : ∀ w', St k w' (refA g p A0 A1 A2 c0 c1 c2 es :: polS p A0 A1 A2 c0 c1 c2 :: L) → R (.returned (.string (textE (seenE (polOf p) v es)))) w') : Calls Try.prog 43 #[.pointer (some ⟨g, 0, none⟩), .int .i64 v] w R := by
  have hsl : (seenE (polOf p) v es).length ≤ es.length := by
    unfold seenE
    split
    · exact List.length_filter_le _ _
    · simp
  have HS := Lib.hid (fun (Q : Ending → World → Prop) => rseen_any (R := Q) (v := v) h hL h32 hf hlen)
  obtain ⟨S, hS⟩ : ∃ S, seenE (polOf p) v es = S := ⟨_, rfl⟩
  rw [hS] at hsl HS hR
  have HR := Lib.hid hR
  obtain ⟨M, hM⟩ : ∃ M, S.length = M := ⟨_, rfl⟩
  have HM := Lib.hid hM
  have hb : (M : Int) ≤ 1048576 := by omega
  clear h hR hS hf hL h32 hM
  go_enter Try.func43, Try.ntmps43
  go_wp2_with fail
  refine HS.out _ ?_
  clear HS
  intro u w1 h1
  obtain ⟨A, cc, rfl, -⟩ := h1.readsA.at_
  have H1 := Lib.hid h1
  clear h1
  rw [HM.out]
  go_wp2_with fail
  go_loopw [5, 12] (fun s j wr => ∃ (q : Nat) (T : ByteArray), q ≤ M ∧ j = .int .i64 q ∧ s = .string T ∧ (T.size : Int) ≤ 4 * (q : Int) ∧ Hid (T = textE (S.take q)) ∧ Hid (St k wr (rowA 39 3 (.slice A S.length cc) S.length (elsC S) :: refA g p A0 A1 A2 c0 c1 c2 es :: polS p A0 A1 A2 c0 c1 c2 :: L))) (fun _ j _ => M - (intOf j).toNat)
  case atStart => exact ⟨0, _, by omega, rfl, rfl, by decide, Lib.hid rfl, H1⟩
  case round =>
    obtain ⟨q, T, hq, rfl, rfl, hT, HT, HW⟩ := hrel
    by_cases hlt : q < M
    · have hnx := HM.out
      obtain ⟨b, o, rfl, hcell⟩ := reads_el (HW.out.readsA) rfl (by omega)
      obtain ⟨e, he⟩ : ∃ e, S[q]? = some e := ⟨_, List.getElem?_eq_getElem (by omega)⟩
      have e0 := hcell q e 0 _ he rfl
      have e1 := hcell q e 1 _ he rfl
      have e2 := hcell q e 2 _ he rfl
      rw [Nat.add_zero] at e0
      have htk : textE (S.take (q + 1)) = T ++ Utf8.encode e.rune := by rw [List.take_add_one, he, HT.out]; exact textE_snoc _ _
      have HTK := Lib.hid htk
      have hel := enc_le e.rune
      obtain ⟨U, hU⟩ : ∃ U, Utf8.encode e.rune = U := ⟨_, rfl⟩
      rw [hU] at hel HTK
      have hul : (U.size : Int) ≤ 8388608 := by omega
      have htl : (T.size : Int) ≤ 8388608 := by omega
      have hsz : ((T ++ U).size : Int) ≤ 4 * ((q + 1 : Nat) : Int) := by rw [ByteArray.size_append]; omega
      have HSZ := Lib.hid hsz
      have hb2 : (q : Int) < (M : Int) := by omega
      have h2 := HW.out.alloc (.cells #[.int .i64 e.id, .int .i32 e.rune, .int .i64 e.label] 39)
      have H2 := Lib.hid h2.drop
      clear hcell he htk HW h2 HT hel hsz hnx hT
      have hcv : ∀ w : World, (convert 21 9 (.int .i32 e.rune)).run Try.prog w = .ok (.string U) w := fun w => by
        rw [run_convert_int_string w 21 9 .i32 e.rune (by rw [Try.underlying21]; rfl) Try.underlying9, hU]
      clear hU
      go_wp2
      go_roundw
      case rel => exact ⟨q + 1, _, by omega, by go_num, rfl, HSZ.out, Lib.hid HTK.out.symm, H2⟩
      case measure => simp [intOf]; omega
    · obtain rfl : q = M := by omega
      have hx := HT.out
      rw [List.take_of_length_le (by rw [HM.out]; exact Nat.le_refl _)] at hx
      have h3 := HR.out _ HW.out.drop
      rw [← hx] at h3
      have HX := Lib.hid h3
      clear h3 HW hx
      go_wp2
      exact HX.out
end
end Go.Proofs.Ytdgaffcfcgmfnaa
namespace Go.Proofs.Ytdgaffcfcgmfnaa
open Go.RowKit Go.Sl

theorem slc46 (x : Value) (lo hi mx : Option Value) : Instr.sliceAt 46 x lo hi mx = cutBig 46 x lo hi mx := rfl
section
attribute [local go_sem ↓ high] slc46
variable {k w : World} {L : List Asn} {g : Nat} {p : PV} {A0 A1 A2 : Option Addr} {c0 c1 c2 : Nat} {es l : List El} {X : Asn} {R : Ending → World → Prop}
theorem badE_snoc {P : Pol} {l : List El} {q : Nat} {e : El} (h : l[q]? = some e) (h0 : badE P (l.take q) = 0) : badE P (l.take (q + 1)) = if P.has e.label = true then (if runeOk e.rune = true then 0 else 21) else 10 := by
  rw [List.take_add_one, h]
  exact badE_app P _ _ h0
theorem badE_take {P : Pol} : ∀ {l : List El} {q : Nat}, badE P (l.take q) ≠ 0 → badE P l = badE P (l.take q)
  | [], q, h => by simp
  | e :: l, 0, h => absurd rfl h
  | e :: l, q + 1, h => by
    rw [List.take_succ_cons] at h ⊢
    simp only [badE] at h ⊢
    by_cases h1 : P.has e.label = true
    · rw [if_pos h1] at h ⊢
      rw [if_pos h1]
      by_cases h2 : runeOk e.rune = true
      · rw [if_pos h2] at h ⊢
        rw [if_pos h2]
        exact badE_take h
      · rw [if_neg h2] at h ⊢
        rw [if_neg h2]
    · rw [if_neg h1] at h ⊢
      rw [if_neg h1]
theorem ref_put {V x : Value} {n : Nat} (h : St k w (rowA 39 3 V n (elsC es) :: pt g (.cells (refC p A0 A1 A2 c0 c1 c2 x) 72 (0, 0)) :: L)) (hn : n = es.length) : St k (w.setCell ⟨g, 3, none⟩ V) (refA g p A0 A1 A2 c0 c1 c2 es :: L) := by
  subst hn
  have h1 := h.swap.set 3 V
  exact ref_mk h1
set_option maxRecDepth 100000 in
set_option maxHeartbeats 4000000 in
theorem rinsert_any {i : Int} {B : Option Addr} {n cp : Nat} (h : St k w (refA g p A0 A1 A2 c0 c1 c2 es :: X :: L)) (hX : RowLike 3 (.slice B n cp) n (elsC l) X) (hn : n = l.length) (hlen : es.length ≤ 1048576) (hl : n ≤ 1048576)
    (hR : ∀ w', St k w' (refA g p A0 A1 A2 c0 c1 c2 (insertP (polOf p) es i l).2 :: X :: L) → R (.returned (.int .i64 (insertP (polOf p) es i l).1)) w') : Calls Try.prog 39 #[.pointer (some ⟨g, 0, none⟩), .int .i64 i, .slice B n cp] w R := by
  obtain ⟨A, cx, h1⟩ := ref_out h
  have HX := Lib.hid hX
  obtain ⟨y0, y1, y2, y3⟩ := boxR h1
  obtain ⟨M, hM⟩ : ∃ M, es.length = M := ⟨_, rfl⟩
  have HM := Lib.hid hM
  have HN := Lib.hid hn
  rw [hM] at hlen y3 h1
  have hM2 : (M : Int) ≤ 1048576 := by omega
  have hn2 : (n : Int) ≤ 1048576 := by omega
  obtain ⟨A', c', hv', q1, q2, -⟩ := (h1.pull 1).readsA.at_
  injection hv' with e1 e2 e3
  subst e1 e3
  have hcx := minLen q2
  have hcx2 : (cx : Int) ≤ 9223372036854775807 := by omega
  by_cases hbad : i < 0 ∨ (M : Int) < i ∨ 1048576 < (M : Int) + (n : Int)
  · have e : insertP (polOf p) es i l = (1, es) := by
      unfold insertP
      rw [if_pos (by rw [hM, ← hn]; omega)]
    rw [e] at hR
    have HR := Lib.hid (hR _ h)
    clear h h1 hR e hX hM hn
    rcases (show i < 0 ∨ (0 ≤ i ∧ (M : Int) < i) ∨ (0 ≤ i ∧ i ≤ (M : Int) ∧ 1048576 < (M : Int) + (n : Int)) by omega) with g0 | ⟨g0, g1⟩ | ⟨g0, g1, g2⟩
    all_goals
      clear hbad
      go_enter Try.func39, Try.ntmps39
      go_wp2
      exact HR.out
  · obtain ⟨I, rfl⟩ : ∃ I : Nat, i = I := ⟨i.toNat, by omega⟩
    have g1 : (I : Int) ≤ (M : Int) := by omega
    have g2 : (M : Int) + (n : Int) ≤ 1048576 := by omega
    have e : insertP (polOf p) es (I : Nat) l = if badE (polOf p) l = 0 then (0, es.take I ++ l ++ es.drop I) else (badE (polOf p) l, es) := by
      unfold insertP
      rw [if_neg (by rw [hM, ← hn]; omega), Int.toNat_natCast]
    rw [e] at hR
    have HR := Lib.hid hR
    have H1 := Lib.hid h1
    clear h h1 hR e hX hM hn hbad
    go_enter Try.func39, Try.ntmps39
    go_wp2
    clear y0 y1 y2 y3
    go_loopw [34] (fun j wr => ∃ q : Nat, q ≤ n ∧ j = .int .i64 q ∧ Hid (badE (polOf p) (l.take q) = 0) ∧ Hid (St k wr (pt g (.cells (refC p A0 A1 A2 c0 c1 c2 (.slice A M cx)) 72 (0, 0)) :: rowA 39 3 (.slice A M cx) M (elsC es) :: X :: L))) (fun j _ => n - (intOf j).toNat)
    case atStart => exact ⟨0, by omega, rfl, Lib.hid rfl, H1⟩
    case round =>
      obtain ⟨q, hq, rfl, HB, HW⟩ := hrel
      have hq2 : (q : Int) ≤ 1048576 := by omega
      by_cases hlt : q < n
      · obtain ⟨b, o, rfl, hcell⟩ := reads_el (n := n) (by have := HX.out _ _ _ (HW.out.pull 2); rw [← HN.out]; exact this) rfl (by rw [← HN.out]; omega)
        obtain ⟨e, he⟩ : ∃ e, l[q]? = some e := ⟨_, List.getElem?_eq_getElem (by rw [← HN.out]; exact hlt)⟩
        have e0 := hcell q e 0 _ he rfl
        have e1 := hcell q e 1 _ he rfl
        have e2 := hcell q e 2 _ he rfl
        rw [Nat.add_zero] at e0
        have hb2 : (q : Int) < (n : Int) := by omega
        have hsn := badE_snoc he HB.out
        have hw2 := HW.out.alloc (.cells #[.int .i64 e.id, .int .i32 e.rune, .int .i64 e.label] 39)
        have HP := Lib.hid (fun (Q : Ending → World → Prop) => rlabel_any (R := Q) (v := e.label) hw2.swap)
        have H2 := Lib.hid hw2.drop
        clear hcell he HW hw2
        cases hlb : (polOf p).has e.label
        · rw [hlb, if_neg (by decide)] at hsn
          have hbe : badE (polOf p) l = 10 := by rw [badE_take (q := q + 1) (by rw [hsn]; decide), hsn]
          have h3 := HR.out
          rw [hbe, if_neg (by decide)] at h3
          have HX2 := Lib.hid (h3 _ (ref_mk (by rw [HM.out]; exact H2.out)))
          have HLB := Lib.hid hlb
          clear h3 hbe hsn hlb
          go_wp2_with (go_at_call 72; refine HP.out _ ?_; rw [HLB.out])
          exact HX2.out
        · rw [hlb, if_pos rfl] at hsn
          have HLB := Lib.hid hlb
          clear hlb
          cases hrk : runeOk e.rune
          · rw [hrk, if_neg (by decide)] at hsn
            have hbe : badE (polOf p) l = 21 := by rw [badE_take (q := q + 1) (by rw [hsn]; decide), hsn]
            have h3 := HR.out
            rw [hbe, if_neg (by decide)] at h3
            have HX2 := Lib.hid (h3 _ (ref_mk (by rw [HM.out]; exact H2.out)))
            have hr2 : e.rune < 0 ∨ (0 ≤ e.rune ∧ 1114111 < e.rune) ∨ (0 ≤ e.rune ∧ e.rune ≤ 1114111 ∧ 55296 ≤ e.rune ∧ e.rune ≤ 57343) := by
              unfold runeOk at hrk
              have := of_decide_eq_false hrk
              omega
            clear h3 hbe hsn hrk
            rcases hr2 with r1 | ⟨r1, r2⟩ | ⟨r1, r2, r3, r4⟩
            all_goals
              go_wp2_with (go_at_call 72; refine HP.out _ ?_; rw [HLB.out])
              exact HX2.out
          · rw [hrk, if_pos rfl] at hsn
            have HSN := Lib.hid hsn
            have hr2 : (0 ≤ e.rune ∧ e.rune ≤ 1114111 ∧ e.rune < 55296) ∨ (0 ≤ e.rune ∧ e.rune ≤ 1114111 ∧ 55296 ≤ e.rune ∧ 57343 < e.rune) := by
              unfold runeOk at hrk
              have := of_decide_eq_true hrk
              omega
            clear hsn hrk
            rcases hr2 with ⟨r1, r2, r3⟩ | ⟨r1, r2, r3, r4⟩
            all_goals
              go_wp2_with (go_at_call 72; refine HP.out _ ?_; rw [HLB.out])
              go_roundw
              case rel => exact ⟨q + 1, by omega, by go_num, HSN, H2⟩
              case measure => simp [intOf]; omega
      · obtain rfl : q = n := by omega
        have hbe := HB.out
        rw [List.take_of_length_le (by rw [← HN.out]; exact Nat.le_refl _)] at hbe
        have h3 := HR.out
        rw [hbe, if_pos rfl] at h3
        have HX2 := Lib.hid h3
        clear h3 hbe HR hlt hq
        obtain ⟨-, -, -, y3⟩ := boxR HW.out
        have k1 := cut_h (P := Try.prog) (t := 46) (e := 39) (sz := 3) (A := A) (n := M) (c := cx) (j := I) (k2 := .i64) Try.underlying46 size39 (by omega)
        have k2 := cut_l (P := Try.prog) (t := 46) (e := 39) (sz := 3) (A := A) (n := M) (c := cx) (i := I) (k1 := .i64) Try.underlying46 size39 (by omega)
        have hr1 : ∀ (w : World), Reads w 3 (.slice A M cx) M (elsC es) → Reads w 3 (sliced A 0 I cx 3) I (elsC (es.take I)) := fun w h => by
          have := h.sliced (i := 0) (j := I) (by omega) (by omega)
          rwa [Nat.zero_mul, List.drop_zero, Nat.sub_zero, elsC_take] at this
        have hr2 : ∀ (w : World), Reads w 3 (.slice A M cx) M (elsC es) → Reads w 3 (sliced A I M cx 3) (M - I) (elsC (es.drop I)) := fun w h => by
          have := h.sliced (i := I) (j := M) (by omega) (by omega)
          rwa [elsC_drop, List.take_of_length_le (by rw [elsC_len, List.length_drop, HM.out]; exact Nat.le_refl _)] at this
        have HR1 := Lib.hid hr1
        have HR2 := Lib.hid hr2
        obtain ⟨V1, hV1⟩ : ∃ V1, sliced A 0 I cx 3 = V1 := ⟨_, rfl⟩
        obtain ⟨V2, hV2⟩ : ∃ V2, sliced A I M cx 3 = V2 := ⟨_, rfl⟩
        rw [hV1] at k1 HR1
        rw [hV2] at k2 HR2
        clear hr1 hr2 hV1 hV2
        have z3 := cell_alloc y3 (.cells #[] 39)
        have h4 := HW.out.alloc (.cells #[] 39)
        have h5 := h4.shutA (sz := 3) (n := 0) (cap := 0) (cs := []) (Nat.le_refl _) (by decide) rfl rfl
        have HRA := Lib.hid (HR1.out _ (h5.pull 2).readsA)
        have H5 := Lib.hid h5
        clear h4 h5
        go_wp2_with ((at_builtin; first
          | (refine wpList_append rfl _ _ rfl Try.underlying46 info39 rfl (by decide) (n := 0) (cs := []) H5.out HRA.out rfl rfl (elsC_one _) (by unfold maxLen; omega) (by omega) ?_
             intro v' w5 h6 h7
             rw [Nat.zero_add, List.nil_append] at h6
             obtain ⟨A5, c5, rfl, -⟩ := h6.readsA.at_
             have HRB := Lib.hid (HX.out _ _ _ (h6.pull 3))
             have H6 := Lib.hid h6
             clear h6 h7 HRA H5)
          | (refine wpList_append rfl _ _ rfl Try.underlying46 info39 rfl (by decide) (n := I) (cs := elsC (es.take I)) H6.out HRB.out rfl rfl (elsC_one _) (by unfold maxLen; omega) (by omega) ?_
             intro v' w6 h6 h7
             rw [← elsC_app] at h6
             obtain ⟨A6, c6, rfl, -⟩ := h6.readsA.at_
             have HRC := Lib.hid (HR2.out _ (h6.pull 2).readsA)
             obtain ⟨-, -, -, y4⟩ := boxR (h6.pull 1)
             have H7 := Lib.hid h6
             clear h6 h7 HRB H6)
          | (refine wpList_append rfl _ _ rfl Try.underlying46 info39 rfl (by decide) (n := I + q) (cs := elsC (es.take I ++ l)) H7.out HRC.out rfl rfl (elsC_one _) (by unfold maxLen; omega) (by omega) ?_
             intro v' w7 h6 h7
             rw [← elsC_app] at h6
             obtain ⟨A7, c7, rfl, -⟩ := h6.readsA.at_
             have f0 := fun j => blk_frozen (h6.pull 1).lies j
             obtain ⟨-, -, -, y5⟩ := boxR (h6.pull 1)
             have H8 := Lib.hid h6
             clear h6 h7 HRC H7)))
        exact HX2.out _ ((ref_put H8.out (by
          have := HM.out
          have := HN.out
          simp only [List.length_append, List.length_take, List.length_drop]
          omega)).swap.drop)
end
end Go.Proofs.Ytdgaffcfcgmfnaa
namespace Go.Proofs.Ytdgaffcfcgmfnaa
open Go.RowKit Go.Sl

section
attribute [local go_sem ↓ high] slc46
variable {k w : World} {L : List Asn} {g : Nat} {p : PV} {A0 A1 A2 : Option Addr} {c0 c1 c2 : Nat} {es : List El} {R : Ending → World → Prop}
/-- A label in a row of one's own. -/
theorem row_lbl {A : Option Addr} {n c j : Nat} {e : El} (l : Int) (h : St k w (rowA 39 3 (.slice A n c) n (elsC es) :: L)) (he : es[j]? = some e) (hn : n = es.length) :
    ∃ b, A = some ⟨b, 0, none⟩ ∧ w.frozen? ⟨b, j * 3 + 2, none⟩ = false ∧ w.cell? ⟨b, j * 3 + 2, none⟩ = some (.int .i64 e.label) ∧ b < w.heap.size ∧ St k (w.setCell ⟨b, j * 3 + 2, none⟩ (.int .i64 l)) (rowA 39 3 (.slice A n c) n (elsC (es.set j { e with label := l })) :: L) := by
  have hj := (List.getElem?_eq_some_iff.1 he).1
  rcases h.openA with ⟨h0, h1, -⟩ | ⟨b, cap, cur, hv, hn1, hc, hs, ht, hl, h'⟩
  · omega
  · injection hv with e1 e2 e3
    subst e1 e3
    refine ⟨b, rfl, blk_frozen h'.lies _, ?_, blk_lt h'.lies, ?_⟩
    · rw [blk_cell h'.lies, ← Array.getElem?_toList]
      refine take_get ht ?_
      unfold elsC
      rw [flat_get elC_len _ _ _ (by decide), he]; rfl
    · refine (h'.set (j * 3 + 2) (.int .i64 l)).shutA hn1 hc (by simpa using hs) ?_
      rw [Array.toList_setIfInBounds, List.take_set, ht]
      unfold elsC
      exact flat_set elC_len _ _ _ e _ _ (by decide) he rfl
set_option maxRecDepth 100000 in
set_option maxHeartbeats 4000000 in
theorem rremove_any {i n : Int} (h : St k w (refA g p A0 A1 A2 c0 c1 c2 es :: L)) (hlen : es.length ≤ 1048576) (hi : I64 i) (hn : I64 n)
    (hR : ∀ v w', St k w' (rowA 39 3 v (removeP es i n).1.length (elsC (removeP es i n).1) :: refA g p A0 A1 A2 c0 c1 c2 (removeP es i n).2.2 :: L) → R (.returned (.tuple #[v, .int .i64 (removeP es i n).2.1])) w') : Calls Try.prog 37 #[.pointer (some ⟨g, 0, none⟩), .int .i64 i, .int .i64 n] w R := by
  obtain ⟨A, cx, h1⟩ := ref_out h
  obtain ⟨y0, y1, y2, y3⟩ := boxR h1
  obtain ⟨M, hM⟩ : ∃ M, es.length = M := ⟨_, rfl⟩
  have HM := Lib.hid hM
  rw [hM] at hlen y3 h1
  have hM2 : (M : Int) ≤ 1048576 := by omega
  obtain ⟨A', c', hv', q1, q2, -⟩ := (h1.pull 1).readsA.at_
  injection hv' with e1 e2 e3
  subst e1 e3
  have hcx := minLen q2
  obtain ⟨i1, i2⟩ := hi
  obtain ⟨n1, n2⟩ := hn
  by_cases hbad : badR es i n
  · have e : removeP es i n = ([], 1, es) := by
      unfold removeP
      rw [if_pos hbad]
    rw [e] at hR
    have HR := Lib.hid (hR _ _ (h.nilA 39 3))
    have hb2 : i < 0 ∨ (0 ≤ i ∧ n < 0) ∨ (0 ≤ i ∧ 0 ≤ n ∧ (M : Int) < i) ∨ (0 ≤ i ∧ 0 ≤ n ∧ i ≤ (M : Int) ∧ (M : Int) - i < n) := by
      unfold badR at hbad
      rw [hM] at hbad
      omega
    clear h h1 hR e hM hbad
    rcases hb2 with g1 | ⟨g1, g2⟩ | ⟨g1, g2, g3⟩ | ⟨g1, g2, g3, g4⟩
    all_goals
      go_enter Try.func37, Try.ntmps37
      go_wp2
      exact HR.out
  · have hb2 : 0 ≤ i ∧ 0 ≤ n ∧ i ≤ (M : Int) ∧ n ≤ (M : Int) - i := by
      unfold badR at hbad
      rw [hM] at hbad
      omega
    obtain ⟨I, rfl⟩ : ∃ I : Nat, i = I := ⟨i.toNat, by omega⟩
    obtain ⟨J, rfl⟩ : ∃ J : Nat, n = J := ⟨n.toNat, by omega⟩
    obtain ⟨g1, g2, g3, g4⟩ := hb2
    have e : removeP es (I : Nat) (J : Nat) = ((es.drop I).take J, 0, es.take I ++ es.drop (I + J)) := by
      unfold removeP
      rw [if_neg hbad]; rfl
    rw [e] at hR
    have HR := Lib.hid hR
    have k1 := cut_lh (P := Try.prog) (t := 46) (e := 39) (sz := 3) (A := A) (n := M) (c := cx) (i := I) (j := I + J) (k1 := .i64) (k2 := .i64) Try.underlying46 size39 (by omega) (by omega)
    have k2 := cut_h (P := Try.prog) (t := 46) (e := 39) (sz := 3) (A := A) (n := M) (c := cx) (j := I) (k2 := .i64) Try.underlying46 size39 (by omega)
    have k3 := cut_l (P := Try.prog) (t := 46) (e := 39) (sz := 3) (A := A) (n := M) (c := cx) (i := I + J) (k1 := .i64) Try.underlying46 size39 (by omega)
    have hr1 : ∀ (w : World), Reads w 3 (.slice A M cx) M (elsC es) → Reads w 3 (sliced A I (I + J) cx 3) J (elsC ((es.drop I).take J)) := fun w h => by
      have := h.sliced (i := I) (j := I + J) (by omega) (by omega)
      rwa [elsC_drop, Nat.add_sub_cancel_left, elsC_take] at this
    have hr2 : ∀ (w : World), Reads w 3 (.slice A M cx) M (elsC es) → Reads w 3 (sliced A 0 I cx 3) I (elsC (es.take I)) := fun w h => by
      have := h.sliced (i := 0) (j := I) (by omega) (by omega)
      rwa [Nat.zero_mul, List.drop_zero, Nat.sub_zero, elsC_take] at this
    have hr3 : ∀ (w : World), Reads w 3 (.slice A M cx) M (elsC es) → Reads w 3 (sliced A (I + J) M cx 3) (M - (I + J)) (elsC (es.drop (I + J))) := fun w h => by
      have := h.sliced (i := I + J) (j := M) (by omega) (by omega)
      rwa [elsC_drop, List.take_of_length_le (by rw [elsC_len, List.length_drop, hM]; exact Nat.le_refl _)] at this
    have HR1 := Lib.hid hr1
    have HR2 := Lib.hid hr2
    have HR3 := Lib.hid hr3
    obtain ⟨V1, hV1⟩ : ∃ V1, sliced A I (I + J) cx 3 = V1 := ⟨_, rfl⟩
    obtain ⟨V2, hV2⟩ : ∃ V2, sliced A 0 I cx 3 = V2 := ⟨_, rfl⟩
    obtain ⟨V3, hV3⟩ : ∃ V3, sliced A (I + J) M cx 3 = V3 := ⟨_, rfl⟩
    rw [hV1] at k1 HR1
    rw [hV2] at k2 HR2
    rw [hV3] at k3 HR3
    rw [Int.natCast_add] at k1 k3
    have z3 := cell_alloc y3 (.cells #[] 39)
    have h4 := h1.alloc (.cells #[] 39)
    have h5 := h4.shutA (sz := 3) (n := 0) (cap := 0) (cs := []) (Nat.le_refl _) (by decide) rfl rfl
    have HRA := Lib.hid (HR1.out _ (h5.pull 2).readsA)
    have H5 := Lib.hid h5
    have g5 : (I : Int) + (J : Int) ≤ 1048576 := by omega
    clear h h1 hR e hM hbad hr1 hr2 hr3 hV1 hV2 hV3 h4 h5
    go_enter Try.func37, Try.ntmps37
    go_upto_region 4 with ((at_builtin; (refine wpList_append rfl _ _ rfl Try.underlying46 info39 rfl (by decide) (n := 0) (cs := []) H5.out HRA.out rfl rfl (elsC_one _) (by unfold maxLen; omega) (by omega) ?_
                                         intro v' w5 h6 h7
                                         rw [Nat.zero_add, List.nil_append] at h6
                                         obtain ⟨A5, c5, rfl, -⟩ := h6.readsA.at_
                                         have hz := (h6.alloc (.cells #[] 39)).shutA (sz := 3) (n := 0) (cap := 0) (cs := []) (Nat.le_refl _) (by decide) rfl rfl
                                         obtain ⟨-, -, -, y4⟩ := boxR (h6.pull 1)
                                         have y5 := cell_alloc y4 (.cells #[] 39)
                                         have H6 := Lib.hid h6
                                         have H7 := Lib.hid hz
                                         clear h6 h7 hz HRA H5)))
    have hwr : IntKind.i64.wrap ((I : Int) + (J : Int)) = (I : Int) + (J : Int) := by rw [IntKind.wrap_i64]; omega
    have H7D := Lib.hid (H7.out.drew)
    clear H7
    go_region_law ((first
        | (refine step_of rfl (wp_append _ _ rfl Try.underlying46 info39 rfl (by decide) (n := 0) (cs := []) H7D.out (HR2.out _ (H7D.out.pull 3).readsA) rfl rfl (elsC_one _) (by unfold maxLen; omega) (by omega) ?_)
           intro v' w6 h6 h7
           rw [Nat.zero_add, List.nil_append] at h6
           obtain ⟨A6, c6, rfl, -⟩ := h6.readsA.at_
           obtain ⟨-, -, -, y6⟩ := boxR (h6.pull 2)
           have H8 := Lib.hid h6
           clear h6 h7 H7D)
        | (refine step_of rfl (wp_append _ _ rfl Try.underlying46 info39 rfl (by decide) (n := I) (cs := elsC (es.take I)) H8.out (HR3.out _ (H8.out.pull 3).readsA) rfl rfl (elsC_one _) (by unfold maxLen; omega) (by omega) ?_)
           intro v' w7 h6 h7
           rw [← elsC_app] at h6
           obtain ⟨A7, c7, rfl, -⟩ := h6.readsA.at_
           obtain ⟨-, -, -, y7⟩ := boxR (h6.pull 2)
           have f7 := fun j => blk_frozen (h6.pull 2).lies j
           have H9 := Lib.hid h6
           clear h6 h7 H8)))
    all_goals
      go_wp2
      have hTL : J = ((es.drop I).take J).length := by rw [List.length_take, List.length_drop, HM.out]; omega
      have h10 := (ref_put (H9.out.pull 2).swap (by rw [List.length_append, List.length_take, List.length_drop, HM.out]; omega)).pull 2
      have h11 := h10.drop.swap
      refine HR.out _ _ ?_
      show St k _ (rowA 39 3 (.slice A5 J c5) ((es.drop I).take J).length (elsC ((es.drop I).take J)) :: _)
      rw [← hTL]
      exact h11
set_option maxRecDepth 100000 in
set_option maxHeartbeats 4000000 in
theorem rrelabel_any {i n l : Int} (h : St k w (refA g p A0 A1 A2 c0 c1 c2 es :: L)) (hlen : es.length ≤ 1048576) (hi : I64 i) (hn : I64 n)
    (hR : ∀ w', St k w' (refA g p A0 A1 A2 c0 c1 c2 (relabelP (polOf p) es i n l).2 :: L) → R (.returned (.int .i64 (relabelP (polOf p) es i n l).1)) w') : Calls Try.prog 38 #[.pointer (some ⟨g, 0, none⟩), .int .i64 i, .int .i64 n, .int .i64 l] w R := by
  obtain ⟨A, cx, h1⟩ := ref_out h
  obtain ⟨y0, y1, y2, y3⟩ := boxR h1
  obtain ⟨M, hM⟩ : ∃ M, es.length = M := ⟨_, rfl⟩
  have HM := Lib.hid hM
  rw [hM] at hlen y3 h1
  have hM2 : (M : Int) ≤ 1048576 := by omega
  obtain ⟨i1, i2⟩ := hi
  obtain ⟨n1, n2⟩ := hn
  by_cases hbad : badR es i n
  · have e : relabelP (polOf p) es i n l = (1, es) := by
      unfold relabelP
      rw [if_pos hbad]
    rw [e] at hR
    have HR := Lib.hid (hR _ h)
    have hb2 : i < 0 ∨ (0 ≤ i ∧ n < 0) ∨ (0 ≤ i ∧ 0 ≤ n ∧ (M : Int) < i) ∨ (0 ≤ i ∧ 0 ≤ n ∧ i ≤ (M : Int) ∧ (M : Int) - i < n) := by
      unfold badR at hbad
      rw [hM] at hbad
      omega
    clear h h1 hR e hM hbad
    rcases hb2 with g1 | ⟨g1, g2⟩ | ⟨g1, g2, g3⟩ | ⟨g1, g2, g3, g4⟩
    all_goals
      go_enter Try.func38, Try.ntmps38
      go_wp2
      exact HR.out
  · have hb2 : 0 ≤ i ∧ 0 ≤ n ∧ i ≤ (M : Int) ∧ n ≤ (M : Int) - i := by
      unfold badR at hbad
      rw [hM] at hbad
      omega
    obtain ⟨I, rfl⟩ : ∃ I : Nat, i = I := ⟨i.toNat, by omega⟩
    obtain ⟨J, rfl⟩ : ∃ J : Nat, n = J := ⟨n.toNat, by omega⟩
    obtain ⟨g1, g2, g3, g4⟩ := hb2
    have HP := Lib.hid (fun (Q : Ending → World → Prop) => rlabel_any (R := Q) (v := l) h1)
    cases hl : (polOf p).has l
    · have e : relabelP (polOf p) es (I : Nat) (J : Nat) l = (10, es) := by
        unfold relabelP
        rw [if_neg hbad, hl]; rfl
      rw [e] at hR
      have HR := Lib.hid (hR _ h)
      have HLB := Lib.hid hl
      clear h h1 hR e hM hbad hl
      go_enter Try.func38, Try.ntmps38
      go_wp2_with (go_at_call 72; refine HP.out _ ?_; rw [HLB.out])
      exact HR.out
    · have e : relabelP (polOf p) es (I : Nat) (J : Nat) l = (0, lblAll es I J l) := by
        unfold relabelP
        rw [if_neg hbad, hl]; rfl
      rw [e] at hR
      have HR := Lib.hid hR
      have HLB := Lib.hid hl
      have z3 := cell_alloc y3 (.cells #[] 39)
      have h4 := h1.alloc (.cells #[] 39)
      have h5 := h4.shutA (sz := 3) (n := 0) (cap := 0) (cs := []) (Nat.le_refl _) (by decide) rfl rfl
      have HRA := Lib.hid ((h5.pull 2).readsA)
      have H5 := Lib.hid h5
      clear h h1 hR e hM hbad hl h4 h5
      go_enter Try.func38, Try.ntmps38
      go_wp2_with (first
        | (go_at_call 72; refine HP.out _ ?_; rw [HLB.out])
        | (at_builtin; refine wpList_append rfl _ _ rfl Try.underlying46 info39 rfl (by decide) (n := 0) (cs := []) H5.out HRA.out rfl rfl (elsC_one _) (by unfold maxLen; omega) (by omega) ?_
           intro v' w5 h6 h7
           rw [Nat.zero_add, List.nil_append] at h6
           obtain ⟨A5, c5, rfl, -⟩ := h6.readsA.at_
           have H6 := Lib.hid h6
           clear h6 h7 HRA H5))
      clear y0 y1 y2 y3 z3
      go_loopw [48] (fun j wr => ∃ q : Nat, q ≤ J ∧ j = .int .i64 q ∧ Hid (St k wr (rowA 39 3 (.slice A5 M c5) M (elsC (lblAll es I q l)) :: pt g (.cells (refC p A0 A1 A2 c0 c1 c2 (.slice A M cx)) 72 (0, 0)) :: rowA 39 3 (.slice A M cx) M (elsC es) :: L))) (fun j _ => J - (intOf j).toNat)
      case atStart => exact ⟨0, by omega, rfl, by rw [lblAll_0]; exact H6⟩
      case round =>
        obtain ⟨q, hq, rfl, HW⟩ := hrel
        have hq2 : (q : Int) ≤ 1048576 := by omega
        by_cases hlt : q < J
        · have hb2 : (q : Int) < (J : Int) := by omega
          have hmm := HM.out
          obtain ⟨e, he⟩ : ∃ e, es[I + q]? = some e := ⟨_, List.getElem?_eq_getElem (by omega)⟩
          obtain ⟨l1, l2⟩ := lblAll_next l he
          obtain ⟨b, rfl, f1, c1, s1, h7⟩ := row_lbl l HW.out l1 (by rw [lblAll_len, hmm])
          rw [l2] at h7
          have hidx : (I : Int) + (q : Int) < (M : Int) := by omega
          have hwr : IntKind.i64.wrap ((I : Int) + (q : Int)) = ((I + q : Nat) : Int) := by rw [IntKind.wrap_i64]; omega
          have hwr2 : wrap64 ((I : Int) + (q : Int)) = ((I + q : Nat) : Int) := by unfold wrap64; omega
          have hi2 : ((I + q : Nat) : Int) < (M : Int) := by omega
          have H7 := Lib.hid h7
          clear he l1 l2 h7 HW
          go_wp2
          go_roundw
          case rel => exact ⟨q + 1, by omega, by go_num, H7⟩
          case measure => simp [intOf]; omega
        · obtain rfl : q = J := by omega
          obtain ⟨-, -, -, y6⟩ := boxR (HW.out.pull 1)
          have f6 := fun j => blk_frozen (HW.out.pull 1).lies j
          have HX := Lib.hid (HR.out _ (ref_put HW.out (by rw [lblAll_len, HM.out])).swap.drop)
          go_wp2
          exact HX.out
end
end Go.Proofs.Ytdgaffcfcgmfnaa
