/- Relabel. Relabel: the walk. -/
import Derived.Test.YtdgaffcfcgmfnaaZm
namespace Go.Proofs.Ytdgaffcfcgmfnaa
open Go.RowKit Go.Sl

attribute [local go_sem ↓ high] load107 store107 load105 store105 slice82
/-- The code points, those from i on, n of them, being labelled anew. -/
def lblAll (es : List El) (i n : Nat) (l : Int) : List El := es.take i ++ ((es.drop i).take n).map (fun e => { e with label := l }) ++ es.drop (i + n)
/-- The error, and what is then. -/
def relabelP (P : Pol) (es : List El) (i n l : Int) : Int × List El := if badR es i n then (1, es) else if P.has l = true then (0, lblAll es i.toNat n.toNat l) else (10, es)
theorem lblAll_0 (es : List El) (i : Nat) (l : Int) : lblAll es i 0 l = es := by simp [lblAll]
theorem lblAll_len (es : List El) (i n : Nat) (l : Int) : (lblAll es i n l).length = es.length := by
  simp only [lblAll, List.length_append, List.length_map, List.length_take, List.length_drop]; omega
theorem lblAll_next {es : List El} {i q : Nat} {e : El} (l : Int) (he : es[i + q]? = some e) : (lblAll es i q l)[i + q]? = some e ∧ (lblAll es i q l).set (i + q) { e with label := l } = lblAll es i (q + 1) l := by
  obtain ⟨hlt, rfl⟩ := List.getElem?_eq_some_iff.1 he
  have h1 : (es.take i).length = i := by rw [List.length_take]; omega
  have h2 : (((es.drop i).take q).map (fun e : El => { e with label := l })).length = q := by rw [List.length_map, List.length_take, List.length_drop]; omega
  have h3 : es.drop (i + q) = es[i + q] :: es.drop (i + (q + 1)) := List.drop_eq_getElem_cons hlt
  have h4 : (es.take i ++ ((es.drop i).take q).map (fun e : El => { e with label := l })).length = i + q := by rw [List.length_append, h1, h2]
  have h5 : (es.drop i).take (q + 1) = (es.drop i).take q ++ [es[i + q]] := by
    rw [List.take_succ_eq_append_getElem (by rw [List.length_drop]; omega), List.getElem_drop]
  constructor
  · unfold lblAll
    rw [List.getElem?_append_right (by omega), h4, Nat.sub_self, h3]; rfl
  · unfold lblAll
    rw [List.set_append_right _ _ (by omega), h4, Nat.sub_self, h3, List.set_cons_zero, h5]
    simp
theorem lblAll_fit {P : Pol} {es : List El} {i n : Nat} {l : Int} (h : Fit P es) (hl : P.has l = true) : Fit P (lblAll es i n l) := by
  have h1 := Pol.has_iff.1 hl
  refine Fit.app.2 ⟨Fit.app.2 ⟨h.take i, ⟨fun e he => ?_, fun e he => ?_⟩⟩, h.drop _⟩
  · obtain ⟨x, _, rfl⟩ := List.mem_map.1 he
    exact h1
  · obtain ⟨x, hx, rfl⟩ := List.mem_map.1 he
    exact h.rune x (List.mem_of_mem_drop (List.mem_of_mem_take hx))
end Go.Proofs.Ytdgaffcfcgmfnaa
namespace Go.Proofs.Ytdgaffcfcgmfnaa
open Go.RowKit Go.Sl

attribute [local go_sem ↓ high] load107 store107 load105 store105 slice82
section
variable {k w : World} {L : List Asn} {F : List (Asg MN)} {g c : Nat} {P : Pol} {es : List El} {r : RM} {R : Ending → World → Prop}
set_option maxRecDepth 100000 in
set_option maxHeartbeats 1000000 in
theorem relabel_bad {i n l : Int} (h : St k w (Rope g P es c :: L)) (hi : -9223372036854775808 ≤ i ∧ i ≤ 9223372036854775807) (hn : -9223372036854775808 ≤ n ∧ n ≤ 9223372036854775807) (hbad : badR es i n)
    (hR : ∀ w', St k w' (Rope g P es c :: L) → R (.returned (.int .i64 1)) w') : Calls Try.prog 63 #[.pointer (some ⟨g, 0, none⟩), .int .i64 i, .int .i64 n, .int .i64 l] w R := by
  obtain ⟨r, h1, ho⟩ := Rope.out h
  have d0 := rope_dead h1 ho
  have hel : (es.length : Int) ≤ 1048576 := by have := ho.len; omega
  obtain ⟨N, hN⟩ : ∃ N, es.length = N := ⟨_, rfl⟩
  unfold badR at hbad
  rw [hN] at hbad hel
  have HNN := Lib.hid hN
  have H := Lib.hid h
  have HR := Lib.hid hR
  obtain ⟨i1, i2⟩ := hi
  obtain ⟨n1, n2⟩ := hn
  by_cases h0 : i < 0
  · have HR0 := Lib.hid (hR _ h)
    clear h hR h1 ho hN hbad
    go_enter Try.func63, Try.ntmps63
    go_wp2_with (go_at_call 55; refine dead_any d0 ?_)
    exact HR0.out
  · have b0 : 0 ≤ i := by omega
    by_cases h0' : n < 0
    · have HR0 := Lib.hid (hR _ h)
      clear h hR h1 ho hN hbad h0
      go_enter Try.func63, Try.ntmps63
      go_wp2_with (go_at_call 55; refine dead_any d0 ?_)
      exact HR0.out
    · have b1 : 0 ≤ n := by omega
      by_cases hlt : (N : Int) < i
      · clear h hR h1 ho hN hbad h0 h0'
        go_enter Try.func63, Try.ntmps63
        go_wp2_with (go_at_call 55; refine dead_any d0 ?_)
        refine len_any H.out fun w1 h2 => ?_
        rw [HNN.out]
        have HX := Lib.hid (HR.out _ h2)
        clear h2
        go_wp2
        exact HX.out
      · have b2 : i ≤ (N : Int) := by omega
        have b3 : (N : Int) - i < n := by omega
        clear h hR h1 ho hN hbad h0 hlt h0'
        go_enter Try.func63, Try.ntmps63
        go_wp2_with (go_at_call 55; refine dead_any d0 ?_)
        refine len_any H.out fun w1 h2 => ?_
        rw [HNN.out]
        have H2 := Lib.hid h2
        clear h2
        go_wp2_with fail
        refine len_any H2.out fun w2 h3 => ?_
        rw [HNN.out]
        have HX := Lib.hid (HR.out _ h3)
        clear h3
        go_wp2
        exact HX.out
set_option maxRecDepth 100000 in
set_option maxHeartbeats 4000000 in
theorem relabel_main {i n : Nat} {l : Int} (h : St k w (Rope g P es c :: L)) (hin : i + n ≤ es.length) (hc : c ≤ 90000)
    (hR : ∀ w', St k w' (Rope g P (if P.has l = true then lblAll es i n l else es) c :: L) → R (.returned (.int .i64 (if P.has l = true then 0 else 10))) w') : Calls Try.prog 63 #[.pointer (some ⟨g, 0, none⟩), .int .i64 i, .int .i64 n, .int .i64 l] w R := by
  obtain ⟨r, h1, ho⟩ := Rope.out h
  have d0 := rope_dead h1 ho
  have hel : (es.length : Int) ≤ 1048576 := by have := ho.len; omega
  obtain ⟨N, hN⟩ : ∃ N, es.length = N := ⟨_, rfl⟩
  rw [hN] at hin hel
  have HNN := Lib.hid hN
  have H := Lib.hid h
  have HR := Lib.hid hR
  have b0 : (0 : Int) ≤ (i : Int) := by omega
  have b1 : (0 : Int) ≤ (n : Int) := by omega
  have b2 : (i : Int) ≤ (N : Int) := by omega
  have b3 : (n : Int) ≤ (N : Int) - (i : Int) := by omega
  have g1 : decide ((i : Int) < 0) = false := by simp
  have g2 : decide ((n : Int) < 0) = false := by simp
  have g3 : decide (N < i) = false := by simp; omega
  have g4 : decide ((N : Int) - (i : Int) < (n : Int)) = false := by simp; omega
  clear h hR h1 ho hN
  go_enter Try.func63, Try.ntmps63
  go_wp2_with (go_at_call 55; refine dead_any d0 ?_)
  refine len_any H.out fun w1 h2 => ?_
  rw [HNN.out]
  have H2 := Lib.hid h2
  clear h2
  go_wp2_with fail
  refine len_any H2.out fun w2 h3 => ?_
  rw [HNN.out]
  obtain ⟨r, h4, ho⟩ := Rope.out h3
  have c3 := rope_3 h4
  have HL := Lib.hid (ho.label l)
  have H3 := Lib.hid h3
  clear h3 h4 ho
  cases hb : P.has l
  · have HB := Lib.hid hb
    have HX := Lib.hid (HR.out w2 (by rw [hb, if_neg (by decide)]; exact H3.out))
    rw [hb, if_neg (by decide)] at HX
    clear hb
    go_wp2_with (go_at_call 56; refine label_any c3 (HB.out.symm.trans HL.out) ?_)
    exact HX.out
  · have HB := Lib.hid hb
    have HRR := HR.out
    rw [hb, if_pos rfl, if_pos rfl] at HRR
    have HR2 := Lib.hid HRR
    have hl0 := Pol.has_iff.1 hb
    clear hb HRR HR
    obtain ⟨l0, l1⟩ := hl0
    go_wp2_with (go_at_call 56; refine label_any c3 (HB.out.symm.trans HL.out) ?_)
    go_loopg [40] n (fun gg s40 wx => ∃ q : Nat, q ≤ n ∧ gg = n - q ∧ s40 = .int .i64 q ∧ Hid (St k wx (Rope g P (lblAll es i q l) c :: L)))
    case atStart => exact ⟨0, by omega, by omega, rfl, Lib.hid (by rw [lblAll_0]; exact H3.out)⟩
    case round =>
      obtain ⟨q, hq, hgg, rfl, HS⟩ := hrel
      by_cases hlt : q < n
      · obtain ⟨r1, h4, ho⟩ := Rope.out HS.out
        obtain ⟨e, he⟩ : ∃ e, es[i + q]? = some e := ⟨_, List.getElem?_eq_getElem (by have := HNN.out; omega)⟩
        have c2 := rope_2 h4
        have hmsb : r1.ms.length ≤ 10000000000 := by
          have h9 : (c + 2) * (c + 2) ≤ 90002 * 90002 := Nat.mul_le_mul (by omega) (by omega)
          have := ho.few; omega
        have b5 : (i : Int) + (q : Int) ≤ 10000000 := by omega
        have H4 := Lib.hid h4
        have HO := Lib.hid ho
        have HE := Lib.hid (lblAll_next l he)
        have HGG := Lib.hid hgg
        have HM := Lib.hid hmsb
        have HP32 := Lib.hid (show l < 32 by have := ho.l32; omega)
        clear h4 ho he hgg hmsb
        go_wp2_with fail
        obtain ⟨hh, hhc, hA⟩ := HO.out.ar
        refine set_all hh H4.out rfl (iI := (i : Int) + q) (i := i + q) (by omega) hA HE.out.1 HO.out.labs ⟨l0, HP32.out⟩ (by have := HO.out.len; omega) HM.out ?_
        intro r2 w4 h5 hm5 hl5 ha5
        rw [HE.out.2] at ha5
        have hlen : (lblAll es i (q + 1) l).length ≤ 1048576 := by have := HO.out.len; rw [lblAll_len] at this ⊢; exact this
        have hfit : Fit P (lblAll es i (q + 1) l) := by
          have h7 := HO.out.fit
          rw [← HE.out.2]
          refine ⟨fun x hx => ?_, fun x hx => ?_⟩
          · rcases List.mem_or_eq_of_mem_set hx with h8 | rfl
            · exact h7.lab x h8
            · exact ⟨l0, l1⟩
          · rcases List.mem_or_eq_of_mem_set hx with h8 | rfl
            · exact h7.rune x h8
            · exact h7.rune e (List.mem_of_getElem? HE.out.1)
        rw [← hm5.root] at ha5
        have HX := Lib.hid (Rope.mk h5 (HO.out.cut hm5.labels hm5.sees ⟨hh, hhc, ha5⟩ hl5 hfit hlen))
        clear h5 hm5 hl5 ha5 hA hlen hfit
        go_wp2_with fail
        go_roundg (n - (q + 1))
        case measure => have := HGG.out; omega
        case rel => exact ⟨q + 1, by omega, rfl, by go_num, HX⟩
      · obtain rfl : q = n := by omega
        have HX := Lib.hid (HR2.out _ HS.out)
        clear HS
        go_wp2
        exact HX.out
theorem relabel_any {i n l : Int} (h : St k w (Rope g P es c :: L)) (hi : -9223372036854775808 ≤ i ∧ i ≤ 9223372036854775807) (hn : -9223372036854775808 ≤ n ∧ n ≤ 9223372036854775807) (hc : c ≤ 90000)
    (hR : ∀ w', St k w' (Rope g P (relabelP P es i n l).2 c :: L) → R (.returned (.int .i64 (relabelP P es i n l).1)) w') : Calls Try.prog 63 #[.pointer (some ⟨g, 0, none⟩), .int .i64 i, .int .i64 n, .int .i64 l] w R := by
  by_cases hb : badR es i n
  · have e : relabelP P es i n l = (1, es) := by rw [relabelP, if_pos hb]
    rw [e] at hR
    exact relabel_bad h hi hn hb hR
  · have e : relabelP P es i n l = if P.has l = true then (0, lblAll es i.toNat n.toNat l) else (10, es) := by rw [relabelP, if_neg hb]
    rw [e] at hR
    unfold badR at hb
    obtain ⟨i', rfl⟩ : ∃ j : Nat, i = j := ⟨i.toNat, by omega⟩
    obtain ⟨n', rfl⟩ : ∃ j : Nat, n = j := ⟨n.toNat, by omega⟩
    simp only [Int.toNat_natCast] at hR
    refine relabel_main h (by omega) hc fun w' h' => ?_
    by_cases hl : P.has l = true
    · rw [if_pos hl] at hR h' ⊢; exact hR w' h'
    · rw [if_neg hl] at hR h' ⊢; exact hR w' h'
end
end Go.Proofs.Ytdgaffcfcgmfnaa
