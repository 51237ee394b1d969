/- sealskinlaw09.LangSilent returns true of every text, note and number: lines that say nothing change nothing but the numbers of lines; the row lists unicode/utf8's tables, which the walk does not read. -/
import Derived.Test.YtaeaakcppheaoaaDoorHy
import Derived.Deep.RegionWith
import Derived.Deep.DeepCutAuto
namespace Go.Proofs.YtaeaakcppheaoaaDoor.LangSilent
open Go.ChangeShapes Go.WideShapes Go.ChangeAt Go.RowKit Go.Proofs.YtaeaakcppheaoaaDoorW.PrintWords
open Go.ChangeMaps (open_string shut_string)

theorem self_pol (P : Pol) : sameB P P = true := by unfold sameB; simp
section
attribute [local go_sem high] hash_add
set_option maxHeartbeats 4000000 in
set_option maxRecDepth 100000 in
theorem walk (s note : ByteArray) (k0 m0 : Int) (w : World) (hm : w.cell? ⟨0, 0, none⟩ = some (.int .i64 m0)) :
    Calls Tryd.prog 6 #[.string s, .string note, .int .i64 k0] w fun e w' => e = .returned (.bool true) ∧ Below w.heap.size w w' := by
  have HM := Aside0.mk hm
  clear hm
  by_cases hs : s.size ≤ 4096
  · have hsi : (s.size : Int) ≤ 4096 := by omega
    by_cases hn : note.size ≤ 4096
    · have hni : (note.size : Int) ≤ 4096 := by omega
      obtain ⟨ix, hix⟩ : ∃ ix, ix = Lib.indexByte note.data.toList 10 := ⟨_, rfl⟩
      by_cases hx : 0 ≤ ix
      · have HX := Aside0.mk hix
        go_enter Tryd.func6, Tryd.ntmps6
        go_wp2_with fail
        refine (Tryd.strings_IndexByte note 10 w).mono ?_
        rintro e w1 ⟨rfl, rfl⟩
        rw [show ((10 : Int).toNat.toUInt8) = 10 from rfl, ← hix]
        clear hix
        go_wp2_with fail
        refine (awake_any m0 w1 HM.out).mono ?_
        rintro e w2 ⟨rfl, hb⟩
        have HB := Aside0.mk hb
        clear hb
        go_wp2
        go_ret
        exact ⟨rfl, HB.out⟩
      · have HX := Aside0.mk hix
        replace hx : ix < 0 := by omega
        go_enter Tryd.func6, Tryd.ntmps6
        go_wp2_with fail
        refine (Tryd.strings_IndexByte note 10 w).mono ?_
        rintro e w1 ⟨rfl, rfl⟩
        rw [show ((10 : Int).toNat.toUInt8) = 10 from rfl, ← hix]
        clear hix
        go_wp2_with fail
        refine (split_any s 10 m0 w1 (by omega) HM.out).mono ?_
        rintro e w2 ⟨rfl, hb2, hC⟩
        have HB2 := Aside0.mk hb2
        have HC := Aside0.mk hC
        have hgl : w1.heap.size < w2.heap.size := by
          obtain ⟨b, o, hA, hc⟩ := str_at hC 0 (spl_pos 10 s)
          injection hA with hA
          injection hA with hA1 hA2
          subst hA1 hA2
          exact World.block_lt_of_cell? _ _ hc
        clear hC hb2
        obtain ⟨g, hg⟩ : ∃ g, g = w1.heap.size := ⟨_, rfl⟩
        rw [← hg] at HC hgl ⊢
        clear hg
        obtain ⟨L, hL⟩ : ∃ L, L = spl 10 s := ⟨_, rfl⟩
        have hlp := spl_pos 10 s
        rw [← hL] at HC hlp ⊢
        have HL := Aside0.mk hL
        have hmx := C_max HC.out
        have hlmax : L.length ≤ 32769 := by
          rw [hL, spl, List.length_map, cutL_length]
          have := List.count_le_length (a := (10 : UInt8)) (l := s.data.toList)
          rw [Lib.size_eq] at hs
          omega
        clear hL
        obtain ⟨N, hN⟩ : ∃ N, (L.length : Int) + 1 = N := ⟨_, rfl⟩
        obtain ⟨u, hu⟩ : ∃ u, IntKind.u64.wrap k0 = u := ⟨_, rfl⟩
        have hu0 : 0 ≤ u := by rw [← hu]; simp [IntKind.wrap, IntKind.signed]; exact Int.emod_nonneg _ (by decide)
        have hN1 : 1 ≤ N := by omega
        have hN2 : N ≤ 32770 := by omega
        have hN0 : ¬ N = 0 := by omega
        obtain ⟨k, hk⟩ : ∃ k : Nat, u % N = (k : Int) := ⟨(u % N).toNat, by have := Int.emod_nonneg u (show N ≠ 0 by omega); omega⟩
        have hkL : k ≤ L.length := by have := Int.emod_lt_of_pos u (show 0 < N by omega); omega
        have hki : (k : Int) ≤ L.length := by omega
        have hkm : (k : Int) ≤ 9223372036854775807 := by omega
        have hk0 : (0 : Int) ≤ k := by omega
        go_wp2
        obtain ⟨t, ht⟩ : ∃ t, t = joinB 10 (amid L k note) := ⟨_, rfl⟩
        have HSL := Aside0.mk (silents s note k hs hn (by have := HX.out; omega) (by rw [← HL.out]; exact hkL))
        have HJ := Aside0.mk (fun A c' w => join_amid A c' k s note w)
        have HCAT := Aside0.mk (concat_amid g k L note w2 HC.out hkL hlmax)
        rw [← HL.out] at HSL HJ
        rw [← ht] at HSL HJ
        have hln : (amid L k note).length ≤ 100000 := by
          unfold amid
          rw [List.length_append, List.length_append, List.length_take, List.length_drop]
          simp only [List.length_cons, List.length_nil]
          omega
        obtain ⟨M, hM⟩ : ∃ M, M = amid L k note := ⟨_, rfl⟩
        rw [← hM] at HCAT HJ hln
        have HLN := Aside0.mk hln
        have HTZ := Aside0.mk (show t.size ≤ 32768 by rw [ht, HL.out, amid_size]; omega)
        clear ht hM hln
        go_cut [8] (fun v wc => v = .string t ∧ Aside0 (Below w2.heap.size w2 wc))
        case first =>
          by_cases hkl : L.length = k
          · subst hkl
            rw [if_pos rfl, Nat.sub_self] at HCAT
            go_region_with (first | (go_at_call 20; refine HCAT.out.mono ?_; rintro e w3 ⟨A3, c3, rfl, hC3, hl3, hb3⟩; have HC3 := Aside0.mk hC3; have HL3 := Aside0.mk hl3; have HB3 := Aside0.mk hb3; clear hC3 hl3 hb3) | (go_at_call 18; refine (HJ.out A3 c3 _ HC3.out HL3.out hs hn HLN.out).mono ?_; rintro e w4 ⟨rfl, hb4⟩; have HB4 := Aside0.mk (below_then HB3.out HB3.out.size hb4); clear hb4))
            all_goals
              go_wp2
              go_meet
              case rel => exact ⟨rfl, HB4⟩
          · rw [if_neg hkl] at HCAT
            go_region_with (first | (go_at_call 20; refine HCAT.out.mono ?_; rintro e w3 ⟨A3, c3, rfl, hC3, hl3, hb3⟩; have HC3 := Aside0.mk hC3; have HL3 := Aside0.mk hl3; have HB3 := Aside0.mk hb3; clear hC3 hl3 hb3) | (go_at_call 18; refine (HJ.out A3 c3 _ HC3.out HL3.out hs hn HLN.out).mono ?_; rintro e w4 ⟨rfl, hb4⟩; have HB4 := Aside0.mk (below_then HB3.out HB3.out.size hb4); clear hb4))
            all_goals
              go_wp2
              go_meet
              case rel => exact ⟨rfl, HB4⟩
        case rest =>
          obtain ⟨rfl, HB5⟩ := hcut
          obtain ⟨w5, hw5⟩ : ∃ w', w' = wc := ⟨_, rfl⟩
          subst hw5
          have HP := Aside0.mk (parse_any s m0 w5 (pw_cell_below HB5.out (pw_cell_below HB2.out HM.out)))
          have HQ := Aside0.mk (fun w => parse_any t m0 w)
          obtain ⟨r, hr⟩ : ∃ r, r = parseP s := ⟨_, rfl⟩
          obtain ⟨r2, hr2⟩ : ∃ r, r = parseP t := ⟨_, rfl⟩
          have hat := at_le s
          rw [← HL.out, ← hr] at hat
          rw [← hr] at HP HSL
          rw [← hr2] at HQ HSL
          clear hr hr2 HJ HCAT
          obtain ⟨P, NM, at1, er⟩ := r
          obtain ⟨P2, NM2, at2, er2⟩ := r2
          obtain ⟨s1, s2, s3, s4⟩ := HSL.out
          simp only at s1 s2 s3 s4 hat
          subst s1 s2 s3
          clear HSL
          have hsp := self_pol P2
          go_wp2_with fail
          refine HP.out.mono ?_
          rintro e w6 ⟨A0, c0, A1, c1, A2, c2, An, cn, rfl, hA0, hA1, hA2, hAn, _, _, _, _, hb6⟩
          have HB6 := Aside0.mk (below_then HB5.out HB5.out.size hb6)
          clear hb6 HP
          go_wp2_with fail
          obtain ⟨o6, ho6⟩ : ∃ o, o = Obj.cells #[.slice A0 P2.labels.length c0, .slice A1 P2.quotas.length c1, .slice A2 P2.entries.length c2] 27 := ⟨_, rfl⟩
          have hb6' : Below w6.heap.size w6 (w6.alloc o6) := below_alloc (Below.refl _ _) _
          have HC6 := Aside0.mk (pw_cell_below hb6' (pw_cell_below HB6.out (pw_cell_below HB2.out HM.out)))
          rw [ho6] at HC6
          refine (HQ.out _ HC6.out).mono ?_
          rintro e w7 ⟨B0, d0, B1, d1, B2, d2, Bn, dn, rfl, hB0, hB1, hB2, hBn, _, _, _, _, hb7⟩
          rw [← ho6] at hb7
          have hb67 := below_then hb6' hb6'.size hb7
          have HK1 := Aside0.mk (blk_below (blk_new w6 o6) hb7)
          rw [ho6] at HK1
          have HA0 := Aside0.mk (Kd.C_below hA0 hb67)
          have HA1 := Aside0.mk (Kd.C_below hA1 hb67)
          have HA2 := Aside0.mk (Kd.C_below hA2 hb67)
          have HAn := Aside0.mk (Kd.C_below hAn hb67)
          have HB0 := Aside0.mk hB0
          have HB1 := Aside0.mk hB1
          have HB2' := Aside0.mk hB2
          have HBn := Aside0.mk hBn
          have HB7 := Aside0.mk (below_then HB6.out HB6.out.size hb67)
          clear hA0 hA1 hA2 hAn hB0 hB1 hB2 hBn hb7 hb67 hb6' ho6 HQ
          have hb8 : Below w7.heap.size w7 (w7.alloc (Obj.cells #[.slice B0 P2.labels.length d0, .slice B1 P2.quotas.length d1, .slice B2 P2.entries.length d2] 27)) := below_alloc (Below.refl _ _) _
          have k1 := blk_below HK1.out hb8
          have k10 := blk_cell k1 0
          have k11 := blk_cell k1 1
          have k12 := blk_cell k1 2
          have HA0' := Aside0.mk (Kd.C_below HA0.out hb8)
          have HA1' := Aside0.mk (Kd.C_below HA1.out hb8)
          have HA2' := Aside0.mk (Kd.C_below HA2.out hb8)
          have HAn' := Aside0.mk (Kd.C_below HAn.out hb8)
          have HB0' := Aside0.mk (Kd.C_below HB0.out hb8)
          have HB1' := Aside0.mk (Kd.C_below HB1.out hb8)
          have HB2'' := Aside0.mk (Kd.C_below HB2'.out hb8)
          have HBn' := Aside0.mk (Kd.C_below HBn.out hb8)
          have HB8 := Aside0.mk (below_then HB7.out HB7.out.size hb8)
          have HS4 := Aside0.mk s4
          clear s4 k1 hb8 hsp HA0 HA1 HA2 HAn HB0 HB1 HB2' HBn HB7 HK1
          simp only
          by_cases hgt : k < at1
          · have s4 := HS4.out
            rw [if_pos hgt] at s4
            subst s4
            have hgi : (k : Int) < at1 := by omega
            have hab : (at1 : Int) + 2 ≤ 9223372036854775807 := by omega
            rw [show ((at1 + 2 : Nat) : Int) = (at1 : Int) + 2 by omega]
            go_wp2_with fail
            refine (same_any P2 P2 A0 A1 A2 B0 B1 B2 c0 c1 c2 d0 d1 d2 _ HA0'.out HA1'.out HA2'.out HB0'.out HB1'.out HB2''.out).mono ?_
            rintro e w9 ⟨rfl, hb9⟩
            rw [self_pol]
            have HAn9 := Aside0.mk (Kd.C_below HAn'.out hb9)
            have HBn9 := Aside0.mk (Kd.C_below HBn'.out hb9)
            have HB9 := Aside0.mk (below_then HB8.out HB8.out.size hb9)
            clear hb9
            go_wp2_with fail
            refine (equal_names An Bn cn dn NM2 NM2 w9 HAn9.out HBn9.out).mono ?_
            rintro e w10 ⟨rfl, hb10⟩
            rw [show decide (NM2 = NM2) = true from decide_eq_true rfl]
            have HB10 := Aside0.mk (below_then HB9.out HB9.out.size hb10)
            have HBf := Aside0.mk (below_then HB2.out HB2.out.size HB10.out)
            clear hb10
            go_wp2_with fail
            refine (awake_any m0 w10 (pw_cell_below HBf.out HM.out)).mono ?_
            rintro e w11 ⟨rfl, hb11⟩
            have HBg := Aside0.mk (below_then HBf.out HBf.out.size hb11)
            clear hb11
            go_wp2
            go_ret
            exact ⟨rfl, HBg.out⟩
          · have s4 := HS4.out
            rw [if_neg hgt] at s4
            subst s4
            have hgi : (at2 : Int) ≤ k := by omega
            go_wp2_with fail
            refine (same_any P2 P2 A0 A1 A2 B0 B1 B2 c0 c1 c2 d0 d1 d2 _ HA0'.out HA1'.out HA2'.out HB0'.out HB1'.out HB2''.out).mono ?_
            rintro e w9 ⟨rfl, hb9⟩
            rw [self_pol]
            have HAn9 := Aside0.mk (Kd.C_below HAn'.out hb9)
            have HBn9 := Aside0.mk (Kd.C_below HBn'.out hb9)
            have HB9 := Aside0.mk (below_then HB8.out HB8.out.size hb9)
            clear hb9
            go_wp2_with fail
            refine (equal_names An Bn cn dn NM2 NM2 w9 HAn9.out HBn9.out).mono ?_
            rintro e w10 ⟨rfl, hb10⟩
            rw [show decide (NM2 = NM2) = true from decide_eq_true rfl]
            have HB10 := Aside0.mk (below_then HB9.out HB9.out.size hb10)
            have HBf := Aside0.mk (below_then HB2.out HB2.out.size HB10.out)
            clear hb10
            go_wp2_with fail
            refine (awake_any m0 w10 (pw_cell_below HBf.out HM.out)).mono ?_
            rintro e w11 ⟨rfl, hb11⟩
            have HBg := Aside0.mk (below_then HBf.out HBf.out.size hb11)
            clear hb11
            go_wp2
            go_ret
            exact ⟨rfl, HBg.out⟩
    · have hni : (4096 : Int) < note.size := by omega
      go_enter Tryd.func6, Tryd.ntmps6
      go_wp2_with fail
      refine (awake_any m0 w HM.out).mono ?_
      rintro e w1 ⟨rfl, hb⟩
      have HB := Aside0.mk hb
      clear hb
      go_wp2
      go_ret
      exact ⟨rfl, HB.out⟩
  · have hsi : (4096 : Int) < s.size := by omega
    go_enter Tryd.func6, Tryd.ntmps6
    go_wp2_with fail
    refine (awake_any m0 w HM.out).mono ?_
    rintro e w1 ⟨rfl, hb⟩
    have HB := Aside0.mk hb
    clear hb
    go_wp2
    go_ret
    exact ⟨rfl, HB.out⟩
end

set_option maxRecDepth 100000 in
theorem lifted (os : Os) (started : os.Started) (H : Type) (enc : TypeId × Value → H) :
    ReturnsInHanded {} Tryd.checked os 6 .any (fun w args => (Rows.langSilentSpec.pre enc Tryd.prog Tryd.f6 [] false w args ∧ laidMetH Tryd.prog Rows.langSilentRow.laid w) ∧ sizedMet enc Tryd.prog Tryd.f6 (OpenSpec.ofChange Rows.langSilentSpec) false w args)
      (Rows.langSilentSpec.post enc Tryd.prog Tryd.f6 false true false false) := by
  refine returns_laid (C := Tryd.checked) (X := fun w _ => laidMetH Tryd.prog Rows.langSilentRow.laid w) (fun _ _ _ hh h => h.of_heap hh) own started (by kernel_rfl) Tryd.func6
    (ChangeSpec.witness_shaped (enc := enc) (C := Tryd.checked) (os := os) (X := fun w _ => laidMetH Tryd.prog Rows.langSilentRow.laid w) false (World.laidAll Tryd.prog os Rows.langSilentRow.laid) #[.string ⟨#[]⟩, .string ⟨#[]⟩, .int .i64 0] 8 (World.laidAll_os _ _ _)
      (World.shaped_of_ZipB (by kernel_rfl) (by kernel_rfl)) (by kernel_rfl) (by kernel_rfl) (by kernel_rfl)
      (by rw [MakeChecks.laidMetH_plain _ _ _ (by kernel_rfl)]; exact laidMet_laidAll _ (by kernel_rfl) (by kernel_rfl))) ?_
  intro W base args ds gs before hval0 hW hsh _
  have hval : ∀ (j : Nat) t v, Tryd.f6.params[j]? = some t → args[j]? = some v → Value.okWide Tryd.prog W .any base t v := hval0
  have hW' := hW
  obtain ⟨p, q, hA0, hV, rfl, _, _⟩ := hW
  have hA : DataW.TrodAll enc Tryd.prog W 0 (fun _ => true) true Tryd.f6.params.toList args.toList ds p := hA0
  rw [Tryd.params6] at hA hval
  obtain ⟨v0, v1, v2, d0, d1, d2, p0, p1, p2, rfl, rfl, rfl, h0, h1, h2⟩ := trodAll_three hA
  obtain ⟨rfl, rfl⟩ := trodVars_none hV
  obtain ⟨a0, rfl, rfl, rfl, w0⟩ := open_string Tryd.underlying9 (hval 0 9 v0 rfl rfl) h0
  obtain ⟨a1, rfl, rfl, rfl, w1⟩ := open_string Tryd.underlying9 (hval 1 9 v1 rfl rfl) h1
  obtain ⟨a2, rfl, rfl, rfl, w2⟩ := open_int Tryd.underlying3 (hval 2 3 v2 rfl rfl) h2
  clear hA0 hval0
  simp only [List.append_nil] at hW'
  obtain ⟨m0, hm⟩ := maxlen_of hsh
  refine (walk a0 a1 a2 m0 W hm).mono fun e W' ⟨he, hb⟩ => ?_
  subst he
  exact ⟨_, rfl, _, _, _, [], [], [], hW', trodAll_mk1 (shut_bool Tryd.underlying4 _), trodAll_mk3 (shut_string Tryd.underlying9 w0) (shut_string Tryd.underlying9 w1) (shut_int Tryd.underlying3 w2), rfl, hb.frame _, fun h => by cases h⟩

theorem holds : Rows.LangSilentSaid :=
  OpenClaim.holds_of_wide 6 Tryd.f6 rfl rfl rfl rfl rfl rfl rfl ⟨rfl, rfl, rfl, rfl, rfl⟩ rfl rfl rfl rfl rfl (by kernel_rfl) Tryd.func6 (by kernel_rfl)
    (of_decide_eq_true (by kernel_rfl)) (by unfold Func.isWrapper; first | (rw [if_pos (by decide +kernel)]; kernel_rfl) | (rw [if_neg (by decide +kernel)]; exact ⟨rfl, rfl⟩))
    (fun os started H enc _ => lifted os started H enc)

theorem proved : Rows.LangSilentCardSaid :=
  Claim7.holds_tied_plain_at .later [] [.data, .pinned] true (true, "10bd4971ebfdefe448607cddd6006cc50e79ba271c7c637469e57664e49e90bc") false holds (fun _ h => by cases h) (by kernel_rfl) (fun _ h => by cases h) langSilent_row_tie rfl ⟨rfl, rfl⟩ (by kernel_rfl) rfl
    (fun f fn hf hfn => by
      obtain rfl : f = 6 := Option.some.inj ((show Tryd.prog.funcNamed "sealskin/sealskinlaw09.LangSilent" = some 6 by kernel_rfl).symm.trans hf) |>.symm
      obtain rfl : fn = Tryd.f6 := (Option.some.inj (Tryd.func6.symm.trans hfn)).symm
      exact ⟨by kernel_rfl, fun j t ht => by
        rw [Tryd.params6] at ht
        have hm : t ∈ [9, 9, 3] := by simpa using Array.mem_of_getElem? ht
        have hall : ([9, 9, 3].all fun u => !Tryd.prog.wantsStandIn u) = true := by kernel_rfl
        exact (show Tryd.prog.wantsStandIn t = false by simpa using List.all_eq_true.1 hall t hm)⟩)
    (by kernel_rfl)
end Go.Proofs.YtaeaakcppheaoaaDoor.LangSilent
namespace Go.Proofs.YtaeaakcppheaoaaDoor
theorem langSilent_holds : Rows.LangSilentCardSaid := LangSilent.proved
#print axioms langSilent_holds
end Go.Proofs.YtaeaakcppheaoaaDoor

