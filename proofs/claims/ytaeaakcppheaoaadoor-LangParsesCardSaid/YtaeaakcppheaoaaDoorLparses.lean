/- sealskinlaw09.LangParses returns true of every text: the policy that any text is, and its names, or which line is none, are those that the reference tells; the row lists unicode/utf8's tables, which the walk does not read. -/
import Derived.Test.YtaeaakcppheaoaaDoorKn
namespace Go.Proofs.YtaeaakcppheaoaaDoor.LangParses
open Go.ChangeShapes Go.WideShapes Go.ChangeAt Go.RowKit Go.Proofs.YtaeaakcppheaoaaDoorW.PrintWords
open Go.ChangeMaps (open_string shut_string)

theorem self_pol (P : Pol) : sameB P P = true := by unfold sameB; simp
set_option maxHeartbeats 4000000 in
set_option maxRecDepth 100000 in
theorem walk (s : ByteArray) (m0 : Int) (w : World) (hm : w.cell? ⟨0, 0, none⟩ = some (.int .i64 m0)) :
    Calls Tryd.prog 3 #[.string s] w fun e w' => e = .returned (.bool true) ∧ Below w.heap.size w w' := by
  have HM := Aside0.mk hm
  clear hm
  by_cases hmid : 4096 < (s.size : Int) ∧ (s.size : Int) ≤ 32768
  · obtain ⟨h1, h2⟩ := hmid
    go_enter Tryd.func3, Tryd.ntmps3
    go_wp2_with fail
    refine (awake_any m0 w HM.out).mono ?_
    rintro e w1 ⟨rfl, hb⟩
    have HB := Aside0.mk hb
    clear hb
    go_wp2
    go_ret
    exact ⟨rfl, HB.out⟩
  · have hcase : (s.size : Int) ≤ 4096 ∨ (4096 < (s.size : Int) ∧ 32768 < (s.size : Int)) := by omega
    clear hmid
    have HP := Aside0.mk (parse_any s m0 w HM.out)
    have HQ := Aside0.mk (fun w => refparse_any s w)
    obtain ⟨r, hr⟩ : ∃ r, r = parseP s := ⟨_, rfl⟩
    rw [← hr] at HP HQ
    clear hr
    obtain ⟨P, NM, at1, er⟩ := r
    rcases hcase with h | ⟨h, h2⟩
    all_goals
      go_enter Tryd.func3, Tryd.ntmps3
      go_wp2_with fail
      refine HP.out.mono ?_
      rintro e w6 ⟨A0, c0, A1, c1, A2, c2, An, cn, rfl, hA0, hA1, hA2, hAn, _, _, _, _, hb6⟩
      have HB6 := Aside0.mk hb6
      clear hb6 HP
      go_wp2_with fail
      obtain ⟨o6, ho6⟩ : ∃ o, o = Obj.cells #[.slice A0 P.labels.length c0, .slice A1 P.quotas.length c1, .slice A2 P.entries.length c2] 27 := ⟨_, rfl⟩
      have hb6' : Below w6.heap.size w6 (w6.alloc o6) := below_alloc (Below.refl _ _) _
      refine (HQ.out _).mono ?_
      rintro e w7 ⟨B0, d0, B1, d1, B2, d2, Bn, dn, rfl, hB0, hB1, hB2, hBn, _, _, _, _, hb7⟩
      rw [← ho6] at hb7
      have hb67 := below_then hb6' hb6'.size hb7
      have HK1 := Aside0.mk (blk_below (blk_new w6 o6) hb7)
      rw [ho6] at HK1
      have HA0 := Aside0.mk (Kd.C_below hA0 hb67)
      have HA1 := Aside0.mk (Kd.C_below hA1 hb67)
      have HA2 := Aside0.mk (Kd.C_below hA2 hb67)
      have HAn := Aside0.mk (Kd.C_below hAn hb67)
      have HB0 := Aside0.mk hB0
      have HB1 := Aside0.mk hB1
      have HB2' := Aside0.mk hB2
      have HBn := Aside0.mk hBn
      have HB7 := Aside0.mk (below_then HB6.out HB6.out.size hb67)
      clear hA0 hA1 hA2 hAn hB0 hB1 hB2 hBn hb7 hb67 hb6' ho6 HQ
      have hb8 : Below w7.heap.size w7 (w7.alloc (Obj.cells #[.slice B0 P.labels.length d0, .slice B1 P.quotas.length d1, .slice B2 P.entries.length d2] 27)) := below_alloc (Below.refl _ _) _
      have k1 := blk_below HK1.out hb8
      have k10 := blk_cell k1 0
      have k11 := blk_cell k1 1
      have k12 := blk_cell k1 2
      have HA0' := Aside0.mk (Kd.C_below HA0.out hb8)
      have HA1' := Aside0.mk (Kd.C_below HA1.out hb8)
      have HA2' := Aside0.mk (Kd.C_below HA2.out hb8)
      have HAn' := Aside0.mk (Kd.C_below HAn.out hb8)
      have HB0' := Aside0.mk (Kd.C_below HB0.out hb8)
      have HB1' := Aside0.mk (Kd.C_below HB1.out hb8)
      have HB2'' := Aside0.mk (Kd.C_below HB2'.out hb8)
      have HBn' := Aside0.mk (Kd.C_below HBn.out hb8)
      have HB8 := Aside0.mk (below_then HB7.out HB7.out.size hb8)
      clear k1 hb8 HA0 HA1 HA2 HAn HB0 HB1 HB2' HBn HB7 HK1
      simp only
      go_wp2_with fail
      refine (same_any P P A0 A1 A2 B0 B1 B2 c0 c1 c2 d0 d1 d2 _ HA0'.out HA1'.out HA2'.out HB0'.out HB1'.out HB2''.out).mono ?_
      rintro e w9 ⟨rfl, hb9⟩
      rw [self_pol]
      have HAn9 := Aside0.mk (Kd.C_below HAn'.out hb9)
      have HBn9 := Aside0.mk (Kd.C_below HBn'.out hb9)
      have HB9 := Aside0.mk (below_then HB8.out HB8.out.size hb9)
      clear hb9
      go_wp2_with fail
      refine (equal_names An Bn cn dn NM NM w9 HAn9.out HBn9.out).mono ?_
      rintro e w10 ⟨rfl, hb10⟩
      rw [show decide (NM = NM) = true from decide_eq_true rfl]
      have HB10 := Aside0.mk (below_then HB9.out HB9.out.size hb10)
      clear hb10
      go_wp2_with fail
      refine (awake_any m0 w10 (pw_cell_below HB10.out HM.out)).mono ?_
      rintro e w11 ⟨rfl, hb11⟩
      have HBg := Aside0.mk (below_then HB10.out HB10.out.size hb11)
      clear hb11
      go_wp2
      go_ret
      exact ⟨rfl, HBg.out⟩

set_option maxRecDepth 100000 in
theorem lifted (os : Os) (started : os.Started) (H : Type) (enc : TypeId × Value → H) :
    ReturnsInHanded {} Tryd.checked os 3 .any (fun w args => (Rows.langParsesSpec.pre enc Tryd.prog Tryd.f3 [] false w args ∧ laidMetH Tryd.prog Rows.langParsesRow.laid w) ∧ sizedMet enc Tryd.prog Tryd.f3 (OpenSpec.ofChange Rows.langParsesSpec) false w args)
      (Rows.langParsesSpec.post enc Tryd.prog Tryd.f3 false true false false) := by
  refine returns_laid (C := Tryd.checked) (X := fun w _ => laidMetH Tryd.prog Rows.langParsesRow.laid w) (fun _ _ _ hh h => h.of_heap hh) own started (by kernel_rfl) Tryd.func3
    (ChangeSpec.witness_shaped (enc := enc) (C := Tryd.checked) (os := os) (X := fun w _ => laidMetH Tryd.prog Rows.langParsesRow.laid w) false (World.laidAll Tryd.prog os Rows.langParsesRow.laid) #[.string ⟨#[]⟩] 8 (World.laidAll_os _ _ _)
      (World.shaped_of_ZipB (by kernel_rfl) (by kernel_rfl)) (by kernel_rfl) (by kernel_rfl) (by kernel_rfl)
      (by rw [MakeChecks.laidMetH_plain _ _ _ (by kernel_rfl)]; exact laidMet_laidAll _ (by kernel_rfl) (by kernel_rfl))) ?_
  intro W base args ds gs before hval0 hW hsh _
  have hval : ∀ (j : Nat) t v, Tryd.f3.params[j]? = some t → args[j]? = some v → Value.okWide Tryd.prog W .any base t v := hval0
  have hW' := hW
  obtain ⟨p, q, hA0, hV, rfl, _, _⟩ := hW
  have hA : DataW.TrodAll enc Tryd.prog W 0 (fun _ => true) true Tryd.f3.params.toList args.toList ds p := hA0
  rw [Tryd.params3] at hA hval
  obtain ⟨v0, d0, rfl, rfl, h0⟩ := trodAll_one hA
  obtain ⟨rfl, rfl⟩ := trodVars_none hV
  obtain ⟨a0, rfl, rfl, rfl, w0⟩ := open_string Tryd.underlying9 (hval 0 9 v0 rfl rfl) h0
  clear hA0 hval0
  simp only [List.append_nil] at hW'
  obtain ⟨m0, hm⟩ := maxlen_of hsh
  refine (walk a0 m0 W hm).mono fun e W' ⟨he, hb⟩ => ?_
  subst he
  exact ⟨_, rfl, _, _, _, [], [], [], hW', trodAll_mk1 (shut_bool Tryd.underlying4 _), trodAll_mk1 (shut_string Tryd.underlying9 w0), rfl, hb.frame _, fun h => by cases h⟩

theorem holds : Rows.LangParsesSaid :=
  OpenClaim.holds_of_wide 3 Tryd.f3 rfl rfl rfl rfl rfl rfl rfl ⟨rfl, rfl, rfl, rfl, rfl⟩ rfl rfl rfl rfl rfl (by kernel_rfl) Tryd.func3 (by kernel_rfl)
    (of_decide_eq_true (by kernel_rfl)) (by unfold Func.isWrapper; first | (rw [if_pos (by decide +kernel)]; kernel_rfl) | (rw [if_neg (by decide +kernel)]; exact ⟨rfl, rfl⟩))
    (fun os started H enc _ => lifted os started H enc)

theorem proved : Rows.LangParsesCardSaid :=
  Claim7.holds_tied_plain_at .later [] [.data, .pinned] true (true, "10bd4971ebfdefe448607cddd6006cc50e79ba271c7c637469e57664e49e90bc") false holds (fun _ h => by cases h) (by kernel_rfl) (fun _ h => by cases h) langParses_row_tie rfl ⟨rfl, rfl⟩ (by kernel_rfl) rfl
    (fun f fn hf hfn => by
      obtain rfl : f = 3 := Option.some.inj ((show Tryd.prog.funcNamed "sealskin/sealskinlaw09.LangParses" = some 3 by kernel_rfl).symm.trans hf) |>.symm
      obtain rfl : fn = Tryd.f3 := (Option.some.inj (Tryd.func3.symm.trans hfn)).symm
      exact ⟨by kernel_rfl, fun j t ht => by
        rw [Tryd.params3] at ht
        have hm : t ∈ [9] := by simpa using Array.mem_of_getElem? ht
        have hall : ([9].all fun u => !Tryd.prog.wantsStandIn u) = true := by kernel_rfl
        exact (show Tryd.prog.wantsStandIn t = false by simpa using List.all_eq_true.1 hall t hm)⟩)
    (by kernel_rfl)
end Go.Proofs.YtaeaakcppheaoaaDoor.LangParses
namespace Go.Proofs.YtaeaakcppheaoaaDoor
theorem langParses_holds : Rows.LangParsesCardSaid := LangParses.proved
#print axioms langParses_holds
end Go.Proofs.YtaeaakcppheaoaaDoor
