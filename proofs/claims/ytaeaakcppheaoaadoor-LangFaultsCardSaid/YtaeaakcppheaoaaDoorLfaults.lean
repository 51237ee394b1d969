/- sealskinlaw09.LangFaults returns true of every text: a line that is told as none is one of the text, and all ahead of it are taken; the row lists unicode/utf8's tables, which the walk does not read. -/
import Derived.Test.YtaeaakcppheaoaaDoorHx
namespace Go.Proofs.YtaeaakcppheaoaaDoor.LangFaults
open Go.ChangeShapes Go.WideShapes Go.ChangeAt Go.RowKit Go.Proofs.YtaeaakcppheaoaaDoorW.PrintWords
open Go.ChangeMaps (open_string shut_string)

set_option maxHeartbeats 4000000 in
theorem walk (s : ByteArray) (m0 : Int) (w : World) (hm : w.cell? ⟨0, 0, none⟩ = some (.int .i64 m0)) :
    Calls Tryd.prog 5 #[.string s] w fun e w' => e = .returned (.bool true) ∧ Below w.heap.size w w' := by
  have HM := Aside0.mk hm
  clear hm
  by_cases hs : s.size ≤ 4096
  · have hsi : (s.size : Int) ≤ 4096 := by omega
    have HF := Aside0.mk (faults s (by omega))
    have HP := parse_any s m0 w HM.out
    obtain ⟨r, hr⟩ : ∃ r, r = parseP s := ⟨_, rfl⟩
    rw [← hr] at HF HP
    clear hr
    go_enter Tryd.func5, Tryd.ntmps5
    go_wp2_with fail
    refine HP.mono ?_
    rintro e w1 ⟨A0, c0, A1, c1, A2, c2, An, cn, rfl, _, _, _, _, _, _, _, _, hb⟩
    have HB1 := Aside0.mk hb
    clear hb HP
    go_wp2_with fail
    obtain ⟨W, hW⟩ : ∃ W, W = w1.alloc (.cells #[.slice A0 r.pol.labels.length c0, .slice A1 r.pol.quotas.length c1, .slice A2 r.pol.entries.length c2] 27) := ⟨_, rfl⟩
    have HBW := Aside0.mk (show Below w.heap.size w W by rw [hW]; exact below_alloc HB1.out _)
    rw [← hW]
    clear hW
    refine (split_any s 10 m0 W (by omega) (pw_cell_below HBW.out HM.out)).mono ?_
    rintro e w2 ⟨rfl, hb2, hC⟩
    have HB2 := Aside0.mk (below_then HBW.out HBW.out.size hb2)
    have HC := Aside0.mk hC
    have hgl : W.heap.size < w2.heap.size := by
      obtain ⟨b, o, hA, hc⟩ := str_at hC 0 (spl_pos 10 s)
      injection hA with hA
      injection hA with hA1 hA2
      subst hA1 hA2
      exact World.block_lt_of_cell? _ _ hc
    clear hC hb2
    obtain ⟨g, hg⟩ : ∃ g, g = W.heap.size := ⟨_, rfl⟩
    rw [← hg] at HC hgl ⊢
    clear hg HBW
    rcases HF.out with ⟨he, ha⟩ | ⟨he, k, hk, ha, hsi, hp, h0⟩
    · obtain ⟨E, hE⟩ : ∃ E, E = r.err := ⟨_, rfl⟩
      rw [ha, ← hE]
      have n1 : (E != 90) = true := by rw [hE]; simpa using he
      have n2 : (E == 90) = false := by rw [hE]; simpa using he
      clear HF he hE ha
      go_wp2_with fail
      refine (awake_any m0 w2 (pw_cell_below HB2.out HM.out)).mono ?_
      rintro e w3 ⟨rfl, hb⟩
      have HB3 := Aside0.mk (below_then HB2.out HB2.out.size hb)
      clear hb
      go_wp2
      go_ret
      exact ⟨rfl, HB3.out⟩
    · rw [ha, he, show (((k + 1 : Nat)) : Int) = (k : Int) + 1 by omega]
      have HJ := Aside0.mk (fun w => join_lines g (spl 10 s).length k s w)
      obtain ⟨t, ht⟩ : ∃ t, t = joinB 10 ((spl 10 s).take k) := ⟨_, rfl⟩
      have HT := Aside0.mk (fun w => parse_any t m0 w)
      rw [← ht] at HJ hp h0
      clear ht HF he ha
      obtain ⟨r2, hr2⟩ : ∃ r2, r2 = parseP t := ⟨_, rfl⟩
      rw [← hr2] at HT hp h0
      clear hr2
      obtain ⟨b, o, hA, hcell⟩ := str_at HC.out k hk
      injection hA with hA
      injection hA with hA1 hA2
      subst hA1 hA2
      rw [Nat.zero_add] at hcell
      obtain ⟨x, hx⟩ : ∃ x, x = (spl 10 s)[k] := ⟨_, rfl⟩
      rw [← hx] at hcell hsi
      clear hx
      obtain ⟨L, hL⟩ : ∃ L, L = spl 10 s := ⟨_, rfl⟩
      rw [← hL] at HC HJ hk ⊢
      clear hL
      obtain ⟨hpos, hne, hie, hnum⟩ := loud_facts x hsi
      clear hsi
      have hkL : k ≤ L.length := by omega
      have hm := C_max HC.out
      have hk0 : (0 : Int) ≤ k := by omega
      have hkm : (k : Int) ≤ 9223372036854775807 := by omega
      have hki : (k : Int) < L.length := by omega
      have hki1 : (k : Int) + 1 ≤ L.length := by omega
      go_wp2_with fail
      refine (HJ.out w2 HC.out hgl hkL (Nat.le_refl _) (by omega)).mono ?_
      rintro e w3 ⟨rfl, hb3⟩
      have HB3 := Aside0.mk (below_then HB2.out HB2.out.size hb3)
      clear hb3 HJ hcell
      go_wp2_with fail
      refine (HT.out w3 (pw_cell_below HB3.out HM.out)).mono ?_
      rintro e w4 ⟨B0, d0, B1, d1, B2, d2, Bn, dn, rfl, _, _, _, _, _, _, _, _, hb4⟩
      have HB4 := Aside0.mk (below_then HB3.out HB3.out.size hb4)
      clear hb4 HT
      rw [h0]
      have HB5 := Aside0.mk (below_alloc HB4.out (.cells #[.slice B0 r2.pol.labels.length d0, .slice B1 r2.pol.quotas.length d1, .slice B2 r2.pol.entries.length d2] 27))
      rcases hp with hp | hp
      all_goals
        rw [hp]
        go_wp2_with fail
        refine (awake_any m0 _ (pw_cell_below HB5.out HM.out)).mono ?_
        rintro e w6 ⟨rfl, hb⟩
        have HB6 := Aside0.mk (below_then HB5.out HB5.out.size hb)
        clear hb
        go_wp2
        go_ret
        exact ⟨rfl, HB6.out⟩
  · have hsi : (4096 : Int) < s.size := by omega
    go_enter Tryd.func5, Tryd.ntmps5
    go_wp2_with fail
    refine (awake_any m0 w HM.out).mono ?_
    rintro e w1 ⟨rfl, hb⟩
    have HB := Aside0.mk hb
    clear hb
    go_wp2
    go_ret
    exact ⟨rfl, HB.out⟩
set_option maxRecDepth 100000 in
theorem lifted (os : Os) (started : os.Started) (H : Type) (enc : TypeId × Value → H) :
    ReturnsInHanded {} Tryd.checked os 5 .any (fun w args => (Rows.langFaultsSpec.pre enc Tryd.prog Tryd.f5 [] false w args ∧ laidMetH Tryd.prog Rows.langFaultsRow.laid w) ∧ sizedMet enc Tryd.prog Tryd.f5 (OpenSpec.ofChange Rows.langFaultsSpec) false w args)
      (Rows.langFaultsSpec.post enc Tryd.prog Tryd.f5 false true false false) := by
  refine returns_laid (C := Tryd.checked) (X := fun w _ => laidMetH Tryd.prog Rows.langFaultsRow.laid w) (fun _ _ _ hh h => h.of_heap hh) own started (by kernel_rfl) Tryd.func5
    (ChangeSpec.witness_shaped (enc := enc) (C := Tryd.checked) (os := os) (X := fun w _ => laidMetH Tryd.prog Rows.langFaultsRow.laid w) false (World.laidAll Tryd.prog os Rows.langFaultsRow.laid) #[.string ⟨#[]⟩] 8 (World.laidAll_os _ _ _)
      (World.shaped_of_ZipB (by kernel_rfl) (by kernel_rfl)) (by kernel_rfl) (by kernel_rfl) (by kernel_rfl)
      (by rw [MakeChecks.laidMetH_plain _ _ _ (by kernel_rfl)]; exact laidMet_laidAll _ (by kernel_rfl) (by kernel_rfl))) ?_
  intro W base args ds gs before hval0 hW hsh _
  have hval : ∀ (j : Nat) t v, Tryd.f5.params[j]? = some t → args[j]? = some v → Value.okWide Tryd.prog W .any base t v := hval0
  have hW' := hW
  obtain ⟨p, q, hA0, hV, rfl, _, _⟩ := hW
  have hA : DataW.TrodAll enc Tryd.prog W 0 (fun _ => true) true Tryd.f5.params.toList args.toList ds p := hA0
  rw [Tryd.params5] at hA hval
  obtain ⟨v0, d0, rfl, rfl, h0⟩ := trodAll_one hA
  obtain ⟨rfl, rfl⟩ := trodVars_none hV
  obtain ⟨a0, rfl, rfl, rfl, w0⟩ := open_string Tryd.underlying9 (hval 0 9 v0 rfl rfl) h0
  clear hA0 hval0
  simp only [List.append_nil] at hW'
  obtain ⟨m0, hm⟩ := maxlen_of hsh
  refine (walk a0 m0 W hm).mono fun e W' ⟨he, hb⟩ => ?_
  subst he
  exact ⟨_, rfl, _, _, _, [], [], [], hW', trodAll_mk1 (shut_bool Tryd.underlying4 _), trodAll_mk1 (shut_string Tryd.underlying9 w0), rfl, hb.frame _, fun h => by cases h⟩

theorem holds : Rows.LangFaultsSaid :=
  OpenClaim.holds_of_wide 5 Tryd.f5 rfl rfl rfl rfl rfl rfl rfl ⟨rfl, rfl, rfl, rfl, rfl⟩ rfl rfl rfl rfl rfl (by kernel_rfl) Tryd.func5 (by kernel_rfl)
    (of_decide_eq_true (by kernel_rfl)) (by unfold Func.isWrapper; first | (rw [if_pos (by decide +kernel)]; kernel_rfl) | (rw [if_neg (by decide +kernel)]; exact ⟨rfl, rfl⟩))
    (fun os started H enc _ => lifted os started H enc)

theorem proved : Rows.LangFaultsCardSaid :=
  Claim7.holds_tied_plain_at .later [] [.data, .pinned] true (true, "10bd4971ebfdefe448607cddd6006cc50e79ba271c7c637469e57664e49e90bc") false holds (fun _ h => by cases h) (by kernel_rfl) (fun _ h => by cases h) langFaults_row_tie rfl ⟨rfl, rfl⟩ (by kernel_rfl) rfl
    (fun f fn hf hfn => by
      obtain rfl : f = 5 := Option.some.inj ((show Tryd.prog.funcNamed "sealskin/sealskinlaw09.LangFaults" = some 5 by kernel_rfl).symm.trans hf) |>.symm
      obtain rfl : fn = Tryd.f5 := (Option.some.inj (Tryd.func5.symm.trans hfn)).symm
      exact ⟨by kernel_rfl, fun j t ht => by
        rw [Tryd.params5] at ht
        have hm : t ∈ [9] := by simpa using Array.mem_of_getElem? ht
        have hall : ([9].all fun u => !Tryd.prog.wantsStandIn u) = true := by kernel_rfl
        exact (show Tryd.prog.wantsStandIn t = false by simpa using List.all_eq_true.1 hall t hm)⟩)
    (by kernel_rfl)
end Go.Proofs.YtaeaakcppheaoaaDoor.LangFaults
namespace Go.Proofs.YtaeaakcppheaoaaDoor
theorem langFaults_holds : Rows.LangFaultsCardSaid := LangFaults.proved
#print axioms langFaults_holds
end Go.Proofs.YtaeaakcppheaoaaDoor

