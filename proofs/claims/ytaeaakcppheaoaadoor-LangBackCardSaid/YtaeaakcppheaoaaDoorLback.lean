/- sealskinlaw09.LangBack returns true of every policy and all names: what is printed is parsed as it was, with its names; the row lists strconv's table of powers of ten, which Itoa reads. -/
import Derived.Test.YtaeaakcppheaoaaDoorTt
import Derived.Test.YtaeaakcppheaoaaDoorRr
import Derived.Test.YtaeaakcppheaoaaDoorSb
namespace Go.Proofs.YtaeaakcppheaoaaDoor.LangBack
open Go.ChangeShapes Go.WideShapes Go.ChangeAt Go.RowKit Go.Proofs.YtaeaakcppheaoaaDoorW.PrintWords
open Go.ChangeMaps (open_string shut_string)

theorem self_pol (P : Pol) : sameB P P = true := by unfold sameB; simp
theorem names_at {given : List ByteArray} : ∀ {n : Nat} {N : List ByteArray}, namesO given n = some N → ∀ k (h : k < N.length), N[k] = nameAt given k := by
  intro n
  induction n with
  | zero => intro N h; injection h with h; subst h; intro k hk; cases hk
  | succ n ih =>
    intro N h
    obtain ⟨M, hM, h⟩ := Option.bind_eq_some_iff.1 h
    have h1 := ih hM
    have hl := (namesO_len hM).1
    split at h
    · cases h
    · injection h with h
      subst h
      intro k hk
      by_cases hkM : k < M.length
      · rw [List.getElem_append_left hkM]; exact h1 k hkM
      · have hke : k = M.length := by rw [List.length_append, List.length_singleton] at hk; omega
        subst hke
        rw [List.getElem_append_right (Nat.le_refl _)]
        simp only [Nat.sub_self, List.getElem_cons_zero]
        rw [hl]
set_option maxHeartbeats 4000000 in
set_option maxRecDepth 100000 in
theorem walk (p : Pol) (given : List ByteArray) (A0 A1 A2 G : Option Addr) (c0 c1 c2 cg : Nat) (m0 : Int) (w : World) (h0 : Kd.C kLab w A0 p.labels.length p.labels) (h1 : Kd.C kQuo w A1 p.quotas.length p.quotas) (h2 : Kd.C kEnt w A2 p.entries.length p.entries)
    (hc0 : p.labels.length ≤ c0) (hG : Kd.C Kd.string w G given.length given) (hcom : ∀ x ∈ p.labels, 0 ≤ x.com ∧ x.com ≤ 4294967295) (ht : Tab w) (hm : w.cell? ⟨0, 0, none⟩ = some (.int .i64 m0)) :
    Calls Tryd.prog 8 #[.agg #[.slice A0 p.labels.length c0, .slice A1 p.quotas.length c1, .slice A2 p.entries.length c2], .slice G given.length cg] w fun e w' => e = .returned (.bool true) ∧ Below w.heap.size w w' := by
  have H0 := Aside0.mk h0
  have H1 := Aside0.mk h1
  have H2 := Aside0.mk h2
  have HG := Aside0.mk hG
  have HT := Aside0.mk ht
  have HC := Aside0.mk hcom
  have HM := Aside0.mk hm
  have HC0 := Aside0.mk hc0
  have hbx : Below w.heap.size w (w.alloc (.cells #[.slice A0 p.labels.length c0, .slice A1 p.quotas.length c1, .slice A2 p.entries.length c2] 27)) := (Below.refl _ _).alloc (Nat.le_refl _) _
  have HBX := Aside0.mk hbx
  clear h0 h1 h2 hG ht hcom hm hc0 hbx
  go_enter Tryd.func8, Tryd.ntmps8
  go_wp2_with fail
  refine (light_any p given A0 A1 A2 G p.labels.length p.quotas.length c0 c1 c2 cg _ (Kd.C_below H2.out HBX.out) (Kd.C_below HG.out HBX.out)).mono ?_
  rintro e w1 ⟨b, rfl, hlight, hb1⟩
  have HL := Aside0.mk hlight
  have HB1 := Aside0.mk (below_step HBX.out hb1)
  have g0 := blk_cell (blk_below (blk_new w (.cells #[.slice A0 p.labels.length c0, .slice A1 p.quotas.length c1, .slice A2 p.entries.length c2] 27)) hb1) 0
  have g1 := blk_cell (blk_below (blk_new w (.cells #[.slice A0 p.labels.length c0, .slice A1 p.quotas.length c1, .slice A2 p.entries.length c2] 27)) hb1) 1
  have g2 := blk_cell (blk_below (blk_new w (.cells #[.slice A0 p.labels.length c0, .slice A1 p.quotas.length c1, .slice A2 p.entries.length c2] 27)) hb1) 2
  have HX1 := Aside0.mk (blk_below (blk_new w (.cells #[.slice A0 p.labels.length c0, .slice A1 p.quotas.length c1, .slice A2 p.entries.length c2] 27)) hb1)
  clear hlight hb1 HBX
  cases b with
  | false =>
    go_wp2_with fail
    refine (awake_any m0 w1 (pw_cell_below HB1.out HM.out)).mono ?_
    rintro e w2 ⟨rfl, hb⟩
    have HB := Aside0.mk (below_step HB1.out hb)
    clear hb
    go_wp2
    go_ret
    exact ⟨rfl, HB.out⟩
  | true =>
    clear HL
    cases hrb : rightB p with
    | false =>
      have HR := Aside0.mk (show printP p given = (⟨#[]⟩, 11) by unfold printP; rw [hrb]; rfl)
      clear hrb
      go_wp2_with fail
      refine (print_any p given A0 A1 A2 G c0 c1 c2 cg w1 (Kd.C_below H0.out HB1.out) (Kd.C_below H1.out HB1.out) (Kd.C_below H2.out HB1.out) HC0.out (Kd.C_below HG.out HB1.out) HC.out (tab_below HT.out HB1.out)).mono ?_
      rw [HR.out]
      rintro e w2 ⟨rfl, hb2⟩
      have HB2 := Aside0.mk (below_step HB1.out hb2)
      clear hb2 HB1
      simp only
      go_wp2_with fail
      refine (awake_any m0 w2 (pw_cell_below HB2.out HM.out)).mono ?_
      rintro e w3 ⟨rfl, hb3⟩
      have HB3 := Aside0.mk (below_step HB2.out hb3)
      clear hb3
      go_wp2
      go_ret
      exact ⟨rfl, HB3.out⟩
    | true =>
      cases hno : namesO given p.labels.length with
      | none =>
        have HR := Aside0.mk (show printP p given = (⟨#[]⟩, 90) by unfold printP; rw [hrb, hno]; rfl)
        clear hrb hno
        go_wp2_with fail
        refine (print_any p given A0 A1 A2 G c0 c1 c2 cg w1 (Kd.C_below H0.out HB1.out) (Kd.C_below H1.out HB1.out) (Kd.C_below H2.out HB1.out) HC0.out (Kd.C_below HG.out HB1.out) HC.out (tab_below HT.out HB1.out)).mono ?_
        rw [HR.out]
        rintro e w2 ⟨rfl, hb2⟩
        have HB2 := Aside0.mk (below_step HB1.out hb2)
        clear hb2 HB1
        simp only
        go_wp2_with fail
        refine (awake_any m0 w2 (pw_cell_below HB2.out HM.out)).mono ?_
        rintro e w3 ⟨rfl, hb3⟩
        have HB3 := Aside0.mk (below_step HB2.out hb3)
        clear hb3
        go_wp2
        go_ret
        exact ⟨rfl, HB3.out⟩
      | some N =>
        have HR := Aside0.mk (show printP p given = (ofL (textT N p), 0) by unfold printP; rw [hrb, hno]; rfl)
        have HBL := Aside0.mk (back_law hrb hno HC.out)
        have HNL := Aside0.mk (namesO_len hno).1
        have HNA := Aside0.mk (names_at hno)
        obtain ⟨T, hT⟩ : ∃ T, T = ofL (textT N p) := ⟨_, rfl⟩
        rw [← hT] at HR HBL
        clear hrb hno hT
        go_wp2_with fail
        refine (print_any p given A0 A1 A2 G c0 c1 c2 cg w1 (Kd.C_below H0.out HB1.out) (Kd.C_below H1.out HB1.out) (Kd.C_below H2.out HB1.out) HC0.out (Kd.C_below HG.out HB1.out) HC.out (tab_below HT.out HB1.out)).mono ?_
        rw [HR.out]
        rintro e w2 ⟨rfl, hb2⟩
        have HB2 := Aside0.mk (below_step HB1.out hb2)
        have HX2 := Aside0.mk (blk_below HX1.out hb2)
        clear hb2 HB1 HX1 g0 g1 g2
        simp only
        go_wp2_with fail
        refine (parse_any T m0 w2 (pw_cell_below HB2.out HM.out)).mono ?_
        rw [HBL.out]
        rintro e w3 ⟨B0, d0, B1, d1, B2, d2, Bn, dn, rfl, k0, k1, k2, kn, _, _, _, _, hb3⟩
        have HB3 := Aside0.mk (below_step HB2.out hb3)
        have HX3 := Aside0.mk (blk_below HX2.out hb3)
        have hb4 : Below w3.heap.size w3 (w3.alloc (Obj.cells #[.slice B0 p.labels.length d0, .slice B1 p.quotas.length d1, .slice B2 p.entries.length d2] 27)) := below_alloc (Below.refl _ _) _
        have HB4 := Aside0.mk (below_step HB3.out hb4)
        have K0 := Aside0.mk (Kd.C_below k0 hb4)
        have K1 := Aside0.mk (Kd.C_below k1 hb4)
        have K2 := Aside0.mk (Kd.C_below k2 hb4)
        have KN := Aside0.mk (Kd.C_below kn hb4)
        have HX4 := Aside0.mk (blk_below HX3.out hb4)
        have f0 := blk_cell HX4.out 0
        have f1 := blk_cell HX4.out 1
        have f2 := blk_cell HX4.out 2
        have hpl : w.heap.size < w3.heap.size := blk_lt HX3.out
        clear hb3 hb4 k0 k1 k2 kn HB2 HX2
        simp only
        go_wp2_with fail
        refine (same_any p p A0 A1 A2 B0 B1 B2 c0 c1 c2 d0 d1 d2 _ (Kd.C_below H0.out HB4.out) (Kd.C_below H1.out HB4.out) (Kd.C_below H2.out HB4.out) K0.out K1.out K2.out).mono ?_
        rintro e w5 ⟨rfl, hb5⟩
        rw [self_pol]
        have HB5 := Aside0.mk (below_step HB4.out hb5)
        have r0 := blk_cell (blk_below HX4.out hb5) 0
        have KN5 := Aside0.mk (Kd.C_below KN.out hb5)
        have hNi : (N.length : Int) = p.labels.length := by rw [HNL.out]
        have HNI := Aside0.mk hNi
        have hnm := C_max KN.out
        have hgm := C_max HG.out
        clear hb5 HB4 HX4 K0 K1 K2 KN f0 f1 f2 hNi
        rw [HNL.out] at KN5 hnm ⊢
        go_wp2
        go_loopw [60] (fun i wr => ∃ k : Nat, k ≤ p.labels.length ∧ i = .int .i64 k ∧ Aside0 (Below w5.heap.size w5 wr)) (fun i _ => p.labels.length - (intOf i).toNat)
        case atStart => exact ⟨0, Nat.zero_le _, rfl, ⟨Below.refl _ _⟩⟩
        case round =>
          obtain ⟨k, hk, rfl, HBr⟩ := hrel
          by_cases hlt : k < p.labels.length
          · have hkN : k < N.length := by rw [HNL.out]; exact hlt
            have hNk := HNA.out k hkN
            obtain ⟨bn, on, hA, cx⟩ := str_at (show Kd.C Kd.string wr Bn N.length N from by rw [HNL.out]; exact Kd.C_below KN5.out HBr.out) k hkN
            subst hA
            obtain ⟨x, hx⟩ : ∃ x, x = N[k] := ⟨_, rfl⟩
            rw [← hx] at cx hNk
            clear hx
            have hki : (k : Int) < p.labels.length := by omega
            have hk0 : (0 : Int) ≤ k := by omega
            by_cases hkg : k < given.length
            · have hkgi : (k : Int) < given.length := by omega
              obtain ⟨bg, og, rfl, cg2⟩ := str_at (Kd.C_below HG.out (below_step HB5.out HBr.out)) k hkg
              have hgx : given[k] = x := by rw [hNk]; unfold nameAt; rw [if_pos hkg, rd_getElem _ _ k hkg]
              rw [hgx] at cg2
              clear hNk hgx hkg
              go_wp2
              go_roundw
              case rel => exact ⟨k + 1, by omega, by go_num, HBr⟩
              case measure => simp [intOf]; omega
            · have hkgi : (given.length : Int) ≤ k := by omega
              have hkg2 : ¬ (k : Int) < given.length := by omega
              have HNM := Aside0.mk (show nameS (k : Int) = x by rw [hNk]; unfold nameAt; rw [if_neg hkg])
              clear hNk hkg
              go_wp2_with fail
              refine (name_is (k : Int) wr x HNM.out).mono ?_
              rintro e w6 ⟨rfl, hb6⟩
              have HB6 := Aside0.mk (below_step HBr.out hb6)
              clear hb6
              go_wp2
              go_roundw
              case rel => exact ⟨k + 1, by omega, by go_num, HB6⟩
              case measure => simp [intOf]; omega
          · have hkn : k = p.labels.length := by omega
            subst hkn
            have HB6 := Aside0.mk (below_step HB5.out HBr.out)
            go_wp2_with fail
            refine (awake_any m0 wr (pw_cell_below HB6.out HM.out)).mono ?_
            rintro e w7 ⟨rfl, hb7⟩
            have HB7 := Aside0.mk (below_step HB6.out hb7)
            clear hb7
            go_wp2
            go_ret
            exact ⟨rfl, HB7.out⟩
theorem laidOut : laidOutB Tryd.prog = true := by kernel_rfl
theorem laidMet_rest {P : Program} {x : String × DataW Unit} {rest : List (String × DataW Unit)} {W : World} (h : laidMet P (x :: rest) W) : laidMet P rest W := by
  obtain ⟨ps, ⟨g', t', cs, fuel, p, q, hg', ht', hvar, hd, hrest, e⟩, hn, hc⟩ := h
  subst e
  exact ⟨q, hrest, (List.nodup_append.1 hn).2.1, fun b off hm => hc b off (List.mem_append_right _ hm)⟩
noncomputable def tabG : Nat := (Tryd.prog.globalNamed "internal/strconv.uint64pow10").getD 0
noncomputable def tabT : TypeId := ((Tryd.prog.globals[tabG]?).map (·.type)).getD 0
noncomputable def tabN : Nat := match Tryd.prog.underlying tabT with
  | some (.array n _) => n
  | _ => 0
noncomputable def tabE : TypeId := match Tryd.prog.underlying tabT with
  | some (.array _ e) => e
  | _ => 0
theorem tab_laid {W : World} (h : laidMet Tryd.prog Rows.langBackRow.laid W) : Tab W :=
  Lib.tabIs_of_head (g := tabG) (t := tabT) (e := tabE) (n := tabN) (by kernel_rfl) (by kernel_rfl) (by kernel_rfl) (by kernel_rfl) (by kernel_rfl) (by kernel_rfl) (laidMet_rest (laidMet_rest h))

set_option maxRecDepth 100000 in
theorem lifted (os : Os) (started : os.Started) (H : Type) (enc : TypeId × Value → H) :
    ReturnsInHanded {} Tryd.checked os 8 .any (fun w args => (Rows.langBackSpec.pre enc Tryd.prog Tryd.f8 [] false w args ∧ laidMetH Tryd.prog Rows.langBackRow.laid w) ∧ sizedMet enc Tryd.prog Tryd.f8 (OpenSpec.ofChange Rows.langBackSpec) false w args)
      (Rows.langBackSpec.post enc Tryd.prog Tryd.f8 false true false false) := by
  refine returns_laid (C := Tryd.checked) (X := fun w _ => laidMetH Tryd.prog Rows.langBackRow.laid w) (fun _ _ _ hh h => h.of_heap hh) own started (by kernel_rfl) Tryd.func8
    (ChangeSpec.witness_shaped (enc := enc) (C := Tryd.checked) (os := os) (X := fun w _ => laidMetH Tryd.prog Rows.langBackRow.laid w) false (World.laidAll Tryd.prog os Rows.langBackRow.laid) #[.agg #[.slice none 0 0, .slice none 0 0, .slice none 0 0], .slice none 0 0] 8 (World.laidAll_os _ _ _)
      (World.shaped_of_ZipB (by kernel_rfl) (by kernel_rfl)) (by kernel_rfl) (by kernel_rfl) (by kernel_rfl)
      (by rw [MakeChecks.laidMetH_plain _ _ _ (by kernel_rfl)]; exact laidMet_laidAll _ (by kernel_rfl) (by kernel_rfl))) ?_
  intro W base args ds gs before hval0 hW hsh hlaid
  have hval : ∀ (j : Nat) t v, Tryd.f8.params[j]? = some t → args[j]? = some v → Value.okWide Tryd.prog W .any base t v := hval0
  have hW' := hW
  obtain ⟨p, q, hA0, hV, rfl, _, _⟩ := hW
  have hA : DataW.TrodAll enc Tryd.prog W 0 (fun _ => true) true Tryd.f8.params.toList args.toList ds p := hA0
  rw [Tryd.params8] at hA hval
  obtain ⟨v0, v1, d0, d1, p0, p1, rfl, rfl, rfl, h0, h1⟩ := trodAll_two hA
  obtain ⟨rfl, rfl⟩ := trodVars_none hV
  obtain ⟨pl, A0, A1, A2, c0, c1, c2, rfl, k0, k1, k2, hc0, hcom⟩ := open_pol (hval 0 27 v0 rfl rfl) h0
  obtain ⟨l, A, c, rfl, kn⟩ := open_names (hval 1 28 v1 rfl rfl) h1
  have lt0 : ∀ x ∈ p0, x.block < W.heap.size := by obtain ⟨m, hm⟩ := h0; exact DataW.trod_lt m _ _ _ hm
  have lt1 : ∀ x ∈ p1, x.block < W.heap.size := by obtain ⟨m, hm⟩ := h1; exact DataW.trod_lt m _ _ _ hm
  clear hA0 hval0
  simp only [List.append_nil] at hW'
  obtain ⟨m0, hm⟩ := maxlen_of hsh
  have htab : Tab W := by
    rw [MakeChecks.laidMetH_plain _ _ _ (by kernel_rfl)] at hlaid
    exact tab_laid hlaid
  refine (walk pl l A0 A1 A2 A c0 c1 c2 c m0 W k0 k1 k2 hc0 kn hcom htab hm).mono fun e W' ⟨he, hb⟩ => ?_
  subst he
  exact ⟨_, rfl, _, _, _, [], _, [], hW', trodAll_mk1 (shut_bool Tryd.underlying4 _), trodAll_mk2 (Below.trod laidOut (by kernel_rfl) (of_decide_eq_true (by kernel_rfl)) h0 hb lt0) (Below.trod laidOut (by kernel_rfl) (of_decide_eq_true (by kernel_rfl)) h1 hb lt1), rfl, hb.frame _, fun h => by cases h⟩

theorem holds : Rows.LangBackSaid :=
  OpenClaim.holds_of_wide 8 Tryd.f8 rfl rfl rfl rfl rfl rfl rfl ⟨rfl, rfl, rfl, rfl, rfl⟩ rfl rfl rfl rfl rfl (by kernel_rfl) Tryd.func8 (by kernel_rfl)
    (of_decide_eq_true (by kernel_rfl)) (by unfold Func.isWrapper; first | (rw [if_pos (by decide +kernel)]; kernel_rfl) | (rw [if_neg (by decide +kernel)]; exact ⟨rfl, rfl⟩))
    (fun os started H enc _ => lifted os started H enc)

theorem proved : Rows.LangBackCardSaid :=
  Claim7.holds_tied_plain_at .later [] [.data, .data, .data, .data, .pinned] true (true, "10bd4971ebfdefe448607cddd6006cc50e79ba271c7c637469e57664e49e90bc") false holds (fun _ h => by cases h) (by kernel_rfl) (fun _ h => by cases h) langBack_row_tie rfl ⟨rfl, rfl⟩ (by kernel_rfl) rfl
    (fun f fn hf hfn => by
      obtain rfl : f = 8 := Option.some.inj ((show Tryd.prog.funcNamed "sealskin/sealskinlaw09.LangBack" = some 8 by kernel_rfl).symm.trans hf) |>.symm
      obtain rfl : fn = Tryd.f8 := (Option.some.inj (Tryd.func8.symm.trans hfn)).symm
      exact ⟨by kernel_rfl, fun j t ht => by
        rw [Tryd.params8] at ht
        have hm : t ∈ [27, 28] := by simpa using Array.mem_of_getElem? ht
        have hall : ([27, 28].all fun u => !Tryd.prog.wantsStandIn u) = true := by kernel_rfl
        exact (show Tryd.prog.wantsStandIn t = false by simpa using List.all_eq_true.1 hall t hm)⟩)
    (by kernel_rfl)
end Go.Proofs.YtaeaakcppheaoaaDoor.LangBack
namespace Go.Proofs.YtaeaakcppheaoaaDoor
theorem langBack_holds : Rows.LangBackCardSaid := LangBack.proved
#print axioms langBack_holds
end Go.Proofs.YtaeaakcppheaoaaDoor
