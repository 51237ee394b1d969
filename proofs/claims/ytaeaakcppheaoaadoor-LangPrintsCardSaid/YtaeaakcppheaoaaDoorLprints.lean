/- sealskinlaw09.LangPrints returns true of every policy and all names: the text that Print makes, or its error, is the one that the reference makes; the row lists strconv's table of powers of ten, which Itoa reads. -/
import Derived.Test.YtaeaakcppheaoaaDoorRr
import Derived.Test.YtaeaakcppheaoaaDoorSb
namespace Go.Proofs.YtaeaakcppheaoaaDoor.LangPrints
open Go.ChangeShapes Go.WideShapes Go.ChangeAt Go.RowKit Go.Proofs.YtaeaakcppheaoaaDoorW.PrintWords
open Go.ChangeMaps (open_string shut_string)

set_option maxHeartbeats 4000000 in
set_option maxRecDepth 100000 in
theorem walk (p : Pol) (given : List ByteArray) (A0 A1 A2 G : Option Addr) (c0 c1 c2 cg : Nat) (m0 : Int) (w : World) (h0 : Kd.C kLab w A0 p.labels.length p.labels) (h1 : Kd.C kQuo w A1 p.quotas.length p.quotas) (h2 : Kd.C kEnt w A2 p.entries.length p.entries)
    (hc0 : p.labels.length ≤ c0) (hG : Kd.C Kd.string w G given.length given) (hcom : ∀ x ∈ p.labels, 0 ≤ x.com ∧ x.com ≤ 4294967295) (ht : Tab w) (hm : w.cell? ⟨0, 0, none⟩ = some (.int .i64 m0)) :
    Calls Tryd.prog 7 #[.agg #[.slice A0 p.labels.length c0, .slice A1 p.quotas.length c1, .slice A2 p.entries.length c2], .slice G given.length cg] w fun e w' => e = .returned (.bool true) ∧ Below w.heap.size w w' := by
  have H0 := Aside0.mk h0
  have H1 := Aside0.mk h1
  have H2 := Aside0.mk h2
  have HG := Aside0.mk hG
  have HT := Aside0.mk ht
  have HC := Aside0.mk hcom
  have HM := Aside0.mk hm
  have HC0 := Aside0.mk hc0
  have hbx : Below w.heap.size w (w.alloc (.cells #[.slice A0 p.labels.length c0, .slice A1 p.quotas.length c1, .slice A2 p.entries.length c2] 27)) := (Below.refl _ _).alloc (Nat.le_refl _) _
  have HBX := Aside0.mk hbx
  clear h0 h1 h2 hG ht hcom hm hc0 hbx
  go_enter Tryd.func7, Tryd.ntmps7
  go_wp2_with fail
  refine (light_any p given A0 A1 A2 G p.labels.length p.quotas.length c0 c1 c2 cg _ (Kd.C_below H2.out HBX.out) (Kd.C_below HG.out HBX.out)).mono ?_
  rintro e w1 ⟨b, rfl, hlight, hb1⟩
  have HL := Aside0.mk hlight
  have HB1 := Aside0.mk (below_step HBX.out hb1)
  have g0 := blk_cell (blk_below (blk_new w (.cells #[.slice A0 p.labels.length c0, .slice A1 p.quotas.length c1, .slice A2 p.entries.length c2] 27)) hb1) 0
  have g1 := blk_cell (blk_below (blk_new w (.cells #[.slice A0 p.labels.length c0, .slice A1 p.quotas.length c1, .slice A2 p.entries.length c2] 27)) hb1) 1
  have g2 := blk_cell (blk_below (blk_new w (.cells #[.slice A0 p.labels.length c0, .slice A1 p.quotas.length c1, .slice A2 p.entries.length c2] 27)) hb1) 2
  have HX1 := Aside0.mk (blk_below (blk_new w (.cells #[.slice A0 p.labels.length c0, .slice A1 p.quotas.length c1, .slice A2 p.entries.length c2] 27)) hb1)
  clear hlight hb1 HBX
  cases b with
  | false =>
    go_wp2_with fail
    refine (awake_any m0 w1 (pw_cell_below HB1.out HM.out)).mono ?_
    rintro e w2 ⟨rfl, hb⟩
    have HB := Aside0.mk (below_step HB1.out hb)
    clear hb
    go_wp2
    go_ret
    exact ⟨rfl, HB.out⟩
  | true =>
    have HS := Aside0.mk (HL.out rfl)
    clear HL
    obtain ⟨r, hr⟩ : ∃ r, r = printP p given := ⟨_, rfl⟩
    have HR := Aside0.mk hr
    clear hr
    go_wp2_with fail
    refine (print_any p given A0 A1 A2 G c0 c1 c2 cg w1 (Kd.C_below H0.out HB1.out) (Kd.C_below H1.out HB1.out) (Kd.C_below H2.out HB1.out) HC0.out (Kd.C_below HG.out HB1.out) HC.out (tab_below HT.out HB1.out)).mono ?_
    rw [← HR.out]
    obtain ⟨s, n⟩ := r
    rintro e w2 ⟨rfl, hb2⟩
    have HB2 := Aside0.mk (below_step HB1.out hb2)
    have f0 := blk_cell (blk_below HX1.out hb2) 0
    have f1 := blk_cell (blk_below HX1.out hb2) 1
    have f2 := blk_cell (blk_below HX1.out hb2) 2
    clear hb2 g0 g1 g2 HX1 HB1
    simp only
    go_wp2_with fail
    refine (refprint_any p given A0 A1 A2 G c0 c1 c2 cg w2 (Kd.C_below H0.out HB2.out) (Kd.C_below H1.out HB2.out) (Kd.C_below H2.out HB2.out) HC0.out (Kd.C_below HG.out HB2.out) HC.out (tab_below HT.out HB2.out) HS.out).mono ?_
    rw [← HR.out]
    rintro e w3 ⟨rfl, hb3⟩
    have HB3 := Aside0.mk (below_step HB2.out hb3)
    clear hb3 f0 f1 f2 HB2
    simp only
    go_wp2_with fail
    refine (awake_any m0 w3 (pw_cell_below HB3.out HM.out)).mono ?_
    rintro e w4 ⟨rfl, hb4⟩
    have HB4 := Aside0.mk (below_step HB3.out hb4)
    clear hb4
    go_wp2
    go_ret
    exact ⟨rfl, HB4.out⟩
theorem laidOut : laidOutB Tryd.prog = true := by kernel_rfl
theorem laidMet_rest {P : Program} {x : String × DataW Unit} {rest : List (String × DataW Unit)} {W : World} (h : laidMet P (x :: rest) W) : laidMet P rest W := by
  obtain ⟨ps, ⟨g', t', cs, fuel, p, q, hg', ht', hvar, hd, hrest, e⟩, hn, hc⟩ := h
  subst e
  exact ⟨q, hrest, (List.nodup_append.1 hn).2.1, fun b off hm => hc b off (List.mem_append_right _ hm)⟩
noncomputable def tabG : Nat := (Tryd.prog.globalNamed "internal/strconv.uint64pow10").getD 0
noncomputable def tabT : TypeId := ((Tryd.prog.globals[tabG]?).map (·.type)).getD 0
noncomputable def tabN : Nat := match Tryd.prog.underlying tabT with
  | some (.array n _) => n
  | _ => 0
noncomputable def tabE : TypeId := match Tryd.prog.underlying tabT with
  | some (.array _ e) => e
  | _ => 0
theorem tab_laid {W : World} (h : laidMet Tryd.prog Rows.langPrintsRow.laid W) : Tab W :=
  Lib.tabIs_of_head (g := tabG) (t := tabT) (e := tabE) (n := tabN) (by kernel_rfl) (by kernel_rfl) (by kernel_rfl) (by kernel_rfl) (by kernel_rfl) (by kernel_rfl) (laidMet_rest (laidMet_rest h))

set_option maxRecDepth 100000 in
theorem lifted (os : Os) (started : os.Started) (H : Type) (enc : TypeId × Value → H) :
    ReturnsInHanded {} Tryd.checked os 7 .any (fun w args => (Rows.langPrintsSpec.pre enc Tryd.prog Tryd.f7 [] false w args ∧ laidMetH Tryd.prog Rows.langPrintsRow.laid w) ∧ sizedMet enc Tryd.prog Tryd.f7 (OpenSpec.ofChange Rows.langPrintsSpec) false w args)
      (Rows.langPrintsSpec.post enc Tryd.prog Tryd.f7 false true false false) := by
  refine returns_laid (C := Tryd.checked) (X := fun w _ => laidMetH Tryd.prog Rows.langPrintsRow.laid w) (fun _ _ _ hh h => h.of_heap hh) own started (by kernel_rfl) Tryd.func7
    (ChangeSpec.witness_shaped (enc := enc) (C := Tryd.checked) (os := os) (X := fun w _ => laidMetH Tryd.prog Rows.langPrintsRow.laid w) false (World.laidAll Tryd.prog os Rows.langPrintsRow.laid) #[.agg #[.slice none 0 0, .slice none 0 0, .slice none 0 0], .slice none 0 0] 8 (World.laidAll_os _ _ _)
      (World.shaped_of_ZipB (by kernel_rfl) (by kernel_rfl)) (by kernel_rfl) (by kernel_rfl) (by kernel_rfl)
      (by rw [MakeChecks.laidMetH_plain _ _ _ (by kernel_rfl)]; exact laidMet_laidAll _ (by kernel_rfl) (by kernel_rfl))) ?_
  intro W base args ds gs before hval0 hW hsh hlaid
  have hval : ∀ (j : Nat) t v, Tryd.f7.params[j]? = some t → args[j]? = some v → Value.okWide Tryd.prog W .any base t v := hval0
  have hW' := hW
  obtain ⟨p, q, hA0, hV, rfl, _, _⟩ := hW
  have hA : DataW.TrodAll enc Tryd.prog W 0 (fun _ => true) true Tryd.f7.params.toList args.toList ds p := hA0
  rw [Tryd.params7] at hA hval
  obtain ⟨v0, v1, d0, d1, p0, p1, rfl, rfl, rfl, h0, h1⟩ := trodAll_two hA
  obtain ⟨rfl, rfl⟩ := trodVars_none hV
  obtain ⟨pl, A0, A1, A2, c0, c1, c2, rfl, k0, k1, k2, hc0, hcom⟩ := open_pol (hval 0 27 v0 rfl rfl) h0
  obtain ⟨l, A, c, rfl, kn⟩ := open_names (hval 1 28 v1 rfl rfl) h1
  have lt0 : ∀ x ∈ p0, x.block < W.heap.size := by obtain ⟨m, hm⟩ := h0; exact DataW.trod_lt m _ _ _ hm
  have lt1 : ∀ x ∈ p1, x.block < W.heap.size := by obtain ⟨m, hm⟩ := h1; exact DataW.trod_lt m _ _ _ hm
  clear hA0 hval0
  simp only [List.append_nil] at hW'
  obtain ⟨m0, hm⟩ := maxlen_of hsh
  have htab : Tab W := by
    rw [MakeChecks.laidMetH_plain _ _ _ (by kernel_rfl)] at hlaid
    exact tab_laid hlaid
  refine (walk pl l A0 A1 A2 A c0 c1 c2 c m0 W k0 k1 k2 hc0 kn hcom htab hm).mono fun e W' ⟨he, hb⟩ => ?_
  subst he
  exact ⟨_, rfl, _, _, _, [], _, [], hW', trodAll_mk1 (shut_bool Tryd.underlying4 _), trodAll_mk2 (Below.trod laidOut (by kernel_rfl) (of_decide_eq_true (by kernel_rfl)) h0 hb lt0) (Below.trod laidOut (by kernel_rfl) (of_decide_eq_true (by kernel_rfl)) h1 hb lt1), rfl, hb.frame _, fun h => by cases h⟩

theorem holds : Rows.LangPrintsSaid :=
  OpenClaim.holds_of_wide 7 Tryd.f7 rfl rfl rfl rfl rfl rfl rfl ⟨rfl, rfl, rfl, rfl, rfl⟩ rfl rfl rfl rfl rfl (by kernel_rfl) Tryd.func7 (by kernel_rfl)
    (of_decide_eq_true (by kernel_rfl)) (by unfold Func.isWrapper; first | (rw [if_pos (by decide +kernel)]; kernel_rfl) | (rw [if_neg (by decide +kernel)]; exact ⟨rfl, rfl⟩))
    (fun os started H enc _ => lifted os started H enc)

theorem proved : Rows.LangPrintsCardSaid :=
  Claim7.holds_tied_plain_at .later [] [.data, .data, .data, .data, .pinned] true (true, "10bd4971ebfdefe448607cddd6006cc50e79ba271c7c637469e57664e49e90bc") false holds (fun _ h => by cases h) (by kernel_rfl) (fun _ h => by cases h) langPrints_row_tie rfl ⟨rfl, rfl⟩ (by kernel_rfl) rfl
    (fun f fn hf hfn => by
      obtain rfl : f = 7 := Option.some.inj ((show Tryd.prog.funcNamed "sealskin/sealskinlaw09.LangPrints" = some 7 by kernel_rfl).symm.trans hf) |>.symm
      obtain rfl : fn = Tryd.f7 := (Option.some.inj (Tryd.func7.symm.trans hfn)).symm
      exact ⟨by kernel_rfl, fun j t ht => by
        rw [Tryd.params7] at ht
        have hm : t ∈ [27, 28] := by simpa using Array.mem_of_getElem? ht
        have hall : ([27, 28].all fun u => !Tryd.prog.wantsStandIn u) = true := by kernel_rfl
        exact (show Tryd.prog.wantsStandIn t = false by simpa using List.all_eq_true.1 hall t hm)⟩)
    (by kernel_rfl)
end Go.Proofs.YtaeaakcppheaoaaDoor.LangPrints
namespace Go.Proofs.YtaeaakcppheaoaaDoor
theorem langPrints_holds : Rows.LangPrintsCardSaid := LangPrints.proved
#print axioms langPrints_holds
end Go.Proofs.YtaeaakcppheaoaaDoor
