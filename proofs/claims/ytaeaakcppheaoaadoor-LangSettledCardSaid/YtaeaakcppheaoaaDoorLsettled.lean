/- sealskinlaw09.LangSettled returns true of every text: what is parsed and printed is parsed to the same, and printed alike; the row lists strconv's table of powers of ten, which Itoa reads. -/
import Derived.Test.YtaeaakcppheaoaaDoorTu
import Derived.Test.YtaeaakcppheaoaaDoorHw
import Derived.Test.YtaeaakcppheaoaaDoorHsame
import Derived.Lib.LaidTab
namespace Go.Proofs.YtaeaakcppheaoaaDoor.LangSettled
open Go.ChangeShapes Go.WideShapes Go.ChangeAt Go.RowKit Go.Proofs.YtaeaakcppheaoaaDoorW.PrintWords
open Go.ChangeMaps (open_string shut_string)

theorem self_pol (P : Pol) : sameB P P = true := by unfold sameB; simp
set_option maxHeartbeats 8000000 in
set_option maxRecDepth 100000 in
theorem walk (s : ByteArray) (m0 : Int) (w : World) (hm : w.cell? ⟨0, 0, none⟩ = some (.int .i64 m0)) (ht : Tab w) :
    Calls Tryd.prog 9 #[.string s] w fun e w' => e = .returned (.bool true) ∧ Below w.heap.size w w' := by
  have HM := Aside0.mk hm
  have HT := Aside0.mk ht
  clear hm ht
  by_cases hlong : 4096 < (s.size : Int)
  · go_enter Tryd.func9, Tryd.ntmps9
    go_wp2_with fail
    refine (awake_any m0 w HM.out).mono ?_
    rintro e w1 ⟨rfl, hb⟩
    have HB := Aside0.mk hb
    clear hb
    go_wp2
    go_ret
    exact ⟨rfl, HB.out⟩
  · have hle : (s.size : Int) ≤ 4096 := by omega
    clear hlong
    have HP := Aside0.mk (parse_any s m0 w HM.out)
    have HH := parse_held s
    obtain ⟨r, hr⟩ : ∃ r, r = parseP s := ⟨_, rfl⟩
    rw [← hr] at HP HH
    clear hr
    obtain ⟨P, NM, at1, er⟩ := r
    simp only at HH
    rcases HH with ⟨h1, h2, h3⟩ | ⟨h1, h2, h3, h4⟩
    · subst h2
      subst h3
      have hne : (er == 0) = false := by rw [beq_eq_false_iff_ne]; exact h1
      go_enter Tryd.func9, Tryd.ntmps9
      go_wp2_with fail
      refine HP.out.mono ?_
      rintro e w1 ⟨A0, c0, A1, c1, A2, c2, An, cn, rfl, k0, k1, k2, kn, _, _, _, _, hb1⟩
      have hb2 : Below w1.heap.size w1 (w1.alloc (Obj.cells #[.slice A0 Pol0.labels.length c0, .slice A1 Pol0.quotas.length c1, .slice A2 Pol0.entries.length c2] 27)) := below_alloc (Below.refl _ _) _
      have HB2 := Aside0.mk (below_step hb1 hb2)
      have K0 := Aside0.mk (Kd.C_below k0 hb2)
      have K1 := Aside0.mk (Kd.C_below k1 hb2)
      have K2 := Aside0.mk (Kd.C_below k2 hb2)
      clear hb1 hb2 k0 k1 k2 kn HP
      simp only
      go_wp2_with fail
      refine (same_any Pol0 Pol0 A0 A1 A2 none none none c0 c1 c2 0 0 0 _ K0.out K1.out K2.out (C_nil _ _) (C_nil _ _) (C_nil _ _)).mono ?_
      rintro e w3 ⟨rfl, hb3⟩
      rw [self_pol]
      have HB3 := Aside0.mk (below_step HB2.out hb3)
      clear hb3 HB2 K0 K1 K2
      go_wp2_with fail
      refine (awake_any m0 w3 (pw_cell_below HB3.out HM.out)).mono ?_
      rintro e w4 ⟨rfl, hb4⟩
      have HB4 := Aside0.mk (below_step HB3.out hb4)
      clear hb4
      go_wp2
      go_ret
      exact ⟨rfl, HB4.out⟩
    · subst h1
      have HR := Aside0.mk (show printP P NM = (ofL (textT NM P), 0) by unfold printP; rw [h2, h3]; rfl)
      have HBL := Aside0.mk (back_law h2 h3 h4)
      have HC := Aside0.mk h4
      have HRN := Aside0.mk (show rightN P = 0 by unfold rightN; rw [h2]; rfl)
      obtain ⟨T, hT⟩ : ∃ T, T = ofL (textT NM P) := ⟨_, rfl⟩
      rw [← hT] at HR HBL
      clear h2 h3 h4 hT
      go_enter Tryd.func9, Tryd.ntmps9
      go_wp2_with fail
      refine HP.out.mono ?_
      rintro e w1 ⟨A0, c0, A1, c1, A2, c2, An, cn, rfl, k0, k1, k2, kn, hc0, _, _, _, hb1⟩
      have hb2 : Below w1.heap.size w1 (w1.alloc (Obj.cells #[.slice A0 P.labels.length c0, .slice A1 P.quotas.length c1, .slice A2 P.entries.length c2] 27)) := below_alloc (Below.refl _ _) _
      have HB2 := Aside0.mk (below_step hb1 hb2)
      have K0 := Aside0.mk (Kd.C_below k0 hb2)
      have K1 := Aside0.mk (Kd.C_below k1 hb2)
      have K2 := Aside0.mk (Kd.C_below k2 hb2)
      have KN := Aside0.mk (Kd.C_below kn hb2)
      have HC0 := Aside0.mk hc0
      have HX2 := Aside0.mk (blk_new w1 (Obj.cells #[.slice A0 P.labels.length c0, .slice A1 P.quotas.length c1, .slice A2 P.entries.length c2] 27))
      obtain ⟨b1, hb1e⟩ : ∃ b1, b1 = w1.heap.size := ⟨_, rfl⟩
      have hbe : b1 < (w1.alloc (Obj.cells #[.slice A0 P.labels.length c0, .slice A1 P.quotas.length c1, .slice A2 P.entries.length c2] 27)).heap.size := by rw [hb1e]; exact blk_lt HX2.out
      clear hb1 hb2 k0 k1 k2 kn HP hc0 hbe hb1e b1
      simp only
      go_wp2_with fail
      refine (print_any P NM A0 A1 A2 An c0 c1 c2 cn _ K0.out K1.out K2.out HC0.out KN.out HC.out (tab_below HT.out HB2.out)).mono ?_
      rw [HR.out]
      rintro e w3 ⟨rfl, hb3⟩
      have HB3 := Aside0.mk (below_step HB2.out hb3)
      have HX3 := Aside0.mk (blk_below HX2.out hb3)
      have L0 := Aside0.mk (Kd.C_below K0.out hb3)
      have L1 := Aside0.mk (Kd.C_below K1.out hb3)
      have L2 := Aside0.mk (Kd.C_below K2.out hb3)
      have LN := Aside0.mk (Kd.C_below KN.out hb3)
      clear hb3 HB2 HX2 K0 K1 K2 KN
      simp only
      go_wp2_with fail
      refine (parse_any T m0 w3 (pw_cell_below HB3.out HM.out)).mono ?_
      rw [HBL.out]
      rintro e w4 ⟨B0, d0, B1, d1, B2, d2, Bn, dn, rfl, j0, j1, j2, jn, hd0, _, _, _, hb4⟩
      have hb5 : Below w4.heap.size w4 (w4.alloc (Obj.cells #[.slice B0 P.labels.length d0, .slice B1 P.quotas.length d1, .slice B2 P.entries.length d2] 27)) := below_alloc (Below.refl _ _) _
      have hb45 := below_step hb4 hb5
      have HB5 := Aside0.mk (below_step HB3.out hb45)
      have J0 := Aside0.mk (Kd.C_below j0 hb5)
      have J1 := Aside0.mk (Kd.C_below j1 hb5)
      have J2 := Aside0.mk (Kd.C_below j2 hb5)
      have JN := Aside0.mk (Kd.C_below jn hb5)
      have HD0 := Aside0.mk hd0
      have M0 := Aside0.mk (Kd.C_below L0.out hb45)
      have M1 := Aside0.mk (Kd.C_below L1.out hb45)
      have M2 := Aside0.mk (Kd.C_below L2.out hb45)
      have MN := Aside0.mk (Kd.C_below LN.out hb45)
      have HX5 := Aside0.mk (blk_below HX3.out hb45)
      have HY5 := Aside0.mk (blk_new w4 (Obj.cells #[.slice B0 P.labels.length d0, .slice B1 P.quotas.length d1, .slice B2 P.entries.length d2] 27))
      have hlt4 : w1.heap.size < w4.heap.size := blk_lt (blk_below HX3.out hb4)
      clear hb4 hb5 hb45 j0 j1 j2 jn hd0 HB3 HX3 L0 L1 L2 LN
      simp only
      go_wp2_with fail
      refine (print_any P NM B0 B1 B2 Bn d0 d1 d2 dn _ J0.out J1.out J2.out HD0.out JN.out HC.out (tab_below HT.out HB5.out)).mono ?_
      rw [HR.out]
      rintro e w6 ⟨rfl, hb6⟩
      have HB6 := Aside0.mk (below_step HB5.out hb6)
      have x0 := blk_cell (blk_below HX5.out hb6) 0
      have x1 := blk_cell (blk_below HX5.out hb6) 1
      have x2 := blk_cell (blk_below HX5.out hb6) 2
      have y0 := blk_cell (blk_below HY5.out hb6) 0
      have y1 := blk_cell (blk_below HY5.out hb6) 1
      have y2 := blk_cell (blk_below HY5.out hb6) 2
      have HX6 := Aside0.mk (blk_below HX5.out hb6)
      have J0' := Aside0.mk (Kd.C_below J0.out hb6)
      have J1' := Aside0.mk (Kd.C_below J1.out hb6)
      have J2' := Aside0.mk (Kd.C_below J2.out hb6)
      have JN' := Aside0.mk (Kd.C_below JN.out hb6)
      have M0' := Aside0.mk (Kd.C_below M0.out hb6)
      have M1' := Aside0.mk (Kd.C_below M1.out hb6)
      have M2' := Aside0.mk (Kd.C_below M2.out hb6)
      have MN' := Aside0.mk (Kd.C_below MN.out hb6)
      clear hb6 HB5 HX5 HY5 J0 J1 J2 JN M0 M1 M2 MN
      simp only
      go_wp2_with fail
      refine (same_any P P A0 A1 A2 B0 B1 B2 c0 c1 c2 d0 d1 d2 w6 M0'.out M1'.out M2'.out J0'.out J1'.out J2'.out).mono ?_
      rintro e w7 ⟨rfl, hb7⟩
      rw [self_pol]
      have HB7 := Aside0.mk (below_step HB6.out hb7)
      have HX7 := Aside0.mk (blk_below HX6.out hb7)
      have MN7 := Aside0.mk (Kd.C_below MN'.out hb7)
      have JN7 := Aside0.mk (Kd.C_below JN'.out hb7)
      have Q0 := Aside0.mk (Kd.C_below M0'.out hb7)
      have Q1 := Aside0.mk (Kd.C_below M1'.out hb7)
      have Q2 := Aside0.mk (Kd.C_below M2'.out hb7)
      clear hb7 HB6 HX6 J0' J1' J2' JN' M0' M1' M2' MN' x0 x1 x2 y0 y1 y2
      go_wp2_with fail
      refine (equal_names An Bn cn dn NM NM w7 MN7.out JN7.out).mono ?_
      rintro e w8 ⟨rfl, hb8⟩
      rw [show decide (NM = NM) = true from decide_eq_true rfl]
      have HB8 := Aside0.mk (below_step HB7.out hb8)
      have z0 := blk_cell (blk_below HX7.out hb8) 0
      have z1 := blk_cell (blk_below HX7.out hb8) 1
      have z2 := blk_cell (blk_below HX7.out hb8) 2
      have R0 := Aside0.mk (Kd.C_below Q0.out hb8)
      have R1 := Aside0.mk (Kd.C_below Q1.out hb8)
      have R2 := Aside0.mk (Kd.C_below Q2.out hb8)
      clear hb8 HB7 HX7 Q0 Q1 Q2 MN7 JN7
      go_wp2_with fail
      refine (right_any P A0 A1 A2 c0 c1 c2 w8 R0.out R1.out R2.out HC0.out).mono ?_
      rw [HRN.out]
      rintro e w9 ⟨rfl, hb9⟩
      have HB9 := Aside0.mk (below_step HB8.out hb9)
      clear hb9 HB8 z0 z1 z2
      go_wp2_with fail
      refine (awake_any m0 w9 (pw_cell_below HB9.out HM.out)).mono ?_
      rintro e w10 ⟨rfl, hb10⟩
      have HB10 := Aside0.mk (below_step HB9.out hb10)
      clear hb10
      go_wp2
      go_ret
      exact ⟨rfl, HB10.out⟩
theorem laidMet_rest {P : Program} {x : String × DataW Unit} {rest : List (String × DataW Unit)} {W : World} (h : laidMet P (x :: rest) W) : laidMet P rest W := by
  obtain ⟨ps, ⟨g', t', cs, fuel, p, q, hg', ht', hvar, hd, hrest, e⟩, hn, hc⟩ := h
  subst e
  exact ⟨q, hrest, (List.nodup_append.1 hn).2.1, fun b off hm => hc b off (List.mem_append_right _ hm)⟩
noncomputable def tabG : Nat := (Tryd.prog.globalNamed "internal/strconv.uint64pow10").getD 0
noncomputable def tabT : TypeId := ((Tryd.prog.globals[tabG]?).map (·.type)).getD 0
noncomputable def tabN : Nat := match Tryd.prog.underlying tabT with
  | some (.array n _) => n
  | _ => 0
noncomputable def tabE : TypeId := match Tryd.prog.underlying tabT with
  | some (.array _ e) => e
  | _ => 0
theorem tab_laid {W : World} (h : laidMet Tryd.prog Rows.langSettledRow.laid W) : Tab W :=
  Lib.tabIs_of_head (g := tabG) (t := tabT) (e := tabE) (n := tabN) (by kernel_rfl) (by kernel_rfl) (by kernel_rfl) (by kernel_rfl) (by kernel_rfl) (by kernel_rfl) (laidMet_rest (laidMet_rest h))

set_option maxRecDepth 100000 in
theorem lifted (os : Os) (started : os.Started) (H : Type) (enc : TypeId × Value → H) :
    ReturnsInHanded {} Tryd.checked os 9 .any (fun w args => (Rows.langSettledSpec.pre enc Tryd.prog Tryd.f9 [] false w args ∧ laidMetH Tryd.prog Rows.langSettledRow.laid w) ∧ sizedMet enc Tryd.prog Tryd.f9 (OpenSpec.ofChange Rows.langSettledSpec) false w args)
      (Rows.langSettledSpec.post enc Tryd.prog Tryd.f9 false true false false) := by
  refine returns_laid (C := Tryd.checked) (X := fun w _ => laidMetH Tryd.prog Rows.langSettledRow.laid w) (fun _ _ _ hh h => h.of_heap hh) own started (by kernel_rfl) Tryd.func9
    (ChangeSpec.witness_shaped (enc := enc) (C := Tryd.checked) (os := os) (X := fun w _ => laidMetH Tryd.prog Rows.langSettledRow.laid w) false (World.laidAll Tryd.prog os Rows.langSettledRow.laid) #[.string ⟨#[]⟩] 8 (World.laidAll_os _ _ _)
      (World.shaped_of_ZipB (by kernel_rfl) (by kernel_rfl)) (by kernel_rfl) (by kernel_rfl) (by kernel_rfl)
      (by rw [MakeChecks.laidMetH_plain _ _ _ (by kernel_rfl)]; exact laidMet_laidAll _ (by kernel_rfl) (by kernel_rfl))) ?_
  intro W base args ds gs before hval0 hW hsh hlaid
  have hval : ∀ (j : Nat) t v, Tryd.f9.params[j]? = some t → args[j]? = some v → Value.okWide Tryd.prog W .any base t v := hval0
  have hW' := hW
  obtain ⟨p, q, hA0, hV, rfl, _, _⟩ := hW
  have hA : DataW.TrodAll enc Tryd.prog W 0 (fun _ => true) true Tryd.f9.params.toList args.toList ds p := hA0
  rw [Tryd.params9] at hA hval
  obtain ⟨v0, d0, rfl, rfl, h0⟩ := trodAll_one hA
  obtain ⟨rfl, rfl⟩ := trodVars_none hV
  obtain ⟨a0, rfl, rfl, rfl, w0⟩ := open_string Tryd.underlying9 (hval 0 9 v0 rfl rfl) h0
  clear hA0 hval0
  simp only [List.append_nil] at hW'
  obtain ⟨m0, hm⟩ := maxlen_of hsh
  have htab : Tab W := by
    rw [MakeChecks.laidMetH_plain _ _ _ (by kernel_rfl)] at hlaid
    exact tab_laid hlaid
  refine (walk a0 m0 W hm htab).mono fun e W' ⟨he, hb⟩ => ?_
  subst he
  exact ⟨_, rfl, _, _, _, [], [], [], hW', trodAll_mk1 (shut_bool Tryd.underlying4 _), trodAll_mk1 (shut_string Tryd.underlying9 w0), rfl, hb.frame _, fun h => by cases h⟩

theorem holds : Rows.LangSettledSaid :=
  OpenClaim.holds_of_wide 9 Tryd.f9 rfl rfl rfl rfl rfl rfl rfl ⟨rfl, rfl, rfl, rfl, rfl⟩ rfl rfl rfl rfl rfl (by kernel_rfl) Tryd.func9 (by kernel_rfl)
    (of_decide_eq_true (by kernel_rfl)) (by unfold Func.isWrapper; first | (rw [if_pos (by decide +kernel)]; kernel_rfl) | (rw [if_neg (by decide +kernel)]; exact ⟨rfl, rfl⟩))
    (fun os started H enc _ => lifted os started H enc)

theorem proved : Rows.LangSettledCardSaid :=
  Claim7.holds_tied_plain_at .later [] [.data, .data, .data, .data, .pinned] true (true, "10bd4971ebfdefe448607cddd6006cc50e79ba271c7c637469e57664e49e90bc") false holds (fun _ h => by cases h) (by kernel_rfl) (fun _ h => by cases h) langSettled_row_tie rfl ⟨rfl, rfl⟩ (by kernel_rfl) rfl
    (fun f fn hf hfn => by
      obtain rfl : f = 9 := Option.some.inj ((show Tryd.prog.funcNamed "sealskin/sealskinlaw09.LangSettled" = some 9 by kernel_rfl).symm.trans hf) |>.symm
      obtain rfl : fn = Tryd.f9 := (Option.some.inj (Tryd.func9.symm.trans hfn)).symm
      exact ⟨by kernel_rfl, fun j t ht => by
        rw [Tryd.params9] at ht
        have hm : t ∈ [9] := by simpa using Array.mem_of_getElem? ht
        have hall : ([9].all fun u => !Tryd.prog.wantsStandIn u) = true := by kernel_rfl
        exact (show Tryd.prog.wantsStandIn t = false by simpa using List.all_eq_true.1 hall t hm)⟩)
    (by kernel_rfl)
end Go.Proofs.YtaeaakcppheaoaaDoor.LangSettled
namespace Go.Proofs.YtaeaakcppheaoaaDoor
theorem langSettled_holds : Rows.LangSettledCardSaid := LangSettled.proved
#print axioms langSettled_holds
end Go.Proofs.YtaeaakcppheaoaaDoor
