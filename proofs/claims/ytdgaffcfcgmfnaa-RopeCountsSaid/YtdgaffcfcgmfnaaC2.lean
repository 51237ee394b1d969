/- RopeCounts: the walk. -/
import Derived.Test.YtdgaffcfcgmfnaaC1
namespace Go.Proofs.Ytdgaffcfcgmfnaa
open Go.RowKit Go.Sl

section
variable {k w : World} {L : List Asn} {A A0 A1 A2 : Option Addr} {cp c0 c1 c2 : Nat} {ds : List DoM} {p : PV} {R : Ending → World → Prop}
set_option maxRecDepth 100000 in
set_option maxHeartbeats 4000000 in
theorem counts_walk (h : St k w (polS p A0 A1 A2 c0 c1 c2 :: dosS A cp ds :: L)) (hf : Fits ds) (hR : ∀ w', St k w' L → R (.returned (.bool true)) w') :
    Calls Try.prog 4 #[polV p A0 A1 A2 c0 c1 c2, .slice A ds.length cp] w R := by
  obtain ⟨B, hB⟩ : ∃ B, w.heap.size = B := ⟨_, rfl⟩
  have h1 := h.alloc (.cells (polC p A0 A1 A2 c0 c1 c2) 26)
  simp only [hB] at h1
  have H1 := Lib.hid h1
  have HR := Lib.hid hR
  have HF := Lib.hid hf
  clear h h1 hR hf
  unfold polV
  go_enter Try.func4, Try.ntmps4
  go_wp2_with fail
  refine short_any (H1.out.pull 2) ?_
  have H7 := Lib.hid (H1.out.pull 1)
  clear H1
  change Hid (St k (w.alloc (.cells (polC p A0 A1 A2 c0 c1 c2) 26)) (polS p A0 A1 A2 c0 c1 c2 :: pt B (.cells (polC p A0 A1 A2 c0 c1 c2) 26 (0, 0)) :: dosS A cp ds :: L)) at H7
  cases hs : shortB ds
  · clear hs
    go_wp2_with fail
    refine awake_any H7.out.drop.drop.drop fun w6 h8 => ?_
    have HX := Lib.hid (HR.out _ h8)
    clear h8
    go_wp2
    exact HX.out
  · have HS := Lib.hid hs
    clear hs
    obtain ⟨y0, y1, y2⟩ := boxP H7.out.swap
    go_wp2_with fail
    refine small_st (p := p) (A0 := A0) (A1 := A1) (A2 := A2) (c0 := c0) (c1 := c1) (c2 := c2) H7.out fun w6 h8 => ?_
    have H8 := Lib.hid h8
    clear h8 H7 y0 y1 y2
    cases hsm : smallB p
    · clear hsm
      go_wp2_with fail
      refine awake_any H8.out.drop.drop.drop fun w7 h9 => ?_
      have HX := Lib.hid (HR.out _ h9)
      clear h9
      go_wp2
      exact HX.out
    · clear hsm
      obtain ⟨y0, y1, y2⟩ := boxP H8.out.swap
      go_wp2_with fail
      refine right_st (p := p) (A0 := A0) (A1 := A1) (A2 := A2) (c0 := c0) (c1 := c1) (c2 := c2) H8.out fun w7 h9 => ?_
      have H9 := Lib.hid h9
      clear h9 H8 y0 y1 y2
      by_cases hr : rightN p = 0
      case neg =>
        have hr2 : (rightN p == 0) = false := by simpa using hr
        clear hr
        go_wp2_with fail
        refine awake_any H9.out.drop.drop.drop fun w8 h10 => ?_
        have HX := Lib.hid (HR.out _ h10)
        clear h10
        go_wp2
        exact HX.out
      case pos =>
        have HRN := Lib.hid hr
        rw [hr]
        clear hr
        obtain ⟨y0, y1, y2⟩ := boxP H9.out.swap
        go_wp2_with fail
        have hcs := cntL_short HS.out
        refine new_any H9.out HRN.out ?_
        intro g w8 h10
        clear y0 y1 y2
        have HC := Lib.hid hcs
        have hmax := (dos_row (h10.pull 3)).max
        obtain ⟨n1, n2⟩ := rightN_len HRN.out
        obtain ⟨N, hN⟩ : ∃ N, ds.length = N := ⟨_, rfl⟩
        obtain ⟨V, hV⟩ : ∃ V, p.labels.length = V := ⟨_, rfl⟩
        have HV := Lib.hid hV
        rw [hV] at n1 n2
        have hNN := Lib.hid hN
        rw [hN] at hmax ⊢
        have hNmax : (N : Int) ≤ 9223372036854775807 := by omega
        have hVmax : (V : Int) ≤ 32 := by omega
        have H10 := Lib.hid (h10.pull 2 |>.push 3)
        clear h10 H9 hcs hN hV
        change Hid (St k w8 (Rope g (polOf p) [] 0 :: polS p A0 A1 A2 c0 c1 c2 :: dosS A cp ds :: pt B (.cells (polC p A0 A1 A2 c0 c1 c2) 26 (0, 0)) :: L)) at H10
        go_wp2_with fail
        go_loopw [35] (fun i wr => ∃ q : Nat, q ≤ N ∧ i = .int .i64 q ∧ Hid (St k wr (Rope g (polOf p) (madeP (polOf p) [] (ds.take q)) (cntL (ds.take q)) :: polS p A0 A1 A2 c0 c1 c2 :: dosS A cp ds :: pt B (.cells (polC p A0 A1 A2 c0 c1 c2) 26 (0, 0)) :: L))) (fun i _ => N - (intOf i).toNat)
        case atStart => exact ⟨0, by omega, rfl, H10⟩
        case round =>
          obtain ⟨q, hq, rfl, HW⟩ := hrel
          by_cases hlt : q < N
          · have g1 : (q : Int) < (N : Int) := by omega
            obtain ⟨d, hd⟩ : ∃ d, ds[q]? = some d := ⟨_, List.getElem?_eq_getElem (by rw [hNN.out]; exact hlt)⟩
            have hmem := List.mem_of_getElem? hd
            obtain ⟨f1, f2⟩ := HF.out d hmem
            have h3 := dos_one (HW.out.pull 2) hmem
            obtain ⟨b, o, rfl, e0, e1, e2, e3, e4, e5⟩ := dos_at (HW.out.pull 2) hd
            have h4 := ((h3.pull 2).alloc (.cells (doC d).toArray 48)).drop
            have hcn := cntL_snoc ds q hd
            have hmd := madeP_snoc (polOf p) [] ds q hd
            have hct := cntL_take ds (q + 1)
            have hcc := HC.out
            have HDO := Lib.hid (fun (Q : Ending → World → Prop) => does_any (R := Q) h4 f1 f2 (by omega))
            have HT := Lib.hid (And.intro hcn hmd)
            clear h3 h4 hcn hmd hct hcc hd hmem f1 f2 HW
            go_wp2_with fail
            refine HDO.out _ ?_
            clear HDO
            intro v w2 h5
            rw [← HT.out.1, ← HT.out.2] at h5
            have h6 := (h5.drop.swap.drop).pull 2 |>.swap
            obtain ⟨es, hes⟩ : ∃ es, madeP (polOf p) [] (ds.take (q + 1)) = es := ⟨_, rfl⟩
            obtain ⟨c, hc⟩ : ∃ c, cntL (ds.take (q + 1)) = c := ⟨_, rfl⟩
            have HES := Lib.hid (And.intro hes hc)
            rw [hes, hc] at h6
            obtain ⟨r, -, ho⟩ := Rope.out h6
            have hfit := ho.fit
            have hlen := ho.len
            have HFI := Lib.hid hfit
            have H6 := Lib.hid h6
            have hlen2 : (es.length : Int) ≤ 1048576 := by omega
            obtain ⟨y0, y1, y2⟩ := boxP (h6.pull 3)
            rw [HV.out] at y0
            clear h5 h6 e0 e1 e2 e3 e4 e5 HT ho hfit hes hc
            go_wp2_with fail
            clear y0 y1 y2
            go_loopw [45, 9] (fun i s wr => ∃ v : Nat, v ≤ V ∧ i = .int .i64 v ∧ s = .int .i64 (cntLt es v : Nat) ∧ Hid (St k wr (Rope g (polOf p) es c :: polS p A0 A1 A2 c0 c1 c2 :: dosS (some ⟨b, o, none⟩) cp ds :: pt B (.cells (polC p A0 A1 A2 c0 c1 c2) 26 (0, 0)) :: L))) (fun i _ _ => V - (intOf i).toNat)
            case atStart => exact ⟨0, by omega, rfl, by rw [cntLt_zero HFI.out]; rfl, H6⟩
            case round =>
              obtain ⟨v, hv, rfl, rfl, HW⟩ := hrel
              by_cases hlt2 : v < V
              · have g2 : (v : Int) < (V : Int) := by omega
                have hcl := cntLt_snoc es v
                have hcle := cntLt_le es v
                have hcle2 := cntLt_le es (v + 1)
                obtain ⟨a, ha⟩ : ∃ a : Nat, cnt es v = a := ⟨(cnt es v).toNat, by have := cnt_le es v; omega⟩
                obtain ⟨a0, ha0⟩ : ∃ a0 : Nat, cntLt es v = a0 := ⟨_, rfl⟩
                obtain ⟨a1, ha1⟩ : ∃ a1 : Nat, cntLt es (v + 1) = a1 := ⟨_, rfl⟩
                rw [ha, ha0, ha1] at hcl
                rw [ha0] at hcle ⊢
                rw [ha1] at hcle2
                have b1 : (a0 : Int) + (a : Int) ≤ 1048576 := by omega
                have b2 : (a0 : Int) ≤ 1048576 := by omega
                have b3 : (a : Int) ≤ 1048576 := by omega
                have hcp : countP (polOf p) (v : Nat) es = a := by
                  unfold countP
                  rw [if_pos (Pol.has_iff.2 ⟨by omega, by show (v : Int) < (p.labels.length : Int); rw [HV.out]; exact g2⟩), Int.toNat_natCast]
                  exact ha
                have HCP := Lib.hid hcp
                have HA1 := Lib.hid (And.intro hcl ha1)
                clear hcl hcle hcle2 ha ha0 ha1 hcp
                go_wp2_with fail
                refine count1_any HW.out fun w3 h7 => ?_
                rw [HCP.out]
                have H7 := Lib.hid h7
                obtain ⟨y0, y1, y2⟩ := boxP (h7.pull 3)
                clear h7 HW HCP
                go_wp2_with fail
                refine seenl_any (v := (v : Nat)) (H7.out.pull 1) (by rw [HV.out]; omega) ?_
                clear y0 y1 y2
                intro u w4 h8
                obtain ⟨U, cu, rfl, -⟩ := h8.readsA.at_
                have hsl := seenW_le p (v : Nat) p.labels.length
                have hse := sumC_seen (v := v) (by omega) (by rw [HV.out]; omega) HFI.out
                have hsz : sizeP (polOf p) (v : Nat) es = (seenN (polOf p) v es : Nat) := by
                  unfold sizeP
                  rw [if_pos (Pol.has_iff.2 ⟨by omega, by show (v : Int) < (p.labels.length : Int); rw [HV.out]; exact g2⟩), Int.toNat_natCast]
                have hsl2 : (seenE (polOf p) (v : Nat) es).length = seenN (polOf p) v es := seenE_len (by show v < p.labels.length; rw [HV.out]; exact hlt2)
                have hsm : ∀ i x, (seenW p (v : Nat) p.labels.length)[i]? = some x → x < V := fun i x hx => by
                  have := ((seenW_mem _ _ _ _).1 (List.mem_of_getElem? hx)).1
                  rwa [HV.out] at this
                obtain ⟨S, hS⟩ : ∃ S, seenW p (v : Nat) p.labels.length = S := ⟨_, rfl⟩
                rw [hS] at h8 hse hsm hsl ⊢
                rw [HV.out] at hsl
                obtain ⟨T, hT⟩ : ∃ T : Nat, seenN (polOf p) v es = T := ⟨_, rfl⟩
                rw [hT] at hse hsz hsl2
                obtain ⟨M, hM⟩ : ∃ M, S.length = M := ⟨_, rfl⟩
                rw [hM] at h8 hsl ⊢
                have hM2 : (M : Int) ≤ 32 := by omega
                have HM := Lib.hid hM
                have HSE := Lib.hid (And.intro hse (And.intro hsz hsl2))
                have HSM := Lib.hid hsm
                have H8 := Lib.hid (h8.push 4)
                clear h8 H7 hse hsz hsl2 hS hT hM hsm
                change Hid (St k w4 (polS p A0 A1 A2 c0 c1 c2 :: Rope g (polOf p) es c :: dosS (some ⟨b, o, none⟩) cp ds :: pt B (.cells (polC p A0 A1 A2 c0 c1 c2) 26 (0, 0)) :: rowA 3 1 (.slice U M cu) M (intsC S) :: L)) at H8
                go_wp2_with fail
                go_loopw [57, 11] (fun i s wr => ∃ j : Nat, j ≤ M ∧ i = .int .i64 j ∧ (∃ x : Int, s = .int .i64 x ∧ Hid (x = sumC es (S.take j)) ∧ 0 ≤ x ∧ x ≤ 33554432) ∧ Hid (St k wr (polS p A0 A1 A2 c0 c1 c2 :: Rope g (polOf p) es c :: dosS (some ⟨b, o, none⟩) cp ds :: pt B (.cells (polC p A0 A1 A2 c0 c1 c2) 26 (0, 0)) :: rowA 3 1 (.slice U M cu) M (intsC S) :: L))) (fun i _ _ => M - (intOf i).toNat)
                case atStart => exact ⟨0, by omega, rfl, ⟨0, rfl, Lib.hid rfl, by omega, by omega⟩, H8⟩
                case round =>
                  obtain ⟨j, hj, rfl, ⟨x, rfl, HX, x0, x1⟩, HW⟩ := hrel
                  by_cases hlt3 : j < M
                  · have g3 : (j : Int) < (M : Int) := by omega
                    obtain ⟨bu, ou, rfl, hcell⟩ := reads_int (HW.out.pull 4).readsA (by omega)
                    obtain ⟨z, hz⟩ : ∃ z, S[j]? = some z := ⟨_, List.getElem?_eq_getElem (by rw [HM.out]; exact hlt3)⟩
                    have e0 := hcell j z hz
                    have hzV := HSM.out j z hz
                    have hsn := sumC_snoc es S j z hz
                    have hbd := sumC_bounds es (S.take (j + 1))
                    have hcz := cnt_le es z
                    rw [← HX.out] at hsn
                    have htl : (S.take (j + 1)).length ≤ 32 := by rw [List.length_take]; omega
                    have hmul : ((S.take (j + 1)).length : Int) * (es.length : Int) ≤ 32 * 1048576 := by
                      obtain ⟨t1, ht1⟩ : ∃ t1, (S.take (j + 1)).length = t1 := ⟨_, rfl⟩
                      obtain ⟨t2, ht2⟩ : ∃ t2, es.length = t2 := ⟨_, rfl⟩
                      rw [ht1] at htl ⊢
                      rw [ht2] at hlen ⊢
                      have h1 := Nat.mul_le_mul htl hlen
                      have h2 : ((t1 * t2 : Nat) : Int) ≤ 33554432 := by omega
                      rw [Int.natCast_mul] at h2
                      exact h2
                    obtain ⟨y, hy⟩ : ∃ y : Int, cnt es z = y := ⟨_, rfl⟩
                    rw [hy] at hsn hcz
                    have b4 : 0 ≤ x + y := by omega
                    have b5 : x + y ≤ 33554432 := by omega
                    have b6 : 0 ≤ y := by omega
                    have b7 : y ≤ 1048576 := by omega
                    have hcp : countP (polOf p) (z : Nat) es = y := by
                      unfold countP
                      rw [if_pos (Pol.has_iff.2 ⟨by omega, by show (z : Int) < (p.labels.length : Int); rw [HV.out]; omega⟩), Int.toNat_natCast]
                      exact hy
                    have HCP := Lib.hid hcp
                    have HSN := Lib.hid hsn
                    clear hcell hz hsn hbd hcz htl hmul hy hcp hzV HX
                    go_wp2_with fail
                    refine count1_any HW.out.swap fun w5 h9 => ?_
                    rw [HCP.out]
                    have H9 := Lib.hid h9.swap
                    clear h9 HW HCP e0
                    go_wp2_with fail
                    go_roundw
                    case rel => exact ⟨j + 1, by omega, by go_num, ⟨x + y, by go_num, Lib.hid HSN.out.symm, b4, b5⟩, H9⟩
                    case measure => simp [intOf]; omega
                  · obtain rfl : j = M := by omega
                    have hx := HX.out
                    rw [← HM.out, List.take_length, HSE.out.1] at hx
                    subst hx
                    clear HX
                    have hlM := HSE.out.2.2
                    have hTle : (T : Int) ≤ 1048576 := by
                      have : (seenE (polOf p) (v : Nat) es).length ≤ es.length := by
                        unfold seenE
                        split
                        · exact List.length_filter_le _ _
                        · simp
                      omega
                    go_wp2_with fail
                    refine size_any HW.out.swap fun w5 h9 => ?_
                    rw [HSE.out.2.1]
                    have H9 := Lib.hid h9
                    clear h9 HW hlM
                    go_wp2_with fail
                    refine text_any H9.out hlen fun w6 h10 => ?_
                    obtain ⟨X, cx, w7, hcv, h11⟩ := convert_back h10 (HFI.out.seen (v := (v : Nat))) (by rw [HSE.out.2.2]; omega)
                    rw [HSE.out.2.2] at hcv
                    obtain ⟨t, ht⟩ : ∃ t, textE (seenE (polOf p) (v : Nat) es) = t := ⟨_, rfl⟩
                    rw [ht] at hcv ⊢
                    have H11 := Lib.hid h11
                    clear h10 h11 H9 ht
                    go_wp2_with fail
                    go_roundw
                    case rel =>
                      refine ⟨v + 1, by omega, by go_num, ?_, Lib.hid (H11.out.pull 4).drop⟩
                      rw [HA1.out.2, HA1.out.1]
                    case measure => simp [intOf]; omega
              · obtain rfl : v = V := by omega
                have hall := cntLt_all HFI.out
                have hl : (polOf p).labels = v := HV.out
                rw [hl] at hall
                rw [hall]
                clear hall hl
                go_wp2_with fail
                refine len_any HW.out fun w3 h7 => ?_
                rw [← HES.out.1, ← HES.out.2] at h7
                have H7 := Lib.hid h7
                clear h7 HW
                go_wp2_with fail
                go_roundw
                case rel => exact ⟨q + 1, by omega, by go_num, H7⟩
                case measure => simp [intOf]; omega
          · obtain rfl : q = N := by omega
            go_wp2_with fail
            refine awake_any HW.out.drop.drop.drop.drop fun w10 h12 => ?_
            have HX := Lib.hid (HR.out _ h12)
            clear h12
            go_wp2
            exact HX.out
end
end Go.Proofs.Ytdgaffcfcgmfnaa
