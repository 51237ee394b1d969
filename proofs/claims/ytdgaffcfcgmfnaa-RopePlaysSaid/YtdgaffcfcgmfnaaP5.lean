/- RopeTurned: plain, and the walk. -/
import Derived.Test.YtdgaffcfcgmfnaaZp
namespace Go.Proofs.Ytdgaffcfcgmfnaa
open Go.RowKit Go.Sl

theorem idx_ex (P : Pol) (v : Nat) : ∀ (es : List El) (n : Nat), n < seenN P v es → ∃ a e b, es = a ++ e :: b ∧ P.see v e.label = true ∧ seenN P v a = n
  | [], n, h => by simp [seenN] at h
  | x :: es, n, h => by
    rw [seenN_cons] at h
    by_cases hx : P.see v x.label = true
    · rw [if_pos hx] at h
      cases n with
      | zero => exact ⟨[], x, es, rfl, hx, rfl⟩
      | succ n =>
        obtain ⟨a, e, b, h1, h2, h3⟩ := idx_ex P v es n (by omega)
        exact ⟨x :: a, e, b, by rw [h1]; rfl, h2, by rw [seenN_cons, if_pos hx]; omega⟩
    · rw [if_neg hx] at h
      obtain ⟨a, e, b, h1, h2, h3⟩ := idx_ex P v es n (by omega)
      exact ⟨x :: a, e, b, by rw [h1]; rfl, h2, by rw [seenN_cons, if_neg hx]; omega⟩
/-- What Index finds, the others turn around. -/
theorem turned {P : Pol} {v : Int} {es : List El} {q : Nat} (h : (q : Int) < sizeP P v es) :
    ∃ (i : Nat) (e : El), i < es.length ∧ 0 ≤ v ∧ v < (P.labels : Int) ∧ indexP P v es q = ((i : Int), 0) ∧ viewP P v es (i : Int) = ((q : Int), 0) ∧ viewP P v es ((i : Int) + 1) = ((q : Int) + 1, 0) ∧ placeP P v es ((q : Int) + 1) = ((i : Int) + 1, 0) ∧ elAt es (i : Nat) = e ∧ isAt es (i : Nat) = true ∧ e ∈ es ∧ P.see v.toNat e.label = true := by
  unfold sizeP at h
  split at h
  · rename_i hv
    obtain ⟨a, e, b, h1, h2, h3⟩ := idx_ex P v.toNat es q (by omega)
    have hi : a.length = idxF (seeE P v.toNat) es q := idxF_at ⟨a, e, b, h1, h2, h3, rfl⟩
    have hlen : es.length = a.length + (b.length + 1) := by rw [h1]; simp
    have hv2 := Pol.has_iff.1 hv
    have hidx : indexP P v es q = ((a.length : Int), 0) := by
      unfold indexP
      rw [if_pos hv, if_pos ⟨by omega, h⟩, Int.toNat_natCast, ← hi]
    have ht1 : es.take a.length = a := by rw [h1, List.take_left]
    have ht2 : es.take (a.length + 1) = a ++ [e] := by
      rw [h1, List.take_append, List.take_of_length_le (by omega), Nat.add_sub_cancel_left]; rfl
    refine ⟨a.length, e, by omega, hv2.1, hv2.2, hidx, ?_, ?_, ?_, ?_, ?_, by rw [h1]; simp, h2⟩
    · unfold viewP
      rw [if_pos hv, if_pos ⟨by omega, by omega⟩, Int.toNat_natCast, ht1, h3]
    · unfold viewP
      have e1 : ((a.length : Int) + 1).toNat = a.length + 1 := by omega
      rw [if_pos hv, if_pos ⟨by omega, by omega⟩, e1, ht2, seenN_app, h3]
      have : seenN P v.toNat [e] = 1 := by simp [seenN, h2]
      rw [this]; rfl
    · unfold placeP
      have e1 : ((q : Int) + 1 - 1) = (q : Int) := by omega
      rw [if_pos hv, if_neg (by omega), if_neg (by omega), e1, hidx]
      simp
    · unfold elAt
      rw [if_pos (by omega), Int.toNat_natCast, h1, List.getD_eq_getElem?_getD, List.getElem?_append_right (by omega), Nat.sub_self]; rfl
    · unfold isAt
      exact decide_eq_true ⟨by omega, by omega⟩
  · omega
theorem seesB_of {p : PV} {v l : Int} (hv : 0 ≤ v) (hv2 : v < 32) (hl : 0 ≤ l) (hl2 : l < 32) : (polOf p).see v.toNat l = seesB p v l := by
  obtain ⟨vn, rfl⟩ : ∃ n : Nat, v = n := ⟨v.toNat, by omega⟩
  obtain ⟨ln, rfl⟩ : ∃ n : Nat, l = n := ⟨l.toNat, by omega⟩
  rw [Int.toNat_natCast]
  exact polOf_see p (by omega) (by omega)
section
variable {k w : World} {L : List Asn} {A A0 A1 A2 : Option Addr} {cp c0 c1 c2 : Nat} {ds : List DoM} {p : PV} {R : Ending → World → Prop} {v : Int}
set_option maxRecDepth 100000 in
set_option maxHeartbeats 4000000 in
theorem turned_walk (h : St k w (polS p A0 A1 A2 c0 c1 c2 :: dosS A cp ds :: L)) (hf : Fits ds) (hR : ∀ w', St k w' L → R (.returned (.bool true)) w') :
    Calls Try.prog 3 #[polV p A0 A1 A2 c0 c1 c2, .slice A ds.length cp, .int .i64 v] w R := by
  obtain ⟨B, hB⟩ : ∃ B, w.heap.size = B := ⟨_, rfl⟩
  have h1 := h.alloc (.cells (polC p A0 A1 A2 c0 c1 c2) 26)
  simp only [hB] at h1
  have H1 := Lib.hid h1
  have HR := Lib.hid hR
  have HF := Lib.hid hf
  clear h h1 hR hf
  unfold polV
  go_enter Try.func3, Try.ntmps3
  go_wp2_with fail
  refine short_any (H1.out.pull 2) ?_
  have H7 := Lib.hid (H1.out.pull 1)
  clear H1
  change Hid (St k (w.alloc (.cells (polC p A0 A1 A2 c0 c1 c2) 26)) (polS p A0 A1 A2 c0 c1 c2 :: pt B (.cells (polC p A0 A1 A2 c0 c1 c2) 26 (0, 0)) :: dosS A cp ds :: L)) at H7
  cases hs : shortB ds
  · clear hs
    go_wp2_with fail
    refine awake_any H7.out.drop.drop.drop fun w6 h8 => ?_
    have HX := Lib.hid (HR.out _ h8)
    clear h8
    go_wp2
    exact HX.out
  · have HS := Lib.hid hs
    clear hs
    obtain ⟨y0, y1, y2⟩ := boxP H7.out.swap
    go_wp2_with fail
    refine small_st (p := p) (A0 := A0) (A1 := A1) (A2 := A2) (c0 := c0) (c1 := c1) (c2 := c2) H7.out fun w6 h8 => ?_
    have H8 := Lib.hid h8
    clear h8 H7 y0 y1 y2
    cases hsm : smallB p
    · clear hsm
      go_wp2_with fail
      refine awake_any H8.out.drop.drop.drop fun w7 h9 => ?_
      have HX := Lib.hid (HR.out _ h9)
      clear h9
      go_wp2
      exact HX.out
    · clear hsm
      obtain ⟨y0, y1, y2⟩ := boxP H8.out.swap
      go_wp2_with fail
      refine right_st (p := p) (A0 := A0) (A1 := A1) (A2 := A2) (c0 := c0) (c1 := c1) (c2 := c2) H8.out fun w7 h9 => ?_
      have H9 := Lib.hid h9
      clear h9 H8 y0 y1 y2
      by_cases hr : rightN p = 0
      case neg =>
        have hr2 : (rightN p == 0) = false := by simpa using hr
        clear hr
        go_wp2_with fail
        refine awake_any H9.out.drop.drop.drop fun w8 h10 => ?_
        have HX := Lib.hid (HR.out _ h10)
        clear h10
        go_wp2
        exact HX.out
      case pos =>
        have HRN := Lib.hid hr
        rw [hr]
        clear hr
        obtain ⟨y0, y1, y2⟩ := boxP H9.out.swap
        go_wp2_with fail
        have hcs := cntL_short HS.out
        refine made_any (H9.out.pull 2).swap HRN.out HF.out (by omega) ?_
        intro g w8 h10
        clear y0 y1 y2 hcs
        obtain ⟨es, hes⟩ : ∃ es, madeP (polOf p) [] ds = es := ⟨_, rfl⟩
        rw [hes] at h10
        have H10 := Lib.hid h10
        clear h10 H9 hes
        go_wp2_with fail
        refine size_any H10.out fun w9 h11 => ?_
        obtain ⟨r, -, ho⟩ := Rope.out h11
        have HO := Lib.hid ho
        obtain ⟨S, hS⟩ : ∃ S : Nat, sizeP (polOf p) v es = S := by
          unfold sizeP
          split
          · exact ⟨_, rfl⟩
          · exact ⟨0, rfl⟩
        have HT := Lib.hid (fun (q : Nat) (hq : q < S) => turned (P := polOf p) (v := v) (es := es) (q := q) (by rw [hS]; omega))
        rw [hS]
        obtain ⟨T, hT⟩ : ∃ T : Nat, min (S : Int) 60 = (T : Int) := ⟨(min (S : Int) 60).toNat, by omega⟩
        have H11 := Lib.hid h11
        have hTS : T ≤ S := by omega
        have hT60 : (T : Int) ≤ 60 := by omega
        clear h11 ho H10 hS
        have hmin : (S : Int) ≤ 60 ∧ T = S ∨ 60 < (S : Int) ∧ T = 60 := by omega
        clear hT
        rcases hmin with ⟨hm, rfl⟩ | ⟨hm, rfl⟩
        · go_wp2_with fail
          go_loopw [40] (fun i wr => ∃ q : Nat, q ≤ T ∧ i = .int .i64 q ∧ Hid (St k wr (Rope g (polOf p) es (cntL ds) :: polS p A0 A1 A2 c0 c1 c2 :: dosS A cp ds :: pt B (.cells (polC p A0 A1 A2 c0 c1 c2) 26 (0, 0)) :: L))) (fun i _ => T - (intOf i).toNat)
          case atStart => exact ⟨0, by omega, rfl, H11⟩
          case round =>
            obtain ⟨q, hq, rfl, HW⟩ := hrel
            by_cases hlt : q < T
            · have g1 : (q : Int) < (T : Int) := by omega
              obtain ⟨i, e, hi, v0, v1, t1, t2, t3, t4, t5, t6, t7, t8⟩ := HT.out q (by omega)
              have hlen := HO.out.len
              have hi2 : (i : Int) ≤ 1048576 := by omega
              have hq2 : (q : Int) ≤ 60 := by omega
              have hlab := HO.out.fit.lab e t7
              have hl32 := HO.out.l32
              have hse : seesB p v e.label = true := by rw [← seesB_of v0 (by omega) hlab.1 (by omega)]; exact t8
              have HQ := Lib.hid (And.intro t1 (And.intro t2 (And.intro t3 (And.intro t4 (And.intro t5 (And.intro t6 hse))))))
              clear t1 t2 t3 t4 t5 t6 t7 t8 hse hlab hi v0 v1
              go_wp2_with fail
              refine index_any HW.out fun w10 h12 => ?_
              rw [HQ.out.1]
              have H12 := Lib.hid h12
              clear h12 HW
              go_wp2_with fail
              refine view_any H12.out fun w11 h13 => ?_
              rw [HQ.out.2.1]
              have H13 := Lib.hid h13
              clear h13 H12
              go_wp2_with fail
              refine view_any H13.out fun w12 h14 => ?_
              rw [HQ.out.2.2.1]
              have H14 := Lib.hid h14
              clear h14 H13
              go_wp2_with fail
              refine place_any H14.out ⟨by omega, by omega⟩ fun w13 h15 => ?_
              rw [HQ.out.2.2.2.1]
              have H15 := Lib.hid h15
              clear h15 H14
              go_wp2_with fail
              refine atx_any H15.out fun w14 h16 => ?_
              rw [HQ.out.2.2.2.2.1, HQ.out.2.2.2.2.2.1]
              have h17 := h16.alloc (.cells #[.int .i64 e.id, .int .i32 e.rune, .int .i64 e.label] 39)
              obtain ⟨y0, y1, y2⟩ := boxP (h17.pull 4)
              have hcl := (polS_out (h17.pull 2)).1
              have hsb := fun w' (hb : Below _ _ w') => st_later h17.drop hb
              have HSB := Lib.hid ((sees_any p v e.label A0 A1 A2 c0 c1 c2 _ hcl))
              have HST := Lib.hid hsb
              clear h16 h17 hcl H15 hsb
              go_wp2_with fail
              refine HSB.out.mono ?_
              rintro _ w15 ⟨rfl, hb⟩
              rw [HQ.out.2.2.2.2.2.2]
              have H16 := Lib.hid (HST.out _ hb)
              clear hb HSB HST y0 y1 y2
              go_wp2
              go_roundw
              case rel => exact ⟨q + 1, by omega, by go_num, H16⟩
              case measure => simp [intOf]; omega
            · obtain rfl : q = T := by omega
              go_wp2_with fail
              refine awake_any HW.out.drop.drop.drop.drop fun w10 h12 => ?_
              have HX := Lib.hid (HR.out _ h12)
              clear h12
              go_wp2
              exact HX.out
        · go_wp2_with fail
          go_loopw [40] (fun i wr => ∃ q : Nat, q ≤ 60 ∧ i = .int .i64 q ∧ Hid (St k wr (Rope g (polOf p) es (cntL ds) :: polS p A0 A1 A2 c0 c1 c2 :: dosS A cp ds :: pt B (.cells (polC p A0 A1 A2 c0 c1 c2) 26 (0, 0)) :: L))) (fun i _ => 60 - (intOf i).toNat)
          case atStart => exact ⟨0, by omega, rfl, H11⟩
          case round =>
            obtain ⟨q, hq, rfl, HW⟩ := hrel
            by_cases hlt : q < 60
            · have g1 : (q : Int) < 60 := by omega
              obtain ⟨i, e, hi, v0, v1, t1, t2, t3, t4, t5, t6, t7, t8⟩ := HT.out q (by omega)
              have hlen := HO.out.len
              have hi2 : (i : Int) ≤ 1048576 := by omega
              have hq2 : (q : Int) ≤ 60 := by omega
              have hlab := HO.out.fit.lab e t7
              have hl32 := HO.out.l32
              have hse : seesB p v e.label = true := by rw [← seesB_of v0 (by omega) hlab.1 (by omega)]; exact t8
              have HQ := Lib.hid (And.intro t1 (And.intro t2 (And.intro t3 (And.intro t4 (And.intro t5 (And.intro t6 hse))))))
              clear t1 t2 t3 t4 t5 t6 t7 t8 hse hlab hi v0 v1
              go_wp2_with fail
              refine index_any HW.out fun w10 h12 => ?_
              rw [HQ.out.1]
              have H12 := Lib.hid h12
              clear h12 HW
              go_wp2_with fail
              refine view_any H12.out fun w11 h13 => ?_
              rw [HQ.out.2.1]
              have H13 := Lib.hid h13
              clear h13 H12
              go_wp2_with fail
              refine view_any H13.out fun w12 h14 => ?_
              rw [HQ.out.2.2.1]
              have H14 := Lib.hid h14
              clear h14 H13
              go_wp2_with fail
              refine place_any H14.out ⟨by omega, by omega⟩ fun w13 h15 => ?_
              rw [HQ.out.2.2.2.1]
              have H15 := Lib.hid h15
              clear h15 H14
              go_wp2_with fail
              refine atx_any H15.out fun w14 h16 => ?_
              rw [HQ.out.2.2.2.2.1, HQ.out.2.2.2.2.2.1]
              have h17 := h16.alloc (.cells #[.int .i64 e.id, .int .i32 e.rune, .int .i64 e.label] 39)
              obtain ⟨y0, y1, y2⟩ := boxP (h17.pull 4)
              have hcl := (polS_out (h17.pull 2)).1
              have hsb := fun w' (hb : Below _ _ w') => st_later h17.drop hb
              have HSB := Lib.hid ((sees_any p v e.label A0 A1 A2 c0 c1 c2 _ hcl))
              have HST := Lib.hid hsb
              clear h16 h17 hcl H15 hsb
              go_wp2_with fail
              refine HSB.out.mono ?_
              rintro _ w15 ⟨rfl, hb⟩
              rw [HQ.out.2.2.2.2.2.2]
              have H16 := Lib.hid (HST.out _ hb)
              clear hb HSB HST y0 y1 y2
              go_wp2
              go_roundw
              case rel => exact ⟨q + 1, by omega, by go_num, H16⟩
              case measure => simp [intOf]; omega
            · obtain rfl : q = 60 := by omega
              go_wp2_with fail
              refine awake_any HW.out.drop.drop.drop.drop fun w10 h12 => ?_
              have HX := Lib.hid (HR.out _ h12)
              clear h12
              go_wp2
              exact HX.out
end
end Go.Proofs.Ytdgaffcfcgmfnaa
