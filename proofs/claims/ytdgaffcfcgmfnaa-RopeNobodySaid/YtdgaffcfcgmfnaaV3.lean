/- RopeNobody: the walk. -/
import Derived.Test.YtdgaffcfcgmfnaaV2
namespace Go.Proofs.Ytdgaffcfcgmfnaa
open Go.RowKit Go.Sl

attribute [local go_sem ↓ high] build88 box88
def zeroRope : Array Value := (Value.slice none 0 0 :: .slice none 0 0 :: .int .i64 0 :: .int .i64 0 :: (noSees.map Value.bool ++ [.bool false])).toArray
theorem build0_run (w : World) : (buildBig 88 #[]).run Try.prog w = .ok (.agg zeroRope) w := run_build w 88 _ _ (by kernel_rfl)
theorem zeroRope_made : zeroRope[1028]? = some (.bool false) := by kernel_rfl
section
variable {k w : World} {L : List Asn} {R : Ending → World → Prop} {d : DoM} {view at_ : Int}
theorem deadS_nil (h : St k w L) : St k w (deadS (.pointer none) :: L) :=
  h.imp fun m _ hL => ⟨PH.none, m, PH.none_apart _, PH.none_le _, PH.le.refl _, .inl rfl, hL⟩
theorem dosS_nil (h : St k w L) : St k w (dosS none 0 [] :: L) :=
  h.imp fun m _ hL => ⟨PH.none, m, PH.none_apart _, PH.none_le _, PH.le.refl _, ⟨⟨by simp, none, 0, rfl, Nat.le_refl _, by decide, fun _ => ⟨rfl, rfl⟩, fun a e => by cases e⟩, fun _ hd => by cases hd⟩, hL⟩
set_option maxRecDepth 100000 in
set_option maxHeartbeats 4000000 in
theorem nobody_walk (h : St k w (doS d :: L)) (hn : I64 d.n) (hR : ∀ w', St k w' L → R (.returned (.bool true)) w') :
    Calls Try.prog 12 #[doV d, .int .i64 view, .int .i64 at_] w R := by
  obtain ⟨B, hB⟩ : ∃ B, w.heap.size = B := ⟨_, rfl⟩
  have h1 := (h.alloc (.cells (doC d).toArray 48)).alloc (.cells (doC d).toArray 48)
  simp only [World.size_alloc, hB] at h1
  have h2 := h1.shutA (sz := 6) (n := 1) (cap := 1) (cs := doC d) (Nat.le_refl _) (by decide) rfl rfl
  have h3 := dos_cons (d := d) (ds := []) (n := 1) (cs := doC d) rfl (by simp) (((dosS_nil (h2.pull 2)).pull 2).pull 2).swap
  have h4 := (h3.drop.alloc (.cells zeroRope 88)).alloc (.cells #[.pointer none, .pointer (some ⟨B + 1 + 1, 0, none⟩)] 33)
  simp only [World.size_alloc, hB] at h4
  have h5 := h4.swap.freeze.head (B := deadS (.pointer (some ⟨B + 1 + 1, 0, none⟩))) fun m p hA => .inr ⟨_, _, _, rfl, hA, zeroRope_made⟩
  have h6 : St k _ (deadS (.pointer (some ⟨B + 1 + 1, 0, none⟩)) :: pt (B + 1 + 1 + 1) (.cells #[.pointer none, .pointer (some ⟨B + 1 + 1, 0, none⟩)] 33 (0, 0)) :: doS d :: pt B (.cells (doC d).toArray 48 (0, 0)) :: L) := (((h5.pull 3).drop).perm (.refl _))
  have H3 := Lib.hid h3
  have H6 := Lib.hid h6
  have HR := Lib.hid hR
  have HN := Lib.hid hn
  clear h h1 h2 h3 h4 h5 h6 hR hn
  unfold doV
  go_enter Try.func12, Try.ntmps12
  go_wp2_with fail
  refine short_any (ds := [d]) H3.out ?_
  cases hs : shortB [d]
  · clear hs
    go_wp2_with fail
    refine awake_any H3.out.drop.drop.drop.drop fun w6 h8 => ?_
    have HX := Lib.hid (HR.out _ h8)
    clear h8
    go_wp2
    exact HX.out
  · clear hs H3
    have hb0 := fun w => build0_run w
    have hb1 := fun w => box_run zeroRope w
    go_wp2_with fail
    clear hb0 hb1
    go_loopw [28] (fun i wr => ∃ q : Nat, q ≤ 2 ∧ i = .int .i64 q ∧ Hid (St k wr (deadS (.pointer (some ⟨B + 1 + 1, 0, none⟩)) :: pt (B + 1 + 1 + 1) (.cells #[.pointer none, .pointer (some ⟨B + 1 + 1, 0, none⟩)] 33 (0, 0)) :: doS d :: pt B (.cells (doC d).toArray 48 (0, 0)) :: L))) (fun i _ => 2 - (intOf i).toNat)
    case atStart => exact ⟨0, by omega, rfl, H6⟩
    case round =>
      obtain ⟨q, hq, rfl, HW⟩ := hrel
      by_cases hlt : q < 2
      · have g1 : (q : Int) < 2 := by omega
        have hv : ∃ v, wr.cell? ⟨B + 1 + 1 + 1, q, none⟩ = some v ∧ St k wr (deadS v :: doS d :: deadS (.pointer (some ⟨B + 1 + 1, 0, none⟩)) :: pt (B + 1 + 1 + 1) (.cells #[.pointer none, .pointer (some ⟨B + 1 + 1, 0, none⟩)] 33 (0, 0)) :: pt B (.cells (doC d).toArray 48 (0, 0)) :: L) := by
          obtain rfl | rfl : q = 0 ∨ q = 1 := by omega
          · exact ⟨_, blk_cell HW.out.swap.lies 0, deadS_nil (HW.out.pull 2)⟩
          · exact ⟨_, blk_cell HW.out.swap.lies 1, ((HW.out.again (deadS_shared _)).pull 3).swap⟩
        obtain ⟨v, e0, h7⟩ := hv
        obtain ⟨z0, z1, z2, z3, z4, z5⟩ := boxD (h7.pull 4)
        have H7 := Lib.hid h7
        clear h7 HW
        go_wp2_with fail
        refine does_dead H7.out HN.out fun w1 h8 => ?_
        have H8 := Lib.hid h8
        clear h8 H7 e0 z0 z1 z2 z3 z4 z5
        go_wp2_with fail
        refine index_dead (dead_of H8.out) ?_
        go_wp2_with fail
        refine place_dead (dead_of H8.out) ?_
        go_wp2_with fail
        refine view_dead (dead_of H8.out) ?_
        go_wp2_with fail
        refine at_dead (dead_of H8.out) ?_
        have H9 := Lib.hid ((H8.out.alloc (.cells #[.int .i64 0, .int .i32 0, .int .i64 0] 39)).drop.alloc (.cells #[.int .i64 0, .int .i32 0, .int .i64 0] 39)).drop
        go_wp2_with fail
        refine len_dead (dead_of H9.out) ?_
        go_wp2_with fail
        refine count_dead (dead_of H9.out) ?_
        go_wp2_with fail
        refine size_dead (dead_of H9.out) ?_
        go_wp2_with fail
        refine elems_dead (dead_of H9.out) ?_
        have H10 := Lib.hid (H9.out.alloc (.cells #[.slice none 0 0] 46)).drop
        go_wp2_with fail
        refine seen_dead (dead_of H10.out) ?_
        intro w2 hb _
        have H11 := Lib.hid (st_later H10.out hb)
        clear hb H8 H9 H10
        go_wp2_with fail
        refine text_dead H11.out fun w3 h12 => ?_
        have H12 := Lib.hid h12
        clear h12 H11
        go_wp2_with fail
        refine clone_dead (dead_of H12.out) ?_
        have H13 := Lib.hid (H12.out.drop.push 2)
        go_wp2
        go_roundw
        case rel => exact ⟨q + 1, by omega, by go_num, H13⟩
        case measure => simp [intOf]; omega
      · obtain rfl : q = 2 := by omega
        go_wp2_with fail
        refine awake_any HW.out.drop.drop.drop.drop fun w6 h8 => ?_
        have HX := Lib.hid (HR.out _ h8)
        clear h8
        go_wp2
        exact HX.out
end
end Go.Proofs.Ytdgaffcfcgmfnaa
