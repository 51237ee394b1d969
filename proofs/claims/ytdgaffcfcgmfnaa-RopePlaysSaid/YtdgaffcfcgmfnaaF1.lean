/- The reference's bit, Below and Sees. -/
import Derived.Test.YtdgaffcfcgmfnaaL3
import Derived.Laws.BitsAllLaws
import Derived.Deep.Cut
namespace Go.Proofs.Ytdgaffcfcgmfnaa
open Go.RowKit Go.Sl

theorem andNot_bits (a b : Nat) (ha : a < 4294967296) (hb : b < 4294967296) : (bits .andNot .u32 (a : Int) (b : Int) == 0) = true ↔ ∀ i, i < 32 → a / 2 ^ i % 2 ≤ b / 2 ^ i % 2 := by
  rw [u32_andNot_nat a b ha hb, beq_iff_eq]
  have e : (4294967295 - b) = 2 ^ 32 - (b + 1) := by omega
  rw [e]
  constructor
  · intro h i hi
    have h0 : a &&& (2 ^ 32 - (b + 1)) = 0 := by omega
    have h1 : (a &&& (2 ^ 32 - (b + 1))).testBit i = false := by rw [h0]; exact Nat.zero_testBit i
    rw [Nat.testBit_and, Nat.testBit_two_pow_sub_succ hb, Nat.testBit_eq_decide_div_mod_eq, Nat.testBit_eq_decide_div_mod_eq, decide_eq_true hi] at h1
    have h2 : a / 2 ^ i % 2 < 2 := Nat.mod_lt _ (by decide)
    by_cases h3 : a / 2 ^ i % 2 = 1
    · by_cases h4 : b / 2 ^ i % 2 = 1
      · omega
      · simp [h3, h4] at h1
    · omega
  · intro h
    have h0 : a &&& (2 ^ 32 - (b + 1)) = 0 := by
      apply Nat.eq_of_testBit_eq
      intro i
      rw [Nat.zero_testBit, Nat.testBit_and, Nat.testBit_two_pow_sub_succ hb, Nat.testBit_eq_decide_div_mod_eq, Nat.testBit_eq_decide_div_mod_eq]
      by_cases hi : i < 32
      · have h1 := h i hi
        have h2 : b / 2 ^ i % 2 < 2 := Nat.mod_lt _ (by decide)
        by_cases h3 : a / 2 ^ i % 2 = 1
        · have h4 : b / 2 ^ i % 2 = 1 := by omega
          simp [h3, h4]
        · simp [h3]
      · simp [hi]
    rw [h0]; rfl
section
variable {w : World} {R : Ending → World → Prop}
set_option maxHeartbeats 1000000 in
theorem bit_any {x I : Nat} (hx : x < 4294967296) (hI : I ≤ 32) (hR : R (.returned (.int .u32 ((x / 2 ^ I % 2 : Nat) : Int))) w) : Calls Try.prog 98 #[.int .u32 (x : Nat), .int .i64 (I : Nat)] w R := by
  have HR := Lib.hid hR
  have hI2 : (I : Int) ≤ 32 := by omega
  clear hR
  go_enter Try.func98, Try.ntmps98
  go_wp2
  go_loop [0, 6] (fun n i => ∃ q y : Nat, q ≤ I ∧ i = .int .i64 q ∧ n = .int .u32 (y : Nat) ∧ y ≤ 4294967295 ∧ Hid (y = x / 2 ^ q)) (fun _ i => I - (intOf i).toNat)
  case atStart => exact ⟨0, x, by omega, rfl, rfl, by omega, Lib.hid (by simp)⟩
  case round =>
    obtain ⟨q, y, hq, rfl, rfl, hy, HY⟩ := hrel
    by_cases hlt : q < I
    · have g1 : (q : Int) < (I : Int) := by omega
      have hz2 : y / 2 = x / 2 ^ (q + 1) := by rw [HY.out, Nat.div_div_eq_div_mul, Nat.pow_succ]
      obtain ⟨z, hzz⟩ : ∃ z, y / 2 = z := ⟨_, rfl⟩
      have hz3 : z ≤ 4294967295 := by omega
      have HZ2 := Lib.hid (show (y : Int) / 2 = (z : Int) by omega)
      rw [hzz] at hz2
      have HZ := Lib.hid hz2
      clear hz2 hzz HY
      go_wp2
      go_round
      case rel => exact ⟨q + 1, z, by omega, by go_num, by rw [HZ2.out], hz3, HZ⟩
      case measure => simp [intOf]; omega
    · obtain rfl : q = I := by omega
      have HX : Hid (R (.returned (.int .u32 ((y % 2 : Nat) : Int))) w) := by
        have := HR.out
        rw [← HY.out] at this
        exact Lib.hid this
      rw [Int.natCast_emod] at HX
      clear HR HY
      go_wp2
      exact HX.out
theorem bitq {W : World} {x I v : Nat} (hx : x < 4294967296) (hI : I ≤ 32) (hv : x / 2 ^ I % 2 = v) : Calls Try.prog 98 #[.int .u32 (x : Nat), .int .i64 (I : Nat)] W fun e w' => e = .returned (.int .u32 (v : Nat)) ∧ w' = W :=
  bit_any (R := fun e w' => e = .returned (.int .u32 (v : Nat)) ∧ w' = W) hx hI ⟨by rw [hv], rfl⟩
def inLab (x : Lab) : Prop := 0 ≤ x.com ∧ x.com ≤ 4294967295
set_option maxRecDepth 100000 in
set_option maxHeartbeats 2000000 in
theorem rbelow_any {x y : Lab} (hx : inLab x) (hy : inLab y) (w : World) :
    Calls Try.prog 88 #[.agg #[.int .i64 x.lev, .int .u32 x.com], .agg #[.int .i64 y.lev, .int .u32 y.com]] w fun e w' => e = .returned (.bool (belowB x y)) ∧ Below w.heap.size w w' := by
  obtain ⟨xl, xc⟩ := x
  obtain ⟨yl, yc⟩ := y
  obtain ⟨hx1, hx2⟩ := hx
  obtain ⟨hy1, hy2⟩ := hy
  simp only at hx1 hx2 hy1 hy2
  obtain ⟨a, rfl⟩ : ∃ a : Nat, xc = a := ⟨xc.toNat, by omega⟩
  obtain ⟨b, rfl⟩ : ∃ b : Nat, yc = b := ⟨yc.toNat, by omega⟩
  have hb : Below w.heap.size w ((w.alloc (.cells #[.int .i64 xl, .int .u32 (a : Nat)] 93)).alloc (.cells #[.int .i64 yl, .int .u32 (b : Nat)] 93)) := ((Below.refl _ _).alloc (Nat.le_refl _) _).alloc (by simp) _
  have hbits := andNot_bits a b (by omega) (by omega)
  have ha2 : a < 4294967296 := by omega
  have hb2 : b < 4294967296 := by omega
  have HAB := Lib.hid (And.intro ha2 hb2)
  by_cases h0 : xl ≤ yl
  · have HX := Lib.hid (show belowB ⟨xl, (a : Int)⟩ ⟨yl, (b : Int)⟩ = (bits .andNot .u32 (a : Int) (b : Int) == 0) by unfold belowB; simp only; rw [decide_eq_true h0, Bool.true_and])
    have HBI := Lib.hid hbits
    have y0 : ((w.alloc (.cells #[.int .i64 xl, .int .u32 (a : Nat)] 93)).alloc (.cells #[.int .i64 yl, .int .u32 (b : Nat)] 93)).cell? ⟨w.heap.size, 1, none⟩ = some (.int .u32 (a : Nat)) := cell_alloc (blk_cell (blk_new _ _) 1) _
    have y1 : ((w.alloc (.cells #[.int .i64 xl, .int .u32 (a : Nat)] 93)).alloc (.cells #[.int .i64 yl, .int .u32 (b : Nat)] 93)).cell? ⟨w.heap.size + 1, 1, none⟩ = some (.int .u32 (b : Nat)) := by
      have := blk_cell (blk_new (w.alloc (.cells #[.int .i64 xl, .int .u32 (a : Nat)] 93)) (.cells #[.int .i64 yl, .int .u32 (b : Nat)] 93)) 1
      rwa [World.size_alloc] at this
    have HB := Lib.hid hb
    obtain ⟨B, hB⟩ : ∃ B, w.heap.size = B := ⟨_, rfl⟩
    clear hb hbits hx1 hx2 hy1 hy2 ha2 hb2
    go_enter Try.func88, Try.ntmps88
    go_wp2
    obtain ⟨W1, hW1⟩ : ∃ W1, ((w.alloc (.cells #[.int .i64 xl, .int .u32 (a : Nat)] 93)).alloc (.cells #[.int .i64 yl, .int .u32 (b : Nat)] 93)) = W1 := ⟨_, rfl⟩
    rw [hW1] at y0 y1 HB ⊢
    rw [hB] at y0 y1
    have hS := HB
    clear hW1 HB
    go_loopw [11] (fun i wr => ∃ q : Nat, q ≤ 32 ∧ i = .int .i64 q ∧ Hid (∀ i, i < q → a / 2 ^ i % 2 ≤ b / 2 ^ i % 2) ∧ wr.cell? ⟨B, 1, none⟩ = some (.int .u32 (a : Nat)) ∧ wr.cell? ⟨B + 1, 1, none⟩ = some (.int .u32 (b : Nat)) ∧ Hid (Below w.heap.size w wr)) (fun i _ => 32 - (intOf i).toNat)
    case atStart => exact ⟨0, by omega, rfl, Lib.hid (fun i hi => absurd hi (by omega)), y0, y1, hS⟩
    case round =>
      clear y0 y1 hS
      obtain ⟨q, hq, rfl, HQ, y0, y1, HB⟩ := hrel
      by_cases hlt : q < 32
      · have g1 : (q : Int) < 32 := by omega
        obtain ⟨u, hu⟩ : ∃ u, a / 2 ^ q % 2 = u := ⟨_, rfl⟩
        obtain ⟨v, hv⟩ : ∃ v, b / 2 ^ q % 2 = v := ⟨_, rfl⟩
        have HU := Lib.hid (And.intro hu hv)
        by_cases huv : u ≤ v
        · have g2 : (u : Int) ≤ (v : Int) := by omega
          have HN : Hid (∀ i, i < q + 1 → a / 2 ^ i % 2 ≤ b / 2 ^ i % 2) := Lib.hid (fun i hi => by
            by_cases h : i = q
            · subst h; rw [hu, hv]; exact huv
            · exact HQ.out i (by omega))
          clear hu hv HQ
          go_upto_region 6 with fail
          go_quiet ((first | (go_at_call 98; refine Calls.quiet_of_same (bitq HAB.out.1 hq HU.out.1)) | (go_at_call 98; refine Calls.quiet_of_same (bitq HAB.out.2 hq HU.out.2))))
          go_wp2
          go_roundw
          case rel => exact ⟨q + 1, by omega, by go_num, HN, y0, y1, Lib.hid (pw_below_drewN HB.out _)⟩
          case measure => simp [intOf]; omega
        · have g2 : (v : Int) < (u : Int) := by omega
          have HN : Hid ((bits .andNot .u32 (a : Int) (b : Int) == 0) = false) := Lib.hid (by
            rw [← Bool.not_eq_true, HBI.out]
            intro h
            have := h q hlt
            omega)
          clear hu hv HQ
          go_upto_region 6 with fail
          go_quiet ((first | (go_at_call 98; refine Calls.quiet_of_same (bitq HAB.out.1 hq HU.out.1)) | (go_at_call 98; refine Calls.quiet_of_same (bitq HAB.out.2 hq HU.out.2))))
          go_wp2
          go_ret
          exact ⟨ret_bool (by rw [HX.out, HN.out]), pw_below_drewN HB.out _⟩
      · obtain rfl : q = 32 := by omega
        have HN : Hid ((bits .andNot .u32 (a : Int) (b : Int) == 0) = true) := Lib.hid (HBI.out.2 HQ.out)
        clear HQ
        go_wp2
        go_ret
        exact ⟨ret_bool (by rw [HX.out, HN.out]), HB.out⟩
  · have h1 : yl < xl := by omega
    have HX := Lib.hid (show belowB ⟨xl, (a : Int)⟩ ⟨yl, (b : Int)⟩ = false by unfold belowB; simp only; rw [decide_eq_false h0, Bool.false_and])
    have HB := Lib.hid hb
    clear hb hbits hx1 hx2 hy1 hy2 ha2 hb2 h0
    go_enter Try.func88, Try.ntmps88
    go_wp2
    go_ret
    exact ⟨ret_bool HX.out.symm, HB.out⟩
theorem rbelow_is {x y : Lab} (hx : inLab x) (hy : inLab y) (w : World) (r : Bool) (h : belowB x y = r) :
    Calls Try.prog 88 #[.agg #[.int .i64 x.lev, .int .u32 x.com], .agg #[.int .i64 y.lev, .int .u32 y.com]] w fun e w' => e = .returned (.bool r) ∧ Below w.heap.size w w' := by
  rw [← h]; exact rbelow_any hx hy w
set_option maxRecDepth 100000 in
set_option maxHeartbeats 2000000 in
theorem rsees_any (p : PV) (v u : Int) (A0 A1 A2 : Option Addr) (c0 c1 c2 : Nat) (w : World) (h0 : CL w A0 p.labels) (hL : ∀ x ∈ p.labels, inLab x) :
    Calls Try.prog 73 #[.agg #[.slice A0 p.labels.length c0, .slice A1 p.quotas.length c1, .slice A2 p.entries.length c2], .int .i64 v, .int .i64 u] w fun e w' => e = .returned (.bool (seesB p v u)) ∧ Below w.heap.size w w' := by
  obtain ⟨N, hN⟩ : ∃ N, p.labels.length = N := ⟨_, rfl⟩
  by_cases hall : 0 ≤ v ∧ v < (N : Int) ∧ 0 ≤ u ∧ u < (N : Int)
  · obtain ⟨h1, h2, h3, h4⟩ := hall
    have hv : v.toNat < p.labels.length := by omega
    have hu : u.toNat < p.labels.length := by omega
    obtain ⟨b, o, rfl, e0, e1⟩ := lab_at h0 v.toNat hv
    obtain ⟨b', o', e', e2, e3⟩ := lab_at h0 u.toNat hu
    injection e' with e'
    injection e' with e4 e5
    subst e4 e5
    have Hx := Lib.hid (show seesB p v u = belowB p.labels[u.toNat] p.labels[v.toNat] by
      unfold seesB
      rw [hN, decide_eq_true h1, decide_eq_true h2, decide_eq_true h3, decide_eq_true h4, rd_getElem _ _ _ hu, rd_getElem _ _ _ hv]; rfl)
    have hlx := hL _ (List.getElem_mem hv)
    have hly := hL _ (List.getElem_mem hu)
    obtain ⟨X, hX⟩ : ∃ X, p.labels[v.toNat] = X := ⟨_, rfl⟩
    obtain ⟨Y, hY⟩ : ∃ Y, p.labels[u.toNat] = Y := ⟨_, rfl⟩
    rw [hX, hY] at Hx
    rw [hX] at e0 e1 hlx
    rw [hY] at e2 e3 hly
    have HL := Lib.hid (And.intro hly hlx)
    rw [hN]
    clear hX hY hv hu h0 hN hL hlx hly
    go_enter Try.func73, Try.ntmps73
    go_wp2
    obtain ⟨W1, hW1⟩ : ∃ W1, W1 = w.alloc (.cells #[.slice (some ⟨b, o, none⟩) N c0, .slice A1 p.quotas.length c1, .slice A2 p.entries.length c2] 26) := ⟨_, rfl⟩
    have B0 := Aside0.mk (show Below w.heap.size w W1 by rw [hW1]; exact (Below.refl _ _).alloc (Nat.le_refl _) _)
    have s0 : ∀ n : Later W1, n.w.cell? ⟨w.heap.size, 0, none⟩ = some (.slice (some ⟨b, o, none⟩) N c0) := later_cell (by rw [hW1]; exact blk_cell (blk_new _ _) 0)
    have s1 : ∀ n : Later W1, n.w.cell? ⟨b, o + v.toNat * 2, none⟩ = some (.int .i64 X.lev) := later_cell (pw_cell_below B0.out e0)
    have s2 : ∀ n : Later W1, n.w.cell? ⟨b, o + v.toNat * 2 + 1, none⟩ = some (.int .u32 X.com) := later_cell (pw_cell_below B0.out e1)
    have s3 : ∀ n : Later W1, n.w.cell? ⟨b, o + u.toNat * 2, none⟩ = some (.int .i64 Y.lev) := later_cell (pw_cell_below B0.out e2)
    have s4 : ∀ n : Later W1, n.w.cell? ⟨b, o + u.toNat * 2 + 1, none⟩ = some (.int .u32 Y.com) := later_cell (pw_cell_below B0.out e3)
    rw [← hW1]
    clear hW1 e0 e1 e2 e3
    obtain ⟨r, hr⟩ : ∃ r, belowB Y X = r := ⟨_, rfl⟩
    have HR := Aside0.mk hr
    rw [hr] at Hx
    clear hr
    refine wp_region_later (by kernel_rfl) (by kernel_rfl) ?_
    repeat (go_big_quiet_step (first | exact calls_later (rbelow_is HL.out.1 HL.out.2 _ _ HR.out)))
    refine wpQuiet_nil ?_
    rintro _ ⟨⟨w2, hb2⟩, rfl⟩
    go_wp2
    go_ret
    exact ⟨ret_bool Hx.out.symm, below_step B0.out hb2⟩
  · have Hx := Lib.hid (show seesB p v u = false by
      unfold seesB
      rw [hN]
      have : (decide (0 ≤ v) && decide (v < (N : Int)) && decide (0 ≤ u) && decide (u < (N : Int))) = false := by
        rw [← Bool.not_eq_true]
        simp only [Bool.and_eq_true, decide_eq_true_eq]
        intro h; exact hall ⟨h.1.1.1, h.1.1.2, h.1.2, h.2⟩
      rw [this]; rfl)
    rw [hN]
    have hd : v < 0 ∨ (0 ≤ v ∧ u < 0) ∨ (0 ≤ v ∧ 0 ≤ u ∧ (N : Int) ≤ v) ∨ (0 ≤ v ∧ 0 ≤ u ∧ v < (N : Int) ∧ (N : Int) ≤ u) := by omega
    have HB := Lib.hid ((Below.refl w.heap.size w).alloc (Nat.le_refl _) (.cells #[.slice A0 N c0, .slice A1 p.quotas.length c1, .slice A2 p.entries.length c2] 26))
    clear hall h0 hN
    rcases hd with a1 | ⟨a1, a2⟩ | ⟨a1, a2, a3⟩ | ⟨a1, a2, a3, a4⟩
    all_goals
      go_enter Try.func73, Try.ntmps73
      go_wp2
      go_ret
      exact ⟨ret_bool Hx.out.symm, HB.out⟩
end
end Go.Proofs.Ytdgaffcfcgmfnaa
