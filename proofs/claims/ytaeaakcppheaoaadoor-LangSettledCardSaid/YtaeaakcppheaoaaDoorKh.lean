/- What the reference's Right answers. -/
import Derived.Test.YtaeaakcppheaoaaDoorK1
namespace Go.Proofs.YtaeaakcppheaoaaDoor
open Go.RowKit Go.Proofs.YtaeaakcppheaoaaDoorW.PrintWords Go.Maps

theorem quotaB_no (q : Quo) (h : quotaB q = false) : q.chars < 0 ∨ (0 ≤ q.chars ∧ 4096 < q.chars ∧ 0 ≤ q.ops ∧ 0 ≤ q.seats) ∨ (0 ≤ q.chars ∧ q.chars ≤ 4096 ∧ q.ops < 0) ∨ (0 ≤ q.chars ∧ q.chars ≤ 4096 ∧ 0 ≤ q.ops ∧ 4096 < q.ops) ∨
    (0 ≤ q.chars ∧ q.chars ≤ 4096 ∧ 0 ≤ q.ops ∧ q.ops ≤ 4096 ∧ q.seats < 0) ∨ (0 ≤ q.chars ∧ q.chars ≤ 4096 ∧ 0 ≤ q.ops ∧ q.ops ≤ 4096 ∧ 0 ≤ q.seats ∧ 4096 < q.seats) ∨ (0 ≤ q.chars ∧ 4096 < q.chars) := by
  simp only [quotaB, okN, Bool.and_eq_false_iff, decide_eq_false_iff_not] at h
  omega
theorem quotaB_yes (q : Quo) (h : quotaB q = true) : 0 ≤ q.chars ∧ q.chars ≤ 4096 ∧ 0 ≤ q.ops ∧ q.ops ≤ 4096 ∧ 0 ≤ q.seats ∧ q.seats ≤ 4096 := by
  simp only [quotaB, okN, Bool.and_eq_true, decide_eq_true_eq] at h
  omega
section
attribute [local go_sem high] eqLab
set_option maxRecDepth 100000 in
set_option maxHeartbeats 4000000 in
theorem refright_any (p : Pol) (A0 A1 A2 : Option Addr) (c0 c1 c2 : Nat) (w : World) (h0 : Kd.C kLab w A0 p.labels.length p.labels) (h1 : Kd.C kQuo w A1 p.quotas.length p.quotas) (h2 : Kd.C kEnt w A2 p.entries.length p.entries)
    (_hc0 : p.labels.length ≤ c0) :
    Calls Tryd.prog 28 #[.agg #[.slice A0 p.labels.length c0, .slice A1 p.quotas.length c1, .slice A2 p.entries.length c2]] w fun e w' => e = .returned (.int .i64 (rightN p)) ∧ Below w.heap.size w w' := by
  have H0 := Aside0.mk h0
  have H1 := Aside0.mk h1
  have H2 := Aside0.mk h2
  clear h0 h1 h2
  cases hs : sizesB p with
  | false =>
    have Hx : Hid (rightN p = 11) := Lib.hid (by unfold rightN rightB; rw [hs]; rfl)
    have hd : (p.labels.length : Int) < 1 ∨ 32 < (p.labels.length : Int) ∨ ((p.quotas.length : Int) == (p.labels.length : Int)) = false ∨ (p.entries.length : Int) < 1 ∨ 8 < (p.entries.length : Int) := by
      have : ¬ (sizesB p = true) := by rw [hs]; decide
      simp only [sizesB, Bool.and_eq_true, decide_eq_true_eq] at this
      by_cases hq : (p.quotas.length : Int) = (p.labels.length : Int)
      · omega
      · exact .inr (.inr (.inl (beq_eq_false_iff_ne.2 hq)))
    clear hs
    rcases hd with e | e | e | e | e
    case inr.inr.inl =>
      have e' : ((p.quotas.length : Int) != (p.labels.length : Int)) = true := by rw [bne, e]; rfl
      by_cases e1 : (p.labels.length : Int) < 1
      all_goals
        by_cases e2 : 32 < (p.labels.length : Int)
        all_goals
          first
          | (exfalso; omega)
          | (go_enter Tryd.func28, Tryd.ntmps28
             go_wp2
             all_goals (first | (exfalso; omega) | (go_ret; exact ⟨ret_int Hx.out.symm, (Below.refl _ _).alloc (Nat.le_refl _) _⟩)))
    all_goals
      cases e3 : ((p.quotas.length : Int) == (p.labels.length : Int))
      all_goals
        first
        | have e' : ((p.quotas.length : Int) != (p.labels.length : Int)) = true := by rw [bne, e3]; rfl
        | have e' : ((p.quotas.length : Int) != (p.labels.length : Int)) = false := by rw [bne, e3]; rfl
        by_cases e1 : (p.labels.length : Int) < 1
        all_goals
          by_cases e2 : 32 < (p.labels.length : Int)
          all_goals
            by_cases e4 : (p.entries.length : Int) < 1
            all_goals
            first
            | (exfalso; omega)
            | (go_enter Tryd.func28, Tryd.ntmps28
               go_wp2
               all_goals (first | (exfalso; omega) | (go_ret; exact ⟨ret_int Hx.out.symm, (Below.refl _ _).alloc (Nat.le_refl _) _⟩)))
  | true =>
    have hd := hs
    simp only [sizesB, Bool.and_eq_true, decide_eq_true_eq] at hd
    obtain ⟨⟨⟨⟨d1, d2⟩, d3⟩, d4⟩, d5⟩ := hd
    have d1' : 1 ≤ (p.labels.length : Int) := by omega
    have d2' : (p.labels.length : Int) ≤ 32 := by omega
    have d3' : ((p.quotas.length : Int) == (p.labels.length : Int)) = true := beq_iff_eq.2 (by omega)
    have d3'' : ((p.quotas.length : Int) != (p.labels.length : Int)) = false := by rw [bne, d3']; rfl
    have d4' : 1 ≤ (p.entries.length : Int) := by omega
    have d5' : (p.entries.length : Int) ≤ 8 := by omega
    have Hs := Lib.hid hs
    clear hs d1 d2 d4 d5
    have D3 := Lib.hid d3
    clear d3
    go_enter Tryd.func28, Tryd.ntmps28
    go_wp2
    go_loopw [38] (fun i wr => ∃ k : Nat, k ≤ p.labels.length ∧ i = .int .i64 k ∧ Aside0 ((List.range k).all (labOk p) = true) ∧ Aside0 (wr.heap[w.heap.size]? = some (.cells #[.slice A0 p.labels.length c0, .slice A1 p.quotas.length c1, .slice A2 p.entries.length c2] 27 (0, 0))) ∧ Aside0 (Below w.heap.size w wr)) (fun i _ => p.labels.length - (intOf i).toNat)
    case atStart => exact ⟨0, by omega, rfl, ⟨rfl⟩, ⟨blk_new _ _⟩, ⟨(Below.refl _ _).alloc (Nat.le_refl _) _⟩⟩
    case round =>
      obtain ⟨k, hk, rfl, ha, hbx, HB⟩ := hrel
      have g0 := blk_cell hbx.out 0
      have g1 := blk_cell hbx.out 1
      have g2 := blk_cell hbx.out 2
      by_cases hlt : k < p.labels.length
      · obtain ⟨bl, ol, hA, hl0, hl1⟩ := lab_at (Kd.C_below H0.out HB.out) k hlt
        have hkq : k < p.quotas.length := by rw [D3.out]; exact hlt
        obtain ⟨bq, oq, hQ, hq0, hq1, hq2⟩ := quo_at (Kd.C_below H1.out HB.out) k hkq
        subst hA hQ
        have hlw : w.heap.size < wr.heap.size := blk_lt hbx.out
        have hlb : bl < wr.heap.size := World.block_lt_of_cell? _ _ hl0
        have hlq : bq < wr.heap.size := World.block_lt_of_cell? _ _ hq0
        obtain ⟨x, hx⟩ : ∃ x, x = p.labels[k] := ⟨_, rfl⟩
        obtain ⟨q, hq⟩ : ∃ q, q = p.quotas[k] := ⟨_, rfl⟩
        have hok : labOk p k = (decide (checkN x = 0) && !decide (x ∈ p.labels.take k) && quotaB q) := by
          unfold labOk; rw [rd_getElem _ _ k hlt, rd_getElem _ _ k hkq, hx, hq]
        rw [← hx] at hl0 hl1
        rw [← hq] at hq0 hq1 hq2
        have HX := Aside0.mk hx
        have hfin : labOk p k = false → rightN p = 11 := fun h => by
          unfold rightN rightB
          have : (List.range p.labels.length).all (labOk p) = false := by
            rw [List.all_eq_false]
            exact ⟨k, List.mem_range.2 hlt, by rw [h]; decide⟩
          rw [this]; simp
        have Hok := Aside0.mk hok
        have Hfin := Aside0.mk hfin
        clear hok hx hq hfin
        go_wp2_with fail
        obtain ⟨W1, hW1⟩ : ∃ W1, W1 = wr.alloc (.cells #[.int .i64 q.chars, .int .i64 q.ops, .int .i64 q.seats] 49) := ⟨_, rfl⟩
        have B0 := Aside0.mk (show Below wr.heap.size wr W1 by rw [hW1]; exact (Below.refl _ _).alloc (Nat.le_refl _) _)
        have Hq1 := Aside0.mk (show W1.heap[wr.heap.size]? = some (.cells #[.int .i64 q.chars, .int .i64 q.ops, .int .i64 q.seats] 49 (0, 0)) by rw [hW1]; exact blk_new _ _)
        have hbx1 := Aside0.mk (blk_below hbx.out B0.out)
        have HB1 := Aside0.mk (below_step HB.out B0.out)
        rw [← hW1]
        clear hW1 hl0 hl1 hq0 hq1 hq2 g0 g1 g2
        refine (refcheck_any x W1).mono ?_
        rintro e w2 ⟨rfl, hb2⟩
        have Hq2 := Aside0.mk (blk_below Hq1.out hb2)
        have hbx2 := Aside0.mk (blk_below hbx1.out hb2)
        have HB2 := Aside0.mk (below_step HB1.out hb2)
        have e0 := blk_cell Hq2.out 0
        have e1 := blk_cell Hq2.out 1
        have e2 := blk_cell Hq2.out 2
        have g0 := blk_cell hbx2.out 0
        clear hb2 B0 HB1
        by_cases hck : checkN x = 0
        · have Hck := Aside0.mk hck
          rw [hck]
          clear hck
          cases hq : quotaB q with
          | false =>
            have Hx := Aside0.mk (Hfin.out (by rw [Hok.out, hq]; simp))
            have hcs := quotaB_no q hq
            clear hq
            rcases hcs with a | ⟨a, b, c, d⟩ | ⟨a, b, c⟩ | ⟨a, b, c, d⟩ | ⟨a, b, c, d, e⟩ | ⟨a, b, c, d, e, f⟩ | ⟨a, b⟩
            all_goals
              go_wp2
              all_goals (first | (exfalso; omega) | (go_ret; exact ⟨ret_int Hx.out.symm, HB2.out⟩))
          | true =>
            have Hq := Aside0.mk hq
            obtain ⟨a, b, c, d, e, f⟩ := quotaB_yes q hq
            clear hq
            go_wp2
            obtain ⟨wo, hwo⟩ : ∃ wo : World, wo = w2 := ⟨_, rfl⟩
            subst hwo
            go_loopw [84] (fun i wi => ∃ j : Nat, j ≤ k ∧ i = .int .i64 j ∧ Aside0 (∀ z, (hz : z < j) → (hl : z < p.labels.length) → p.labels[z] ≠ x) ∧ Aside0 (wi.heap[w.heap.size]? = some (.cells #[.slice (some ⟨bl, ol, none⟩) p.labels.length c0, .slice (some ⟨bq, oq, none⟩) p.quotas.length c1, .slice A2 p.entries.length c2] 27 (0, 0))) ∧ Aside0 (Below w.heap.size w wi)) (fun i _ => k - (intOf i).toNat)
            case atStart => exact ⟨0, Nat.zero_le _, rfl, ⟨fun z hz => absurd hz (Nat.not_lt_zero _)⟩, hbx2, HB2⟩
            case round =>
              obtain ⟨j, hj, rfl, hno, hbi, HBi⟩ := hrel
              have g0 := blk_cell hbi.out 0
              by_cases hjk : j < k
              · have hjl : j < p.labels.length := by omega
                obtain ⟨b1, o1, hA1, m0, m1⟩ := lab_at (Kd.C_below H0.out HBi.out) j hjl
                obtain ⟨b2, o2, hA2, n0, n1⟩ := lab_at (Kd.C_below H0.out HBi.out) k hlt
                injection hA1 with hA1
                injection hA1 with h1 h2
                subst h1 h2
                injection hA2 with hA2
                injection hA2 with h1 h2
                subst h1 h2
                rw [← HX.out] at n0 n1
                obtain ⟨y, hy⟩ : ∃ y, y = p.labels[j] := ⟨_, rfl⟩
                rw [← hy] at m0 m1
                have HY := Aside0.mk hy
                clear hy
                cases he : (y.lev == x.lev && (y.com == x.com)) with
                | true =>
                  have Hx := Aside0.mk (Hfin.out (by
                    have hyx : y = x := of_decide_eq_true ((lab_eq _ _).symm.trans he)
                    have hm : x ∈ p.labels.take k := by
                      rw [← hyx, HY.out]
                      exact List.mem_take_iff_getElem.2 ⟨j, by omega, rfl⟩
                    rw [Hok.out, decide_eq_true hm]; simp))
                  go_wp2
                  go_quiet (fail)
                  go_wp2
                  go_ret
                  exact ⟨ret_int Hx.out.symm, pw_below_drewN HBi.out _⟩
                | false =>
                  have HN := Aside0.mk (show p.labels[j] ≠ x from fun h => by rw [lab_eq, HY.out, h, decide_eq_true rfl] at he; exact absurd he (by decide))
                  go_wp2
                  go_quiet (fail)
                  go_wp2
                  go_roundw
                  case rel => exact ⟨j + 1, by omega, by go_num, ⟨fun z hz hl => by
                    by_cases hzj : z = j
                    · subst hzj; exact HN.out
                    · exact hno.out z (by omega) hl⟩, ⟨blk_drewN hbi.out _⟩, ⟨pw_below_drewN HBi.out _⟩⟩
                  case measure => simp [intOf]; omega
              · have Hx := Aside0.mk (show labOk p k = true by
                  have hm : x ∉ p.labels.take k := fun h => by
                    obtain ⟨z, hz, hzx⟩ := List.mem_take_iff_getElem.1 h
                    exact hno.out z (by omega) (by omega) hzx
                  rw [Hok.out, Hck.out, Hq.out, decide_eq_false hm]; rfl)
                go_wp2
                go_roundw
                case rel => exact ⟨k + 1, by omega, by go_num, ⟨by rw [List.range_succ, List.all_append, ha.out]; simpa using Hx.out⟩, hbi, HBi⟩
                case measure => simp [intOf]; omega
        · have h10 : checkN x = 10 := by unfold checkN at hck ⊢; split <;> simp_all
          have Hx := Aside0.mk (Hfin.out (by rw [Hok.out, decide_eq_false hck]; rfl))
          rw [h10]
          clear hck h10
          go_wp2
          go_ret
          exact ⟨ret_int Hx.out.symm, HB2.out⟩
      · have hkn : k = p.labels.length := by omega
        subst hkn
        have hfin : p.entries.all (entOk p.labels.length) = true → rightN p = 0 := fun h => by
          unfold rightN rightB
          rw [Hs.out, ha.out, h]; rfl
        have hfin2 : p.entries.all (entOk p.labels.length) = false → rightN p = 11 := fun h => by
          unfold rightN rightB
          rw [h]; simp
        have Hfin := Aside0.mk hfin
        have Hfin2 := Aside0.mk hfin2
        clear hfin hfin2
        go_wp2
        go_loopw [103] (fun i wr => ∃ k : Nat, k ≤ p.entries.length ∧ i = .int .i64 k ∧ Aside0 ((p.entries.take k).all (entOk p.labels.length) = true) ∧ Aside0 (wr.heap[w.heap.size]? = some (.cells #[.slice A0 p.labels.length c0, .slice A1 p.quotas.length c1, .slice A2 p.entries.length c2] 27 (0, 0))) ∧ Aside0 (Below w.heap.size w wr)) (fun i _ => p.entries.length - (intOf i).toNat)
        case atStart => exact ⟨0, by omega, rfl, ⟨rfl⟩, hbx, HB⟩
        case round =>
          obtain ⟨m, hm, rfl, he, hbx2, HB2⟩ := hrel
          have q0 := blk_cell hbx2.out 0
          have q1 := blk_cell hbx2.out 1
          have q2 := blk_cell hbx2.out 2
          clear g0 g1 g2
          by_cases hlm : m < p.entries.length
          · obtain ⟨b, o, rfl, hl0, hl1, hl2⟩ := ent_at (Kd.C_below H2.out HB2.out) m hlm
            have hlw : w.heap.size < wr.heap.size := blk_lt hbx2.out
            have hlb : b < wr.heap.size := World.block_lt_of_cell? _ _ hl0
            have HBn := Aside0.mk (show Below w.heap.size w (wr.alloc (.cells #[.int .i64 p.entries[m].lab, .string p.entries[m].sec, .bool p.entries[m].down] 51)) from HB2.out.alloc HB2.out.size _)
            cases hx : entOk p.labels.length p.entries[m] with
            | true =>
              have hx2 := hx
              simp only [entOk, Bool.and_eq_true, decide_eq_true_eq] at hx2
              obtain ⟨⟨⟨x1, x2⟩, x3⟩, x4⟩ := hx2
              have x3' : ((p.entries[m].sec.size : Int) == 0) = false := beq_eq_false_iff_ne.2 (by omega)
              have x4' : (p.entries[m].sec.size : Int) ≤ 16 := by omega
              have Hx := Aside0.mk hx
              clear hx
              go_wp2
              all_goals (first | (exfalso; omega) | skip)
              go_roundw
              case rel => exact ⟨m + 1, by omega, by go_num, ⟨by rw [List.take_add_one, List.getElem?_eq_getElem hlm, List.all_append, he.out]; simpa using Hx.out⟩, ⟨blk_alloc hbx2.out _⟩, HBn⟩
              case measure => simp [intOf]; omega
            | false =>
              have hx2 : p.entries[m].lab < 0 ∨ (0 ≤ p.entries[m].lab ∧ (p.labels.length : Int) ≤ p.entries[m].lab) ∨ (0 ≤ p.entries[m].lab ∧ p.entries[m].lab < (p.labels.length : Int) ∧ (p.entries[m].sec.size : Int) < 1) ∨ (0 ≤ p.entries[m].lab ∧ p.entries[m].lab < (p.labels.length : Int) ∧ 1 ≤ (p.entries[m].sec.size : Int) ∧ 16 < (p.entries[m].sec.size : Int)) := by
                have : ¬ (entOk p.labels.length p.entries[m] = true) := by rw [hx]; decide
                simp only [entOk, Bool.and_eq_true, decide_eq_true_eq] at this
                omega
              have Hx := Aside0.mk (Hfin2.out (by rw [List.all_eq_false]; exact ⟨_, List.getElem_mem hlm, by rw [hx]; decide⟩))
              clear hx
              rcases hx2 with x1 | ⟨x1, x2⟩ | ⟨x1, x2, x3⟩ | ⟨x1, x2, x3, x4⟩
              all_goals
                first
                | have x5 : ((p.entries[m].sec.size : Int) == 0) = true := beq_iff_eq.2 (by omega)
                | have x5 : ((p.entries[m].sec.size : Int) == 0) = false := beq_eq_false_iff_ne.2 (by omega)
                | skip
                go_wp2
                all_goals (first | (exfalso; omega) | (go_ret; exact ⟨ret_int Hx.out.symm, HBn.out⟩))
          · have hx : rightN p = 0 := Hfin.out (by have := he.out; rwa [List.take_of_length_le (by omega)] at this)
            have Hx := Aside0.mk hx
            clear hx
            go_wp2
            go_ret
            exact ⟨ret_int Hx.out.symm, HB2.out⟩
end
end Go.Proofs.YtaeaakcppheaoaaDoor
