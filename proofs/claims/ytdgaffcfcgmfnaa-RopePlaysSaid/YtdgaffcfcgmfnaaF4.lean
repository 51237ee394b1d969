/- What the reference's Check and Right answer. The reference's sequence: New, Count, Seen, Text. -/
import Derived.Test.YtdgaffcfcgmfnaaF2
import Derived.Test.YtdgaffcfcgmfnaaQ6
import Derived.Laws.Runes
namespace Go.Proofs.Ytdgaffcfcgmfnaa
open Go.RowKit Go.Sl

theorem refcheck_any (x : Lab) (w : World) :
    Calls Try.prog 86 #[.agg #[.int .i64 x.lev, .int .u32 x.com]] w fun e w' => e = .returned (.int .i64 (checkN x)) ∧ Below w.heap.size w w' := by
  have hB := (Below.refl w.heap.size w).alloc (Nat.le_refl _) (.cells #[.int .i64 x.lev, .int .u32 x.com] 93)
  have HB := Aside0.mk hB
  clear hB
  by_cases h0 : 0 ≤ x.lev
  · by_cases h1 : x.lev ≤ 15
    · have HC := Aside0.mk (show checkN x = 0 by unfold checkN; rw [if_neg (by omega)])
      go_enter Try.func86, Try.ntmps86
      go_wp2
      go_ret
      exact ⟨by rw [HC.out]; rfl, HB.out⟩
    · have HC := Aside0.mk (show checkN x = 10 by unfold checkN; rw [if_pos (by omega)])
      replace h1 : 15 < x.lev := by omega
      go_enter Try.func86, Try.ntmps86
      go_wp2
      go_ret
      exact ⟨by rw [HC.out]; rfl, HB.out⟩
  · have HC := Aside0.mk (show checkN x = 10 by unfold checkN; rw [if_pos (by omega)])
    replace h0 : x.lev < 0 := by omega
    go_enter Try.func86, Try.ntmps86
    go_wp2
    go_ret
    exact ⟨by rw [HC.out]; rfl, HB.out⟩
theorem quotaB_no (q : Quo) (h : quotaB q = false) : q.chars < 0 ∨ (0 ≤ q.chars ∧ 4096 < q.chars ∧ 0 ≤ q.ops ∧ 0 ≤ q.seats) ∨ (0 ≤ q.chars ∧ q.chars ≤ 4096 ∧ q.ops < 0) ∨ (0 ≤ q.chars ∧ q.chars ≤ 4096 ∧ 0 ≤ q.ops ∧ 4096 < q.ops) ∨
    (0 ≤ q.chars ∧ q.chars ≤ 4096 ∧ 0 ≤ q.ops ∧ q.ops ≤ 4096 ∧ q.seats < 0) ∨ (0 ≤ q.chars ∧ q.chars ≤ 4096 ∧ 0 ≤ q.ops ∧ q.ops ≤ 4096 ∧ 0 ≤ q.seats ∧ 4096 < q.seats) ∨ (0 ≤ q.chars ∧ 4096 < q.chars) := by
  simp only [quotaB, okN, Bool.and_eq_false_iff, decide_eq_false_iff_not] at h
  omega
theorem quotaB_yes (q : Quo) (h : quotaB q = true) : 0 ≤ q.chars ∧ q.chars ≤ 4096 ∧ 0 ≤ q.ops ∧ q.ops ≤ 4096 ∧ 0 ≤ q.seats ∧ q.seats ≤ 4096 := by
  simp only [quotaB, okN, Bool.and_eq_true, decide_eq_true_eq] at h
  omega
section
attribute [local go_sem high] eqLab
set_option maxRecDepth 100000 in
set_option maxHeartbeats 4000000 in
theorem refright_any (p : PV) (A0 A1 A2 : Option Addr) (c0 c1 c2 : Nat) (w : World) (h0 : CL w A0 p.labels) (h1 : CQ w A1 p.quotas) (h2 : CE w A2 p.entries)
    (_hc0 : p.labels.length ≤ c0) :
    Calls Try.prog 70 #[.agg #[.slice A0 p.labels.length c0, .slice A1 p.quotas.length c1, .slice A2 p.entries.length c2]] w fun e w' => e = .returned (.int .i64 (rightN p)) ∧ Below w.heap.size w w' := by
  have H0 := Aside0.mk h0
  have H1 := Aside0.mk h1
  have H2 := Aside0.mk h2
  clear h0 h1 h2
  cases hs : sizesB p with
  | false =>
    have Hx : Hid (rightN p = 11) := Lib.hid (by unfold rightN rightB; rw [hs]; rfl)
    have hd : (p.labels.length : Int) < 1 ∨ 32 < (p.labels.length : Int) ∨ ((p.quotas.length : Int) == (p.labels.length : Int)) = false ∨ (p.entries.length : Int) < 1 ∨ 8 < (p.entries.length : Int) := by
      have : ¬ (sizesB p = true) := by rw [hs]; decide
      simp only [sizesB, Bool.and_eq_true, decide_eq_true_eq] at this
      by_cases hq : (p.quotas.length : Int) = (p.labels.length : Int)
      · omega
      · exact .inr (.inr (.inl (beq_eq_false_iff_ne.2 hq)))
    clear hs
    rcases hd with e | e | e | e | e
    case inr.inr.inl =>
      have e' : ((p.quotas.length : Int) != (p.labels.length : Int)) = true := by rw [bne, e]; rfl
      by_cases e1 : (p.labels.length : Int) < 1
      all_goals
        by_cases e2 : 32 < (p.labels.length : Int)
        all_goals
          first
          | (exfalso; omega)
          | (go_enter Try.func70, Try.ntmps70
             go_wp2
             all_goals (first | (exfalso; omega) | (go_ret; exact ⟨ret_int Hx.out.symm, (Below.refl _ _).alloc (Nat.le_refl _) _⟩)))
    all_goals
      cases e3 : ((p.quotas.length : Int) == (p.labels.length : Int))
      all_goals
        first
        | have e' : ((p.quotas.length : Int) != (p.labels.length : Int)) = true := by rw [bne, e3]; rfl
        | have e' : ((p.quotas.length : Int) != (p.labels.length : Int)) = false := by rw [bne, e3]; rfl
        by_cases e1 : (p.labels.length : Int) < 1
        all_goals
          by_cases e2 : 32 < (p.labels.length : Int)
          all_goals
            by_cases e4 : (p.entries.length : Int) < 1
            all_goals
            first
            | (exfalso; omega)
            | (go_enter Try.func70, Try.ntmps70
               go_wp2
               all_goals (first | (exfalso; omega) | (go_ret; exact ⟨ret_int Hx.out.symm, (Below.refl _ _).alloc (Nat.le_refl _) _⟩)))
  | true =>
    have hd := hs
    simp only [sizesB, Bool.and_eq_true, decide_eq_true_eq] at hd
    obtain ⟨⟨⟨⟨d1, d2⟩, d3⟩, d4⟩, d5⟩ := hd
    have d1' : 1 ≤ (p.labels.length : Int) := by omega
    have d2' : (p.labels.length : Int) ≤ 32 := by omega
    have d3' : ((p.quotas.length : Int) == (p.labels.length : Int)) = true := beq_iff_eq.2 (by omega)
    have d3'' : ((p.quotas.length : Int) != (p.labels.length : Int)) = false := by rw [bne, d3']; rfl
    have d4' : 1 ≤ (p.entries.length : Int) := by omega
    have d5' : (p.entries.length : Int) ≤ 8 := by omega
    have Hs := Lib.hid hs
    clear hs d1 d2 d4 d5
    have D3 := Lib.hid d3
    clear d3
    go_enter Try.func70, Try.ntmps70
    go_wp2
    go_loopw [38] (fun i wr => ∃ k : Nat, k ≤ p.labels.length ∧ i = .int .i64 k ∧ Aside0 ((List.range k).all (labOk p) = true) ∧ Aside0 (wr.heap[w.heap.size]? = some (.cells #[.slice A0 p.labels.length c0, .slice A1 p.quotas.length c1, .slice A2 p.entries.length c2] 26 (0, 0))) ∧ Aside0 (Below w.heap.size w wr)) (fun i _ => p.labels.length - (intOf i).toNat)
    case atStart => exact ⟨0, by omega, rfl, ⟨rfl⟩, ⟨blk_new _ _⟩, ⟨(Below.refl _ _).alloc (Nat.le_refl _) _⟩⟩
    case round =>
      obtain ⟨k, hk, rfl, ha, hbx, HB⟩ := hrel
      have g0 := blk_cell hbx.out 0
      have g1 := blk_cell hbx.out 1
      have g2 := blk_cell hbx.out 2
      by_cases hlt : k < p.labels.length
      · obtain ⟨bl, ol, hA, hl0, hl1⟩ := lab_at (Row.below H0.out HB.out) k hlt
        have hkq : k < p.quotas.length := by rw [D3.out]; exact hlt
        obtain ⟨bq, oq, hQ, hq0, hq1, hq2⟩ := quo_at (Row.below H1.out HB.out) k hkq
        subst hA hQ
        have hlw : w.heap.size < wr.heap.size := blk_lt hbx.out
        have hlb : bl < wr.heap.size := World.block_lt_of_cell? _ _ hl0
        have hlq : bq < wr.heap.size := World.block_lt_of_cell? _ _ hq0
        obtain ⟨x, hx⟩ : ∃ x, x = p.labels[k] := ⟨_, rfl⟩
        obtain ⟨q, hq⟩ : ∃ q, q = p.quotas[k] := ⟨_, rfl⟩
        have hok : labOk p k = (decide (checkN x = 0) && !decide (x ∈ p.labels.take k) && quotaB q) := by
          unfold labOk; rw [rd_getElem _ _ k hlt, rd_getElem _ _ k hkq, hx, hq]
        rw [← hx] at hl0 hl1
        rw [← hq] at hq0 hq1 hq2
        have HX := Aside0.mk hx
        have hfin : labOk p k = false → rightN p = 11 := fun h => by
          unfold rightN rightB
          have : (List.range p.labels.length).all (labOk p) = false := by
            rw [List.all_eq_false]
            exact ⟨k, List.mem_range.2 hlt, by rw [h]; decide⟩
          rw [this]; simp
        have Hok := Aside0.mk hok
        have Hfin := Aside0.mk hfin
        clear hok hx hq hfin
        go_wp2_with fail
        obtain ⟨W1, hW1⟩ : ∃ W1, W1 = wr.alloc (.cells #[.int .i64 q.chars, .int .i64 q.ops, .int .i64 q.seats] 98) := ⟨_, rfl⟩
        have B0 := Aside0.mk (show Below wr.heap.size wr W1 by rw [hW1]; exact (Below.refl _ _).alloc (Nat.le_refl _) _)
        have Hq1 := Aside0.mk (show W1.heap[wr.heap.size]? = some (.cells #[.int .i64 q.chars, .int .i64 q.ops, .int .i64 q.seats] 98 (0, 0)) by rw [hW1]; exact blk_new _ _)
        have hbx1 := Aside0.mk (blk_below hbx.out B0.out)
        have HB1 := Aside0.mk (below_step HB.out B0.out)
        rw [← hW1]
        clear hW1 hl0 hl1 hq0 hq1 hq2 g0 g1 g2
        refine (refcheck_any x W1).mono ?_
        rintro e w2 ⟨rfl, hb2⟩
        have Hq2 := Aside0.mk (blk_below Hq1.out hb2)
        have hbx2 := Aside0.mk (blk_below hbx1.out hb2)
        have HB2 := Aside0.mk (below_step HB1.out hb2)
        have e0 := blk_cell Hq2.out 0
        have e1 := blk_cell Hq2.out 1
        have e2 := blk_cell Hq2.out 2
        have g0 := blk_cell hbx2.out 0
        clear hb2 B0 HB1
        by_cases hck : checkN x = 0
        · have Hck := Aside0.mk hck
          rw [hck]
          clear hck
          cases hq : quotaB q with
          | false =>
            have Hx := Aside0.mk (Hfin.out (by rw [Hok.out, hq]; simp))
            have hcs := quotaB_no q hq
            clear hq
            rcases hcs with a | ⟨a, b, c, d⟩ | ⟨a, b, c⟩ | ⟨a, b, c, d⟩ | ⟨a, b, c, d, e⟩ | ⟨a, b, c, d, e, f⟩ | ⟨a, b⟩
            all_goals
              go_wp2
              all_goals (first | (exfalso; omega) | (go_ret; exact ⟨ret_int Hx.out.symm, HB2.out⟩))
          | true =>
            have Hq := Aside0.mk hq
            obtain ⟨a, b, c, d, e, f⟩ := quotaB_yes q hq
            clear hq
            go_wp2
            obtain ⟨wo, hwo⟩ : ∃ wo : World, wo = w2 := ⟨_, rfl⟩
            subst hwo
            go_loopw [84] (fun i wi => ∃ j : Nat, j ≤ k ∧ i = .int .i64 j ∧ Aside0 (∀ z, (hz : z < j) → (hl : z < p.labels.length) → p.labels[z] ≠ x) ∧ Aside0 (wi.heap[w.heap.size]? = some (.cells #[.slice (some ⟨bl, ol, none⟩) p.labels.length c0, .slice (some ⟨bq, oq, none⟩) p.quotas.length c1, .slice A2 p.entries.length c2] 26 (0, 0))) ∧ Aside0 (Below w.heap.size w wi)) (fun i _ => k - (intOf i).toNat)
            case atStart => exact ⟨0, Nat.zero_le _, rfl, ⟨fun z hz => absurd hz (Nat.not_lt_zero _)⟩, hbx2, HB2⟩
            case round =>
              obtain ⟨j, hj, rfl, hno, hbi, HBi⟩ := hrel
              have g0 := blk_cell hbi.out 0
              by_cases hjk : j < k
              · have hjl : j < p.labels.length := by omega
                obtain ⟨b1, o1, hA1, m0, m1⟩ := lab_at (Row.below H0.out HBi.out) j hjl
                obtain ⟨b2, o2, hA2, n0, n1⟩ := lab_at (Row.below H0.out HBi.out) k hlt
                injection hA1 with hA1
                injection hA1 with h1 h2
                subst h1 h2
                injection hA2 with hA2
                injection hA2 with h1 h2
                subst h1 h2
                rw [← HX.out] at n0 n1
                obtain ⟨y, hy⟩ : ∃ y, y = p.labels[j] := ⟨_, rfl⟩
                rw [← hy] at m0 m1
                have HY := Aside0.mk hy
                clear hy
                cases he : (y.lev == x.lev && (y.com == x.com)) with
                | true =>
                  have Hx := Aside0.mk (Hfin.out (by
                    have hyx : y = x := of_decide_eq_true ((lab_eq _ _).symm.trans he)
                    have hm : x ∈ p.labels.take k := by
                      rw [← hyx, HY.out]
                      exact List.mem_take_iff_getElem.2 ⟨j, by omega, rfl⟩
                    rw [Hok.out, decide_eq_true hm]; simp))
                  go_wp2
                  go_quiet (fail)
                  go_wp2
                  go_ret
                  exact ⟨ret_int Hx.out.symm, pw_below_drewN HBi.out _⟩
                | false =>
                  have HN := Aside0.mk (show p.labels[j] ≠ x from fun h => by rw [lab_eq, HY.out, h, decide_eq_true rfl] at he; exact absurd he (by decide))
                  go_wp2
                  go_quiet (fail)
                  go_wp2
                  go_roundw
                  case rel => exact ⟨j + 1, by omega, by go_num, ⟨fun z hz hl => by
                    by_cases hzj : z = j
                    · subst hzj; exact HN.out
                    · exact hno.out z (by omega) hl⟩, ⟨blk_drewN hbi.out _⟩, ⟨pw_below_drewN HBi.out _⟩⟩
                  case measure => simp [intOf]; omega
              · have Hx := Aside0.mk (show labOk p k = true by
                  have hm : x ∉ p.labels.take k := fun h => by
                    obtain ⟨z, hz, hzx⟩ := List.mem_take_iff_getElem.1 h
                    exact hno.out z (by omega) (by omega) hzx
                  rw [Hok.out, Hck.out, Hq.out, decide_eq_false hm]; rfl)
                go_wp2
                go_roundw
                case rel => exact ⟨k + 1, by omega, by go_num, ⟨by rw [List.range_succ, List.all_append, ha.out]; simpa using Hx.out⟩, hbi, HBi⟩
                case measure => simp [intOf]; omega
        · have h10 : checkN x = 10 := by unfold checkN at hck ⊢; split <;> simp_all
          have Hx := Aside0.mk (Hfin.out (by rw [Hok.out, decide_eq_false hck]; rfl))
          rw [h10]
          clear hck h10
          go_wp2
          go_ret
          exact ⟨ret_int Hx.out.symm, HB2.out⟩
      · have hkn : k = p.labels.length := by omega
        subst hkn
        have hfin : p.entries.all (entOk p.labels.length) = true → rightN p = 0 := fun h => by
          unfold rightN rightB
          rw [Hs.out, ha.out, h]; rfl
        have hfin2 : p.entries.all (entOk p.labels.length) = false → rightN p = 11 := fun h => by
          unfold rightN rightB
          rw [h]; simp
        have Hfin := Aside0.mk hfin
        have Hfin2 := Aside0.mk hfin2
        clear hfin hfin2
        go_wp2
        go_loopw [103] (fun i wr => ∃ k : Nat, k ≤ p.entries.length ∧ i = .int .i64 k ∧ Aside0 ((p.entries.take k).all (entOk p.labels.length) = true) ∧ Aside0 (wr.heap[w.heap.size]? = some (.cells #[.slice A0 p.labels.length c0, .slice A1 p.quotas.length c1, .slice A2 p.entries.length c2] 26 (0, 0))) ∧ Aside0 (Below w.heap.size w wr)) (fun i _ => p.entries.length - (intOf i).toNat)
        case atStart => exact ⟨0, by omega, rfl, ⟨rfl⟩, hbx, HB⟩
        case round =>
          obtain ⟨m, hm, rfl, he, hbx2, HB2⟩ := hrel
          have q0 := blk_cell hbx2.out 0
          have q1 := blk_cell hbx2.out 1
          have q2 := blk_cell hbx2.out 2
          clear g0 g1 g2
          by_cases hlm : m < p.entries.length
          · obtain ⟨b, o, rfl, hl0, hl1, hl2⟩ := ent_at (Row.below H2.out HB2.out) m hlm
            have hlw : w.heap.size < wr.heap.size := blk_lt hbx2.out
            have hlb : b < wr.heap.size := World.block_lt_of_cell? _ _ hl0
            have HBn := Aside0.mk (show Below w.heap.size w (wr.alloc (.cells #[.int .i64 p.entries[m].lab, .string p.entries[m].sec, .bool p.entries[m].down] 100)) from HB2.out.alloc HB2.out.size _)
            cases hx : entOk p.labels.length p.entries[m] with
            | true =>
              have hx2 := hx
              simp only [entOk, Bool.and_eq_true, decide_eq_true_eq] at hx2
              obtain ⟨⟨⟨x1, x2⟩, x3⟩, x4⟩ := hx2
              have x3' : ((p.entries[m].sec.size : Int) == 0) = false := beq_eq_false_iff_ne.2 (by omega)
              have x4' : (p.entries[m].sec.size : Int) ≤ 16 := by omega
              have Hx := Aside0.mk hx
              clear hx
              go_wp2
              all_goals (first | (exfalso; omega) | skip)
              go_roundw
              case rel => exact ⟨m + 1, by omega, by go_num, ⟨by rw [List.take_add_one, List.getElem?_eq_getElem hlm, List.all_append, he.out]; simpa using Hx.out⟩, ⟨blk_alloc hbx2.out _⟩, HBn⟩
              case measure => simp [intOf]; omega
            | false =>
              have hx2 : p.entries[m].lab < 0 ∨ (0 ≤ p.entries[m].lab ∧ (p.labels.length : Int) ≤ p.entries[m].lab) ∨ (0 ≤ p.entries[m].lab ∧ p.entries[m].lab < (p.labels.length : Int) ∧ (p.entries[m].sec.size : Int) < 1) ∨ (0 ≤ p.entries[m].lab ∧ p.entries[m].lab < (p.labels.length : Int) ∧ 1 ≤ (p.entries[m].sec.size : Int) ∧ 16 < (p.entries[m].sec.size : Int)) := by
                have : ¬ (entOk p.labels.length p.entries[m] = true) := by rw [hx]; decide
                simp only [entOk, Bool.and_eq_true, decide_eq_true_eq] at this
                omega
              have Hx := Aside0.mk (Hfin2.out (by rw [List.all_eq_false]; exact ⟨_, List.getElem_mem hlm, by rw [hx]; decide⟩))
              clear hx
              rcases hx2 with x1 | ⟨x1, x2⟩ | ⟨x1, x2, x3⟩ | ⟨x1, x2, x3, x4⟩
              all_goals
                first
                | have x5 : ((p.entries[m].sec.size : Int) == 0) = true := beq_iff_eq.2 (by omega)
                | have x5 : ((p.entries[m].sec.size : Int) == 0) = false := beq_eq_false_iff_ne.2 (by omega)
                | skip
                go_wp2
                all_goals (first | (exfalso; omega) | (go_ret; exact ⟨ret_int Hx.out.symm, HBn.out⟩))
          · have hx : rightN p = 0 := Hfin.out (by have := he.out; rwa [List.take_of_length_le (by omega)] at this)
            have Hx := Aside0.mk hx
            clear hx
            go_wp2
            go_ret
            exact ⟨ret_int Hx.out.symm, HB2.out⟩
end
end Go.Proofs.Ytdgaffcfcgmfnaa
namespace Go.Proofs.Ytdgaffcfcgmfnaa
open Go.RowKit Go.Sl

section
variable {k w : World} {L : List Asn} {g : Nat} {p : PV} {A0 A1 A2 : Option Addr} {c0 c1 c2 : Nat} {es : List El} {R : Ending → World → Prop}
set_option maxHeartbeats 1000000 in
theorem rnew_bad (h : St k w (polS p A0 A1 A2 c0 c1 c2 :: L)) (hr : rightN p ≠ 0) (hR : ∀ w', St k w' (polS p A0 A1 A2 c0 c1 c2 :: L) → R (.returned (.tuple #[.pointer none, .int .i64 11])) w') :
    Calls Try.prog 34 #[polV p A0 A1 A2 c0 c1 c2] w R := by
  have h1 := h.alloc (.cells #[.slice A0 p.labels.length c0, .slice A1 p.quotas.length c1, .slice A2 p.entries.length c2] 26)
  obtain ⟨q0, q1, q2, q3⟩ := polS_out h1.swap
  have hri := refright_any p A0 A1 A2 c0 c1 c2 _ q0 q1 q2 q3
  rw [rightN_bad hr] at hri
  have H1 := Lib.hid h1
  have HR := Lib.hid hR
  have HRI := Lib.hid hri
  clear h h1 hri q0 q1 q2 q3 hr hR
  go_enter Try.func34, Try.ntmps34
  go_wp2_with (go_at_call 70; refine HRI.out.mono ?_; rintro e w1 ⟨rfl, hb⟩; have HX := Lib.hid (HR.out _ (st_later H1.out hb).drop); clear hb)
  exact HX.out
set_option maxHeartbeats 1000000 in
theorem rnew_any (h : St k w (polS p A0 A1 A2 c0 c1 c2 :: L)) (hr : rightN p = 0) (hR : ∀ g w', St k w' (refA g p A0 A1 A2 c0 c1 c2 [] :: polS p A0 A1 A2 c0 c1 c2 :: L) → R (.returned (.tuple #[.pointer (some ⟨g, 0, none⟩), .int .i64 0])) w') :
    Calls Try.prog 34 #[polV p A0 A1 A2 c0 c1 c2] w R := by
  have h1 := h.alloc (.cells #[.slice A0 p.labels.length c0, .slice A1 p.quotas.length c1, .slice A2 p.entries.length c2] 26)
  obtain ⟨q0, q1, q2, q3⟩ := polS_out h1.swap
  have hri := refright_any p A0 A1 A2 c0 c1 c2 _ q0 q1 q2 q3
  rw [hr] at hri
  have H1 := Lib.hid h1
  have HR := Lib.hid hR
  have HRI := Lib.hid hri
  clear h h1 hri q0 q1 q2 q3 hr hR
  obtain ⟨B, hB⟩ : ∃ B, w.heap.size = B := ⟨_, rfl⟩
  rw [hB] at H1
  go_enter Try.func34, Try.ntmps34
  go_wp2_with (go_at_call 70; refine HRI.out.mono ?_; rintro e w1 ⟨rfl, hb⟩; have h2 := st_later H1.out hb; obtain ⟨y0, y1, y2⟩ := boxP h2; have HX := Lib.hid (HR.out _ _ (ref_mk (es := []) (((h2.drop.nilA 39 3)).alloc (.cells (refC p A0 A1 A2 c0 c1 c2 (.slice none 0 0)) 72)))); clear hb h2)
  exact HX.out
/-- How many there are of any label. -/
def cntI (es : List El) (v : Int) : Nat := (es.filter fun e => decide (e.label = v)).length
theorem cntI_snoc (es : List El) (v : Int) (q : Nat) {e : El} (h : es[q]? = some e) : cntI (es.take (q + 1)) v = cntI (es.take q) v + if e.label = v then 1 else 0 := by
  unfold cntI
  rw [List.take_add_one, h, List.filter_append, List.length_append]
  congr 1
  by_cases hv : e.label = v <;> simp [hv]
theorem countP_cntI {es : List El} (h : Fit (polOf p) es) (v : Int) : countP (polOf p) v es = (cntI es v : Nat) := by
  unfold countP
  by_cases hv : (polOf p).has v = true
  · rw [if_pos hv]
    obtain ⟨v0, v1⟩ := Pol.has_iff.1 hv
    unfold cnt cntI
    rw [Int.toNat_of_nonneg v0]
  · rw [if_neg hv]
    have : cntI es v = 0 := by
      unfold cntI
      rw [List.length_eq_zero_iff, List.filter_eq_nil_iff]
      intro e he h2
      have h3 := h.lab e he
      have h4 : e.label = v := by simpa using h2
      exact hv (Pol.has_iff.2 (by rw [← h4]; exact h3))
    rw [this]; rfl
set_option maxRecDepth 100000 in
set_option maxHeartbeats 4000000 in
theorem rcount_any {v : Int} (h : St k w (refA g p A0 A1 A2 c0 c1 c2 es :: L)) (hlen : es.length ≤ 1048576) (hR : ∀ w', St k w' (refA g p A0 A1 A2 c0 c1 c2 es :: L) → R (.returned (.int .i64 (cntI es v : Nat))) w') : Calls Try.prog 40 #[.pointer (some ⟨g, 0, none⟩), .int .i64 v] w R := by
  obtain ⟨A, cx, h1⟩ := ref_out h
  have HR := Lib.hid (fun w' (h : St k w' (pt g (.cells (refC p A0 A1 A2 c0 c1 c2 (.slice A es.length cx)) 72 (0, 0)) :: rowA 39 3 (.slice A es.length cx) es.length (elsC es) :: L)) => hR w' (ref_mk h))
  obtain ⟨-, -, -, y3⟩ := boxR h1
  have H1 := Lib.hid h1
  obtain ⟨M, hM⟩ : ∃ M, es.length = M := ⟨_, rfl⟩
  have HM := Lib.hid hM
  rw [hM] at hlen y3 H1 HR
  have hM2 : (M : Int) ≤ 1048576 := by omega
  clear h h1 hR hM hlen
  go_enter Try.func40, Try.ntmps40
  go_wp2
  clear y3
  go_loopw [5, 13] (fun m i wr => ∃ q c : Nat, q ≤ M ∧ i = .int .i64 q ∧ m = .int .i64 (c : Nat) ∧ c ≤ q ∧ Hid (c = cntI (es.take q) v) ∧ Hid (St k wr (pt g (.cells (refC p A0 A1 A2 c0 c1 c2 (.slice A M cx)) 72 (0, 0)) :: rowA 39 3 (.slice A M cx) M (elsC es) :: L))) (fun _ i _ => M - (intOf i).toNat)
  case atStart => exact ⟨0, 0, by omega, rfl, rfl, by omega, Lib.hid rfl, H1⟩
  case round =>
    obtain ⟨q, c, hq, rfl, rfl, hcq, HC, HW⟩ := hrel
    have hq2 : (q : Int) ≤ 1048576 := by omega
    have hc2 : (c : Int) ≤ 1048576 := by omega
    by_cases hlt : q < M
    · obtain ⟨b, o, rfl, hcell⟩ := reads_el (n := M) (by have := (HW.out.pull 1).readsA; rw [HM.out]; exact this) rfl (by rw [HM.out]; omega)
      obtain ⟨e, he⟩ : ∃ e, es[q]? = some e := ⟨_, List.getElem?_eq_getElem (by rw [HM.out]; exact hlt)⟩
      have e0 := hcell q e 0 _ he rfl
      have e1 := hcell q e 1 _ he rfl
      have e2 := hcell q e 2 _ he rfl
      rw [Nat.add_zero] at e0
      have hsn := cntI_snoc es v q he
      rw [← HC.out] at hsn
      have H2 := Lib.hid ((HW.out.alloc (.cells #[.int .i64 e.id, .int .i32 e.rune, .int .i64 e.label] 39)).drop)
      have hb2 : (q : Int) < (M : Int) := by omega
      clear hcell he HC HW
      by_cases hv : e.label = v
      · rw [if_pos hv] at hsn
        have HSN := Lib.hid hsn
        have g3 : (e.label == v) = true := by rw [hv]; simp
        clear hsn hv
        go_wp2
        go_roundw
        case rel => exact ⟨q + 1, c + 1, by omega, by go_num, by go_num, by omega, Lib.hid HSN.out.symm, H2⟩
        case measure => simp [intOf]; omega
      · rw [if_neg hv, Nat.add_zero] at hsn
        have HSN := Lib.hid hsn
        have g3 : (e.label == v) = false := by simpa using hv
        clear hsn hv
        go_wp2
        go_roundw
        case rel => exact ⟨q + 1, c, by omega, by go_num, rfl, by omega, Lib.hid HSN.out.symm, H2⟩
        case measure => simp [intOf]; omega
    · obtain rfl : q = M := by omega
      have hx := HC.out
      rw [List.take_of_length_le (by rw [HM.out]; omega)] at hx
      have h2 := HR.out _ HW.out
      rw [← hx] at h2
      have HX := Lib.hid h2
      clear hx h2
      go_wp2
      exact HX.out
/-- What is seen, as the reference has it. -/
theorem seen_filter (h32 : p.labels.length ≤ 32) (hf : Fit (polOf p) es) (v : Int) : es.filter (fun e => seesB p v e.label) = seenE (polOf p) v es := by
  unfold seenE
  by_cases hv : (polOf p).has v = true
  · rw [if_pos hv]
    obtain ⟨v0, v1⟩ := Pol.has_iff.1 hv
    have v2 : v < (p.labels.length : Int) := v1
    apply List.filter_congr
    intro e he
    have hl := hf.lab e he
    have hl2 : e.label < (p.labels.length : Int) := hl.2
    exact (seesB_of v0 (by omega) hl.1 (by omega)).symm
  · rw [if_neg hv, List.filter_eq_nil_iff]
    intro e _ hs
    obtain ⟨a1, a2, -, -⟩ := seesB_lt hs
    exact hv (Pol.has_iff.2 ⟨a1, a2⟩)
theorem filt_take (f : El → Bool) (es : List El) (q : Nat) {e : El} (h : es[q]? = some e) : (es.take (q + 1)).filter f = (es.take q).filter f ++ if f e = true then [e] else [] := by
  rw [List.take_add_one, h, List.filter_append]
  cases hf : f e <;> simp [hf]
set_option maxRecDepth 100000 in
set_option maxHeartbeats 4000000 in
theorem rseen_any {v : Int} (h : St k w (refA g p A0 A1 A2 c0 c1 c2 es :: polS p A0 A1 A2 c0 c1 c2 :: L)) (hL : ∀ x ∈ p.labels, inLab x) (h32 : p.labels.length ≤ 32) (hf : Fit (polOf p) es) (hlen : es.length ≤ 1048576)
    (hR : ∀ u w', St k w' (rowA 39 3 u (seenE (polOf p) v es).length (elsC (seenE (polOf p) v es)) :: refA g p A0 A1 A2 c0 c1 c2 es :: polS p A0 A1 A2 c0 c1 c2 :: L) → R (.returned u) w') : Calls Try.prog 41 #[.pointer (some ⟨g, 0, none⟩), .int .i64 v] w R := by
  rw [← seen_filter h32 hf v] at hR
  obtain ⟨A, cx, h1⟩ := ref_out h
  have HR := Lib.hid (fun u w' (h : St k w' (rowA 39 3 u (es.filter fun e => seesB p v e.label).length (elsC (es.filter fun e => seesB p v e.label)) :: pt g (.cells (refC p A0 A1 A2 c0 c1 c2 (.slice A es.length cx)) 72 (0, 0)) :: rowA 39 3 (.slice A es.length cx) es.length (elsC es) :: polS p A0 A1 A2 c0 c1 c2 :: L)) => hR u w' (ref_mk (h.push 2)).swap)
  obtain ⟨-, -, -, y3⟩ := boxR h1
  have HL := Lib.hid hL
  have H1 := Lib.hid ((h1.nilA 39 3).push 3)
  obtain ⟨M, hM⟩ : ∃ M, es.length = M := ⟨_, rfl⟩
  have HM := Lib.hid hM
  rw [hM] at hlen y3 H1 HR
  have hM2 : (M : Int) ≤ 1048576 := by omega
  clear h h1 hR hM hlen hL hf h32
  change Hid (St k w (pt g (.cells (refC p A0 A1 A2 c0 c1 c2 (.slice A M cx)) 72 (0, 0)) :: rowA 39 3 (.slice A M cx) M (elsC es) :: polS p A0 A1 A2 c0 c1 c2 :: rowA 39 3 (.slice none 0 0) 0 [] :: L)) at H1
  go_enter Try.func41, Try.ntmps41
  go_wp2
  clear y3
  go_loopw [5, 13] (fun s i wr => ∃ q n : Nat, q ≤ M ∧ i = .int .i64 q ∧ (∃ A' c', s = .slice A' n c') ∧ n ≤ q ∧ Hid (n = ((es.take q).filter fun e => seesB p v e.label).length) ∧ Hid (St k wr (pt g (.cells (refC p A0 A1 A2 c0 c1 c2 (.slice A M cx)) 72 (0, 0)) :: rowA 39 3 (.slice A M cx) M (elsC es) :: polS p A0 A1 A2 c0 c1 c2 :: rowA 39 3 s n (elsC ((es.take q).filter fun e => seesB p v e.label)) :: L))) (fun _ i _ => M - (intOf i).toNat)
  case atStart => exact ⟨0, 0, by omega, rfl, ⟨none, 0, rfl⟩, by omega, Lib.hid rfl, H1⟩
  case round =>
    obtain ⟨q, n, hq, rfl, ⟨A', c', rfl⟩, hnq, HC, HW⟩ := hrel
    have hq2 : (q : Int) ≤ 1048576 := by omega
    by_cases hlt : q < M
    · obtain ⟨b, o, rfl, hcell⟩ := reads_el (n := M) (by have := (HW.out.pull 1).readsA; rw [HM.out]; exact this) rfl (by rw [HM.out]; omega)
      obtain ⟨e, he⟩ : ∃ e, es[q]? = some e := ⟨_, List.getElem?_eq_getElem (by rw [HM.out]; exact hlt)⟩
      have e0 := hcell q e 0 _ he rfl
      have e1 := hcell q e 1 _ he rfl
      have e2 := hcell q e 2 _ he rfl
      rw [Nat.add_zero] at e0
      have hsn := filt_take (fun e => seesB p v e.label) es q he
      obtain ⟨s, hs⟩ : ∃ s, seesB p v e.label = s := ⟨_, rfl⟩
      simp only [hs] at hsn
      have HSB := Lib.hid hs
      have HSN := Lib.hid hsn
      have hb2 : (q : Int) < (M : Int) := by omega
      clear hcell he hsn hs
      cases s
      · simp only [Bool.false_eq_true, if_false, List.append_nil] at HSN
        go_upto_region 5 with fail
        obtain ⟨W1, hW1⟩ : ∃ W1, W1 = wr.alloc (.cells #[.int .i64 e.id, .int .i32 e.rune, .int .i64 e.label] 39) := ⟨_, rfl⟩
        have h2 := HW.out.alloc (.cells #[.int .i64 e.id, .int .i32 e.rune, .int .i64 e.label] 39)
        rw [← hW1] at h2 ⊢
        obtain ⟨r0, r1, r2, -⟩ := boxR (h2.pull 1)
        have s0 : ∀ n : Later W1, n.w.cell? ⟨g, 0, none⟩ = some (.slice A0 p.labels.length c0) := later_cell r0
        have s1 : ∀ n : Later W1, n.w.cell? ⟨g, 1, none⟩ = some (.slice A1 p.quotas.length c1) := later_cell r1
        have s2 : ∀ n : Later W1, n.w.cell? ⟨g, 2, none⟩ = some (.slice A2 p.entries.length c2) := later_cell r2
        have s3 : ∀ n : Later W1, n.w.cell? ⟨wr.heap.size, 2, none⟩ = some (.int .i64 e.label) := later_cell (blk_cell h2.lies 2)
        have HSE := Lib.hid (fun n : Later W1 => rsees_is (A0 := A0) (A1 := A1) (A2 := A2) (c0 := c0) (c1 := c1) (c2 := c2) (w := n.w) HSB.out HL.out (polS_out ((st_later h2 n.h).pull 3)).1)
        have H2 := Lib.hid h2
        clear h2 r0 r1 r2 hW1
        refine wp_region_later (by kernel_rfl) (by kernel_rfl) ?_
        repeat (go_big_quiet_step (first | exact calls_later (HSE.out _)))
        refine wpQuiet_nil ?_
        rintro _ ⟨⟨w2, hb2⟩, rfl⟩
        have H3 := Lib.hid (st_later H2.out hb2).drop
        clear hb2 H2 HSE s0 s1 s2 s3
        clear e0 e1 e2
        go_wp2
        go_roundw
        case rel => exact ⟨q + 1, n, by omega, by go_num, ⟨A', c', rfl⟩, by omega, Lib.hid (by rw [HSN.out]; exact HC.out), Lib.hid (by rw [HSN.out]; exact H3.out)⟩
        case measure => simp [intOf]; omega
      · simp only [if_true] at HSN
        go_upto_region 5 with fail
        obtain ⟨W1, hW1⟩ : ∃ W1, W1 = wr.alloc (.cells #[.int .i64 e.id, .int .i32 e.rune, .int .i64 e.label] 39) := ⟨_, rfl⟩
        have h2 := HW.out.alloc (.cells #[.int .i64 e.id, .int .i32 e.rune, .int .i64 e.label] 39)
        rw [← hW1] at h2 ⊢
        obtain ⟨r0, r1, r2, -⟩ := boxR (h2.pull 1)
        have s0 : ∀ n : Later W1, n.w.cell? ⟨g, 0, none⟩ = some (.slice A0 p.labels.length c0) := later_cell r0
        have s1 : ∀ n : Later W1, n.w.cell? ⟨g, 1, none⟩ = some (.slice A1 p.quotas.length c1) := later_cell r1
        have s2 : ∀ n : Later W1, n.w.cell? ⟨g, 2, none⟩ = some (.slice A2 p.entries.length c2) := later_cell r2
        have s3 : ∀ n : Later W1, n.w.cell? ⟨wr.heap.size, 2, none⟩ = some (.int .i64 e.label) := later_cell (blk_cell h2.lies 2)
        have HSE := Lib.hid (fun n : Later W1 => rsees_is (A0 := A0) (A1 := A1) (A2 := A2) (c0 := c0) (c1 := c1) (c2 := c2) (w := n.w) HSB.out HL.out (polS_out ((st_later h2 n.h).pull 3)).1)
        have H2 := Lib.hid h2
        clear h2 r0 r1 r2 hW1
        refine wp_region_later (by kernel_rfl) (by kernel_rfl) ?_
        repeat (go_big_quiet_step (first | exact calls_later (HSE.out _)))
        refine wpQuiet_nil ?_
        rintro _ ⟨⟨w2, hb2⟩, rfl⟩
        have H3 := Lib.hid (st_later H2.out hb2)
        clear hb2 H2 HSE s0 s1 s2 s3
        clear e0 e1 e2
        have b0 := blk_cell H3.out.lies 0
        have b1 := blk_cell H3.out.lies 1
        have b2 := blk_cell H3.out.lies 2
        change _ = some (Value.int .i64 e.id) at b0
        change _ = some (Value.int .i32 e.rune) at b1
        change _ = some (Value.int .i64 e.label) at b2
        have H4 := Lib.hid ((H3.out.drop).alloc (.cells #[.int .i64 e.id, .int .i32 e.rune, .int .i64 e.label] 39))
        clear H3
        go_wp2_with ((at_builtin; refine wpList_append rfl _ _ rfl Try.underlying46 info39 rfl (by decide) (n := n) (cs := elsC ((es.take q).filter fun e => seesB p v e.label)) (H4.out.pull 4) (H4.out.readsP (sz := 3) (n := 1) (cap := 1) rfl (Nat.le_refl _) (by decide)) rfl rfl (fun u hu => by simp at hu; rcases hu with rfl | rfl | rfl <;> rfl) (by unfold maxLen; omega) (by omega) ?_; intro v' w5 h6 h7; obtain ⟨A5, c5, rfl, -⟩ := h6.readsA.at_; have H6 := Lib.hid h6; clear h6 h7))
        go_roundw
        case rel =>
          have h8 := (H6.out.swap.drop).push 3
          refine ⟨q + 1, n + 1, by omega, by go_num, ⟨_, _, rfl⟩, by omega, Lib.hid (by rw [HSN.out, List.length_append, ← HC.out]; rfl), Lib.hid ?_⟩
          rw [HSN.out]
          have e5 : elsC ((es.take q).filter (fun e => seesB p v e.label) ++ [e]) = elsC ((es.take q).filter fun e => seesB p v e.label) ++ elC e := by simp [elsC]
          rw [e5]
          exact h8
        case measure => simp [intOf]; omega
    · obtain rfl : q = M := by omega
      have hx := HC.out
      have h2 := HW.out
      rw [List.take_of_length_le (by rw [HM.out]; omega)] at hx h2
      rw [hx] at h2
      have h3 := HR.out _ _ (h2.pull 3)
      rw [← hx] at h3
      have HX := Lib.hid h3
      clear hx h2 h3
      go_wp2
      exact HX.out
end
end Go.Proofs.Ytdgaffcfcgmfnaa
