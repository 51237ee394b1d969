/- What lattice.Right answers. -/
import Derived.Test.YtdgaffcfcgmfnaaL1
namespace Go.Proofs.Ytdgaffcfcgmfnaa
open Go.RowKit Go.Sl

/-- A world in which all that lay in W lies as it lay. -/
structure Later (W : World) where
  w : World
  h : Below W.heap.size W w
instance later_nonempty (W : World) : Nonempty (Later W) := ⟨⟨W, Below.refl _ _⟩⟩
theorem later_cell {W : World} {a : Addr} {v : Value} (hc : W.cell? a = some v) (n : Later W) : n.w.cell? a = some v := pw_cell_below n.h hc
theorem wp_region_later {P : Program} {id : Nat} {Q : Exit → Act → World → Prop} {a : Act} {W : World} {l : List Oper} (hm : P.follows .mixedOrders = true) (hB : Region.lexB .any l.toArray = true)
    (h : wpQuiet P l.toArray (fun w' => ∃ n : Later W, w' = n.w) (fun a' => ∀ w', (∃ n : Later W, w' = n.w) → Q .normal a' w') l a) : (Code.region id l.toArray true).wp P Q a W :=
  wp_region_quiet (C := fun w' => ∃ n : Later W, w' = n.w) hm hB ⟨⟨_, below_drew (Below.refl _ _)⟩, rfl⟩ (by simpa using h)
theorem later_elim {W : World} {p : World → Prop} (h : ∀ w', Below W.heap.size W w' → p w') : ∀ w', (∃ n : Later W, w' = n.w) → p w' := by
  rintro w' ⟨n, rfl⟩
  exact h _ n.h
theorem calls_later {P : Program} {f : FuncId} {args : Array Value} {W : World} {n : Later W} {v : Value}
    (h : Calls P f args n.w fun e w' => e = .returned v ∧ Below n.w.heap.size n.w w') : Calls P f args n.w fun e w'' => e = .returned v ∧ ∃ m : Later W, w'' = m.w :=
  h.mono fun _ w' ⟨he, hb⟩ => ⟨he, ⟨w', below_step n.h hb⟩, rfl⟩
def sizesB (p : PV) : Bool := decide (1 ≤ p.labels.length) && decide (p.labels.length ≤ 32) && decide (p.quotas.length = p.labels.length) && decide (1 ≤ p.entries.length) && decide (p.entries.length ≤ 8)
def labOk (p : PV) (i : Nat) : Bool := decide (checkN (p.labels.getD i ⟨0, 0⟩) = 0) && !decide (p.labels.getD i ⟨0, 0⟩ ∈ p.labels.take i) && quotaB (p.quotas.getD i ⟨0, 0, 0⟩)
def entOk (n : Nat) (e : Ent) : Bool := decide (0 ≤ e.lab) && decide (e.lab < n) && decide (1 ≤ e.sec.size) && decide (e.sec.size ≤ 16)
def rightB (p : PV) : Bool := sizesB p && (List.range p.labels.length).all (labOk p) && p.entries.all (entOk p.labels.length)
def rightN (p : PV) : Int := if rightB p then 0 else 11

theorem check_bad (x : Lab) (w : World) (h : checkN x ≠ 0) :
    Calls Try.prog 51 #[.agg #[.int .i64 x.lev, .int .u32 x.com]] w fun e w' => e = .returned (.int .i64 10) ∧ Below w.heap.size w w' := by
  have := check_any x w
  rwa [show checkN x = 10 by unfold checkN at h ⊢; split <;> simp_all] at this
theorem check_ok (x : Lab) (w : World) (h : checkN x = 0) :
    Calls Try.prog 51 #[.agg #[.int .i64 x.lev, .int .u32 x.com]] w fun e w' => e = .returned (.int .i64 0) ∧ Below w.heap.size w w' := by
  have := check_any x w
  rwa [h] at this
theorem contains_take (A : Option Addr) (c k : Nat) (l : List Lab) (x : Lab) (w : World) (hr : CL w A l) (hk : k ≤ l.length) (r : Bool) (h : decide (x ∈ l.take k) = r) :
    Calls Try.prog 52 #[.slice A k c, .agg #[.int .i64 x.lev, .int .u32 x.com]] w fun e w' => e = .returned (.bool r) ∧ Below w.heap.size w w' := by
  have e : (l.take k).length = k := by rw [List.length_take]; omega
  have := contains_labs A c (l.take k) x w (hr.take k)
  rwa [e, h] at this
theorem quota_is (q : Quo) (w : World) (r : Bool) (h : quotaB q = r) :
    Calls Try.prog 53 #[.agg #[.int .i64 q.chars, .int .i64 q.ops, .int .i64 q.seats]] w fun e w' => e = .returned (.bool r) ∧ Below w.heap.size w w' := by
  rw [← h]; exact quota_any q w

set_option maxHeartbeats 4000000 in
theorem right_any (p : PV) (A0 A1 A2 : Option Addr) (c0 c1 c2 : Nat) (w : World) (h0 : CL w A0 p.labels) (h1 : CQ w A1 p.quotas) (h2 : CE w A2 p.entries)
    (hc0 : p.labels.length ≤ c0) :
    Calls Try.prog 15 #[.agg #[.slice A0 p.labels.length c0, .slice A1 p.quotas.length c1, .slice A2 p.entries.length c2]] w fun e w' => e = .returned (.int .i64 (rightN p)) ∧ Below w.heap.size w w' := by
  have H0 := Aside0.mk h0
  have H1 := Aside0.mk h1
  have H2 := Aside0.mk h2
  clear h0 h1 h2
  cases hs : sizesB p with
  | false =>
    have Hx : Hid (rightN p = 11) := Lib.hid (by unfold rightN rightB; rw [hs]; rfl)
    have hd : (p.labels.length : Int) < 1 ∨ 32 < (p.labels.length : Int) ∨ ((p.quotas.length : Int) == (p.labels.length : Int)) = false ∨ (p.entries.length : Int) < 1 ∨ 8 < (p.entries.length : Int) := by
      have : ¬ (sizesB p = true) := by rw [hs]; decide
      simp only [sizesB, Bool.and_eq_true, decide_eq_true_eq] at this
      by_cases hq : (p.quotas.length : Int) = (p.labels.length : Int)
      · omega
      · exact .inr (.inr (.inl (beq_eq_false_iff_ne.2 hq)))
    clear hs
    rcases hd with e | e | e | e | e
    case inr.inr.inl =>
      have e' : ((p.quotas.length : Int) != (p.labels.length : Int)) = true := by rw [bne, e]; rfl
      by_cases e1 : (p.labels.length : Int) < 1
      all_goals
        by_cases e2 : 32 < (p.labels.length : Int)
        all_goals
          first
          | (exfalso; omega)
          | (go_enter Try.func15, Try.ntmps15
             go_wp2
             all_goals (first | (exfalso; omega) | (go_ret; exact ⟨ret_int Hx.out.symm, (Below.refl _ _).alloc (Nat.le_refl _) _⟩)))
    all_goals
      cases e3 : ((p.quotas.length : Int) == (p.labels.length : Int))
      all_goals
        first
        | have e' : ((p.quotas.length : Int) != (p.labels.length : Int)) = true := by rw [bne, e3]; rfl
        | have e' : ((p.quotas.length : Int) != (p.labels.length : Int)) = false := by rw [bne, e3]; rfl
        by_cases e1 : (p.labels.length : Int) < 1
        all_goals
          by_cases e2 : 32 < (p.labels.length : Int)
          all_goals
            by_cases e4 : (p.entries.length : Int) < 1
            all_goals
            first
            | (exfalso; omega)
            | (go_enter Try.func15, Try.ntmps15
               go_wp2
               all_goals (first | (exfalso; omega) | (go_ret; exact ⟨ret_int Hx.out.symm, (Below.refl _ _).alloc (Nat.le_refl _) _⟩)))
  | true =>
    have hd := hs
    simp only [sizesB, Bool.and_eq_true, decide_eq_true_eq] at hd
    obtain ⟨⟨⟨⟨d1, d2⟩, d3⟩, d4⟩, d5⟩ := hd
    have d1' : 1 ≤ (p.labels.length : Int) := by omega
    have d2' : (p.labels.length : Int) ≤ 32 := by omega
    have d3' : ((p.quotas.length : Int) == (p.labels.length : Int)) = true := beq_iff_eq.2 (by omega)
    have d3'' : ((p.quotas.length : Int) != (p.labels.length : Int)) = false := by rw [bne, d3']; rfl
    have d4' : 1 ≤ (p.entries.length : Int) := by omega
    have d5' : (p.entries.length : Int) ≤ 8 := by omega
    have Hs := Lib.hid hs
    clear hs d1 d2 d4 d5
    have D3 := Lib.hid d3
    clear d3
    go_enter Try.func15, Try.ntmps15
    go_wp2
    go_loopw [41] (fun i wr => ∃ k : Nat, k ≤ p.labels.length ∧ i = .int .i64 k ∧ Aside0 ((List.range k).all (labOk p) = true) ∧ Aside0 (wr.heap[w.heap.size]? = some (.cells #[.slice A0 p.labels.length c0, .slice A1 p.quotas.length c1, .slice A2 p.entries.length c2] 26 (0, 0))) ∧ Aside0 (Below w.heap.size w wr)) (fun i _ => p.labels.length - (intOf i).toNat)
    case atStart => exact ⟨0, by omega, rfl, ⟨rfl⟩, ⟨blk_new _ _⟩, ⟨(Below.refl _ _).alloc (Nat.le_refl _) _⟩⟩
    case round =>
      obtain ⟨k, hk, rfl, ha, hbx, HB⟩ := hrel
      have g0 := blk_cell hbx.out 0
      have g1 := blk_cell hbx.out 1
      have g2 := blk_cell hbx.out 2
      by_cases hlt : k < p.labels.length
      · obtain ⟨b, o, hA, hl0, hl1⟩ := lab_at (Row.below H0.out HB.out) k hlt
        have hkq : k < p.quotas.length := by rw [D3.out]; exact hlt
        obtain ⟨bq, oq, hQ, hq0, hq1, hq2⟩ := quo_at (Row.below H1.out HB.out) k hkq
        subst hA hQ
        have hlw : w.heap.size < wr.heap.size := blk_lt hbx.out
        have hlb : b < wr.heap.size := World.block_lt_of_cell? _ _ hl0
        have hlq : bq < wr.heap.size := World.block_lt_of_cell? _ _ hq0
        have hok : labOk p k = (decide (checkN p.labels[k] = 0) && !decide (p.labels[k] ∈ p.labels.take k) && quotaB p.quotas[k]) := by
          unfold labOk; rw [rd_getElem _ _ k hlt, rd_getElem _ _ k hkq]
        have Hok := Aside0.mk hok
        clear hok
        go_wp2
        obtain ⟨W1, hW1⟩ : ∃ W1, W1 = wr.alloc (.cells #[.int .i64 p.labels[k].lev, .int .u32 p.labels[k].com] 93) := ⟨_, rfl⟩
        have s0 : ∀ n : Later W1, n.w.cell? ⟨wr.heap.size, 0, none⟩ = some (.int .i64 p.labels[k].lev) := later_cell (by rw [hW1]; exact blk_cell (blk_new _ _) 0)
        have s1 : ∀ n : Later W1, n.w.cell? ⟨wr.heap.size, 1, none⟩ = some (.int .u32 p.labels[k].com) := later_cell (by rw [hW1]; exact blk_cell (blk_new _ _) 1)
        have B0 := Aside0.mk (show Below wr.heap.size wr W1 by rw [hW1]; exact (Below.refl _ _).alloc (Nat.le_refl _) _)
        have hbx1 := Aside0.mk (blk_below hbx.out B0.out)
        have s2 : ∀ n : Later W1, n.w.cell? ⟨w.heap.size, 0, none⟩ = some (.slice (some ⟨b, o, none⟩) p.labels.length c0) := later_cell (blk_cell hbx1.out 0)
        have s3 : ∀ n : Later W1, n.w.cell? ⟨w.heap.size, 1, none⟩ = some (.slice (some ⟨bq, oq, none⟩) p.quotas.length c1) := later_cell (blk_cell hbx1.out 1)
        have s4 : ∀ n : Later W1, n.w.cell? ⟨bq, oq + k * 3, none⟩ = some (.int .i64 p.quotas[k].chars) := later_cell (pw_cell_below B0.out hq0)
        have s5 : ∀ n : Later W1, n.w.cell? ⟨bq, oq + k * 3 + 1, none⟩ = some (.int .i64 p.quotas[k].ops) := later_cell (pw_cell_below B0.out hq1)
        have s6 : ∀ n : Later W1, n.w.cell? ⟨bq, oq + k * 3 + 2, none⟩ = some (.int .i64 p.quotas[k].seats) := later_cell (pw_cell_below B0.out hq2)
        rw [← hW1]
        have B1 := Aside0.mk (below_step HB.out B0.out)
        have HL := Aside0.mk (Row.below H0.out B1.out)
        clear hW1 hl0 hl1 hq0 hq1 hq2 g0 g1 g2
        have hfin : labOk p k = false → rightN p = 11 := fun h => by
          unfold rightN rightB
          have : (List.range p.labels.length).all (labOk p) = false := by
            rw [List.all_eq_false]
            exact ⟨k, List.mem_range.2 hlt, by rw [h]; decide⟩
          rw [this]; simp
        have Hfin := Aside0.mk hfin
        clear hfin
        by_cases hck : checkN p.labels[k] = 0
        · have Hck := Aside0.mk hck
          clear hck
          cases hcon : decide (p.labels[k] ∈ p.labels.take k) with
          | true =>
            have Hcon := Aside0.mk hcon
            clear hcon
            have Hx := Aside0.mk (Hfin.out (by rw [Hok.out, Hcon.out]; simp))
            refine wp_region_later (by kernel_rfl) (by kernel_rfl) ?_
            repeat (go_big_quiet_step (first | exact calls_later (check_ok _ _ Hck.out) | exact calls_later (contains_take _ _ _ _ _ _ (Row.below HL.out (Later.h _)) (by omega) _ Hcon.out)))
            refine wpQuiet_nil ?_
            rintro _ ⟨⟨w2, hb2⟩, rfl⟩
            go_wp2
            go_ret
            exact ⟨ret_int Hx.out.symm, below_step B1.out hb2⟩
          | false =>
            have Hcon := Aside0.mk hcon
            clear hcon
            cases hq : quotaB p.quotas[k] with
            | false =>
              have Hq := Aside0.mk hq
              clear hq
              have Hx := Aside0.mk (Hfin.out (by rw [Hok.out, Hq.out]; simp))
              refine wp_region_later (by kernel_rfl) (by kernel_rfl) ?_
              repeat (go_big_quiet_step (first | exact calls_later (check_ok _ _ Hck.out) | exact calls_later (contains_take _ _ _ _ _ _ (Row.below HL.out (Later.h _)) (by omega) _ Hcon.out) | exact calls_later (quota_is _ _ _ Hq.out)))
              refine wpQuiet_nil ?_
              rintro _ ⟨⟨w2, hb2⟩, rfl⟩
              go_wp2
              go_ret
              exact ⟨ret_int Hx.out.symm, below_step B1.out hb2⟩
            | true =>
              have Hq := Aside0.mk hq
              clear hq
              have Hx := Aside0.mk (show labOk p k = true by rw [Hok.out, Hq.out, Hcon.out, Hck.out]; rfl)
              refine wp_region_later (by kernel_rfl) (by kernel_rfl) ?_
              repeat (go_big_quiet_step (first | exact calls_later (check_ok _ _ Hck.out) | exact calls_later (contains_take _ _ _ _ _ _ (Row.below HL.out (Later.h _)) (by omega) _ Hcon.out) | exact calls_later (quota_is _ _ _ Hq.out)))
              refine wpQuiet_nil ?_
              rintro _ ⟨⟨w2, hb2⟩, rfl⟩
              go_wp2
              go_roundw
              case rel => exact ⟨k + 1, by omega, by go_num, ⟨by rw [List.range_succ, List.all_append, ha.out]; simpa using Hx.out⟩, ⟨blk_below hbx1.out hb2⟩, ⟨below_step B1.out hb2⟩⟩
              case measure => simp [intOf]; omega
        · have Hx := Aside0.mk (Hfin.out (by rw [Hok.out, decide_eq_false hck]; rfl))
          refine wp_region_later (by kernel_rfl) (by kernel_rfl) ?_
          repeat (go_big_quiet_step (exact calls_later (check_bad _ _ hck)))
          refine wpQuiet_nil ?_
          rintro _ ⟨⟨w2, hb2⟩, rfl⟩
          go_wp2
          go_ret
          exact ⟨ret_int Hx.out.symm, below_step B1.out hb2⟩
      · have hkn : k = p.labels.length := by omega
        subst hkn
        have hfin : p.entries.all (entOk p.labels.length) = true → rightN p = 0 := fun h => by
          unfold rightN rightB
          rw [Hs.out, ha.out, h]; rfl
        have hfin2 : p.entries.all (entOk p.labels.length) = false → rightN p = 11 := fun h => by
          unfold rightN rightB
          rw [h]; simp
        have Hfin := Aside0.mk hfin
        have Hfin2 := Aside0.mk hfin2
        clear hfin hfin2
        go_wp2
        go_loopw [70] (fun i wr => ∃ k : Nat, k ≤ p.entries.length ∧ i = .int .i64 k ∧ Aside0 ((p.entries.take k).all (entOk p.labels.length) = true) ∧ Aside0 (wr.heap[w.heap.size]? = some (.cells #[.slice A0 p.labels.length c0, .slice A1 p.quotas.length c1, .slice A2 p.entries.length c2] 26 (0, 0))) ∧ Aside0 (Below w.heap.size w wr)) (fun i _ => p.entries.length - (intOf i).toNat)
        case atStart => exact ⟨0, by omega, rfl, ⟨rfl⟩, hbx, HB⟩
        case round =>
          obtain ⟨m, hm, rfl, he, hbx2, HB2⟩ := hrel
          have q0 := blk_cell hbx2.out 0
          have q1 := blk_cell hbx2.out 1
          have q2 := blk_cell hbx2.out 2
          clear g0 g1 g2
          by_cases hlm : m < p.entries.length
          · obtain ⟨b, o, rfl, hl0, hl1, hl2⟩ := ent_at (Row.below H2.out HB2.out) m hlm
            have hlw : w.heap.size < wr.heap.size := blk_lt hbx2.out
            have hlb : b < wr.heap.size := World.block_lt_of_cell? _ _ hl0
            have HBn := Aside0.mk (show Below w.heap.size w (wr.alloc (.cells #[.int .i64 p.entries[m].lab, .string p.entries[m].sec, .bool p.entries[m].down] 100)) from HB2.out.alloc HB2.out.size _)
            cases hx : entOk p.labels.length p.entries[m] with
            | true =>
              have hx2 := hx
              simp only [entOk, Bool.and_eq_true, decide_eq_true_eq] at hx2
              obtain ⟨⟨⟨x1, x2⟩, x3⟩, x4⟩ := hx2
              have x3' : 1 ≤ (p.entries[m].sec.size : Int) := by omega
              have x4' : (p.entries[m].sec.size : Int) ≤ 16 := by omega
              have Hx := Aside0.mk hx
              clear hx
              go_wp2
              all_goals (first | (exfalso; omega) | skip)
              go_roundw
              case rel => exact ⟨m + 1, by omega, by go_num, ⟨by rw [List.take_add_one, List.getElem?_eq_getElem hlm, List.all_append, he.out]; simpa using Hx.out⟩, ⟨blk_alloc hbx2.out _⟩, HBn⟩
              case measure => simp [intOf]; omega
            | false =>
              have hx2 : p.entries[m].lab < 0 ∨ (0 ≤ p.entries[m].lab ∧ (p.labels.length : Int) ≤ p.entries[m].lab) ∨ (0 ≤ p.entries[m].lab ∧ p.entries[m].lab < (p.labels.length : Int) ∧ (p.entries[m].sec.size : Int) < 1) ∨ (0 ≤ p.entries[m].lab ∧ p.entries[m].lab < (p.labels.length : Int) ∧ 1 ≤ (p.entries[m].sec.size : Int) ∧ 16 < (p.entries[m].sec.size : Int)) := by
                have : ¬ (entOk p.labels.length p.entries[m] = true) := by rw [hx]; decide
                simp only [entOk, Bool.and_eq_true, decide_eq_true_eq] at this
                omega
              have Hx := Aside0.mk (Hfin2.out (by rw [List.all_eq_false]; exact ⟨_, List.getElem_mem hlm, by rw [hx]; decide⟩))
              clear hx
              rcases hx2 with x1 | ⟨x1, x2⟩ | ⟨x1, x2, x3⟩ | ⟨x1, x2, x3, x4⟩
              all_goals
                go_wp2
                all_goals (first | (exfalso; omega) | (go_ret; exact ⟨ret_int Hx.out.symm, HBn.out⟩))
          · have hx : rightN p = 0 := Hfin.out (by have := he.out; rwa [List.take_of_length_le (by omega)] at this)
            have Hx := Aside0.mk hx
            clear hx
            go_wp2
            go_ret
            exact ⟨ret_int Hx.out.symm, HB2.out⟩
end Go.Proofs.Ytdgaffcfcgmfnaa
