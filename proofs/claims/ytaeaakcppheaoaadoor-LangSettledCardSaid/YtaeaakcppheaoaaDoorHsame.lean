/- What the reference's Same answers: are two policies one? -/
import Derived.Test.YtaeaakcppheaoaaDoorHw
namespace Go.Proofs.YtaeaakcppheaoaaDoor
open Go.RowKit Go.Proofs.YtaeaakcppheaoaaDoorW.PrintWords Go.Maps

theorem eqQuo (d : Nat) (w : World) (x0 y0 x1 y1 x2 y2 : Int) :
    (Op.equalIn (d + 2) 49 (.agg #[.int .i64 x0, .int .i64 x1, .int .i64 x2]) (.agg #[.int .i64 y0, .int .i64 y1, .int .i64 y2])).run Tryd.prog w = .ok (x0 == y0 && (x1 == y1 && (x2 == y2))) w := by
  refine eqA_of Tryd.underlying49 (by kernel_rfl) ?_
  refine eqf_cons (by rfl) (by go_simp; rfl) (by go_simp; rfl) (by go_simp) ?_
  refine eqf_cons (by rfl) (by go_simp; rfl) (by go_simp; rfl) (by go_simp) ?_
  exact eqf_last (by rfl) (by go_simp; rfl) (by go_simp; rfl) (by go_simp)
theorem quo_eq (x y : Quo) : (x.chars == y.chars && (x.ops == y.ops && (x.seats == y.seats))) = decide (x = y) := by
  obtain ⟨a, b, c⟩ := x
  obtain ⟨a', b', c'⟩ := y
  rw [Bool.eq_iff_iff]
  simp
theorem ent_eq (x y : Ent) : (x.lab == y.lab && (x.sec.toList == y.sec.toList && (x.down == y.down))) = decide (x = y) := by
  obtain ⟨a, b, c⟩ := x
  obtain ⟨a', b', c'⟩ := y
  rw [bytes_eq, Bool.eq_iff_iff]
  simp
def sameB (p q : Pol) : Bool := decide (p.labels = q.labels) && (decide (p.quotas = q.quotas) && decide (p.entries = q.entries))
theorem same_no1 {p q : Pol} (h : p.labels ≠ q.labels) : sameB p q = false := by unfold sameB; rw [decide_eq_false h]; rfl
theorem same_no2 {p q : Pol} (h : p.quotas ≠ q.quotas) : sameB p q = false := by unfold sameB; rw [decide_eq_false h]; simp
theorem same_no3 {p q : Pol} (h : p.entries ≠ q.entries) : sameB p q = false := by unfold sameB; rw [decide_eq_false h]; simp
theorem list_ne {α : Type} {l m : List α} (k : Nat) (h1 : k < l.length) (h2 : k < m.length) (h : l[k] ≠ m[k]) : l ≠ m := by rintro rfl; exact h rfl
theorem list_eq {α : Type} {l m : List α} (hn : l.length = m.length) (h : ∀ j, (h1 : j < l.length) → (h2 : j < m.length) → l[j] = m[j]) : l = m := List.ext_getElem hn (fun j h1 h2 => h j h1 h2)
theorem len_ne {α : Type} {l m : List α} (h : l.length ≠ m.length) : l ≠ m := fun e => h (by rw [e])

section
attribute [local go_sem high] eqLab eqQuo eqEnt
set_option maxRecDepth 100000 in
set_option maxHeartbeats 4000000 in
theorem same_any (p q : Pol) (A0 A1 A2 B0 B1 B2 : Option Addr) (c0 c1 c2 d0 d1 d2 : Nat) (w : World)
    (hA0 : Kd.C kLab w A0 p.labels.length p.labels) (hA1 : Kd.C kQuo w A1 p.quotas.length p.quotas) (hA2 : Kd.C kEnt w A2 p.entries.length p.entries)
    (hB0 : Kd.C kLab w B0 q.labels.length q.labels) (hB1 : Kd.C kQuo w B1 q.quotas.length q.quotas) (hB2 : Kd.C kEnt w B2 q.entries.length q.entries) :
    Calls Tryd.prog 13 #[.agg #[.slice A0 p.labels.length c0, .slice A1 p.quotas.length c1, .slice A2 p.entries.length c2], .agg #[.slice B0 q.labels.length d0, .slice B1 q.quotas.length d1, .slice B2 q.entries.length d2]] w
      fun e w' => e = .returned (.bool (sameB p q)) ∧ Below w.heap.size w w' := by
  have HA0 := Aside0.mk hA0
  have HA1 := Aside0.mk hA1
  have HA2 := Aside0.mk hA2
  have HB0 := Aside0.mk hB0
  have HB1 := Aside0.mk hB1
  have HB2 := Aside0.mk hB2
  have m0 := C_max hA0
  have m1 := C_max hA1
  have m2 := C_max hA2
  clear hA0 hA1 hA2 hB0 hB1 hB2
  by_cases e0 : p.labels.length = q.labels.length
  · by_cases e1 : p.quotas.length = q.quotas.length
    · by_cases e2 : p.entries.length = q.entries.length
      · have n0 : ((p.labels.length : Int) != q.labels.length) = false := by rw [e0]; simp
        have n1 : ((p.quotas.length : Int) != q.quotas.length) = false := by rw [e1]; simp
        have n2 : ((p.entries.length : Int) != q.entries.length) = false := by rw [e2]; simp
        have E0 := Aside0.mk e0
        have E1 := Aside0.mk e1
        have E2 := Aside0.mk e2
        clear e0 e1 e2
        obtain ⟨b1, hb1⟩ : ∃ b1, b1 = w.heap.size + 1 := ⟨_, rfl⟩
        go_enter Tryd.func13, Tryd.ntmps13
        go_wp2
        go_loopw [36] (fun i wr => ∃ k : Nat, k ≤ p.labels.length ∧ i = .int .i64 k ∧ Aside0 (∀ j, (hj : j < k) → (h1 : j < p.labels.length) → (h2 : j < q.labels.length) → p.labels[j] = q.labels[j]) ∧ Aside0 (wr.heap[w.heap.size]? = some (.cells #[.slice A0 p.labels.length c0, .slice A1 p.quotas.length c1, .slice A2 p.entries.length c2] 27 (0, 0))) ∧ Aside0 (wr.heap[w.heap.size + 1]? = some (.cells #[.slice B0 q.labels.length d0, .slice B1 q.quotas.length d1, .slice B2 q.entries.length d2] 27 (0, 0))) ∧ Aside0 (Below w.heap.size w wr)) (fun i _ => p.labels.length - (intOf i).toNat)
        case atStart => exact ⟨0, Nat.zero_le _, rfl, ⟨fun j hj => absurd hj (Nat.not_lt_zero _)⟩, ⟨blk_alloc (blk_new _ _) _⟩, ⟨blk_new_at (by simp) _⟩, ⟨below_alloc (below_alloc (Below.refl _ _) _) _⟩⟩
        case round =>
          obtain ⟨k, hk, rfl, hno, hx0, hx1, HB⟩ := hrel
          have r00 := blk_cell hx0.out 0
          have r01 := blk_cell hx0.out 1
          have r02 := blk_cell hx0.out 2
          have r10 := blk_cell hx1.out 0
          have r11 := blk_cell hx1.out 1
          have r12 := blk_cell hx1.out 2
          by_cases hlt : k < p.labels.length
          · have hlt2 : k < q.labels.length := by have := E0.out; omega
            obtain ⟨b, o, rfl, x0, x1⟩ := lab_at (Kd.C_below HA0.out HB.out) k hlt
            obtain ⟨b', o', rfl, y0, y1⟩ := lab_at (Kd.C_below HB0.out HB.out) k hlt2
            obtain ⟨x, hx⟩ : ∃ x, x = p.labels[k] := ⟨_, rfl⟩
            obtain ⟨y, hy⟩ : ∃ y, y = q.labels[k] := ⟨_, rfl⟩
            rw [← hx] at x0 x1
            rw [← hy] at y0 y1
            have HX := Aside0.mk hx
            have HY := Aside0.mk hy
            clear hx hy
            cases he : (x.lev == y.lev && (x.com == y.com)) with
            | true =>
              have hxy := Lib.hid (show x = y from of_decide_eq_true ((lab_eq _ _).symm.trans he))
              go_wp2
              go_quiet (fail)
              go_wp2
              go_roundw
              case rel => exact ⟨k + 1, by omega, by go_num, ⟨fun j hj h1 h2 => by
                by_cases hjk : j = k
                · subst hjk; rw [← HX.out, ← HY.out]; exact hxy.out
                · exact hno.out j (by omega) h1 h2⟩, ⟨blk_drewN hx0.out _⟩, ⟨blk_drewN hx1.out _⟩, ⟨pw_below_drewN HB.out _⟩⟩
              case measure => simp [intOf]; omega
            | false =>
              have HN := Aside0.mk (same_no1 (list_ne k hlt hlt2 (by rw [← HX.out, ← HY.out]; intro h; rw [lab_eq, h, decide_eq_true rfl] at he; exact absurd he (by decide))))
              go_wp2
              go_quiet (fail)
              go_wp2
              go_ret
              exact ⟨by rw [HN.out]; rfl, pw_below_drewN HB.out _⟩
          · have G0 := Aside0.mk (list_eq E0.out (fun j h1 h2 => hno.out j (by omega) h1 h2))
            clear hno
            go_wp2
            go_loopw [54] (fun i wr => ∃ k : Nat, k ≤ p.quotas.length ∧ i = .int .i64 k ∧ Aside0 (∀ j, (hj : j < k) → (h1 : j < p.quotas.length) → (h2 : j < q.quotas.length) → p.quotas[j] = q.quotas[j]) ∧ Aside0 (wr.heap[w.heap.size]? = some (.cells #[.slice A0 p.labels.length c0, .slice A1 p.quotas.length c1, .slice A2 p.entries.length c2] 27 (0, 0))) ∧ Aside0 (wr.heap[w.heap.size + 1]? = some (.cells #[.slice B0 q.labels.length d0, .slice B1 q.quotas.length d1, .slice B2 q.entries.length d2] 27 (0, 0))) ∧ Aside0 (Below w.heap.size w wr)) (fun i _ => p.quotas.length - (intOf i).toNat)
            case atStart => exact ⟨0, Nat.zero_le _, rfl, ⟨fun j hj => absurd hj (Nat.not_lt_zero _)⟩, hx0, hx1, HB⟩
            case round =>
              obtain ⟨k, hk, rfl, hno, hx0, hx1, HB⟩ := hrel
              have r00 := blk_cell hx0.out 0
              have r01 := blk_cell hx0.out 1
              have r02 := blk_cell hx0.out 2
              have r10 := blk_cell hx1.out 0
              have r11 := blk_cell hx1.out 1
              have r12 := blk_cell hx1.out 2
              by_cases hlt : k < p.quotas.length
              · have hlt2 : k < q.quotas.length := by have := E1.out; omega
                obtain ⟨b, o, rfl, x0, x1, x2⟩ := quo_at (Kd.C_below HA1.out HB.out) k hlt
                obtain ⟨b', o', rfl, y0, y1, y2⟩ := quo_at (Kd.C_below HB1.out HB.out) k hlt2
                obtain ⟨x, hx⟩ : ∃ x, x = p.quotas[k] := ⟨_, rfl⟩
                obtain ⟨y, hy⟩ : ∃ y, y = q.quotas[k] := ⟨_, rfl⟩
                rw [← hx] at x0 x1 x2
                rw [← hy] at y0 y1 y2
                have HX := Aside0.mk hx
                have HY := Aside0.mk hy
                clear hx hy
                cases he : (x.chars == y.chars && (x.ops == y.ops && (x.seats == y.seats))) with
                | true =>
                  have hxy := Lib.hid (show x = y from of_decide_eq_true ((quo_eq _ _).symm.trans he))
                  go_wp2
                  go_quiet (fail)
                  go_wp2
                  go_roundw
                  case rel => exact ⟨k + 1, by omega, by go_num, ⟨fun j hj h1 h2 => by
                    by_cases hjk : j = k
                    · subst hjk; rw [← HX.out, ← HY.out]; exact hxy.out
                    · exact hno.out j (by omega) h1 h2⟩, ⟨blk_drewN hx0.out _⟩, ⟨blk_drewN hx1.out _⟩, ⟨pw_below_drewN HB.out _⟩⟩
                  case measure => simp [intOf]; omega
                | false =>
                  have HN := Aside0.mk (same_no2 (list_ne k hlt hlt2 (by rw [← HX.out, ← HY.out]; intro h; rw [quo_eq, h, decide_eq_true rfl] at he; exact absurd he (by decide))))
                  go_wp2
                  go_quiet (fail)
                  go_wp2
                  go_ret
                  exact ⟨by rw [HN.out]; rfl, pw_below_drewN HB.out _⟩
              · have G1 := Aside0.mk (list_eq E1.out (fun j h1 h2 => hno.out j (by omega) h1 h2))
                clear hno
                go_wp2
                go_loopw [72] (fun i wr => ∃ k : Nat, k ≤ p.entries.length ∧ i = .int .i64 k ∧ Aside0 (∀ j, (hj : j < k) → (h1 : j < p.entries.length) → (h2 : j < q.entries.length) → p.entries[j] = q.entries[j]) ∧ Aside0 (wr.heap[w.heap.size]? = some (.cells #[.slice A0 p.labels.length c0, .slice A1 p.quotas.length c1, .slice A2 p.entries.length c2] 27 (0, 0))) ∧ Aside0 (wr.heap[w.heap.size + 1]? = some (.cells #[.slice B0 q.labels.length d0, .slice B1 q.quotas.length d1, .slice B2 q.entries.length d2] 27 (0, 0))) ∧ Aside0 (Below w.heap.size w wr)) (fun i _ => p.entries.length - (intOf i).toNat)
                case atStart => exact ⟨0, Nat.zero_le _, rfl, ⟨fun j hj => absurd hj (Nat.not_lt_zero _)⟩, hx0, hx1, HB⟩
                case round =>
                  obtain ⟨k, hk, rfl, hno, hx0, hx1, HB⟩ := hrel
                  have r00 := blk_cell hx0.out 0
                  have r01 := blk_cell hx0.out 1
                  have r02 := blk_cell hx0.out 2
                  have r10 := blk_cell hx1.out 0
                  have r11 := blk_cell hx1.out 1
                  have r12 := blk_cell hx1.out 2
                  by_cases hlt : k < p.entries.length
                  · have hlt2 : k < q.entries.length := by have := E2.out; omega
                    obtain ⟨b, o, rfl, x0, x1, x2⟩ := ent_at (Kd.C_below HA2.out HB.out) k hlt
                    obtain ⟨b', o', rfl, y0, y1, y2⟩ := ent_at (Kd.C_below HB2.out HB.out) k hlt2
                    obtain ⟨x, hx⟩ : ∃ x, x = p.entries[k] := ⟨_, rfl⟩
                    obtain ⟨y, hy⟩ : ∃ y, y = q.entries[k] := ⟨_, rfl⟩
                    rw [← hx] at x0 x1 x2
                    rw [← hy] at y0 y1 y2
                    have HX := Aside0.mk hx
                    have HY := Aside0.mk hy
                    clear hx hy
                    cases he : (x.lab == y.lab && (x.sec.toList == y.sec.toList && (x.down == y.down))) with
                    | true =>
                      have hxy := Lib.hid (show x = y from of_decide_eq_true ((ent_eq _ _).symm.trans he))
                      go_wp2
                      go_quiet (fail)
                      go_wp2
                      go_roundw
                      case rel => exact ⟨k + 1, by omega, by go_num, ⟨fun j hj h1 h2 => by
                        by_cases hjk : j = k
                        · subst hjk; rw [← HX.out, ← HY.out]; exact hxy.out
                        · exact hno.out j (by omega) h1 h2⟩, ⟨blk_drewN hx0.out _⟩, ⟨blk_drewN hx1.out _⟩, ⟨pw_below_drewN HB.out _⟩⟩
                      case measure => simp [intOf]; omega
                    | false =>
                      have HN := Aside0.mk (same_no3 (list_ne k hlt hlt2 (by rw [← HX.out, ← HY.out]; intro h; rw [ent_eq, h, decide_eq_true rfl] at he; exact absurd he (by decide))))
                      go_wp2
                      go_quiet (fail)
                      go_wp2
                      go_ret
                      exact ⟨by rw [HN.out]; rfl, pw_below_drewN HB.out _⟩
                  · have G2 := Aside0.mk (list_eq E2.out (fun j h1 h2 => hno.out j (by omega) h1 h2))
                    clear hno
                    go_wp2
                    go_ret
                    exact ⟨by unfold sameB; rw [decide_eq_true G0.out, decide_eq_true G1.out, decide_eq_true G2.out]; rfl, HB.out⟩
      · have n : ((p.entries.length : Int) != q.entries.length) = true := by rw [bne_iff_ne]; omega
        have n0 : ((p.labels.length : Int) != q.labels.length) = false := by rw [e0]; simp
        have n1 : ((p.quotas.length : Int) != q.quotas.length) = false := by rw [e1]; simp
        have HX := Aside0.mk (same_no3 (len_ne e2))
        clear e0 e1 e2
        go_enter Tryd.func13, Tryd.ntmps13
        go_wp2
        go_ret
        exact ⟨by rw [HX.out]; rfl, below_alloc (below_alloc (Below.refl _ _) _) _⟩
    · have n : ((p.quotas.length : Int) != q.quotas.length) = true := by rw [bne_iff_ne]; omega
      have n0 : ((p.labels.length : Int) != q.labels.length) = false := by rw [e0]; simp
      have HX := Aside0.mk (same_no2 (len_ne e1))
      clear e0 e1
      go_enter Tryd.func13, Tryd.ntmps13
      go_wp2
      go_ret
      exact ⟨by rw [HX.out]; rfl, below_alloc (below_alloc (Below.refl _ _) _) _⟩
  · have n : ((p.labels.length : Int) != q.labels.length) = true := by rw [bne_iff_ne]; omega
    have HX := Aside0.mk (same_no1 (len_ne e0))
    clear e0
    go_enter Tryd.func13, Tryd.ntmps13
    go_wp2
    go_ret
    exact ⟨by rw [HX.out]; rfl, below_alloc (below_alloc (Below.refl _ _) _) _⟩
end
end Go.Proofs.YtaeaakcppheaoaaDoor
