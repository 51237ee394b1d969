/- What lattice.quota and lattice.Right answer. -/
import Derived.Test.YtaeaakcppheaoaaDoorHc
import Derived.Deep.RegionHeld3
namespace Go.Proofs.YtaeaakcppheaoaaDoor
open Go.RowKit Go.Proofs.YtaeaakcppheaoaaDoorW.PrintWords

theorem blk_new_at {w : World} {n : Nat} (h : n = w.heap.size) (o : Obj) : (w.alloc o).heap[n]? = some o := h ▸ blk_new w o

def okN (n : Int) : Bool := decide (0 ≤ n) && decide (n ≤ 4096)
def quotaB (q : Quo) : Bool := okN q.chars && okN q.ops && okN q.seats

set_option maxHeartbeats 1000000 in
theorem quota_any (q : Quo) (w : World) :
    Calls Tryd.prog 45 #[.agg #[.int .i64 q.chars, .int .i64 q.ops, .int .i64 q.seats]] w fun e w' => e = .returned (.bool (quotaB q)) ∧ Below w.heap.size w w' := by
  go_enter Tryd.func45, Tryd.ntmps45
  go_wp2
  go_loopw [13] (fun i wr => ∃ k : Nat, k ≤ 3 ∧ i = .int .i64 k ∧ Aside0 (([q.chars, q.ops, q.seats].take k).all okN = true) ∧ Aside0 (wr.heap[w.heap.size + 1]? = some (.cells #[.int .i64 q.chars, .int .i64 q.ops, .int .i64 q.seats] 3 (0, 0))) ∧ Aside0 (Below w.heap.size w wr)) (fun i _ => 3 - (intOf i).toNat)
  case atStart => exact ⟨0, by omega, rfl, ⟨rfl⟩, ⟨blk_new_at (by simp) _⟩, ⟨((Below.refl _ _).alloc (Nat.le_refl _) _).alloc (by simp) _⟩⟩
  case round =>
    obtain ⟨k, hk, rfl, ha, hbx, HB⟩ := hrel
    by_cases hlt : k < 3
    · obtain ⟨x, hx⟩ : ∃ x, [q.chars, q.ops, q.seats][k]? = some x := ⟨_, List.getElem?_eq_getElem (by simpa using hlt)⟩
      have hc : wr.cell? ⟨w.heap.size + 1, k, none⟩ = some (.int .i64 x) := by
        rw [blk_cell hbx.out]
        have : (#[Value.int .i64 q.chars, Value.int .i64 q.ops, Value.int .i64 q.seats] : Array Value) = (([q.chars, q.ops, q.seats].map (Value.int .i64))).toArray := rfl
        rw [this, List.getElem?_toArray, List.getElem?_map, hx]; rfl
      cases hok : okN x with
      | true =>
        have hs : ([q.chars, q.ops, q.seats].take (k + 1)).all okN = true := by
          rw [List.take_add_one, hx, List.all_append, ha.out]
          simpa using hok
        have Hs := Lib.hid hs
        have hb := hok
        simp only [okN, Bool.and_eq_true, decide_eq_true_eq] at hb
        obtain ⟨hb1, hb2⟩ := hb
        clear hs hok hx
        go_wp2
        go_roundw
        case rel => exact ⟨k + 1, by omega, by go_num, ⟨Hs.out⟩, hbx, HB⟩
        case measure => simp [intOf]; omega
      | false =>
        have hs : quotaB q = false := by
          have : ([q.chars, q.ops, q.seats]).all okN = false := by
            rw [List.all_eq_false]
            exact ⟨x, List.mem_of_getElem? hx, by rw [hok]; decide⟩
          unfold quotaB
          simpa [Bool.and_assoc] using this
        have Hs := Lib.hid hs
        have hb : x < 0 ∨ 4096 < x := by
          simp only [okN, Bool.and_eq_false_iff, decide_eq_false_iff_not] at hok
          omega
        clear hs hok hx
        rcases hb with hb | hb
        all_goals
          go_wp2
          all_goals (first | (exfalso; omega) | (go_ret; exact ⟨ret_bool Hs.out.symm, HB.out⟩))
    · have hx : quotaB q = true := by
        have := ha.out
        rw [List.take_of_length_le (by simp; omega)] at this
        unfold quotaB
        simpa [Bool.and_assoc] using this
      have Hx := Lib.hid hx
      clear hx
      go_wp2
      go_ret
      exact ⟨ret_bool Hx.out.symm, HB.out⟩
end Go.Proofs.YtaeaakcppheaoaaDoor
