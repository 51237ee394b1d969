/- bits.Mul of small numbers. slices.Repeat, twenty times. -/
import Derived.Test.YtdgaffcfcgmfnaaZl
import Derived.Test.YtdgaffcfcgmfnaaR6
namespace Go.Proofs.Ytdgaffcfcgmfnaa
open Go.RowKit Go.Sl
section
variable {k w : World} {L : List Asn} {R : Ending → World → Prop}
set_option maxRecDepth 100000 in
set_option maxHeartbeats 1000000 in
theorem mul64_any {n : Nat} (hn : n ≤ 4) (hR : R (.returned (.tuple #[.int .u64 0, .int .u64 (n * 20 : Nat)])) w) : Calls Try.prog 97 #[.int .u64 (n : Nat), .int .u64 20] w R := by
  have HR := Lib.hid hR
  clear hR
  obtain rfl | rfl | rfl | rfl | rfl : n = 0 ∨ n = 1 ∨ n = 2 ∨ n = 3 ∨ n = 4 := by omega
  all_goals
    go_enter Try.func97, Try.ntmps97
    go_wp2
    exact HR.out
set_option maxHeartbeats 1000000 in
theorem mul_any {n : Nat} (hn : n ≤ 4) (hR : R (.returned (.tuple #[.int .u64 0, .int .u64 (n * 20 : Nat)])) w) : Calls Try.prog 87 #[.int .u64 (n : Nat), .int .u64 20] w R := by
  have HM := Lib.hid (fun (Q : Ending → World → Prop) => mul64_any (R := Q) (w := w) hn)
  have HR := Lib.hid hR
  clear hR
  go_enter Try.func87, Try.ntmps87
  go_wp2_with (go_at_call 97; refine HM.out _ ?_)
  exact HR.out
end
end Go.Proofs.Ytdgaffcfcgmfnaa
namespace Go.Proofs.Ytdgaffcfcgmfnaa
open Go.RowKit Go.Sl
def repL (k : Nat) (l : List El) : List El := (List.replicate k l).flatten
theorem repL_len (k : Nat) (l : List El) : (repL k l).length = k * l.length := by
  unfold repL
  induction k with
  | zero => simp
  | succ k ih => rw [List.replicate_succ, List.flatten_cons, List.length_append, ih, Nat.succ_mul]; omega
theorem repL_add (a b : Nat) (l : List El) : repL (a + b) l = repL a l ++ repL b l := by
  unfold repL
  rw [← List.replicate_append_replicate, List.flatten_append]
theorem repL_step {k : Nat} {l : List El} {q m : Nat} (h : q * l.length + m ≤ k * l.length) : (repL k l).take (q * l.length + m) = (repL k l).take (q * l.length) ++ (repL k l).take m := by
  rcases Nat.eq_zero_or_pos l.length with h0 | h0
  · have e : repL k l = [] := List.eq_nil_of_length_eq_zero (by rw [repL_len, h0]; simp)
    rw [e]; simp
  · have hq : q ≤ k := by
      have : q * l.length ≤ k * l.length := by omega
      exact Nat.le_of_mul_le_mul_right this h0
    obtain ⟨b, rfl⟩ : ∃ b, k = q + b := ⟨k - q, by omega⟩
    have hm : m ≤ (repL b l).length := by rw [repL_len]; rw [Nat.add_mul] at h; omega
    have e1 : (repL (q + b) l).take m = (repL b l).take m := by
      rw [Nat.add_comm, repL_add, List.take_append_of_le_length hm]
    rw [e1, repL_add]
    have e2 : q * l.length = (repL q l).length := by rw [repL_len]
    rw [e2, List.take_left, List.take_length_add_append]
theorem elsC_app (a b : List El) : elsC (a ++ b) = elsC a ++ elsC b := by simp [elsC]
theorem spl_take {c : Array Value} {o : Nat} {vs : List Value} (h : o + vs.length ≤ c.size) : (spl c o vs).toList.take (o + vs.length) = c.toList.take o ++ vs := by
  have hl : (c.toList.take o ++ vs).length = o + vs.length := by rw [List.length_append, List.length_take, Array.length_toList]; omega
  show ((c.toList.take o ++ vs) ++ c.toList.drop (o + vs.length)).take (o + vs.length) = _
  rw [← hl, List.take_left]
section
variable {k w : World} {L : List Asn} {R : Ending → World → Prop}
set_option maxRecDepth 100000 in
set_option maxHeartbeats 1000000 in
theorem repeat_any {A : Option Addr} {n c : Nat} {l : List El} (h : St k w (rowA 39 3 (.slice A n c) n (elsC l) :: L)) (hl : l.length = n) (hn : n ≤ 4)
    (hR : ∀ v w', St k w' (rowA 39 3 v (20 * n) (elsC (repL 20 l)) :: L) → R (.returned v) w') : Calls Try.prog 71 #[.slice A n c, .int .i64 20] w R := by
  obtain ⟨N, hN⟩ : ∃ N, n * 20 = N := ⟨_, rfl⟩
  obtain ⟨i, hi, hz, hs, hb⟩ := info_parts' info39
  have hmk := run_make (P := Try.prog) w 46 39 i _ Try.underlying46 hi hz .i64 .i64 (N : Int) (N : Int) (by omega) (by omega) (by rw [hb]; omega) (by omega)
  rw [hs] at hmk
  obtain ⟨Z, hZ⟩ : ∃ Z, madeCells (Value.agg #[.int .i64 0, .int .i32 0, .int .i64 0]).cells ((N : Int).toNat * 3) = Z := ⟨_, rfl⟩
  rw [hZ] at hmk
  simp only [Int.toNat_natCast] at hmk
  have hZs : Z.size = N * 3 := by rw [← hZ, size_madeCells]; simp
  obtain ⟨g, hg⟩ : ∃ g, w.heap.size = g := ⟨_, rfl⟩
  have h1 := h.alloc (.cells Z 39)
  rw [hg] at h1 hmk
  have hx := h1.swap.readsA
  have hml := fun (Q : Ending → World → Prop) => mul_any (R := Q) (w := w) hn
  rw [hN] at hml
  have HML := Lib.hid hml
  have hcl : (elsC l).length = n * 3 := by rw [elsC_len, hl]
  have hcp : ∀ ty, (Builtin.copy_ #[46, 46] ty #[.slice (some ⟨g, 0, none⟩) N N, .slice A n c]).run Try.prog (w.alloc (.cells Z 39)) = .ok (.int .i64 n) ((w.alloc (.cells Z 39)).setRow g (spl Z 0 (elsC l))) := fun ty => by
    have := copy_run (P := Try.prog) (sT := 46) (ty := ty) Try.underlying46 size39 h1.lies 0 N N hx (elsC_one l) (by omega)
    have e : min n N = n := by omega
    rw [e, List.take_of_length_le (by omega)] at this
    rw [this]
    simp [goInt]
  obtain ⟨W1, hW1⟩ : ∃ W, (w.alloc (.cells Z 39)).setRow g (spl Z 0 (elsC l)) = W := ⟨_, rfl⟩
  have h2 : St k W1 (pt g (.cells (spl Z 0 (elsC l)) 39 (0, 0)) :: rowA 39 3 (.slice A n c) n (elsC l) :: L) := by rw [← hW1]; exact h1.setRow
  rw [hW1] at hcp
  have hfit : 0 + (elsC l).length ≤ Z.size := by rw [hcl, hZs]; omega
  have hts := spl_take hfit
  have hsz := spl_size Z 0 (elsC l) hfit
  rw [hZs] at hsz
  rw [hcl, Nat.zero_add] at hts
  simp only [List.take_zero, List.nil_append] at hts
  have HL := Lib.hid hl
  have HR := Lib.hid hR
  have H2 := Lib.hid (And.intro h2 (And.intro hsz hts))
  have hnN : n ≤ N := by omega
  have hN80 : (N : Int) ≤ 80 := by omega
  have HN := Lib.hid hN
  clear h hl hR h1 hx hml hcl hZ hZs hg hi hz hs hb hfit hts hsz h2 hW1 hN
  go_enter Try.func71, Try.ntmps71
  go_wp2_with (go_at_call 87; refine HML.out _ ?_; clear HML)
  clear hmk hcp
  go_loopw [8] (fun s wr => ∃ (j q : Nat) (cur : Array Value), j ≤ N ∧ n ≤ j ∧ s = .int .i64 j ∧ Hid (j = q * l.length) ∧ Hid (St k wr (pt g (.cells cur 39 (0, 0)) :: L) ∧ cur.size = N * 3 ∧ cur.toList.take (j * 3) = elsC ((repL 20 l).take j))) (fun s _ => N - (intOf s).toNat)
  case atStart =>
    refine ⟨n, 1, _, hnN, Nat.le_refl _, rfl, Lib.hid (by rw [HL.out, Nat.one_mul]), Lib.hid ⟨H2.out.1.swap.drop, H2.out.2.1, ?_⟩⟩
    rw [H2.out.2.2]
    have : (repL 20 l).take n = l := by
      rw [show (20 : Nat) = 1 + 19 from rfl, repL_add, List.take_append_of_le_length (by rw [repL_len, HL.out]; omega)]
      have e : repL 1 l = l := by simp [repL]
      rw [e, List.take_of_length_le (by rw [HL.out]; exact Nat.le_refl _)]
    rw [this]
  case round =>
    obtain ⟨j, q, cur, hj, hnj, rfl, HQ, HS⟩ := hrel
    by_cases hlt : j < N
    · obtain ⟨m, hm⟩ : ∃ m, min j (N - j) = m := ⟨_, rfl⟩
      have hjpos : 0 < j := by have := HN.out; omega
      have hmpos : 0 < m := by omega
      have hmj : m ≤ j := by omega
      have hmN : j + m ≤ N := by omega
      have hnx : ∃ q', j + m = q' * l.length := by
        by_cases h3 : j ≤ N - j
        · exact ⟨q + q, by rw [Nat.add_mul, ← HQ.out]; omega⟩
        · exact ⟨20, by have := HN.out; rw [HL.out]; omega⟩
      obtain ⟨q', hq'⟩ := hnx
      have hrep : (repL 20 l).take (j + m) = (repL 20 l).take j ++ (repL 20 l).take m := by
        have := repL_step (k := 20) (l := l) (q := q) (m := m) (by rw [← HQ.out, HL.out]; have := HN.out; omega)
        rwa [← HQ.out] at this
      have hcl : (elsC ((repL 20 l).take m)).length = m * 3 := by
        rw [elsC_len, List.length_take, repL_len, HL.out]; have := HN.out; omega
      obtain ⟨W2, hW2⟩ : ∃ W, wr.drew.setRow g (spl cur (j * 3) (elsC ((repL 20 l).take m))) = W := ⟨_, rfl⟩
      have hcp : ∀ ty, (Builtin.copy_ #[46, 46] ty #[.slice (some ⟨g, j * 3, none⟩) (N - j) (N - j), .slice (some ⟨g, 0, none⟩) j N]).run Try.prog wr.drew = .ok (.int .i64 m) W2 := fun ty => by
        rw [← hW2]
        refine copy_run' (P := Try.prog) (sT := 46) (ty := ty) Try.underlying46 size39 HS.out.1.drew.lies (j * 3) (N - j) (N - j) g 0 j N m (elsC ((repL 20 l).take m)) (by omega) hcl ?_ (elsC_one _) ?_
        · intro t u hu
          rw [blk_cell HS.out.1.drew.lies, Nat.zero_add]
          have e : (elsC ((repL 20 l).take j)).take (m * 3) = elsC ((repL 20 l).take m) := by rw [elsC_take, List.take_take, Nat.min_eq_left hmj]
          have := take_get HS.out.2.2 (take_get e hu)
          rwa [Array.getElem?_toList] at this
        · rw [HS.out.2.1]; omega
      have h6 : St k W2 (pt g (.cells (spl cur (j * 3) (elsC ((repL 20 l).take m))) 39 (0, 0)) :: L) := by rw [← hW2]; exact HS.out.1.drew.setRow
      have hfit : j * 3 + (elsC ((repL 20 l).take m)).length ≤ cur.size := by rw [hcl, HS.out.2.1]; omega
      have hsz := spl_size cur (j * 3) _ hfit
      rw [HS.out.2.1] at hsz
      have hts := spl_take hfit
      rw [hcl, HS.out.2.2, ← Nat.add_mul, ← elsC_app, ← hrep] at hts
      have H6 := Lib.hid (And.intro h6 (And.intro hsz hts))
      have HQ' := Lib.hid hq'
      have b1 : (j : Int) < (N : Int) := by omega
      have b2 : (m : Int) ≤ 80 := by omega
      clear hW2 h6 hfit hsz hts hcl hrep hq' HS HQ hm
      go_wp2
      go_region
      go_wp2
      go_roundw
      case rel => exact ⟨j + m, q', _, hmN, by omega, by go_num, HQ', H6⟩
      case measure => simp [intOf]; omega
    · obtain rfl : j = N := by omega
      have h7 := HS.out.1.shutA (sz := 3) (n := j) (cap := j) (cs := elsC (repL 20 l)) (Nat.le_refl _) (by unfold maxLen; omega) HS.out.2.1 (by
        rw [HS.out.2.2, List.take_of_length_le]
        rw [repL_len, HL.out]; have := HN.out; omega)
      have e : 20 * n = j := by have := HN.out; omega
      rw [e] at HR
      have HX := Lib.hid (HR.out _ _ h7)
      clear h7 HS
      go_wp2
      exact HX.out
end
end Go.Proofs.Ytdgaffcfcgmfnaa
