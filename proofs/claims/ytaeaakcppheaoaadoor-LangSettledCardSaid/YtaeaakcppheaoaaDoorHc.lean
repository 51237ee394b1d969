/- What lattice.Check, slices.Index and slices.Contains of labels, lattice.quota and lattice.Right answer. -/
import Derived.Test.YtaeaakcppheaoaaDoorHb
import Derived.Deep.QuietTactic
import Derived.BigQuiet
import Derived.Laws.StructEq
import Derived.Test.YtaeaakcppheaoaaDoorWEqStruct
namespace Go.Proofs.YtaeaakcppheaoaaDoor
open Go.RowKit Go.Proofs.YtaeaakcppheaoaaDoorW.PrintWords

structure Lab where
  lev : Int
  com : Int
  deriving DecidableEq
structure Quo where
  chars : Int
  ops : Int
  seats : Int
  deriving DecidableEq
structure Ent where
  lab : Int
  sec : ByteArray
  down : Bool
  deriving DecidableEq
structure Pol where
  labels : List Lab
  quotas : List Quo
  entries : List Ent
  deriving DecidableEq
def kLab : Kd Lab := Kd.iso (Kd.pair (Kd.int .i64) (Kd.int .u32)) (fun x : Lab => (x.lev, x.com))
def kQuo : Kd Quo := Kd.iso (Kd.pair (Kd.int .i64) (Kd.pair (Kd.int .i64) (Kd.int .i64))) (fun x : Quo => (x.chars, x.ops, x.seats))
def kEnt : Kd Ent := Kd.iso (Kd.pair (Kd.int .i64) (Kd.pair Kd.string Kd.bool)) (fun x : Ent => (x.lab, x.sec, x.down))
theorem kLab_open {w : World} {x : Lab} {cs : List Value} (h : kLab.K w x cs) : cs = [.int .i64 x.lev, .int .u32 x.com] := by
  obtain ⟨c1, c2, rfl, rfl, rfl⟩ := h
  rfl
theorem kQuo_open {w : World} {x : Quo} {cs : List Value} (h : kQuo.K w x cs) : cs = [.int .i64 x.chars, .int .i64 x.ops, .int .i64 x.seats] := by
  obtain ⟨c1, c2, rfl, rfl, ⟨c3, c4, rfl, rfl, rfl⟩⟩ := h
  rfl
theorem kEnt_open {w : World} {x : Ent} {cs : List Value} (h : kEnt.K w x cs) : cs = [.int .i64 x.lab, .string x.sec, .bool x.down] := by
  obtain ⟨c1, c2, rfl, rfl, ⟨c3, c4, rfl, rfl, rfl⟩⟩ := h
  rfl
theorem kLab_mk (w : World) (base : Nat) (ok : Nat → Prop) (x : Lab) : kLab.M w base ok x [.int .i64 x.lev, .int .u32 x.com] := ⟨[.int .i64 x.lev], [.int .u32 x.com], rfl, rfl, rfl⟩
theorem kQuo_mk (w : World) (base : Nat) (ok : Nat → Prop) (x : Quo) : kQuo.M w base ok x [.int .i64 x.chars, .int .i64 x.ops, .int .i64 x.seats] := ⟨[.int .i64 x.chars], [.int .i64 x.ops, .int .i64 x.seats], rfl, rfl, ⟨[.int .i64 x.ops], [.int .i64 x.seats], rfl, rfl, rfl⟩⟩
theorem kEnt_mk (w : World) (base : Nat) (ok : Nat → Prop) (x : Ent) : kEnt.M w base ok x [.int .i64 x.lab, .string x.sec, .bool x.down] := ⟨[.int .i64 x.lab], [.string x.sec, .bool x.down], rfl, rfl, ⟨[.string x.sec], [.bool x.down], rfl, rfl, rfl⟩⟩
theorem lab_at {w : World} {A : Option Addr} {l : List Lab} (h : Kd.C kLab w A l.length l) (k : Nat) (hk : k < l.length) : ∃ b o, A = some ⟨b, o, none⟩ ∧ w.cell? ⟨b, o + k * 2, none⟩ = some (.int .i64 l[k].lev) ∧ w.cell? ⟨b, o + k * 2 + 1, none⟩ = some (.int .u32 l[k].com) := by
  obtain ⟨b, o, cs, e, hK, hc⟩ := C_at h (by decide) k hk
  obtain rfl := kLab_open hK
  exact ⟨b, o, e, hc 0 _ rfl, hc 1 _ rfl⟩
theorem quo_at {w : World} {A : Option Addr} {l : List Quo} (h : Kd.C kQuo w A l.length l) (k : Nat) (hk : k < l.length) : ∃ b o, A = some ⟨b, o, none⟩ ∧ w.cell? ⟨b, o + k * 3, none⟩ = some (.int .i64 l[k].chars) ∧ w.cell? ⟨b, o + k * 3 + 1, none⟩ = some (.int .i64 l[k].ops) ∧ w.cell? ⟨b, o + k * 3 + 2, none⟩ = some (.int .i64 l[k].seats) := by
  obtain ⟨b, o, cs, e, hK, hc⟩ := C_at h (by decide) k hk
  obtain rfl := kQuo_open hK
  exact ⟨b, o, e, hc 0 _ rfl, hc 1 _ rfl, hc 2 _ rfl⟩
theorem ent_at {w : World} {A : Option Addr} {l : List Ent} (h : Kd.C kEnt w A l.length l) (k : Nat) (hk : k < l.length) : ∃ b o, A = some ⟨b, o, none⟩ ∧ w.cell? ⟨b, o + k * 3, none⟩ = some (.int .i64 l[k].lab) ∧ w.cell? ⟨b, o + k * 3 + 1, none⟩ = some (.string l[k].sec) ∧ w.cell? ⟨b, o + k * 3 + 2, none⟩ = some (.bool l[k].down) := by
  obtain ⟨b, o, cs, e, hK, hc⟩ := C_at h (by decide) k hk
  obtain rfl := kEnt_open hK
  exact ⟨b, o, e, hc 0 _ rfl, hc 1 _ rfl, hc 2 _ rfl⟩

theorem eqLab (d : Nat) (w : World) (x0 y0 : Int) (x1 y1 : Int) :
    (Op.equalIn (d + 2) 66 (.agg #[.int .i64 x0, .int .u32 x1]) (.agg #[.int .i64 y0, .int .u32 y1])).run Tryd.prog w = .ok (x0 == y0 && (x1 == y1)) w := by
  refine eqA_of Tryd.underlying66 (by kernel_rfl) ?_
  refine eqf_cons (by rfl) (by go_simp; rfl) (by go_simp; rfl) (by go_simp) ?_
  exact eqf_last (by rfl) (by go_simp; rfl) (by go_simp; rfl) (by go_simp)
theorem lab_eq (x y : Lab) : (x.lev == y.lev && (x.com == y.com)) = decide (x = y) := by
  obtain ⟨a, b⟩ := x
  obtain ⟨c, d⟩ := y
  rw [Bool.eq_iff_iff]
  simp

def checkN (x : Lab) : Int := if x.lev < 0 ∨ 15 < x.lev then 10 else 0
set_option maxHeartbeats 1000000 in
theorem check_any (x : Lab) (w : World) :
    Calls Tryd.prog 43 #[.agg #[.int .i64 x.lev, .int .u32 x.com]] w fun e w' => e = .returned (.int .i64 (checkN x)) ∧ Below w.heap.size w w' := by
  by_cases h : x.lev < 0 ∨ 15 < x.lev
  · have Hx := Lib.hid (show checkN x = 10 from if_pos h)
    by_cases h0 : x.lev < 0
    all_goals
      go_enter Tryd.func43, Tryd.ntmps43
      go_wp2
      all_goals (first | (go_ret; exact ⟨ret_int Hx.out.symm, (Below.refl _ _).alloc (Nat.le_refl _) _⟩) | (exfalso; omega))
  · have Hx := Lib.hid (show checkN x = 0 from if_neg h)
    have h1 : 0 ≤ x.lev := by omega
    have h2 : x.lev ≤ 15 := by omega
    go_enter Tryd.func43, Tryd.ntmps43
    go_wp2
    all_goals (first | (go_ret; exact ⟨ret_int Hx.out.symm, (Below.refl _ _).alloc (Nat.le_refl _) _⟩) | (exfalso; omega))

section
attribute [local go_sem high] eqLab
set_option maxHeartbeats 1000000 in
theorem index_labs (A : Option Addr) (c : Nat) (l : List Lab) (x : Lab) (w : World) (hr : Kd.C kLab w A l.length l) :
    Calls Tryd.prog 64 #[.slice A l.length c, .agg #[.int .i64 x.lev, .int .u32 x.com]] w fun e w' => e = .returned (.int .i64 (idxI l x)) ∧ Below w.heap.size w w' := by
  have HR := Aside0.mk hr
  have hm := C_max hr
  clear hr
  go_enter Tryd.func64, Tryd.ntmps64
  go_wp2
  go_loopw [8] (fun i wr => ∃ k : Nat, k ≤ l.length ∧ i = .int .i64 k ∧ Aside0 (∀ j, (hj : j < k) → (hl : j < l.length) → l[j] ≠ x) ∧ Aside0 (wr.heap[w.heap.size]? = some (.cells #[.int .i64 x.lev, .int .u32 x.com] 66 (0, 0))) ∧ Aside0 (Below w.heap.size w wr)) (fun i _ => l.length - (intOf i).toNat)
  case atStart => exact ⟨0, Nat.zero_le _, rfl, ⟨fun j hj => absurd hj (Nat.not_lt_zero _)⟩, ⟨blk_new _ _⟩, ⟨(Below.refl _ _).alloc (Nat.le_refl _) _⟩⟩
  case round =>
    obtain ⟨k, hk, rfl, hno, hbx, HB⟩ := hrel
    have hb0 := blk_cell hbx.out 0
    have hb1 := blk_cell hbx.out 1
    by_cases hlt : k < l.length
    · obtain ⟨b, o, rfl, hc0, hc1⟩ := lab_at (Kd.C_below HR.out HB.out) k hlt
      cases he : (x.lev == l[k].lev && (x.com == l[k].com)) with
      | true =>
        have hx := Lib.hid (idxI_hit l x k hlt (of_decide_eq_true ((lab_eq _ _).symm.trans he)).symm (fun j hj => hno.out j hj (by omega)))
        go_wp2
        go_quiet (fail)
        go_wp2
        go_ret
        exact ⟨ret_int hx.out.symm, pw_below_drewN HB.out _⟩
      | false =>
        have hx := Lib.hid (show l[k] ≠ x from fun h => by rw [lab_eq, h, decide_eq_true rfl] at he; exact absurd he (by decide))
        go_wp2
        go_quiet (fail)
        go_wp2
        go_roundw
        case rel => exact ⟨k + 1, by omega, by go_num, ⟨fun j hj hl => by
          by_cases hjk : j = k
          · subst hjk; exact hx.out
          · exact hno.out j (by omega) hl⟩, ⟨blk_drewN hbx.out _⟩, ⟨pw_below_drewN HB.out _⟩⟩
        case measure => simp [intOf]; omega
    · have hx := Lib.hid (idxI_miss l x (fun j hj => hno.out j (by omega) hj))
      go_wp2
      go_ret
      exact ⟨ret_int hx.out.symm, HB.out⟩
end

theorem idxI_ge {α : Type} [DecidableEq α] (l : List α) (x : α) : (0 ≤ idxI l x) ↔ x ∈ l := by
  unfold idxI
  rw [← List.idxOf_lt_length_iff]
  split <;> omega
set_option maxHeartbeats 1000000 in
theorem contains_labs (A : Option Addr) (c : Nat) (l : List Lab) (x : Lab) (w : World) (hr : Kd.C kLab w A l.length l) :
    Calls Tryd.prog 44 #[.slice A l.length c, .agg #[.int .i64 x.lev, .int .u32 x.com]] w fun e w' => e = .returned (.bool (decide (x ∈ l))) ∧ Below w.heap.size w w' := by
  have HR := Aside0.mk hr
  have Hi := Lib.hid (show decide (0 ≤ idxI l x) = decide (x ∈ l) by rw [decide_eq_decide]; exact idxI_ge l x)
  clear hr
  go_enter Tryd.func44, Tryd.ntmps44
  go_wp2_with (go_at_call 64; refine (index_labs _ _ _ _ _ (Kd.C_below HR.out ((Below.refl _ _).alloc (Nat.le_refl _) _))).mono ?_; rintro e w' ⟨rfl, hb⟩)
  go_ret
  exact ⟨ret_bool Hi.out, below_step ((Below.refl _ _).alloc (Nat.le_refl _) _) hb⟩
end Go.Proofs.YtaeaakcppheaoaaDoor
