/- What lattice.Check, slices.Index and slices.Contains of labels, and lattice.quota answer. -/
import Derived.Test.YtdgaffcfcgmfnaaRo
import Derived.Deep.QuietTactic
import Derived.BigQuiet
import Derived.WalkKit
import Derived.Laws.StructEq
namespace Go.Proofs.Ytdgaffcfcgmfnaa
open Go.RowKit Go.Sl

theorem below_then {B : Nat} {w w1 w2 : World} (h : Below B w w1) (hB : B ≤ w1.heap.size) (k : Below w1.heap.size w1 w2) : Below B w w2 :=
  h.trans ⟨k.os, k.tape, k.output, k.size, fun i hi => k.block i (Nat.lt_of_lt_of_le hi hB)⟩
theorem below_step {w W w2 : World} (h : Below w.heap.size w W) (k : Below W.heap.size W w2) : Below w.heap.size w w2 := below_then h h.size k
theorem below_drew {B : Nat} {w W : World} (h : Below B w W) : Below B w W.drew := ⟨h.os, h.tape, h.output, h.size, h.block⟩
theorem pw_below_drewN {B : Nat} {w W : World} (h : Below B w W) (n : Nat) : Below B w (W.drewN n) := ⟨h.os, h.tape, h.output, h.size, h.block⟩
theorem pw_cell_below {w w1 : World} (h : Below w.heap.size w w1) {a : Addr} {v : Value} (hc : w.cell? a = some v) : w1.cell? a = some v := (h.cell (World.block_lt_of_cell? w a hc)).trans hc
theorem blk_alloc {w : World} {g : Nat} {o : Obj} (h : w.heap[g]? = some o) (o' : Obj) : (w.alloc o').heap[g]? = some o := (Below.heap_alloc w o' g (blk_lt h)).trans h
theorem blk_drewN {w : World} {g : Nat} {o : Obj} (h : w.heap[g]? = some o) (n : Nat) : (w.drewN n).heap[g]? = some o := h
theorem blk_below {w w1 : World} {g : Nat} {o : Obj} (h : w.heap[g]? = some o) (hb : Below w.heap.size w w1) : w1.heap[g]? = some o := (hb.block g (blk_lt h)).trans h
theorem blk_new (w : World) (o : Obj) : (w.alloc o).heap[w.heap.size]? = some o := heap_alloc_new w o
theorem ret_bool {a b : Bool} (h : a = b) : Ending.returned (.bool a) = .returned (.bool b) := by rw [h]
theorem ret_int {k : IntKind} {a b : Int} (h : a = b) : Ending.returned (.int k a) = .returned (.int k b) := by rw [h]
structure Aside0 (p : Prop) : Prop where mk :: (out : p)
/-- What lies in w lies after a call that wrote nothing of it. -/
theorem st_later {k w w' : World} {L : List Asn} (h : St k w L) (hb : Below w.heap.size w w') : St k w' L := by
  obtain ⟨m, p, a, h1, h2, h3⟩ := h.mem
  exact ⟨hb.os.trans h.os, hb.tape.trans h.tape, hb.output.trans h.output, Nat.le_trans h.size hb.size, m, p, a, fun b o e => blk_below (h1 b o e) hb, fun b o e => blk_below (h2 b o e) hb, h3⟩
/-- The elements xs, of sz cells each, lie in w from A on. -/
structure Row {α : Type} (f : α → List Value) (sz : Nat) (w : World) (A : Option Addr) (xs : List α) : Prop where
  max : xs.length ≤ 9223372036854775807
  at_ : ∀ k x, xs[k]? = some x → ∃ b o, A = some ⟨b, o, none⟩ ∧ ∀ t u, (f x)[t]? = some u → w.cell? ⟨b, o + k * sz + t, none⟩ = some u
theorem Row.below {α : Type} {f : α → List Value} {sz : Nat} {w w' : World} {A : Option Addr} {xs : List α} (h : Row f sz w A xs) (hb : Below w.heap.size w w') : Row f sz w' A xs :=
  ⟨h.max, fun k x hx => let ⟨b, o, e, hc⟩ := h.at_ k x hx; ⟨b, o, e, fun t u hu => pw_cell_below hb (hc t u hu)⟩⟩
theorem Row.take {α : Type} {f : α → List Value} {sz : Nat} {w : World} {A : Option Addr} {xs : List α} (h : Row f sz w A xs) (n : Nat) : Row f sz w A (xs.take n) :=
  ⟨by have := h.max; rw [List.length_take]; omega, fun k x hx => by
    refine h.at_ k x ?_
    rw [List.getElem?_take] at hx
    split at hx
    · exact hx
    · cases hx⟩
theorem Row.of {α : Type} {f : α → List Value} {sz : Nat} {w : World} {A : Option Addr} {n c : Nat} {xs : List α} (hf : ∀ x, (f x).length = sz) (h0 : 0 < sz) (h : Reads w sz (.slice A n c) n (xs.flatMap f)) : Row f sz w A xs := by
  obtain ⟨A', c', hv, h1, h2, h3, h4⟩ := h.at_
  injection hv with e1 e2 e3
  subst e1 e3
  have hl : xs.length * sz = n * sz := by rw [← h.len, flat_len hf]
  have hn : xs.length = n := Nat.eq_of_mul_eq_mul_right h0 hl
  refine ⟨by unfold maxLen at h2; omega, fun k x hx => ?_⟩
  have hk := (List.getElem?_eq_some_iff.1 hx).1
  cases A with
  | none => have := (h3 rfl).1; omega
  | some a =>
    obtain ⟨b, o, s⟩ := a
    obtain ⟨h5, h6⟩ := h4 _ rfl
    simp only at h5 h6
    obtain rfl := h5 (Nat.mul_pos (by omega) h0)
    refine ⟨b, o, rfl, fun t u hu => ?_⟩
    have ht : t < sz := by rw [← hf x]; exact (List.getElem?_eq_some_iff.1 hu).1
    have := h6 (k * sz + t) u (by rw [flat_get hf _ _ _ ht, hx]; exact hu)
    rwa [← Nat.add_assoc] at this
section
variable {P : Program} {d : Nat} {xs ys : Array Value} {f : Field} {fs : List Field} {a b : Value} {r s : Bool} {w : World}
/-- The last field that counts. -/
theorem eqf_last (hn : (f.name == "_") = false) (ha : (part f.type xs f.offset).run P w = .ok a w) (hb : (part f.type ys f.offset).run P w = .ok b w) (he : (Op.equalIn d f.type a b).run P w = .ok r w) : (Op.eqFields d xs ys [f]).run P w = .ok r w := by
  have hn' : f.name ≠ "_" := by simpa using hn
  simp only [Op.eqFields, if_pos hn', Sem.run_bind, ha, hb, he, Result.andThen_ok]
  cases r <;> simp
theorem eqf_cons (hn : (f.name == "_") = false) (ha : (part f.type xs f.offset).run P w = .ok a w) (hb : (part f.type ys f.offset).run P w = .ok b w) (he : (Op.equalIn d f.type a b).run P w = .ok r w) (hr : (Op.eqFields d xs ys fs).run P w = .ok s w) : (Op.eqFields d xs ys (f :: fs)).run P w = .ok (r && s) w := by
  have hn' : f.name ≠ "_" := by simpa using hn
  rw [Op.eqFields]
  simp only [if_pos hn', Sem.run_bind, ha, hb, he, Result.andThen_ok]
  cases r
  · simp
  · simpa using hr
/-- The last that counts, behind it such as_ don't. -/
theorem eqf_end (hn : (f.name == "_") = false) (ha : (part f.type xs f.offset).run P w = .ok a w) (hb : (part f.type ys f.offset).run P w = .ok b w) (he : (Op.equalIn d f.type a b).run P w = .ok r w) (hr : (Op.eqFields d xs ys fs).run P w = .ok true w) : (Op.eqFields d xs ys (f :: fs)).run P w = .ok r w := by
  have h := eqf_cons hn ha hb he hr
  rwa [Bool.and_true] at h
/-- A field named _ doesn't count. -/
theorem eqf_skip (hn : (f.name == "_") = true) (hr : (Op.eqFields d xs ys fs).run P w = .ok s w) : (Op.eqFields d xs ys (f :: fs)).run P w = .ok s w := by
  have hn' : ¬ (f.name ≠ "_") := by simpa using hn
  rw [Op.eqFields, if_neg hn']
  exact hr
theorem eqf_nil : (Op.eqFields d xs ys []).run P w = .ok true w := by simp [Op.eqFields]
theorem eqA_of {t : TypeId} {fs : Array Field} (hu : P.underlying t = some (.struct fs)) (hp : P.stoodInHeld t = false) (h : (Op.eqFields d xs ys fs.toList).run P w = .ok r w) : (Op.equalIn (d + 1) t (.agg xs) (.agg ys)).run P w = .ok r w := by
  have hf : P.fieldsOf t = fs := by simp [Program.fieldsOf, hu]
  rw [run_equalIn_struct (P := P) w d t xs ys (by rw [hf]; exact hu) hp, hf]
  exact h
end
def idxI {α : Type} [DecidableEq α] (l : List α) (x : α) : Int := if l.idxOf x < l.length then (l.idxOf x : Int) else -1
theorem idxI_hit {α : Type} [DecidableEq α] (l : List α) (x : α) (k : Nat) (h : k < l.length) (he : l[k] = x) (hn : ∀ j, (hj : j < k) → l[j]'(by omega) ≠ x) : idxI l x = k := by
  have h1 : l.idxOf x = k := by
    have h2 := List.idxOf_lt_length_of_mem (show x ∈ l from he ▸ List.getElem_mem h)
    have h3 : l[l.idxOf x] = x := List.getElem_idxOf h2
    rcases Nat.lt_trichotomy (l.idxOf x) k with hlt | heq | hgt
    · exact absurd h3 (hn _ hlt)
    · exact heq
    · exact absurd he (List.not_of_lt_findIdx hgt |> fun hh => by simpa using hh)
  unfold idxI
  rw [h1, if_pos h]
theorem idxI_miss {α : Type} [DecidableEq α] (l : List α) (x : α) (hn : ∀ j, (hj : j < l.length) → l[j] ≠ x) : idxI l x = -1 := by
  unfold idxI
  rw [if_neg]
  intro h
  exact hn _ h (List.getElem_idxOf h)

theorem rd_getElem {α : Type} (l : List α) (z : α) (k : Nat) (h : k < l.length) : l.getD k z = l[k] := by simp [List.getD, h]

theorem cell_plain {w : World} {ad : Addr} {m : Nat} {u : Value} (h : w.cell? (ad.add m) = some u) : (ad.add m) = ⟨ad.block, ad.off + m, none⟩ := by
  have hs : (ad.add m).spot = none := World.cell?_spot h
  unfold Addr.add at hs ⊢
  split
  · rename_i h0
    rw [if_pos h0] at hs
    obtain ⟨b, o, sp⟩ := ad
    subst h0
    simp only at hs
    rw [hs]; rfl
  · rfl
structure Lab where
  lev : Int
  com : Int
  deriving DecidableEq
structure Quo where
  chars : Int
  ops : Int
  seats : Int
  deriving DecidableEq
structure Ent where
  lab : Int
  sec : ByteArray
  down : Bool
  deriving DecidableEq
structure PV where
  labels : List Lab
  quotas : List Quo
  entries : List Ent
  deriving DecidableEq
def labC (x : Lab) : List Value := [.int .i64 x.lev, .int .u32 x.com]
def quoC (x : Quo) : List Value := [.int .i64 x.chars, .int .i64 x.ops, .int .i64 x.seats]
def entC (x : Ent) : List Value := [.int .i64 x.lab, .string x.sec, .bool x.down]
abbrev CL := Row labC 2
abbrev CQ := Row quoC 3
abbrev CE := Row entC 3
theorem lab_at {w : World} {A : Option Addr} {l : List Lab} (h : CL w A l) (k : Nat) (hk : k < l.length) : ∃ b o, A = some ⟨b, o, none⟩ ∧ w.cell? ⟨b, o + k * 2, none⟩ = some (.int .i64 l[k].lev) ∧ w.cell? ⟨b, o + k * 2 + 1, none⟩ = some (.int .u32 l[k].com) := by
  obtain ⟨b, o, e, hc⟩ := h.at_ k _ (List.getElem?_eq_getElem hk)
  exact ⟨b, o, e, hc 0 _ rfl, hc 1 _ rfl⟩
theorem quo_at {w : World} {A : Option Addr} {l : List Quo} (h : CQ w A l) (k : Nat) (hk : k < l.length) : ∃ b o, A = some ⟨b, o, none⟩ ∧ w.cell? ⟨b, o + k * 3, none⟩ = some (.int .i64 l[k].chars) ∧ w.cell? ⟨b, o + k * 3 + 1, none⟩ = some (.int .i64 l[k].ops) ∧ w.cell? ⟨b, o + k * 3 + 2, none⟩ = some (.int .i64 l[k].seats) := by
  obtain ⟨b, o, e, hc⟩ := h.at_ k _ (List.getElem?_eq_getElem hk)
  exact ⟨b, o, e, hc 0 _ rfl, hc 1 _ rfl, hc 2 _ rfl⟩
theorem ent_at {w : World} {A : Option Addr} {l : List Ent} (h : CE w A l) (k : Nat) (hk : k < l.length) : ∃ b o, A = some ⟨b, o, none⟩ ∧ w.cell? ⟨b, o + k * 3, none⟩ = some (.int .i64 l[k].lab) ∧ w.cell? ⟨b, o + k * 3 + 1, none⟩ = some (.string l[k].sec) ∧ w.cell? ⟨b, o + k * 3 + 2, none⟩ = some (.bool l[k].down) := by
  obtain ⟨b, o, e, hc⟩ := h.at_ k _ (List.getElem?_eq_getElem hk)
  exact ⟨b, o, e, hc 0 _ rfl, hc 1 _ rfl, hc 2 _ rfl⟩

theorem eqLab (d : Nat) (w : World) (x0 y0 : Int) (x1 y1 : Int) :
    (Op.equalIn (d + 2) 93 (.agg #[.int .i64 x0, .int .u32 x1]) (.agg #[.int .i64 y0, .int .u32 y1])).run Try.prog w = .ok (x0 == y0 && (x1 == y1)) w := by
  refine eqA_of Try.underlying93 (by kernel_rfl) ?_
  refine eqf_cons (by rfl) (by go_simp; rfl) (by go_simp; rfl) (by go_simp) ?_
  exact eqf_last (by rfl) (by go_simp; rfl) (by go_simp; rfl) (by go_simp)
theorem lab_eq (x y : Lab) : (x.lev == y.lev && (x.com == y.com)) = decide (x = y) := by
  obtain ⟨a, b⟩ := x
  obtain ⟨c, d⟩ := y
  rw [Bool.eq_iff_iff]
  simp

def checkN (x : Lab) : Int := if x.lev < 0 ∨ 15 < x.lev then 10 else 0
set_option maxHeartbeats 1000000 in
theorem check_any (x : Lab) (w : World) :
    Calls Try.prog 51 #[.agg #[.int .i64 x.lev, .int .u32 x.com]] w fun e w' => e = .returned (.int .i64 (checkN x)) ∧ Below w.heap.size w w' := by
  by_cases h : x.lev < 0 ∨ 15 < x.lev
  · have Hx := Lib.hid (show checkN x = 10 from if_pos h)
    by_cases h0 : x.lev < 0
    all_goals
      go_enter Try.func51, Try.ntmps51
      go_wp2
      all_goals (first | (go_ret; exact ⟨ret_int Hx.out.symm, (Below.refl _ _).alloc (Nat.le_refl _) _⟩) | (exfalso; omega))
  · have Hx := Lib.hid (show checkN x = 0 from if_neg h)
    have h1 : 0 ≤ x.lev := by omega
    have h2 : x.lev ≤ 15 := by omega
    go_enter Try.func51, Try.ntmps51
    go_wp2
    all_goals (first | (go_ret; exact ⟨ret_int Hx.out.symm, (Below.refl _ _).alloc (Nat.le_refl _) _⟩) | (exfalso; omega))

section
attribute [local go_sem high] eqLab
set_option maxHeartbeats 1000000 in
theorem index_labs (A : Option Addr) (c : Nat) (l : List Lab) (x : Lab) (w : World) (hr : CL w A l) :
    Calls Try.prog 77 #[.slice A l.length c, .agg #[.int .i64 x.lev, .int .u32 x.com]] w fun e w' => e = .returned (.int .i64 (idxI l x)) ∧ Below w.heap.size w w' := by
  have HR := Aside0.mk hr
  have hm := hr.max
  clear hr
  go_enter Try.func77, Try.ntmps77
  go_wp2
  go_loopw [8] (fun i wr => ∃ k : Nat, k ≤ l.length ∧ i = .int .i64 k ∧ Aside0 (∀ j, (hj : j < k) → (hl : j < l.length) → l[j] ≠ x) ∧ Aside0 (wr.heap[w.heap.size]? = some (.cells #[.int .i64 x.lev, .int .u32 x.com] 93 (0, 0))) ∧ Aside0 (Below w.heap.size w wr)) (fun i _ => l.length - (intOf i).toNat)
  case atStart => exact ⟨0, Nat.zero_le _, rfl, ⟨fun j hj => absurd hj (Nat.not_lt_zero _)⟩, ⟨blk_new _ _⟩, ⟨(Below.refl _ _).alloc (Nat.le_refl _) _⟩⟩
  case round =>
    obtain ⟨k, hk, rfl, hno, hbx, HB⟩ := hrel
    have hb0 := blk_cell hbx.out 0
    have hb1 := blk_cell hbx.out 1
    by_cases hlt : k < l.length
    · obtain ⟨b, o, rfl, hc0, hc1⟩ := lab_at (Row.below HR.out HB.out) k hlt
      cases he : (x.lev == l[k].lev && (x.com == l[k].com)) with
      | true =>
        have hx := Lib.hid (idxI_hit l x k hlt (of_decide_eq_true ((lab_eq _ _).symm.trans he)).symm (fun j hj => hno.out j hj (by omega)))
        go_wp2
        go_quiet (fail)
        go_wp2
        go_ret
        exact ⟨ret_int hx.out.symm, pw_below_drewN HB.out _⟩
      | false =>
        have hx := Lib.hid (show l[k] ≠ x from fun h => by rw [lab_eq, h, decide_eq_true rfl] at he; exact absurd he (by decide))
        go_wp2
        go_quiet (fail)
        go_wp2
        go_roundw
        case rel => exact ⟨k + 1, by omega, by go_num, ⟨fun j hj hl => by
          by_cases hjk : j = k
          · subst hjk; exact hx.out
          · exact hno.out j (by omega) hl⟩, ⟨blk_drewN hbx.out _⟩, ⟨pw_below_drewN HB.out _⟩⟩
        case measure => simp [intOf]; omega
    · have hx := Lib.hid (idxI_miss l x (fun j hj => hno.out j (by omega) hj))
      go_wp2
      go_ret
      exact ⟨ret_int hx.out.symm, HB.out⟩
end

theorem idxI_ge {α : Type} [DecidableEq α] (l : List α) (x : α) : (0 ≤ idxI l x) ↔ x ∈ l := by
  unfold idxI
  rw [← List.idxOf_lt_length_iff]
  split <;> omega
set_option maxHeartbeats 1000000 in
theorem contains_labs (A : Option Addr) (c : Nat) (l : List Lab) (x : Lab) (w : World) (hr : CL w A l) :
    Calls Try.prog 52 #[.slice A l.length c, .agg #[.int .i64 x.lev, .int .u32 x.com]] w fun e w' => e = .returned (.bool (decide (x ∈ l))) ∧ Below w.heap.size w w' := by
  have HR := Aside0.mk hr
  have Hi := Lib.hid (show decide (0 ≤ idxI l x) = decide (x ∈ l) by rw [decide_eq_decide]; exact idxI_ge l x)
  clear hr
  go_enter Try.func52, Try.ntmps52
  go_wp2_with (go_at_call 77; refine (index_labs _ _ _ _ _ (Row.below HR.out ((Below.refl _ _).alloc (Nat.le_refl _) _))).mono ?_; rintro e w' ⟨rfl, hb⟩)
  go_ret
  exact ⟨ret_bool Hi.out, below_step ((Below.refl _ _).alloc (Nat.le_refl _) _) hb⟩
theorem blk_new_at {w : World} {n : Nat} (h : n = w.heap.size) (o : Obj) : (w.alloc o).heap[n]? = some o := h ▸ blk_new w o

def okN (n : Int) : Bool := decide (0 ≤ n) && decide (n ≤ 4096)
def quotaB (q : Quo) : Bool := okN q.chars && okN q.ops && okN q.seats

set_option maxHeartbeats 1000000 in
theorem quota_any (q : Quo) (w : World) :
    Calls Try.prog 53 #[.agg #[.int .i64 q.chars, .int .i64 q.ops, .int .i64 q.seats]] w fun e w' => e = .returned (.bool (quotaB q)) ∧ Below w.heap.size w w' := by
  go_enter Try.func53, Try.ntmps53
  go_wp2
  go_loopw [13] (fun i wr => ∃ k : Nat, k ≤ 3 ∧ i = .int .i64 k ∧ Aside0 (([q.chars, q.ops, q.seats].take k).all okN = true) ∧ Aside0 (wr.heap[w.heap.size + 1]? = some (.cells #[.int .i64 q.chars, .int .i64 q.ops, .int .i64 q.seats] 3 (0, 0))) ∧ Aside0 (Below w.heap.size w wr)) (fun i _ => 3 - (intOf i).toNat)
  case atStart => exact ⟨0, by omega, rfl, ⟨rfl⟩, ⟨blk_new_at (by simp) _⟩, ⟨((Below.refl _ _).alloc (Nat.le_refl _) _).alloc (by simp) _⟩⟩
  case round =>
    obtain ⟨k, hk, rfl, ha, hbx, HB⟩ := hrel
    by_cases hlt : k < 3
    · obtain ⟨x, hx⟩ : ∃ x, [q.chars, q.ops, q.seats][k]? = some x := ⟨_, List.getElem?_eq_getElem (by simpa using hlt)⟩
      have hc : wr.cell? ⟨w.heap.size + 1, k, none⟩ = some (.int .i64 x) := by
        rw [blk_cell hbx.out]
        have : (#[Value.int .i64 q.chars, Value.int .i64 q.ops, Value.int .i64 q.seats] : Array Value) = (([q.chars, q.ops, q.seats].map (Value.int .i64))).toArray := rfl
        rw [this, List.getElem?_toArray, List.getElem?_map, hx]; rfl
      cases hok : okN x with
      | true =>
        have hs : ([q.chars, q.ops, q.seats].take (k + 1)).all okN = true := by
          rw [List.take_add_one, hx, List.all_append, ha.out]
          simpa using hok
        have Hs := Lib.hid hs
        have hb := hok
        simp only [okN, Bool.and_eq_true, decide_eq_true_eq] at hb
        obtain ⟨hb1, hb2⟩ := hb
        clear hs hok hx
        go_wp2
        go_roundw
        case rel => exact ⟨k + 1, by omega, by go_num, ⟨Hs.out⟩, hbx, HB⟩
        case measure => simp [intOf]; omega
      | false =>
        have hs : quotaB q = false := by
          have : ([q.chars, q.ops, q.seats]).all okN = false := by
            rw [List.all_eq_false]
            exact ⟨x, List.mem_of_getElem? hx, by rw [hok]; decide⟩
          unfold quotaB
          simpa [Bool.and_assoc] using this
        have Hs := Lib.hid hs
        have hb : x < 0 ∨ 4096 < x := by
          simp only [okN, Bool.and_eq_false_iff, decide_eq_false_iff_not] at hok
          omega
        clear hs hok hx
        rcases hb with hb | hb
        all_goals
          go_wp2
          all_goals (first | (exfalso; omega) | (go_ret; exact ⟨ret_bool Hs.out.symm, HB.out⟩))
    · have hx : quotaB q = true := by
        have := ha.out
        rw [List.take_of_length_le (by simp; omega)] at this
        unfold quotaB
        simpa [Bool.and_assoc] using this
      have Hx := Lib.hid hx
      clear hx
      go_wp2
      go_ret
      exact ⟨ret_bool Hx.out.symm, HB.out⟩
end Go.Proofs.Ytdgaffcfcgmfnaa
