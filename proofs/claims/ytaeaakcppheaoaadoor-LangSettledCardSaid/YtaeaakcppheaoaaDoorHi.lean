/- A reader of a policy, as it lies in memory. -/
import Derived.Test.YtaeaakcppheaoaaDoorHh
import Derived.Maps.OwnOps
import Derived.Maps.Views
namespace Go.Proofs.YtaeaakcppheaoaaDoor
open Go.RowKit Go.Proofs.YtaeaakcppheaoaaDoorW.PrintWords Go.Maps

theorem info9 : (Tryd.prog.info? 9).map (fun i => (i.zero, i.size, i.bytes)) = some (some (.string ⟨#[]⟩), 1, 16) := by kernel_rfl
theorem info66 : (Tryd.prog.info? 66).map (fun i => (i.zero, i.size, i.bytes)) = some (some (.agg #[(.int .i64 0), (.int .u32 0)]), 2, 16) := by kernel_rfl
theorem info49 : (Tryd.prog.info? 49).map (fun i => (i.zero, i.size, i.bytes)) = some (some (.agg #[(.int .i64 0), (.int .i64 0), (.int .i64 0)]), 3, 24) := by kernel_rfl
theorem info51 : (Tryd.prog.info? 51).map (fun i => (i.zero, i.size, i.bytes)) = some (some (.agg #[(.int .i64 0), .string ⟨#[]⟩, .bool false]), 3, 32) := by kernel_rfl

/-- What a reader has read. -/
structure St where
  names : List ByteArray
  labels : List Lab
  quotas : List Quo
  entries : List Ent
  told : List Bool
def St.pol (s : St) : Pol := ⟨s.labels, s.quotas, s.entries⟩
/-- All lists of labels are of one length. -/
structure St.Fits (s : St) : Prop where
  l : s.labels.length = s.names.length
  q : s.quotas.length = s.names.length
  t : s.told.length = s.names.length
  n : s.names.length ≤ 32
  e : s.entries.length ≤ 8

/-- All but the blocks g, m and those from base on lie as they lay. -/
structure Keep2 (base g m : Nat) (w w' : World) : Prop where
  os : w'.os = w.os
  tape : w'.tape = w.tape
  output : w'.output = w.output
  size : w.heap.size ≤ w'.heap.size
  block : ∀ b, b < base → b ≠ g → b ≠ m → w'.heap[b]? = w.heap[b]?
theorem Keep2.refl (base g m : Nat) (w : World) : Keep2 base g m w w := ⟨rfl, rfl, rfl, Nat.le_refl _, fun _ _ _ _ => rfl⟩
theorem Keep2.trans {base g m : Nat} {w w1 w2 : World} (h : Keep2 base g m w w1) (k : Keep2 base g m w1 w2) : Keep2 base g m w w2 :=
  ⟨k.os.trans h.os, k.tape.trans h.tape, k.output.trans h.output, Nat.le_trans h.size k.size, fun b h1 h2 h3 => (k.block b h1 h2 h3).trans (h.block b h1 h2 h3)⟩
theorem Keep2.below {base g m B : Nat} {w w1 : World} (h : Below B w w1) (hb : base ≤ B) : Keep2 base g m w w1 :=
  ⟨h.os, h.tape, h.output, h.size, fun b h1 _ _ => h.block b (Nat.lt_of_lt_of_le h1 hb)⟩
theorem Keep2.grown {base g m : Nat} {w w1 : World} {row : Option Nat} (h : w.grownBy w1 row) (hs : base ≤ w.heap.size) (hr : ∀ k, row = some k → base ≤ k ∨ k = g ∨ k = m) : Keep2 base g m w w1 :=
  ⟨h.os, h.tape, h.output, h.size, fun b h1 h2 h3 => h.block b (Nat.lt_of_lt_of_le h1 hs) (fun e => by
    rcases hr b e.symm with h | h | h
    · omega
    · exact h2 h
    · exact h3 h)⟩
theorem Keep2.set {base g m : Nat} (w : World) (j : Nat) (v : Value) : Keep2 base g m w (w.setCell ⟨g, j, none⟩ v) :=
  have h : Below 0 w (w.setCell ⟨g, j, none⟩ v) := (Below.refl 0 w).setCell (Nat.zero_le _) v
  ⟨h.os, h.tape, h.output, h.size, fun b _ h2 _ => Below.heap_setCell w ⟨g, j, none⟩ v b h2⟩

/-- 'has the quota of the label i been told?', as the map says it. -/
def MapSays (D : DataW Unit) (told : List Bool) : Prop := ∀ i : Nat, i < 32 → D.atKey (.int .i64 (i : Int)) (.lit (.bool false)) = .lit (.bool (told.getD i false))
/-- A reader behind a pointer: block g; its rows lie from base on, in blocks below N; the map is block m. -/
def Rdr (w : World) (base g m N : Nat) (s : St) : Prop :=
  ∃ vn vl vq ve D n, w.heap[g]? = some (.cells #[vn, vl, vq, ve, .map (some m)] 56 (0, 0)) ∧ Kd.R Kd.string 9 w base (fun k => k < N) vn s.names ∧ Kd.R kLab 66 w base (fun k => k < N) vl s.labels ∧
    Kd.R kQuo 49 w base (fun k => k < N) vq s.quotas ∧ Kd.R kEnt 51 w base (fun k => k < N) ve s.entries ∧ w.ownsMap Tryd.prog 3 (plainElem Tryd.prog 4) m n D ∧ n ≤ s.told.count true ∧ MapSays D s.told
theorem Rdr.below {w w1 : World} {base g m N : Nat} {s : St} (h : Rdr w base g m N s) (hb : Below w.heap.size w w1) : Rdr w1 base g m w1.heap.size s := by
  obtain ⟨vn, vl, vq, ve, D, n, hg, hn, hl, hq, he, hm, hc, hD⟩ := h
  have up : ∀ {α : Type} {d : Kd α} {e : Nat} {v : Value} {xs : List α}, Kd.R d e w base (fun k => k < N) v xs → Kd.R d e w1 base (fun k => k < w1.heap.size) v xs := fun h =>
    Kd.R_mono (Kd.R_bound (Kd.R_below h hb)) (fun k hk => hk.2.2.1)
  exact ⟨vn, vl, vq, ve, D, n, blk_below hg hb, up hn, up hl, up hq, up he, hm.kept (grown_of_below hb none) (by simp), hc, hD⟩
theorem Rdr.keep {w w1 : World} {base g m N : Nat} {s : St} (h : Rdr w base g m N s) (hb : Below w.heap.size w w1) : Rdr w1 base g m N s := by
  obtain ⟨vn, vl, vq, ve, D, n, hg, hn, hl, hq, he, hm, hc, hD⟩ := h
  exact ⟨vn, vl, vq, ve, D, n, blk_below hg hb, Kd.R_below hn hb, Kd.R_below hl hb, Kd.R_below hq hb, Kd.R_below he hb, hm.kept (grown_of_below hb none) (by simp), hc, hD⟩
theorem Rdr.lt {w : World} {base g m N : Nat} {s : St} (h : Rdr w base g m N s) : g < w.heap.size ∧ m < w.heap.size ∧ g ≠ m := by
  obtain ⟨vn, vl, vq, ve, D, n, hg, hn, hl, hq, he, hm, hc, hD⟩ := h
  refine ⟨blk_lt hg, hm.lt, fun e => ?_⟩
  subst e
  obtain ⟨es, cl, hh, _⟩ := hm
  rw [hg] at hh; cases hh

theorem count_snoc_false (l : List Bool) : (l ++ [false]).count true = l.count true := by simp
theorem MapSays.snoc {D : DataW Unit} {told : List Bool} (h : MapSays D told) : MapSays D (told ++ [false]) := by
  intro i hi
  have e : (told ++ [false]).getD i false = told.getD i false := by
    rw [List.getD_eq_getElem?_getD, List.getD_eq_getElem?_getD, List.getElem?_append]
    split
    · rfl
    · rename_i hlt
      rw [List.getElem?_eq_none (l := told) (by omega)]
      cases hj : i - told.length with
      | zero => rfl
      | succ j => rfl
  rw [h i hi, e]
/-- One label more, of which nothing was told. -/
theorem Rdr.told {w : World} {base g m N : Nat} {s : St} (h : Rdr w base g m N s) : Rdr w base g m N { s with told := s.told ++ [false] } := by
  obtain ⟨vn, vl, vq, ve, D, n, hg, hn, hl, hq, he, hm, hc, hD⟩ := h
  exact ⟨vn, vl, vq, ve, D, n, hg, hn, hl, hq, he, hm, by rw [count_snoc_false]; exact hc, hD.snoc⟩

/-- A label's line: the label, if it is one. -/
def labOf4 (x3 : ByteArray) : Option Lab := if numB x3.data.toList = true then some ⟨numV x3.data.toList, 0⟩ else none
def labOf6 (x3 x4 x5 : ByteArray) : Option Lab :=
  if numB x3.data.toList = true ∧ (compsO x5.data.toList).isSome = true ∧ x4 = ofL [99, 111, 109, 112, 115] then some ⟨numV x3.data.toList, (compsO x5.data.toList).getD 0⟩ else none
def labOf (l : List ByteArray) : Option Lab := if l.length = 6 then labOf6 (l.getD 3 (ofL [])) (l.getD 4 (ofL [])) (l.getD 5 (ofL [])) else labOf4 (l.getD 3 (ofL []))
def labelQ (s : St) (x1 : ByteArray) (x : Lab) : Option St :=
  if checkN x = 0 ∧ x ∉ s.labels ∧ s.labels.length < 32 then some ⟨s.names ++ [x1], s.labels ++ [x], s.quotas ++ [⟨4096, 4096, 4096⟩], s.entries, s.told ++ [false]⟩ else none
def labelP (s : St) (l : List ByteArray) : Option St :=
  if (l.length = 4 ∨ l.length = 6) ∧ wordB (l.getD 1 (ofL [])).data.toList = true ∧ l.getD 2 (ofL []) = ofL [108, 101, 118, 101, 108] ∧ idxI s.names (l.getD 1 (ofL [])) < 0 then
    (labOf l).bind (labelQ s (l.getD 1 (ofL [])))
  else none
def errOf (o : Option St) : Int := if o.isSome then 0 else 90
end Go.Proofs.YtaeaakcppheaoaaDoor
