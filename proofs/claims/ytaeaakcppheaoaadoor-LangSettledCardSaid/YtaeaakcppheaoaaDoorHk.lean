/- How a reader's lists grow by one. -/
import Derived.Test.YtaeaakcppheaoaaDoorHi
namespace Go.Proofs.YtaeaakcppheaoaaDoor
open Go.RowKit Go.Proofs.YtaeaakcppheaoaaDoorW.PrintWords Go.Maps

theorem R_other {α β : Type} {d : Kd α} {d' : Kd β} {e e' base base' : Nat} {ok ok' : Nat → Prop} {w : World} {v v' : Value} {xs : List α} {xs' : List β} (h : Kd.R d e w base ok v xs) (h' : Kd.R d' e' w base' ok' v' xs') (hE : ∀ q, q ∈ e :: d.E → q ≠ e') :
    Kd.R d e w base (fun k => ok k ∧ some k ≠ v'.ownBlock) v xs := by
  obtain ⟨inner, hown⟩ := Kd.R_own h'
  cases hb : v'.ownBlock with
  | none => exact Kd.R_mono h (fun k hk => ⟨hk, by simp⟩)
  | some g =>
    obtain ⟨cells, hc⟩ := own_typed hown g hb
    exact Kd.R_mono (Kd.R_types h hc hE) (fun k hk => ⟨hk.1, by intro e; injection e with e; exact hk.2 e⟩)
/-- A row of another element type, over an append (and the box that it lays) and a store into the reader. -/
theorem R_over {α β : Type} {d : Kd α} {d' : Kd β} {e e' base N : Nat} {w w1 : World} {v v' : Value} {xs : List α} {xs' : List β} {o : Obj} {g t j : Nat} {cs : Array Value} {u : Value}
    (h : Kd.R d e w base (fun k => k < N) v xs) (h' : Kd.R d' e' w base (fun _ => True) v' xs') (hE : ∀ q, q ∈ e :: d.E → q ≠ e') (hg : w.heap[g]? = some (.cells cs t (0, 0))) (ht : ∀ q, q ∈ e :: d.E → q ≠ t)
    (hgrow : (w.alloc o).grownBy w1 v'.ownBlock) : Kd.R d e (w1.setCell ⟨g, j, none⟩ u) base (fun k => k < (w1.setCell ⟨g, j, none⟩ u).heap.size) v xs := by
  have h1 := Kd.R_types (R_other h h' hE) hg ht
  have h2 := Kd.R_grown (Kd.R_alloc h1 o) hgrow (fun k hk => hk.1.2)
  have h3 := Kd.R_far h2 (p := ⟨g, j, none⟩) (fun k hk => hk.2) u
  exact Kd.R_mono (Kd.R_bound h3) (fun k hk => hk.2.2.1)
theorem R_self {α : Type} {d : Kd α} {e base : Nat} {w1 : World} {v : Value} {xs : List α} {g t j : Nat} {cs : Array Value} {u : Value}
    (h : Kd.R d e w1 base (fun _ => True) v xs) (hg : w1.heap[g]? = some (.cells cs t (0, 0))) (ht : ∀ q, q ∈ e :: d.E → q ≠ t) : Kd.R d e (w1.setCell ⟨g, j, none⟩ u) base (fun k => k < (w1.setCell ⟨g, j, none⟩ u).heap.size) v xs := by
  have h1 := Kd.R_types h hg ht
  have h3 := Kd.R_far h1 (p := ⟨g, j, none⟩) (fun k hk => hk.2) u
  exact Kd.R_mono (Kd.R_bound h3) (fun k hk => hk.2.2.1)
/-- A reader's names, grown by one. -/
theorem rdr_put_names {w w1 : World} {base g m N : Nat} {s : St} {x : ByteArray} {vn vl vq ve v1 : Value} {D : DataW Unit} {n : Nat} {o : Obj}
    (hg : w.heap[g]? = some (.cells #[vn, vl, vq, ve, .map (some m)] 56 (0, 0))) (hn : Kd.R Kd.string 9 w base (fun k => k < N) vn s.names) (hl : Kd.R kLab 66 w base (fun k => k < N) vl s.labels)
    (hq : Kd.R kQuo 49 w base (fun k => k < N) vq s.quotas) (he : Kd.R kEnt 51 w base (fun k => k < N) ve s.entries) (hm : w.ownsMap Tryd.prog 3 (plainElem Tryd.prog 4) m n D) (hc : n ≤ s.told.count true) (hD : MapSays D s.told)
    (hR1 : Kd.R Kd.string 9 w1 base (fun _ => True) v1 (s.names ++ [x])) (hgrow : (w.alloc o).grownBy w1 vn.ownBlock) (hbase : base ≤ w.heap.size) :
    Rdr (w1.setCell ⟨g, 0, none⟩ v1) base g m (w1.setCell ⟨g, 0, none⟩ v1).heap.size { s with names := s.names ++ [x] } ∧ Keep2 base g m w (w1.setCell ⟨g, 0, none⟩ v1) ∧
      (∀ (b : Nat) (C : Array Value), w.heap[b]? = some (.cells C 66 (0, 0)) →  w1.heap[b]? = some (.cells C 66 (0, 0)) ∧ (w1.setCell ⟨g, 0, none⟩ v1).heap[b]? = some (.cells C 66 (0, 0))) := by
  have hgn : some g ≠ vn.ownBlock := Kd.R_ne hn hg (by decide)
  have hg1 : w1.heap[g]? = some (.cells #[vn, vl, vq, ve, .map (some m)] 56 (0, 0)) := blk_grown (blk_alloc hg o) hgrow hgn
  have hmn : some m ≠ vn.ownBlock := by
    intro e
    obtain ⟨inner, hown⟩ := Kd.R_own hn
    obtain ⟨cells, hcc⟩ := own_typed hown m e.symm
    obtain ⟨es, cl, hh, _⟩ := hm
    rw [hcc] at hh; cases hh
  have hgm : some m ≠ some g := by
    intro e
    injection e with e
    subst e
    obtain ⟨es, cl, hh, _⟩ := hm
    rw [hg] at hh; cases hh
  have hset : w1.grownBy (w1.setCell ⟨g, 0, none⟩ v1) (some g) := by
    have h : Below 0 w1 (w1.setCell ⟨g, 0, none⟩ v1) := (Below.refl 0 w1).setCell (Nat.zero_le _) v1
    exact ⟨h.os, h.tape, h.output, h.size, fun k _ hk => Below.heap_setCell w1 ⟨g, 0, none⟩ v1 k (fun e => hk (by rw [e]))⟩
  refine ⟨⟨v1, vl, vq, ve, D, n, blk_put hg1 0 v1 rfl, R_self hR1 hg1 (by decide), R_over hl (Kd.R_mono hn (fun _ _ => trivial)) (by decide) hg (by decide) hgrow, R_over hq (Kd.R_mono hn (fun _ _ => trivial)) (by decide) hg (by decide) hgrow, R_over he (Kd.R_mono hn (fun _ _ => trivial)) (by decide) hg (by decide) hgrow, ((hm.alloc o).kept hgrow hmn).kept hset hgm, hc, hD⟩, ?_, fun b C hb => ?_⟩
  · refine (Keep2.below (B := w.heap.size) ((Below.refl _ _).alloc (Nat.le_refl _) o) hbase).trans ((Keep2.grown hgrow (by simp; omega) (fun k hk => .inl ?_)).trans (Keep2.set w1 0 v1))
    obtain ⟨inner, hown⟩ := Kd.R_own hn
    exact own_base hown k hk
  · have hbn : some b ≠ vn.ownBlock := Kd.R_ne hn hb (by decide)
    have hb1 := blk_grown (blk_alloc hb o) hgrow hbn
    exact ⟨hb1, blk_far hb1 (blk_ne hb hg (by decide)) v1⟩
/-- A reader's labels, grown by one. -/
theorem rdr_put_labels {w w1 : World} {base g m N : Nat} {s : St} {x : Lab} {vn vl vq ve v1 : Value} {D : DataW Unit} {n : Nat} {o : Obj}
    (hg : w.heap[g]? = some (.cells #[vn, vl, vq, ve, .map (some m)] 56 (0, 0))) (hn : Kd.R Kd.string 9 w base (fun k => k < N) vn s.names) (hl : Kd.R kLab 66 w base (fun k => k < N) vl s.labels)
    (hq : Kd.R kQuo 49 w base (fun k => k < N) vq s.quotas) (he : Kd.R kEnt 51 w base (fun k => k < N) ve s.entries) (hm : w.ownsMap Tryd.prog 3 (plainElem Tryd.prog 4) m n D) (hc : n ≤ s.told.count true) (hD : MapSays D s.told)
    (hR1 : Kd.R kLab 66 w1 base (fun _ => True) v1 (s.labels ++ [x])) (hgrow : (w.alloc o).grownBy w1 vl.ownBlock) (hbase : base ≤ w.heap.size) :
    Rdr (w1.setCell ⟨g, 1, none⟩ v1) base g m (w1.setCell ⟨g, 1, none⟩ v1).heap.size { s with labels := s.labels ++ [x] } ∧ Keep2 base g m w (w1.setCell ⟨g, 1, none⟩ v1) ∧
      (∀ (b : Nat) (C : Array Value), w.heap[b]? = some (.cells C 66 (0, 0)) → some b ≠ vl.ownBlock → w1.heap[b]? = some (.cells C 66 (0, 0)) ∧ (w1.setCell ⟨g, 1, none⟩ v1).heap[b]? = some (.cells C 66 (0, 0))) := by
  have hgn : some g ≠ vl.ownBlock := Kd.R_ne hl hg (by decide)
  have hg1 : w1.heap[g]? = some (.cells #[vn, vl, vq, ve, .map (some m)] 56 (0, 0)) := blk_grown (blk_alloc hg o) hgrow hgn
  have hmn : some m ≠ vl.ownBlock := by
    intro e
    obtain ⟨inner, hown⟩ := Kd.R_own hl
    obtain ⟨cells, hcc⟩ := own_typed hown m e.symm
    obtain ⟨es, cl, hh, _⟩ := hm
    rw [hcc] at hh; cases hh
  have hgm : some m ≠ some g := by
    intro e
    injection e with e
    subst e
    obtain ⟨es, cl, hh, _⟩ := hm
    rw [hg] at hh; cases hh
  have hset : w1.grownBy (w1.setCell ⟨g, 1, none⟩ v1) (some g) := by
    have h : Below 0 w1 (w1.setCell ⟨g, 1, none⟩ v1) := (Below.refl 0 w1).setCell (Nat.zero_le _) v1
    exact ⟨h.os, h.tape, h.output, h.size, fun k _ hk => Below.heap_setCell w1 ⟨g, 1, none⟩ v1 k (fun e => hk (by rw [e]))⟩
  refine ⟨⟨vn, v1, vq, ve, D, n, blk_put hg1 1 v1 rfl, R_over hn (Kd.R_mono hl (fun _ _ => trivial)) (by decide) hg (by decide) hgrow, R_self hR1 hg1 (by decide), R_over hq (Kd.R_mono hl (fun _ _ => trivial)) (by decide) hg (by decide) hgrow, R_over he (Kd.R_mono hl (fun _ _ => trivial)) (by decide) hg (by decide) hgrow, ((hm.alloc o).kept hgrow hmn).kept hset hgm, hc, hD⟩, ?_, fun b C hb hb2 => ?_⟩
  · refine (Keep2.below (B := w.heap.size) ((Below.refl _ _).alloc (Nat.le_refl _) o) hbase).trans ((Keep2.grown hgrow (by simp; omega) (fun k hk => .inl ?_)).trans (Keep2.set w1 1 v1))
    obtain ⟨inner, hown⟩ := Kd.R_own hl
    exact own_base hown k hk
  · have hbn : some b ≠ vl.ownBlock := hb2
    have hb1 := blk_grown (blk_alloc hb o) hgrow hbn
    exact ⟨hb1, blk_far hb1 (blk_ne hb hg (by decide)) v1⟩
/-- A reader's quotas, grown by one. -/
theorem rdr_put_quotas {w w1 : World} {base g m N : Nat} {s : St} {x : Quo} {vn vl vq ve v1 : Value} {D : DataW Unit} {n : Nat} {o : Obj}
    (hg : w.heap[g]? = some (.cells #[vn, vl, vq, ve, .map (some m)] 56 (0, 0))) (hn : Kd.R Kd.string 9 w base (fun k => k < N) vn s.names) (hl : Kd.R kLab 66 w base (fun k => k < N) vl s.labels)
    (hq : Kd.R kQuo 49 w base (fun k => k < N) vq s.quotas) (he : Kd.R kEnt 51 w base (fun k => k < N) ve s.entries) (hm : w.ownsMap Tryd.prog 3 (plainElem Tryd.prog 4) m n D) (hc : n ≤ s.told.count true) (hD : MapSays D s.told)
    (hR1 : Kd.R kQuo 49 w1 base (fun _ => True) v1 (s.quotas ++ [x])) (hgrow : (w.alloc o).grownBy w1 vq.ownBlock) (hbase : base ≤ w.heap.size) :
    Rdr (w1.setCell ⟨g, 2, none⟩ v1) base g m (w1.setCell ⟨g, 2, none⟩ v1).heap.size { s with quotas := s.quotas ++ [x] } ∧ Keep2 base g m w (w1.setCell ⟨g, 2, none⟩ v1) ∧
      (∀ (b : Nat) (C : Array Value), w.heap[b]? = some (.cells C 66 (0, 0)) →  w1.heap[b]? = some (.cells C 66 (0, 0)) ∧ (w1.setCell ⟨g, 2, none⟩ v1).heap[b]? = some (.cells C 66 (0, 0))) := by
  have hgn : some g ≠ vq.ownBlock := Kd.R_ne hq hg (by decide)
  have hg1 : w1.heap[g]? = some (.cells #[vn, vl, vq, ve, .map (some m)] 56 (0, 0)) := blk_grown (blk_alloc hg o) hgrow hgn
  have hmn : some m ≠ vq.ownBlock := by
    intro e
    obtain ⟨inner, hown⟩ := Kd.R_own hq
    obtain ⟨cells, hcc⟩ := own_typed hown m e.symm
    obtain ⟨es, cl, hh, _⟩ := hm
    rw [hcc] at hh; cases hh
  have hgm : some m ≠ some g := by
    intro e
    injection e with e
    subst e
    obtain ⟨es, cl, hh, _⟩ := hm
    rw [hg] at hh; cases hh
  have hset : w1.grownBy (w1.setCell ⟨g, 2, none⟩ v1) (some g) := by
    have h : Below 0 w1 (w1.setCell ⟨g, 2, none⟩ v1) := (Below.refl 0 w1).setCell (Nat.zero_le _) v1
    exact ⟨h.os, h.tape, h.output, h.size, fun k _ hk => Below.heap_setCell w1 ⟨g, 2, none⟩ v1 k (fun e => hk (by rw [e]))⟩
  refine ⟨⟨vn, vl, v1, ve, D, n, blk_put hg1 2 v1 rfl, R_over hn (Kd.R_mono hq (fun _ _ => trivial)) (by decide) hg (by decide) hgrow, R_over hl (Kd.R_mono hq (fun _ _ => trivial)) (by decide) hg (by decide) hgrow, R_self hR1 hg1 (by decide), R_over he (Kd.R_mono hq (fun _ _ => trivial)) (by decide) hg (by decide) hgrow, ((hm.alloc o).kept hgrow hmn).kept hset hgm, hc, hD⟩, ?_, fun b C hb => ?_⟩
  · refine (Keep2.below (B := w.heap.size) ((Below.refl _ _).alloc (Nat.le_refl _) o) hbase).trans ((Keep2.grown hgrow (by simp; omega) (fun k hk => .inl ?_)).trans (Keep2.set w1 2 v1))
    obtain ⟨inner, hown⟩ := Kd.R_own hq
    exact own_base hown k hk
  · have hbn : some b ≠ vq.ownBlock := Kd.R_ne hq hb (by decide)
    have hb1 := blk_grown (blk_alloc hb o) hgrow hbn
    exact ⟨hb1, blk_far hb1 (blk_ne hb hg (by decide)) v1⟩
/-- A reader's entries, grown by one. -/
theorem rdr_put_entries {w w1 : World} {base g m N : Nat} {s : St} {x : Ent} {vn vl vq ve v1 : Value} {D : DataW Unit} {n : Nat} {o : Obj}
    (hg : w.heap[g]? = some (.cells #[vn, vl, vq, ve, .map (some m)] 56 (0, 0))) (hn : Kd.R Kd.string 9 w base (fun k => k < N) vn s.names) (hl : Kd.R kLab 66 w base (fun k => k < N) vl s.labels)
    (hq : Kd.R kQuo 49 w base (fun k => k < N) vq s.quotas) (he : Kd.R kEnt 51 w base (fun k => k < N) ve s.entries) (hm : w.ownsMap Tryd.prog 3 (plainElem Tryd.prog 4) m n D) (hc : n ≤ s.told.count true) (hD : MapSays D s.told)
    (hR1 : Kd.R kEnt 51 w1 base (fun _ => True) v1 (s.entries ++ [x])) (hgrow : (w.alloc o).grownBy w1 ve.ownBlock) (hbase : base ≤ w.heap.size) :
    Rdr (w1.setCell ⟨g, 3, none⟩ v1) base g m (w1.setCell ⟨g, 3, none⟩ v1).heap.size { s with entries := s.entries ++ [x] } ∧ Keep2 base g m w (w1.setCell ⟨g, 3, none⟩ v1) ∧
      (∀ (b : Nat) (C : Array Value), w.heap[b]? = some (.cells C 66 (0, 0)) →  w1.heap[b]? = some (.cells C 66 (0, 0)) ∧ (w1.setCell ⟨g, 3, none⟩ v1).heap[b]? = some (.cells C 66 (0, 0))) := by
  have hgn : some g ≠ ve.ownBlock := Kd.R_ne he hg (by decide)
  have hg1 : w1.heap[g]? = some (.cells #[vn, vl, vq, ve, .map (some m)] 56 (0, 0)) := blk_grown (blk_alloc hg o) hgrow hgn
  have hmn : some m ≠ ve.ownBlock := by
    intro e
    obtain ⟨inner, hown⟩ := Kd.R_own he
    obtain ⟨cells, hcc⟩ := own_typed hown m e.symm
    obtain ⟨es, cl, hh, _⟩ := hm
    rw [hcc] at hh; cases hh
  have hgm : some m ≠ some g := by
    intro e
    injection e with e
    subst e
    obtain ⟨es, cl, hh, _⟩ := hm
    rw [hg] at hh; cases hh
  have hset : w1.grownBy (w1.setCell ⟨g, 3, none⟩ v1) (some g) := by
    have h : Below 0 w1 (w1.setCell ⟨g, 3, none⟩ v1) := (Below.refl 0 w1).setCell (Nat.zero_le _) v1
    exact ⟨h.os, h.tape, h.output, h.size, fun k _ hk => Below.heap_setCell w1 ⟨g, 3, none⟩ v1 k (fun e => hk (by rw [e]))⟩
  refine ⟨⟨vn, vl, vq, v1, D, n, blk_put hg1 3 v1 rfl, R_over hn (Kd.R_mono he (fun _ _ => trivial)) (by decide) hg (by decide) hgrow, R_over hl (Kd.R_mono he (fun _ _ => trivial)) (by decide) hg (by decide) hgrow, R_over hq (Kd.R_mono he (fun _ _ => trivial)) (by decide) hg (by decide) hgrow, R_self hR1 hg1 (by decide), ((hm.alloc o).kept hgrow hmn).kept hset hgm, hc, hD⟩, ?_, fun b C hb => ?_⟩
  · refine (Keep2.below (B := w.heap.size) ((Below.refl _ _).alloc (Nat.le_refl _) o) hbase).trans ((Keep2.grown hgrow (by simp; omega) (fun k hk => .inl ?_)).trans (Keep2.set w1 3 v1))
    obtain ⟨inner, hown⟩ := Kd.R_own he
    exact own_base hown k hk
  · have hbn : some b ≠ ve.ownBlock := Kd.R_ne he hb (by decide)
    have hb1 := blk_grown (blk_alloc hb o) hgrow hbn
    exact ⟨hb1, blk_far hb1 (blk_ne hb hg (by decide)) v1⟩
end Go.Proofs.YtaeaakcppheaoaaDoor
