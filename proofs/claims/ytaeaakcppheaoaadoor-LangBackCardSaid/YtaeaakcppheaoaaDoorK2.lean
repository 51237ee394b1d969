/- The reference's reader of a policy, as it lies in memory, and how its lists grow and are written. What the reference's line does with a client's line. -/
import Derived.Test.YtaeaakcppheaoaaDoorHo
import Derived.Test.YtaeaakcppheaoaaDoorK1
namespace Go.Proofs.YtaeaakcppheaoaaDoor
open Go.RowKit Go.Proofs.YtaeaakcppheaoaaDoorW.PrintWords Go.Maps

theorem info4 : (Tryd.prog.info? 4).map (fun i => (i.zero, i.size, i.bytes)) = some (some (.bool false), 1, 1) := by kernel_rfl
/-- The reference's reader behind a pointer: block g; its rows lie from base on, in blocks below N. -/
def RRd (w : World) (base g N : Nat) (s : St) : Prop :=
  ∃ vl vq ve vn vt, w.heap[g]? = some (.cells #[vl, vq, ve, vn, vt] 61 (0, 0)) ∧ Kd.R kLab 66 w base (fun k => k < N) vl s.labels ∧ Kd.R kQuo 49 w base (fun k => k < N) vq s.quotas ∧
    Kd.R kEnt 51 w base (fun k => k < N) ve s.entries ∧ Kd.R Kd.string 9 w base (fun k => k < N) vn s.names ∧ Kd.R Kd.bool 4 w base (fun k => k < N) vt s.told
theorem RRd.below {w w1 : World} {base g N : Nat} {s : St} (h : RRd w base g N s) (hb : Below w.heap.size w w1) : RRd w1 base g w1.heap.size s := by
  obtain ⟨vl, vq, ve, vn, vt, hg, hl, hq, he, hn, ht⟩ := h
  have up : ∀ {α : Type} {d : Kd α} {e : Nat} {v : Value} {xs : List α}, Kd.R d e w base (fun k => k < N) v xs → Kd.R d e w1 base (fun k => k < w1.heap.size) v xs := fun h =>
    Kd.R_mono (Kd.R_bound (Kd.R_below h hb)) (fun k hk => hk.2.2.1)
  exact ⟨vl, vq, ve, vn, vt, blk_below hg hb, up hl, up hq, up he, up hn, up ht⟩
theorem RRd.keep {w w1 : World} {base g N : Nat} {s : St} (h : RRd w base g N s) (hb : Below w.heap.size w w1) : RRd w1 base g N s := by
  obtain ⟨vl, vq, ve, vn, vt, hg, hl, hq, he, hn, ht⟩ := h
  exact ⟨vl, vq, ve, vn, vt, blk_below hg hb, Kd.R_below hl hb, Kd.R_below hq hb, Kd.R_below he hb, Kd.R_below hn hb, Kd.R_below ht hb⟩
theorem RRd.lt {w : World} {base g N : Nat} {s : St} (h : RRd w base g N s) : g < w.heap.size := by
  obtain ⟨vl, vq, ve, vn, vt, hg, _⟩ := h
  exact blk_lt hg
theorem C_str_move {w w' : World} {b o n : Nat} {l : List ByteArray} (h : Kd.C Kd.string w (some ⟨b, o, none⟩) n l) (hb : w'.heap[b]? = w.heap[b]?) : Kd.C Kd.string w' (some ⟨b, o, none⟩) n l := by
  refine ⟨h.1, h.2.1, fun hn => ?_⟩
  obtain ⟨ad, hadr, hcc⟩ := h.2.2 hn
  injection hadr with hadr
  subst hadr
  refine ⟨_, rfl, fun j p hp => ?_⟩
  obtain ⟨cs, h1, h2, h3⟩ := hcc j p hp
  refine ⟨cs, h1, h2, fun i u hu => ?_⟩
  have h4 := h3 i u hu
  have h5 := cell_plain h4
  rw [h5] at h4 ⊢
  exact (World.cell?_of_block hb).trans h4
def RefPost (base g : Nat) (w : World) (s : St) (o : Option St) (e : Ending) (w' : World) : Prop :=
  e = .returned (.bool o.isSome) ∧ RRd w' base g w'.heap.size (o.getD s) ∧ Keep2 base g g w w'
theorem ref_fails {base g N : Nat} {w w' : World} {s : St} {o : Option St} (ho : o = none) (hR : RRd w base g N s) (hb : Below w.heap.size w w') (hbase : base ≤ w.heap.size) : RefPost base g w s o (.returned (.bool false)) w' := by
  subst ho
  exact ⟨rfl, hR.below hb, Keep2.below hb hbase⟩
theorem set_grown (w : World) (g j : Nat) (v : Value) : w.grownBy (w.setCell ⟨g, j, none⟩ v) (some g) := by
  have h : Below 0 w (w.setCell ⟨g, j, none⟩ v) := (Below.refl 0 w).setCell (Nat.zero_le _) v
  exact ⟨h.os, h.tape, h.output, h.size, fun k _ hk => Below.heap_setCell w ⟨g, j, none⟩ v k (fun e => hk (by rw [e]))⟩
/-- A row of another element type, over a write into a row. -/
theorem R_past {α β : Type} {d : Kd α} {d' : Kd β} {e e' base N : Nat} {w w1 : World} {v v' : Value} {xs : List α} {xs' : List β}
    (h : Kd.R d e w base (fun k => k < N) v xs) (h' : Kd.R d' e' w base (fun k => k < N) v' xs') (hE : ∀ q, q ∈ e :: d.E → q ≠ e') (hgrow : w.grownBy w1 v'.ownBlock) :
    Kd.R d e w1 base (fun k => k < w1.heap.size) v xs :=
  Kd.R_mono (Kd.R_bound (Kd.R_grown (R_other h h' hE) hgrow (fun _ hk => hk.2))) (fun _ hk => hk.2.2.1)
/-- The reference's labels, grown by one. -/
theorem ref_put_labels {w w1 : World} {base g N : Nat} {s : St} {x : Lab} {vl vq ve vn vt v1 : Value} {o : Obj}
    (hg : w.heap[g]? = some (.cells #[vl, vq, ve, vn, vt] 61 (0, 0))) (hl : Kd.R kLab 66 w base (fun k => k < N) vl s.labels) (hq : Kd.R kQuo 49 w base (fun k => k < N) vq s.quotas) (he : Kd.R kEnt 51 w base (fun k => k < N) ve s.entries) (hn : Kd.R Kd.string 9 w base (fun k => k < N) vn s.names) (ht : Kd.R Kd.bool 4 w base (fun k => k < N) vt s.told)
    (hR1 : Kd.R kLab 66 w1 base (fun _ => True) v1 (s.labels ++ [x])) (hgrow : (w.alloc o).grownBy w1 vl.ownBlock) (hbase : base ≤ w.heap.size) :
    RRd (w1.setCell ⟨g, 0, none⟩ v1) base g (w1.setCell ⟨g, 0, none⟩ v1).heap.size { s with labels := s.labels ++ [x] } ∧ Keep2 base g g w (w1.setCell ⟨g, 0, none⟩ v1) ∧
      (∀ (b : Nat) (C : Array Value), w.heap[b]? = some (.cells C 66 (0, 0)) → some b ≠ vl.ownBlock → (w1.setCell ⟨g, 0, none⟩ v1).heap[b]? = some (.cells C 66 (0, 0))) := by
  have hgn : some g ≠ vl.ownBlock := Kd.R_ne hl hg (by decide)
  have hg1 : w1.heap[g]? = some (.cells #[vl, vq, ve, vn, vt] 61 (0, 0)) := blk_grown (blk_alloc hg o) hgrow hgn
  refine ⟨⟨v1, vq, ve, vn, vt, blk_put hg1 0 v1 rfl, R_self hR1 hg1 (by decide), R_over hq (Kd.R_mono hl (fun _ _ => trivial)) (by decide) hg (by decide) hgrow, R_over he (Kd.R_mono hl (fun _ _ => trivial)) (by decide) hg (by decide) hgrow, R_over hn (Kd.R_mono hl (fun _ _ => trivial)) (by decide) hg (by decide) hgrow, R_over ht (Kd.R_mono hl (fun _ _ => trivial)) (by decide) hg (by decide) hgrow⟩, ?_, fun b C hb hb2 => ?_⟩
  · refine (Keep2.below (B := w.heap.size) ((Below.refl _ _).alloc (Nat.le_refl _) o) hbase).trans ((Keep2.grown hgrow (by simp; omega) (fun k hk => .inl ?_)).trans (Keep2.set w1 0 v1))
    obtain ⟨inner, hown⟩ := Kd.R_own hl
    exact own_base hown k hk
  · have hbn : some b ≠ vl.ownBlock := hb2
    have hb1 := blk_grown (blk_alloc hb o) hgrow hbn
    exact blk_far hb1 (blk_ne hb hg (by decide)) v1
/-- The reference's quotas, grown by one. -/
theorem ref_put_quotas {w w1 : World} {base g N : Nat} {s : St} {x : Quo} {vl vq ve vn vt v1 : Value} {o : Obj}
    (hg : w.heap[g]? = some (.cells #[vl, vq, ve, vn, vt] 61 (0, 0))) (hl : Kd.R kLab 66 w base (fun k => k < N) vl s.labels) (hq : Kd.R kQuo 49 w base (fun k => k < N) vq s.quotas) (he : Kd.R kEnt 51 w base (fun k => k < N) ve s.entries) (hn : Kd.R Kd.string 9 w base (fun k => k < N) vn s.names) (ht : Kd.R Kd.bool 4 w base (fun k => k < N) vt s.told)
    (hR1 : Kd.R kQuo 49 w1 base (fun _ => True) v1 (s.quotas ++ [x])) (hgrow : (w.alloc o).grownBy w1 vq.ownBlock) (hbase : base ≤ w.heap.size) :
    RRd (w1.setCell ⟨g, 1, none⟩ v1) base g (w1.setCell ⟨g, 1, none⟩ v1).heap.size { s with quotas := s.quotas ++ [x] } ∧ Keep2 base g g w (w1.setCell ⟨g, 1, none⟩ v1) ∧
      (∀ (b : Nat) (C : Array Value), w.heap[b]? = some (.cells C 66 (0, 0)) →  (w1.setCell ⟨g, 1, none⟩ v1).heap[b]? = some (.cells C 66 (0, 0))) := by
  have hgn : some g ≠ vq.ownBlock := Kd.R_ne hq hg (by decide)
  have hg1 : w1.heap[g]? = some (.cells #[vl, vq, ve, vn, vt] 61 (0, 0)) := blk_grown (blk_alloc hg o) hgrow hgn
  refine ⟨⟨vl, v1, ve, vn, vt, blk_put hg1 1 v1 rfl, R_over hl (Kd.R_mono hq (fun _ _ => trivial)) (by decide) hg (by decide) hgrow, R_self hR1 hg1 (by decide), R_over he (Kd.R_mono hq (fun _ _ => trivial)) (by decide) hg (by decide) hgrow, R_over hn (Kd.R_mono hq (fun _ _ => trivial)) (by decide) hg (by decide) hgrow, R_over ht (Kd.R_mono hq (fun _ _ => trivial)) (by decide) hg (by decide) hgrow⟩, ?_, fun b C hb => ?_⟩
  · refine (Keep2.below (B := w.heap.size) ((Below.refl _ _).alloc (Nat.le_refl _) o) hbase).trans ((Keep2.grown hgrow (by simp; omega) (fun k hk => .inl ?_)).trans (Keep2.set w1 1 v1))
    obtain ⟨inner, hown⟩ := Kd.R_own hq
    exact own_base hown k hk
  · have hbn : some b ≠ vq.ownBlock := Kd.R_ne hq hb (by decide)
    have hb1 := blk_grown (blk_alloc hb o) hgrow hbn
    exact blk_far hb1 (blk_ne hb hg (by decide)) v1
/-- The reference's entries, grown by one. -/
theorem ref_put_entries {w w1 : World} {base g N : Nat} {s : St} {x : Ent} {vl vq ve vn vt v1 : Value} {o : Obj}
    (hg : w.heap[g]? = some (.cells #[vl, vq, ve, vn, vt] 61 (0, 0))) (hl : Kd.R kLab 66 w base (fun k => k < N) vl s.labels) (hq : Kd.R kQuo 49 w base (fun k => k < N) vq s.quotas) (he : Kd.R kEnt 51 w base (fun k => k < N) ve s.entries) (hn : Kd.R Kd.string 9 w base (fun k => k < N) vn s.names) (ht : Kd.R Kd.bool 4 w base (fun k => k < N) vt s.told)
    (hR1 : Kd.R kEnt 51 w1 base (fun _ => True) v1 (s.entries ++ [x])) (hgrow : (w.alloc o).grownBy w1 ve.ownBlock) (hbase : base ≤ w.heap.size) :
    RRd (w1.setCell ⟨g, 2, none⟩ v1) base g (w1.setCell ⟨g, 2, none⟩ v1).heap.size { s with entries := s.entries ++ [x] } ∧ Keep2 base g g w (w1.setCell ⟨g, 2, none⟩ v1) ∧
      (∀ (b : Nat) (C : Array Value), w.heap[b]? = some (.cells C 66 (0, 0)) →  (w1.setCell ⟨g, 2, none⟩ v1).heap[b]? = some (.cells C 66 (0, 0))) := by
  have hgn : some g ≠ ve.ownBlock := Kd.R_ne he hg (by decide)
  have hg1 : w1.heap[g]? = some (.cells #[vl, vq, ve, vn, vt] 61 (0, 0)) := blk_grown (blk_alloc hg o) hgrow hgn
  refine ⟨⟨vl, vq, v1, vn, vt, blk_put hg1 2 v1 rfl, R_over hl (Kd.R_mono he (fun _ _ => trivial)) (by decide) hg (by decide) hgrow, R_over hq (Kd.R_mono he (fun _ _ => trivial)) (by decide) hg (by decide) hgrow, R_self hR1 hg1 (by decide), R_over hn (Kd.R_mono he (fun _ _ => trivial)) (by decide) hg (by decide) hgrow, R_over ht (Kd.R_mono he (fun _ _ => trivial)) (by decide) hg (by decide) hgrow⟩, ?_, fun b C hb => ?_⟩
  · refine (Keep2.below (B := w.heap.size) ((Below.refl _ _).alloc (Nat.le_refl _) o) hbase).trans ((Keep2.grown hgrow (by simp; omega) (fun k hk => .inl ?_)).trans (Keep2.set w1 2 v1))
    obtain ⟨inner, hown⟩ := Kd.R_own he
    exact own_base hown k hk
  · have hbn : some b ≠ ve.ownBlock := Kd.R_ne he hb (by decide)
    have hb1 := blk_grown (blk_alloc hb o) hgrow hbn
    exact blk_far hb1 (blk_ne hb hg (by decide)) v1
/-- The reference's names, grown by one. -/
theorem ref_put_names {w w1 : World} {base g N : Nat} {s : St} {x : ByteArray} {vl vq ve vn vt v1 : Value} {o : Obj}
    (hg : w.heap[g]? = some (.cells #[vl, vq, ve, vn, vt] 61 (0, 0))) (hl : Kd.R kLab 66 w base (fun k => k < N) vl s.labels) (hq : Kd.R kQuo 49 w base (fun k => k < N) vq s.quotas) (he : Kd.R kEnt 51 w base (fun k => k < N) ve s.entries) (hn : Kd.R Kd.string 9 w base (fun k => k < N) vn s.names) (ht : Kd.R Kd.bool 4 w base (fun k => k < N) vt s.told)
    (hR1 : Kd.R Kd.string 9 w1 base (fun _ => True) v1 (s.names ++ [x])) (hgrow : (w.alloc o).grownBy w1 vn.ownBlock) (hbase : base ≤ w.heap.size) :
    RRd (w1.setCell ⟨g, 3, none⟩ v1) base g (w1.setCell ⟨g, 3, none⟩ v1).heap.size { s with names := s.names ++ [x] } ∧ Keep2 base g g w (w1.setCell ⟨g, 3, none⟩ v1) ∧
      (∀ (b : Nat) (C : Array Value), w.heap[b]? = some (.cells C 66 (0, 0)) →  (w1.setCell ⟨g, 3, none⟩ v1).heap[b]? = some (.cells C 66 (0, 0))) := by
  have hgn : some g ≠ vn.ownBlock := Kd.R_ne hn hg (by decide)
  have hg1 : w1.heap[g]? = some (.cells #[vl, vq, ve, vn, vt] 61 (0, 0)) := blk_grown (blk_alloc hg o) hgrow hgn
  refine ⟨⟨vl, vq, ve, v1, vt, blk_put hg1 3 v1 rfl, R_over hl (Kd.R_mono hn (fun _ _ => trivial)) (by decide) hg (by decide) hgrow, R_over hq (Kd.R_mono hn (fun _ _ => trivial)) (by decide) hg (by decide) hgrow, R_over he (Kd.R_mono hn (fun _ _ => trivial)) (by decide) hg (by decide) hgrow, R_self hR1 hg1 (by decide), R_over ht (Kd.R_mono hn (fun _ _ => trivial)) (by decide) hg (by decide) hgrow⟩, ?_, fun b C hb => ?_⟩
  · refine (Keep2.below (B := w.heap.size) ((Below.refl _ _).alloc (Nat.le_refl _) o) hbase).trans ((Keep2.grown hgrow (by simp; omega) (fun k hk => .inl ?_)).trans (Keep2.set w1 3 v1))
    obtain ⟨inner, hown⟩ := Kd.R_own hn
    exact own_base hown k hk
  · have hbn : some b ≠ vn.ownBlock := Kd.R_ne hn hb (by decide)
    have hb1 := blk_grown (blk_alloc hb o) hgrow hbn
    exact blk_far hb1 (blk_ne hb hg (by decide)) v1
/-- The reference's told, grown by one. -/
theorem ref_put_told {w w1 : World} {base g N : Nat} {s : St} {x : Bool} {vl vq ve vn vt v1 : Value} {o : Obj}
    (hg : w.heap[g]? = some (.cells #[vl, vq, ve, vn, vt] 61 (0, 0))) (hl : Kd.R kLab 66 w base (fun k => k < N) vl s.labels) (hq : Kd.R kQuo 49 w base (fun k => k < N) vq s.quotas) (he : Kd.R kEnt 51 w base (fun k => k < N) ve s.entries) (hn : Kd.R Kd.string 9 w base (fun k => k < N) vn s.names) (ht : Kd.R Kd.bool 4 w base (fun k => k < N) vt s.told)
    (hR1 : Kd.R Kd.bool 4 w1 base (fun _ => True) v1 (s.told ++ [x])) (hgrow : (w.alloc o).grownBy w1 vt.ownBlock) (hbase : base ≤ w.heap.size) :
    RRd (w1.setCell ⟨g, 4, none⟩ v1) base g (w1.setCell ⟨g, 4, none⟩ v1).heap.size { s with told := s.told ++ [x] } ∧ Keep2 base g g w (w1.setCell ⟨g, 4, none⟩ v1) ∧
      (∀ (b : Nat) (C : Array Value), w.heap[b]? = some (.cells C 66 (0, 0)) →  (w1.setCell ⟨g, 4, none⟩ v1).heap[b]? = some (.cells C 66 (0, 0))) := by
  have hgn : some g ≠ vt.ownBlock := Kd.R_ne ht hg (by decide)
  have hg1 : w1.heap[g]? = some (.cells #[vl, vq, ve, vn, vt] 61 (0, 0)) := blk_grown (blk_alloc hg o) hgrow hgn
  refine ⟨⟨vl, vq, ve, vn, v1, blk_put hg1 4 v1 rfl, R_over hl (Kd.R_mono ht (fun _ _ => trivial)) (by decide) hg (by decide) hgrow, R_over hq (Kd.R_mono ht (fun _ _ => trivial)) (by decide) hg (by decide) hgrow, R_over he (Kd.R_mono ht (fun _ _ => trivial)) (by decide) hg (by decide) hgrow, R_over hn (Kd.R_mono ht (fun _ _ => trivial)) (by decide) hg (by decide) hgrow, R_self hR1 hg1 (by decide)⟩, ?_, fun b C hb => ?_⟩
  · refine (Keep2.below (B := w.heap.size) ((Below.refl _ _).alloc (Nat.le_refl _) o) hbase).trans ((Keep2.grown hgrow (by simp; omega) (fun k hk => .inl ?_)).trans (Keep2.set w1 4 v1))
    obtain ⟨inner, hown⟩ := Kd.R_own ht
    exact own_base hown k hk
  · have hbn : some b ≠ vt.ownBlock := Kd.R_ne ht hb (by decide)
    have hb1 := blk_grown (blk_alloc hb o) hgrow hbn
    exact blk_far hb1 (blk_ne hb hg (by decide)) v1
/-- That a quota was told. -/
theorem ref_set_told {w : World} {base g N gt k cap n : Nat} {s : St} {vl vq ve vn : Value} (b : Bool)
    (hg : w.heap[g]? = some (.cells #[vl, vq, ve, vn, .slice (some ⟨gt, 0, none⟩) n cap] 61 (0, 0))) (hl : Kd.R kLab 66 w base (fun k => k < N) vl s.labels) (hq : Kd.R kQuo 49 w base (fun k => k < N) vq s.quotas) (he : Kd.R kEnt 51 w base (fun k => k < N) ve s.entries) (hn : Kd.R Kd.string 9 w base (fun k => k < N) vn s.names) (ht : Kd.R Kd.bool 4 w base (fun k => k < N) (.slice (some ⟨gt, 0, none⟩) n cap) s.told) :
    RRd (w.setCell ⟨gt, k, none⟩ (.bool b)) base g (w.setCell ⟨gt, k, none⟩ (.bool b)).heap.size { s with told := s.told.set k b } ∧ Keep2 base g g w (w.setCell ⟨gt, k, none⟩ (.bool b)) := by
  obtain ⟨h1, hgrow⟩ := Kd.R_putg ht (k : Int) b
  rw [Int.toNat_natCast] at h1 hgrow
  have hgg : some g ≠ some gt := Kd.R_ne ht hg (by decide)
  have hb : base ≤ gt := Kd.R_base ht gt rfl
  refine ⟨⟨vl, vq, ve, vn, _, blk_grown hg hgrow hgg, R_past hl ht (by decide) hgrow, R_past hq ht (by decide) hgrow, R_past he ht (by decide) hgrow, R_past hn ht (by decide) hgrow, Kd.R_mono (Kd.R_bound h1) (fun k hk => hk.2.2.1)⟩, ?_⟩
  have h : Below base w (w.setCell ⟨gt, k, none⟩ (.bool b)) := (Below.refl base w).setCell hb _
  exact Keep2.below h (Nat.le_refl _)
/-- A quota is written. -/
theorem ref_set_quota {w : World} {base g N gq k cap n : Nat} {s : St} {vl ve vn vt : Value} (q : Quo)
    (hg : w.heap[g]? = some (.cells #[vl, .slice (some ⟨gq, 0, none⟩) n cap, ve, vn, vt] 61 (0, 0))) (hl : Kd.R kLab 66 w base (fun k => k < N) vl s.labels) (hq : Kd.R kQuo 49 w base (fun k => k < N) (.slice (some ⟨gq, 0, none⟩) n cap) s.quotas) (he : Kd.R kEnt 51 w base (fun k => k < N) ve s.entries) (hn : Kd.R Kd.string 9 w base (fun k => k < N) vn s.names) (ht : Kd.R Kd.bool 4 w base (fun k => k < N) vt s.told) (hk : k < n) (hbase : base ≤ w.heap.size) (W : World)
    (hW : W = w.setCells gq (k * 3) [.int .i64 q.chars, .int .i64 q.ops, .int .i64 q.seats]) :
    RRd W base g W.heap.size { s with quotas := s.quotas.set k q } ∧ Keep2 base g g w W := by
  subst hW
  obtain ⟨c, hcl, hM, hcc, hfr⟩ := Kd.R_elem hq ⟨0, 0, 0⟩ (k : Int) (by omega) (by omega)
  have hseg := Kd.R_seg (okp := fun _ => False) hq (k : Int) (by omega) (by omega) (c := c) (seg := [.int .i64 q.chars, .int .i64 q.ops, .int .i64 q.seats]) (j := 0) hcl hcc (Nat.le_refl 3) (x' := q)
    (by
      have : c.drop 3 = [] := List.drop_of_length_le (by rw [hcl]; decide)
      simp only [List.take_zero, List.nil_append, List.length_cons, List.length_nil, Nat.zero_add]
      rw [this, List.append_nil]
      exact kQuo_mk _ _ _ q) (fun k hk => hk.elim)
  have hsz : kQuo.sz = 3 := rfl
  rw [Int.toNat_natCast, Nat.add_zero, hsz] at hseg
  obtain ⟨h1, hgrow⟩ := hseg
  have hgg : some g ≠ some gq := Kd.R_ne hq hg (by decide)
  have hb : base ≤ gq := Kd.R_base hq gq rfl
  refine ⟨⟨vl, _, ve, vn, vt, blk_grown hg hgrow hgg, R_past hl hq (by decide) hgrow, Kd.R_mono (Kd.R_bound h1) (fun k hk => hk.2.2.1), R_past he hq (by decide) hgrow, R_past hn hq (by decide) hgrow, R_past ht hq (by decide) hgrow⟩, ?_⟩
  exact Keep2.grown hgrow hbase (fun k hk => .inl (by injection hk with hk; omega))
end Go.Proofs.YtaeaakcppheaoaaDoor
namespace Go.Proofs.YtaeaakcppheaoaaDoor
open Go.RowKit Go.Proofs.YtaeaakcppheaoaaDoorW.PrintWords Go.Maps

theorem words_is (s : ByteArray) (w : World) (hs : s.size ≤ 32768) (v : ByteArray) (b : Bool) (h1 : (refMeant s.data.toList).1 = v) (h2 : (meantP s.data.toList).2 = b) :
    Calls Tryd.prog 52 #[.string s] w fun e w' => e = .returned (.tuple #[.string v, .bool b]) ∧ Below w.heap.size w w' := by
  rw [← h1, ← h2]; exact refwords_any s w hs
theorem ref_names {w : World} {base g N : Nat} {s : St} (h : RRd w base g N s) : ∃ A c, w.cell? ⟨g, 3, none⟩ = some (.slice A s.names.length c) ∧ Kd.C Kd.string w A s.names.length s.names := by
  obtain ⟨vl, vq, ve, vn, vt, hg, hl, hq, he, hn, ht⟩ := h
  obtain ⟨A, c, rfl, _, hC⟩ := Kd.R_reads hn
  exact ⟨A, c, blk_cell hg 3, hC⟩
theorem ref_entries {w : World} {base g N : Nat} {s : St} (h : RRd w base g N s) : ∃ A c, w.cell? ⟨g, 2, none⟩ = some (.slice A s.entries.length c) ∧ Kd.C kEnt w A s.entries.length s.entries := by
  obtain ⟨vl, vq, ve, vn, vt, hg, hl, hq, he, hn, ht⟩ := h
  obtain ⟨A, c, rfl, _, hC⟩ := Kd.R_reads he
  exact ⟨A, c, blk_cell hg 2, hC⟩
theorem place_is (g c : Nat) (A : Option Addr) (l : List ByteArray) (s : ByteArray) (w : World) (i : Int) (hi : idxI l s = i) (hg : w.cell? ⟨g, 3, none⟩ = some (.slice A l.length c)) (hr : Kd.C Kd.string w A l.length l) :
    Calls Tryd.prog 40 #[.pointer (some ⟨g, 0, none⟩), .string s] w fun e w' => e = .returned (.int .i64 i) ∧ w = w' := by
  rw [← hi]; exact place_any g c A l s w hg hr
theorem ofL_ne {a b : List UInt8} (h : a ≠ b) : ofL a ≠ ofL b := fun e => h (by have := congrArg (·.data.toList) e; simpa [ofL_data] using this)

set_option maxRecDepth 100000 in
set_option maxHeartbeats 8000000 in
theorem refclient_line (base g N : Nat) (s : St) (A : Option Addr) (c : Nat) (l : List ByteArray) (w : World) (hR : RRd w base g N s) (hf : s.Fits) (hN : N ≤ w.heap.size) (hbase : base ≤ N)
    (hr : Kd.C Kd.string w A l.length l) (hsz : ∀ x ∈ l, x.size ≤ 32768) (h4 : 4 ≤ l.length) (h0 : l.getD 0 (ofL []) = ofL [99, 108, 105, 101, 110, 116]) :
    Calls Tryd.prog 27 #[.pointer (some ⟨g, 0, none⟩), .slice A l.length c] w (RefPost base g w s (clientP s l)) := by
  have HR := Aside0.mk hR
  have Hr := Aside0.mk hr
  have HF := Aside0.mk hf
  have HS := Aside0.mk hsz
  clear hR hr hf hsz
  obtain ⟨b, o, rfl, hc1⟩ := str_at Hr.out 1 (by omega)
  have hat : ∀ k, k < l.length → w.cell? ⟨b, o + k, none⟩ = some (.string (l.getD k (ofL []))) := by
    intro k hk
    obtain ⟨b2, o2, hA, hc2⟩ := str_at Hr.out k hk
    injection hA with hA
    injection hA with h1 h2
    subst h1 h2
    rw [rd_getElem l _ k hk]; exact hc2
  obtain ⟨x0, hx0⟩ : ∃ x, x = l.getD 0 (ofL []) := ⟨_, rfl⟩
  obtain ⟨x1, hx1⟩ : ∃ x, x = l.getD 1 (ofL []) := ⟨_, rfl⟩
  obtain ⟨x2, hx2⟩ : ∃ x, x = l.getD 2 (ofL []) := ⟨_, rfl⟩
  obtain ⟨x3, hx3⟩ : ∃ x, x = l.getD 3 (ofL []) := ⟨_, rfl⟩
  obtain ⟨x4, hx4⟩ : ∃ x, x = l.getD 4 (ofL []) := ⟨_, rfl⟩
  have c0 : w.cell? ⟨b, o, none⟩ = some (.string x0) := by rw [hx0]; exact hat 0 (by omega)
  have c1 : w.cell? ⟨b, o + 1, none⟩ = some (.string x1) := by rw [hx1]; exact hat 1 (by omega)
  have c2 : w.cell? ⟨b, o + 2, none⟩ = some (.string x2) := by rw [hx2]; exact hat 2 (by omega)
  have c3 : w.cell? ⟨b, o + 3, none⟩ = some (.string x3) := by rw [hx3]; exact hat 3 (by omega)
  have C4 := Aside0.mk (show 5 ≤ l.length → w.cell? ⟨b, o + 4, none⟩ = some (.string x4) by intro h; rw [hx4]; exact hat 4 (by omega))
  have hsz3 : x3.size ≤ 32768 := by
    rw [hx3, rd_getElem l _ 3 (by omega)]
    exact HS.out _ (List.getElem_mem _)
  obtain ⟨n, hn⟩ : ∃ n, n = l.length := ⟨_, rfl⟩
  have hnm : n ≤ 9223372036854775807 := by rw [hn]; exact C_max Hr.out
  obtain ⟨i, hi⟩ : ∃ i, idxI s.names x1 = i := ⟨_, rfl⟩
  have hilt : i < 32 := by
    have hn := HF.out.n
    rw [← hi]
    unfold idxI
    split <;> omega
  have hige : -1 ≤ i := by
    rw [← hi]
    unfold idxI
    split <;> omega
  obtain ⟨sv, hsv⟩ : ∃ v, (refMeant x3.data.toList).1 = v := ⟨_, rfl⟩
  obtain ⟨sb, hsb⟩ : ∃ v, (meantP x3.data.toList).2 = v := ⟨_, rfl⟩
  obtain ⟨e2, he2⟩ : ∃ v, (x2.toList == [115, 101, 99, 114, 101, 116]) = v := ⟨_, rfl⟩
  obtain ⟨e4, he4⟩ : ∃ v, (x4.toList == [100, 111, 119, 110]) = v := ⟨_, rfl⟩
  have hw := (words_law x3.data.toList).2
  rw [hsb, hsv] at hw
  have HD := Aside0.mk (show clientP s l = if (n = 4 ∨ n = 5 ∧ e4 = true) ∧ e2 = true ∧ s.entries.length < 8 ∧ 0 ≤ i ∧ sb = true then some { s with entries := s.entries ++ [⟨i, sv, decide (n = 5)⟩] } else none by
    unfold clientP
    rw [← hx1, ← hx2, ← hx3, ← hx4, ← hn, hi, hsb]
    have d2 : (x2 = ofL [115, 101, 99, 114, 101, 116]) ↔ e2 = true := by rw [← he2, str_eq, decide_eq_true_eq]
    have d4 : (x4 = ofL [100, 111, 119, 110]) ↔ e4 = true := by rw [← he4, str_eq, decide_eq_true_eq]
    simp only [d2, d4]
    by_cases hsbt : sb = true
    · rw [hw hsbt]
    · rw [if_neg (fun h => hsbt h.2.2.2.2), if_neg (fun h => hsbt h.2.2.2.2)])
  have HW := Aside0.mk (words_is x3 · hsz3 sv sb hsv hsb)
  have Hi := Aside0.mk hi
  rw [← hx0] at h0
  have z1 : (x0.toList == [108, 97, 98, 101, 108]) = false := by rw [str_eq, h0, decide_eq_false (ofL_ne (by decide))]
  have z2 : (x0.toList == [113, 117, 111, 116, 97]) = false := by rw [str_eq, h0, decide_eq_false (ofL_ne (by decide))]
  have z3 : (x0.toList == [99, 108, 105, 101, 110, 116]) = true := by rw [str_eq, h0, decide_eq_true rfl]
  rw [← hn] at C4 h4 ⊢
  clear hat hc1 hx0 hx1 hx2 hx3 hx4 hi hsv hsb hn h0 hw hsz3
  have h4' : (4 : Int) ≤ n := by omega
  obtain ⟨An, cn, hgn, hCn⟩ := ref_names HR.out
  have HP := Aside0.mk (place_is g cn An s.names x1 w i Hi.out hgn hCn)
  obtain ⟨Ae, ce, hge, hCe⟩ := ref_entries HR.out
  clear hCn hCe hgn
  have HN := Aside0.mk (show ¬ ((n = 4 ∨ n = 5 ∧ e4 = true) ∧ e2 = true ∧ s.entries.length < 8 ∧ 0 ≤ i ∧ sb = true) → clientP s l = none from fun h => by rw [HD.out, if_neg h])
  have hen : s.entries.length ≤ 8 := HF.out.e
  by_cases hok : (n = 4 ∨ n = 5 ∧ e4 = true) ∧ e2 = true ∧ s.entries.length < 8 ∧ 0 ≤ i ∧ sb = true
  · obtain ⟨hh, rfl, h8, hi0, rfl⟩ := hok
    have h8' : (s.entries.length : Int) < 8 := by omega
    have hne8 : ((s.entries.length : Int) == 8) = false := beq_eq_false_iff_ne.2 (by omega)
    rcases hh with rfl | ⟨rfl, rfl⟩
    · have HS2 := Aside0.mk (show clientP s l = some { s with entries := s.entries ++ [⟨i, sv, false⟩] } by rw [HD.out, if_pos ⟨.inl rfl, rfl, h8, hi0, rfl⟩]; rfl)
      go_enter Tryd.func27, Tryd.ntmps27
      go_wp2_with fail
      refine HP.out.mono ?_
      rintro e w' ⟨rfl, rfl⟩
      go_wp2_with fail
      refine (HW.out w).mono ?_
      rintro e w3 ⟨rfl, hb⟩
      have HB3 := Aside0.mk hb
      have c2' := pw_cell_below hb c2
      skip
      clear hb hge
      obtain ⟨vl, vq, ve, vn, vt, hg4, hl4, hq4, he4, hn4, ht4⟩ := HR.out.keep HB3.out
      obtain ⟨Ae4, ce4, hve, hce4, hCe4⟩ := Kd.R_reads he4
      have g2v := blk_cell hg4 2
      have g2 : w3.cell? ⟨g, 2, none⟩ = some (.slice Ae4 s.entries.length ce4) := by rw [g2v, ← hve]; rfl
      clear g2v
      have g2f := blk_frozen hg4 2
      have hlg : g < w3.heap.size := blk_lt hg4
      have hws : w.heap.size ≤ w3.heap.size := HB3.out.size
      have ng1 : ve.ownBlock ≠ some g := fun e => Kd.R_ne he4 hg4 (by decide) e.symm
      have He4 := Aside0.mk (Kd.R_mono he4 (ok' := fun _ => True) (fun _ _ => trivial))
      have P := Aside0.mk (fun (e : Ent) (o : Obj) (w1 : World) (v1 : Value) => ref_put_entries (s := s) (x := e) (o := o) (w1 := w1) (v1 := v1) hg4 hl4 hq4 he4 hn4 ht4)
      clear hg4 hn4 hl4 hq4 he4 ht4 hCe4
      subst hve
      go_wp2_with ((at_builtin; refine R_lies_plain kEnt (by rfl) _ _ 25 51 (.agg #[.int .i64 0, .string ⟨#[]⟩, .bool false]) 32 (by rfl) Tryd.underlying25 info51 rfl (by decide) base (.slice Ae4 s.entries.length ce4) s.entries ⟨i, sv, false⟩ [.int .i64 i, .string sv, .bool false] w3.heap.size _ (by rfl) (by rfl) (blk_new _ _) (kEnt_mk _ _ _ ⟨i, sv, false⟩) (Kd.R_alloc He4.out _) (by simp; omega) (by omega) (by unfold maxLen; omega) (w3.heap.size + 1) (by simp) ?_; intro gn capn w5 hR5 hgrow hat hlt; have k0 := (hgrow.cell_far ⟨g, 2, none⟩ (by simp; omega) (Ne.symm ng1)); have k0f := (hgrow.frozen_far ⟨g, 2, none⟩ (by simp; omega) (Ne.symm ng1))))
      go_ret
      have hgrow2 : (w3.alloc (.cells #[.int .i64 i, .string sv, .bool false] 51)).grownBy w5 (Value.slice Ae4 s.entries.length ce4).ownBlock := ⟨hgrow.os, hgrow.tape, hgrow.output, hgrow.size, hgrow.block⟩
      obtain ⟨q1, q2, q3⟩ := P.out _ _ _ _ hR5 hgrow2 (by omega)
      exact ⟨by rw [HS2.out]; rfl, by rw [HS2.out]; exact q1, (Keep2.below HB3.out (by omega)).trans q2⟩
    · have HS2 := Aside0.mk (show clientP s l = some { s with entries := s.entries ++ [⟨i, sv, true⟩] } by rw [HD.out, if_pos ⟨.inr ⟨rfl, rfl⟩, rfl, h8, hi0, rfl⟩]; rfl)
      go_enter Tryd.func27, Tryd.ntmps27
      go_wp2_with fail
      refine HP.out.mono ?_
      rintro e w' ⟨rfl, rfl⟩
      go_wp2_with fail
      refine (HW.out w).mono ?_
      rintro e w3 ⟨rfl, hb⟩
      have HB3 := Aside0.mk hb
      have c2' := pw_cell_below hb c2
      have c4 := pw_cell_below hb (C4.out (by omega))
      clear hb hge
      obtain ⟨vl, vq, ve, vn, vt, hg4, hl4, hq4, he4, hn4, ht4⟩ := HR.out.keep HB3.out
      obtain ⟨Ae4, ce4, hve, hce4, hCe4⟩ := Kd.R_reads he4
      have g2v := blk_cell hg4 2
      have g2 : w3.cell? ⟨g, 2, none⟩ = some (.slice Ae4 s.entries.length ce4) := by rw [g2v, ← hve]; rfl
      clear g2v
      have g2f := blk_frozen hg4 2
      have hlg : g < w3.heap.size := blk_lt hg4
      have hws : w.heap.size ≤ w3.heap.size := HB3.out.size
      have ng1 : ve.ownBlock ≠ some g := fun e => Kd.R_ne he4 hg4 (by decide) e.symm
      have He4 := Aside0.mk (Kd.R_mono he4 (ok' := fun _ => True) (fun _ _ => trivial))
      have P := Aside0.mk (fun (e : Ent) (o : Obj) (w1 : World) (v1 : Value) => ref_put_entries (s := s) (x := e) (o := o) (w1 := w1) (v1 := v1) hg4 hl4 hq4 he4 hn4 ht4)
      clear hg4 hn4 hl4 hq4 he4 ht4 hCe4
      subst hve
      go_wp2_with ((at_builtin; refine R_lies_plain kEnt (by rfl) _ _ 25 51 (.agg #[.int .i64 0, .string ⟨#[]⟩, .bool false]) 32 (by rfl) Tryd.underlying25 info51 rfl (by decide) base (.slice Ae4 s.entries.length ce4) s.entries ⟨i, sv, true⟩ [.int .i64 i, .string sv, .bool true] w3.heap.size _ (by rfl) (by rfl) (blk_new _ _) (kEnt_mk _ _ _ ⟨i, sv, true⟩) (Kd.R_alloc He4.out _) (by simp; omega) (by omega) (by unfold maxLen; omega) (w3.heap.size + 1) (by simp) ?_; intro gn capn w5 hR5 hgrow hat hlt; have k0 := (hgrow.cell_far ⟨g, 2, none⟩ (by simp; omega) (Ne.symm ng1)); have k0f := (hgrow.frozen_far ⟨g, 2, none⟩ (by simp; omega) (Ne.symm ng1))))
      go_ret
      have hgrow2 : (w3.alloc (.cells #[.int .i64 i, .string sv, .bool true] 51)).grownBy w5 (Value.slice Ae4 s.entries.length ce4).ownBlock := ⟨hgrow.os, hgrow.tape, hgrow.output, hgrow.size, hgrow.block⟩
      obtain ⟨q1, q2, q3⟩ := P.out _ _ _ _ hR5 hgrow2 (by omega)
      exact ⟨by rw [HS2.out]; rfl, by rw [HS2.out]; exact q1, (Keep2.below HB3.out (by omega)).trans q2⟩
  · have Hq := Aside0.mk (HN.out hok)
    have hcase : (5 < n) ∨ (n = 5 ∧ e4 = false) ∨ (n = 5 ∧ e4 = true ∧ e2 = false) ∨ (n = 4 ∧ e2 = false) ∨ (n = 5 ∧ e4 = true ∧ e2 = true ∧ i < 0) ∨ (n = 4 ∧ e2 = true ∧ i < 0) ∨
        (n = 5 ∧ e4 = true ∧ e2 = true ∧ 0 ≤ i ∧ sb = false) ∨ (n = 4 ∧ e2 = true ∧ 0 ≤ i ∧ sb = false) ∨ (n = 5 ∧ e4 = true ∧ e2 = true ∧ 0 ≤ i ∧ sb = true ∧ s.entries.length = 8) ∨ (n = 4 ∧ e2 = true ∧ 0 ≤ i ∧ sb = true ∧ s.entries.length = 8) := by
      cases e2 <;> cases e4 <;> cases sb <;> simp at hok ⊢ <;> omega
    clear hok
    rcases hcase with h | ⟨rfl, rfl⟩ | ⟨rfl, rfl, rfl⟩ | ⟨rfl, rfl⟩ | ⟨rfl, rfl, rfl, h⟩ | ⟨rfl, rfl, h⟩ | ⟨rfl, rfl, rfl, h, rfl⟩ | ⟨rfl, rfl, h, rfl⟩ | ⟨rfl, rfl, rfl, h, rfl, h8⟩ | ⟨rfl, rfl, h, rfl, h8⟩
    · have h5 : (5 : Int) < n := by omega
      clear h
      go_enter Tryd.func27, Tryd.ntmps27
      go_wp2_with fail
      refine HP.out.mono ?_
      rintro e w' ⟨rfl, rfl⟩
      go_wp2_with fail
      refine (HW.out w).mono ?_
      rintro e w2 ⟨rfl, hb⟩
      have HB := Aside0.mk hb
      clear hb
      go_wp2
      go_ret
      exact ref_fails Hq.out HR.out HB.out (by omega)
    all_goals
      try have c4 := C4.out (by omega)
      go_enter Tryd.func27, Tryd.ntmps27
      go_wp2_with fail
      refine HP.out.mono ?_
      rintro e w' ⟨rfl, rfl⟩
      go_wp2_with fail
      refine (HW.out w).mono ?_
      rintro e w2 ⟨rfl, hb⟩
      have HB := Aside0.mk hb
      have c2' := pw_cell_below hb c2
      try have c4' := pw_cell_below hb c4
      have hge' := pw_cell_below hb hge
      try rw [h8] at hge'
      clear hb
      go_wp2
      go_ret
      exact ref_fails Hq.out HR.out HB.out (by omega)
end Go.Proofs.YtaeaakcppheaoaaDoor
