/- A region that draws its order, whose operations read and whose calls make new memory alone: one walk in the order of the text serves every order. -/
import Derived.Test.YtaeaakcppheaoaaDoorWWords
import Derived.Deep.QuietTactic
import Derived.BigQuiet
import Derived.Deep.AppendLies
import Derived.Deep.RegionHeld3
namespace Go.Proofs.YtaeaakcppheaoaaDoor
open Go.RowKit Go.Proofs.YtaeaakcppheaoaaDoorW.PrintWords

/-- A world in which all that lay in W lies as it lay. -/
structure Later (W : World) where
  w : World
  h : Below W.heap.size W w
instance later_nonempty (W : World) : Nonempty (Later W) := ⟨⟨W, Below.refl _ _⟩⟩
theorem later_cell {W : World} {a : Addr} {v : Value} (hc : W.cell? a = some v) (n : Later W) : n.w.cell? a = some v := pw_cell_below n.h hc
theorem later_C {α : Type} {d : Kd α} {W : World} {A : Option Addr} {k : Nat} {xs : List α} (h : d.C W A k xs) (n : Later W) : d.C n.w A k xs := Kd.C_below h n.h
theorem wp_region_later {P : Program} {id : Nat} {Q : Exit → Act → World → Prop} {a : Act} {W : World} {l : List Oper} (hm : P.follows .mixedOrders = true) (hB : Region.lexB .any l.toArray = true)
    (h : wpQuiet P l.toArray (fun w' => ∃ n : Later W, w' = n.w) (fun a' => ∀ w', (∃ n : Later W, w' = n.w) → Q .normal a' w') l a) : (Code.region id l.toArray true).wp P Q a W :=
  wp_region_quiet (C := fun w' => ∃ n : Later W, w' = n.w) hm hB ⟨⟨_, below_drew (Below.refl _ _)⟩, rfl⟩ (by simpa using h)
theorem later_elim {W : World} {p : World → Prop} (h : ∀ w', Below W.heap.size W w' → p w') : ∀ w', (∃ n : Later W, w' = n.w) → p w' := by
  rintro w' ⟨n, rfl⟩
  exact h _ n.h
theorem calls_later {P : Program} {f : FuncId} {args : Array Value} {W : World} {n : Later W} {v : Value}
    (h : Calls P f args n.w fun e w' => e = .returned v ∧ Below n.w.heap.size n.w w') : Calls P f args n.w fun e w'' => e = .returned v ∧ ∃ m : Later W, w'' = m.w :=
  h.mono fun _ w' ⟨he, hb⟩ => ⟨he, ⟨w', below_step n.h hb⟩, rfl⟩
section
variable {P : Program} {ops : Array Oper} {o : Oper} {a : Act} {Q : Exit → Act → World → Prop} {K : Act → World → Prop} {E : Prop} {α : Type}
/-- append(v, p), in a region that draws its order: the new slice lies in v's own row, or in a new block. -/
theorem R_lies (d : Kd α) (hgd : o.guard = none) (s x : Operand) (t e : TypeId) (z : Value) (bytes : Nat)
    (ho : o.op = .call { callee := .builtin .append, args := #[s, x], argTypes := #[t, t] })
    (ht : P.underlying t = some (.slice e)) (hinfo : (P.info? e).map (fun i => (i.zero, i.size, i.bytes)) = some (some z, d.sz, bytes)) (hz : z.cells.size = d.sz) (hs0 : 0 < d.sz)
    (base : Nat) (v : Value) (xs : List α) (p : α) (cs : List Value) (H : Nat) (w : World) (hs : a.eval s = v) (hx : a.eval x = .slice (some ⟨H, 0, none⟩) 1 1)
    (hH : w.heap[H]? = some (.cells cs.toArray e (0, 0))) (hp : d.M w base (fun _ => False) p cs)
    (HO : d.R e w base (fun _ => True) v xs) (hbase : base ≤ w.heap.size) (hl : (xs.length + 1) * bytes ≤ 140737488355328) (hmx : xs.length + 1 ≤ maxLen) (S : Nat) (hS : w.heap.size = S)
    (h : ∀ g cap w1, d.R e w1 base (fun _ => True) (.slice (some ⟨g, 0, none⟩) (xs.length + 1) cap) (xs ++ [p]) → w.grownBy w1 v.ownBlock → (v.ownBlock = some g ∨ g = S) → g < w1.heap.size → K (a.put o.dst (.slice (some ⟨g, 0, none⟩) (xs.length + 1) cap)) w1) :
    if Region.wanted o (yielded ops a.tmps) = true then Oper.wp P o a w K Q else E := by
  obtain ⟨h0, inner, hown, hr⟩ := HO
  obtain ⟨i, hi, hz0, hz1, hz2⟩ := info_parts hinfo
  have hcl : cs.length = d.sz := d.K_len (d.K_of_M hp)
  refine step_append_lies w hgd s x t ho base e i z d.sz bytes ht hi hz0 hz1 hz2 hz hs0 v xs.length inner hs hown ⟨H, 0, none⟩ 1 1 cs hx (by omega) ?_ (d.K_one (d.K_of_M hp)) (by decide) hmx hl hbase S hS ?_
  · intro j u hj
    rw [add_plain, blk_cell hH]
    simpa using hj
  · intro g cap w1 hown1 hg hat hlt
    refine h g cap w1 (Kd.R_appended h0 hr hp (fun _ hk => hk.elim) (fun _ _ => trivial) hown1 hg ?_) hg hat hlt
    rcases hat with hat | hat
    · exact .inl (by rw [hat]; rfl)
    · exact .inr ⟨g, rfl, by omega⟩
/-- The same where the order is the text's. -/
theorem R_lies_plain (d : Kd α) {rest : List Oper} (hgd : o.guard = none) (s x : Operand) (t e : TypeId) (z : Value) (bytes : Nat)
    (ho : o.op = .call { callee := .builtin .append, args := #[s, x], argTypes := #[t, t] })
    (ht : P.underlying t = some (.slice e)) (hinfo : (P.info? e).map (fun i => (i.zero, i.size, i.bytes)) = some (some z, d.sz, bytes)) (hz : z.cells.size = d.sz) (hs0 : 0 < d.sz)
    (base : Nat) (v : Value) (xs : List α) (p : α) (cs : List Value) (H : Nat) (w : World) (hs : a.eval s = v) (hx : a.eval x = .slice (some ⟨H, 0, none⟩) 1 1)
    (hH : w.heap[H]? = some (.cells cs.toArray e (0, 0))) (hp : d.M w base (fun _ => False) p cs)
    (HO : d.R e w base (fun _ => True) v xs) (hbase : base ≤ w.heap.size) (hl : (xs.length + 1) * bytes ≤ 140737488355328) (hmx : xs.length + 1 ≤ maxLen) (S : Nat) (hS : w.heap.size = S)
    (h : ∀ g cap w1, d.R e w1 base (fun _ => True) (.slice (some ⟨g, 0, none⟩) (xs.length + 1) cap) (xs ++ [p]) → w.grownBy w1 v.ownBlock → (v.ownBlock = some g ∨ g = S) → g < w1.heap.size → wpList P ops Q rest (a.put o.dst (.slice (some ⟨g, 0, none⟩) (xs.length + 1) cap)) w1) :
    wpList P ops Q (o :: rest) a w := by
  refine wpList_plain hgd fun K' hK' => ?_
  have := R_lies (P := P) (ops := ops) (o := o) (a := a) (Q := Q) (K := K') (E := True) d hgd s x t e z bytes ho ht hinfo hz hs0 base v xs p cs H w hs hx hH hp HO hbase hl hmx S hS (fun g cap w1 h1 h2 h3 h4 => hK' _ _ (h g cap w1 h1 h2 h3 h4))
  rwa [if_pos (by simp [Region.wanted, hgd])] at this
end
end Go.Proofs.YtaeaakcppheaoaaDoor
