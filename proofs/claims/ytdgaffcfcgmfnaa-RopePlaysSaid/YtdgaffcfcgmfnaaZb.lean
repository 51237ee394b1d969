/- An arena of nodes, and the trees in it: no program in sight. The trees of an arena, opened and shut. A tree's node with what is under it, leaf or knot alike. -/
import Derived.Test.YtdgaffcfcgmfnaaZa
namespace Go.Sl

/-! ### Rows of things of so many cells -/
section
variable {α : Type} {f : α → List Value} {sz : Nat}
theorem flat_len (hf : ∀ x, (f x).length = sz) (l : List α) : (l.flatMap f).length = l.length * sz := by
  induction l with
  | nil => simp
  | cons x l ih => simp only [List.flatMap_cons, List.length_append, hf, ih, List.length_cons, Nat.succ_mul]; omega
theorem flat_get (hf : ∀ x, (f x).length = sz) : ∀ (l : List α) (i j : Nat), j < sz → (l.flatMap f)[i * sz + j]? = (l[i]?).bind fun x => (f x)[j]?
  | [], i, j, _ => by simp
  | x :: l, 0, j, hj => by
    rw [List.flatMap_cons, List.getElem?_append, if_pos (by rw [hf]; omega)]
    simp
  | x :: l, i + 1, j, hj => by
    rw [List.flatMap_cons, List.getElem?_append, if_neg (by rw [hf, Nat.succ_mul]; omega), hf]
    have := flat_get hf l i j hj
    rw [Nat.succ_mul, show i * sz + sz + j - sz = i * sz + j by omega, this]
    simp
theorem flat_set (hf : ∀ x, (f x).length = sz) : ∀ (l : List α) (i j : Nat) (x y : α) (u : Value), j < sz → l[i]? = some x → f y = (f x).set j u → (l.flatMap f).set (i * sz + j) u = (l.set i y).flatMap f
  | [], i, j, _, _, _, _, h, _ => by simp at h
  | x :: l, 0, j, x', y, u, hj, h, hy => by
    simp at h
    subst h
    rw [List.flatMap_cons, List.set_append, if_pos (by rw [hf]; omega)]
    simp [hy]
  | x :: l, i + 1, j, x', y, u, hj, h, hy => by
    rw [List.flatMap_cons, List.set_append, if_neg (by rw [hf, Nat.succ_mul]; omega), hf]
    have := flat_set hf l i j x' y u hj (by simpa using h) hy
    rw [Nat.succ_mul, show i * sz + sz + j - sz = i * sz + j by omega, this]
    simp
theorem flat_take (hf : ∀ x, (f x).length = sz) : ∀ (l : List α) (i : Nat), (l.flatMap f).take (i * sz) = (l.take i).flatMap f
  | [], i => by simp
  | x :: l, 0 => by simp
  | x :: l, i + 1 => by
    rw [List.flatMap_cons, List.take_append, hf, List.take_of_length_le (by rw [hf, Nat.succ_mul]; omega), Nat.succ_mul, show i * sz + sz - sz = i * sz by omega, flat_take hf l i]
    simp
theorem flat_drop (hf : ∀ x, (f x).length = sz) : ∀ (l : List α) (i : Nat), (l.flatMap f).drop (i * sz) = (l.drop i).flatMap f
  | [], i => by simp
  | x :: l, 0 => by simp
  | x :: l, i + 1 => by
    rw [List.flatMap_cons, List.drop_append, hf, List.drop_eq_nil_iff.2 (by rw [hf, Nat.succ_mul]; omega), Nat.succ_mul, show i * sz + sz - sz = i * sz by omega, flat_drop hf l i]
    simp
theorem flat_put (hf : ∀ x, (f x).length = sz) {c : Array Value} {l : List α} (h : c.toList.take (l.length * sz) = l.flatMap f) (i : Nat) (y : α) (hi : i < l.length) : (spl c (i * sz) (f y)).toList.take (l.length * sz) = (l.set i y).flatMap f := by
  have hsz : i * sz + sz ≤ l.length * sz := by rw [← Nat.succ_mul]; exact Nat.mul_le_mul_right sz hi
  have hcl : l.length * sz ≤ c.toList.length := by
    have := congrArg List.length h
    rw [flat_len hf, List.length_take] at this
    omega
  have h1 : c.toList.take (i * sz) = (l.take i).flatMap f := by
    rw [← flat_take hf, ← h, List.take_take, Nat.min_eq_left (by omega)]
  have h2 : (c.toList.take (l.length * sz)).drop (i * sz + sz) = (l.drop (i + 1)).flatMap f := by
    rw [h, ← flat_drop hf, Nat.succ_mul]
  rw [List.set_eq_take_append_cons_drop, if_pos hi, List.flatMap_append, List.flatMap_cons, ← h1, ← h2]
  show (c.toList.take (i * sz) ++ f y ++ c.toList.drop (i * sz + (f y).length)).take (l.length * sz) = _
  rw [hf, List.append_assoc, List.take_append, List.take_append, hf, List.length_take, Nat.min_eq_left (by omega), List.take_of_length_le (i := l.length * sz) (by rw [List.length_take]; omega), List.take_of_length_le (i := l.length * sz - i * sz) (by rw [hf]; omega), List.drop_take]
  congr 3
  omega
end

/-- A code point. -/
structure El where
  id : Int
  rune : Int
  label : Int
  deriving DecidableEq, Inhabited
def elC (e : El) : List Value := [.int .i64 e.id, .int .i32 e.rune, .int .i64 e.label]
def elsC (es : List El) : List Value := es.flatMap elC
theorem elC_len (e : El) : (elC e).length = 3 := rfl
theorem elsC_len (es : List El) : (elsC es).length = es.length * 3 := flat_len elC_len es
theorem elsC_one (es : List El) : ∀ u ∈ elsC es, u.oneCell' = true := by
  intro u hu
  obtain ⟨e, _, he⟩ := List.mem_flatMap.1 hu
  simp only [elC, List.mem_cons, List.not_mem_nil, or_false] at he
  rcases he with rfl | rfl | rfl <;> rfl
def intsC (l : List Nat) : List Value := l.map fun k : Nat => Value.int .i64 (k : Int)
theorem intsC_len (l : List Nat) : (intsC l).length = l.length * 1 := by simp [intsC]
theorem intsC_one (l : List Nat) : ∀ u ∈ intsC l, u.oneCell' = true := by
  intro u hu
  obtain ⟨e, _, rfl⟩ := List.mem_map.1 hu
  rfl
/-- A node, as it lies in memory. -/
structure MN where
  ve : Value
  vk : Value
  elems : List El
  kids : List Nat
  size : Int
  of : Nat → Int
def MN.zero : MN := ⟨.slice none 0 0, .slice none 0 0, [], [], 0, fun _ => 0⟩
def nodeC (m : MN) : List Value := m.ve :: m.vk :: .int .i64 m.size :: (List.range 32).map fun l => .int .i64 (m.of l)
theorem nodeC_len (m : MN) : (nodeC m).length = 35 := by simp [nodeC]
def nodesC (ms : List MN) : List Value := ms.flatMap nodeC
theorem nodesC_len (ms : List MN) : (nodesC ms).length = ms.length * 35 := flat_len nodeC_len ms

/-! ### The trees -/
/-- How many are of a label. -/
def cnt (es : List El) (l : Nat) : Int := ((es.filter fun e => e.label = (l : Int)).length : Nat)
theorem cnt_nil (l : Nat) : cnt [] l = 0 := rfl
theorem cnt_append (a b : List El) (l : Nat) : cnt (a ++ b) l = cnt a l + cnt b l := by simp [cnt]
theorem cnt_cons (e : El) (es : List El) (l : Nat) : cnt (e :: es) l = (if e.label = (l : Int) then 1 else 0) + cnt es l := by
  unfold cnt
  rw [List.filter_cons]
  by_cases h : e.label = (l : Int)
  · simp [h]; omega
  · simp [h]
theorem cnt_le (es : List El) (l : Nat) : 0 ≤ cnt es l ∧ cnt es l ≤ es.length := by
  have := List.length_filter_le (fun e : El => decide (e.label = (l : Int))) es
  unfold cnt; omega
/-- A node's numbers are those of its code points; it has few kids. -/
structure Good (m : MN) (es : List El) : Prop where
  size : m.size = es.length
  of : ∀ l, l < 32 → m.of l = cnt es l
  few : m.kids.length ≤ 8
/-- Node j is m. -/
def nd (j : Nat) (m : MN) : Asg MN := ⟨fun a _ => a j = some m, fun hm _ h => hm _ _ h⟩
abbrev Part := Nat × List El
def partsE (ps : List Part) : List El := ps.flatMap (·.2)
def partsK (ps : List Part) : List Nat := ps.map (·.1)
/-- A tree of height h at place j, of so many code points. -/
def Tree : Nat → Nat → List El → Asg MN
  | 0, j, es => Asg.ex fun m => Asg.list [nd j m, Asg.pure (m.kids = [] ∧ m.elems = es ∧ Good m es)]
  | h + 1, j, es => Asg.ex fun m => Asg.ex fun ps : List Part => Asg.list [nd j m, Asg.pure (m.elems = [] ∧ ps ≠ [] ∧ m.kids = partsK ps ∧ es = partsE ps ∧ Good m es), Asg.list (ps.map fun q => Tree h q.1 q.2)]
def Trees (h : Nat) (ps : List Part) : Asg MN := Asg.list (ps.map fun q => Tree h q.1 q.2)

/-- The nodes ms, of which those of free are free; of the others L is true. -/
structure Ar (ms : List MN) (free : List Nat) (L : List (Asg MN)) : Prop where
  nodup : free.Nodup
  lt : ∀ j ∈ free, j < ms.length
  mem : ∃ a, (∀ j x, a j = some x → ms[j]? = some x ∧ j ∉ free) ∧ All L a PH.none

section
variable {ms : List MN} {free : List Nat} {L L' : List (Asg MN)} {A B : Asg MN}
theorem Ar.imp (h : Ar ms free L) (hi : ∀ m p, All L m p → All L' m p) : Ar ms free L' :=
  ⟨h.nodup, h.lt, let ⟨a, h1, h2⟩ := h.mem; ⟨a, h1, hi a _ h2⟩⟩
theorem Ar.perm (h : Ar ms free L) (hp : L.Perm L') : Ar ms free L' := h.imp fun _ _ => All.perm hp
theorem Ar.swap (h : Ar ms free (A :: B :: L)) : Ar ms free (B :: A :: L) := h.imp fun _ _ => All.swap
theorem Ar.pull (n : Nat) (h : Ar ms free L) : Ar ms free (pullAt n L) := h.perm (pullAt_perm n L)
theorem Ar.push (n : Nat) (h : Ar ms free L) : Ar ms free (pushAt n L) := h.perm (pushAt_perm n L)
theorem Ar.drop (h : Ar ms free (A :: L)) : Ar ms free L := h.imp fun _ _ h => h.drop
theorem Ar.open_list {M : List (Asg MN)} (h : Ar ms free (Asg.list M :: L)) : Ar ms free (M ++ L) := h.imp fun _ _ h => All.append.2 h
theorem Ar.shut_list (M : List (Asg MN)) (h : Ar ms free (M ++ L)) : Ar ms free (Asg.list M :: L) := h.imp fun _ _ h => All.append.1 h
theorem Ar.open_ex {β : Type} {F : β → Asg MN} (h : Ar ms free (Asg.ex F :: L)) : ∃ x, Ar ms free (F x :: L) := by
  obtain ⟨a, h1, m1, m2, b, k1, k2, ⟨x, hx⟩, hL⟩ := h.mem
  exact ⟨x, h.nodup, h.lt, a, h1, m1, m2, b, k1, k2, hx, hL⟩
theorem Ar.shut_ex {β : Type} {F : β → Asg MN} (x : β) (h : Ar ms free (F x :: L)) : Ar ms free (Asg.ex F :: L) :=
  h.imp fun _ _ ⟨m1, m2, a, h1, h2, hA, hL⟩ => ⟨m1, m2, a, h1, h2, ⟨x, hA⟩, hL⟩
theorem Ar.open_pure {φ : Prop} (h : Ar ms free (Asg.pure φ :: L)) : φ ∧ Ar ms free L := ⟨let ⟨_, _, _, _, _, _, _, hA, _⟩ := h.mem; hA, h.drop⟩
theorem Ar.shut_pure {φ : Prop} (h : Ar ms free L) (hφ : φ) : Ar ms free (Asg.pure φ :: L) :=
  h.imp fun m _ hL => ⟨PH.none, m, PH.none_apart _, PH.none_le _, PH.le.refl _, hφ, hL⟩
theorem Ar.at_ {j : Nat} {m : MN} (h : Ar ms free (nd j m :: L)) : ms[j]? = some m := by
  obtain ⟨a, h1, m1, m2, b, k1, k2, hA, hL⟩ := h.mem
  exact (h1 _ _ (k1 _ _ hA)).1
theorem Ar.notfree {j : Nat} {m : MN} (h : Ar ms free (nd j m :: L)) : j ∉ free := by
  obtain ⟨a, h1, m1, m2, b, k1, k2, hA, hL⟩ := h.mem
  exact (h1 _ _ (k1 _ _ hA)).2
theorem Ar.ltlen {j : Nat} {m : MN} (h : Ar ms free (nd j m :: L)) : j < ms.length := (List.getElem?_eq_some_iff.1 h.at_).1
theorem Ar.ne {i j : Nat} {x y : MN} (h : Ar ms free (nd i x :: nd j y :: L)) : i ≠ j := by
  obtain ⟨a, h1, m1, m2, b, k1, k2, hA, n1, n2, c, l1, l2, hB, hL⟩ := h.mem
  intro e
  have := b i x hA
  rw [e, l1 _ _ hB] at this
  cases this
/-- A node is turned. -/
theorem Ar.set {j : Nat} {m : MN} (h : Ar ms free (nd j m :: L)) (m' : MN) : Ar (ms.set j m') free (nd j m' :: L) := by
  have hlt := h.ltlen
  have hnf := h.notfree
  obtain ⟨a, h1, m1, m2, b, k1, k2, hA, hL⟩ := h.mem
  have hm2 : m2 j = none := b _ _ hA
  have ap : PH.apart (PH.one j m') m2 := fun i x e => by
    simp only [PH.one] at e
    split at e
    · rename_i hi; rw [hi]; exact hm2
    · cases e
  refine ⟨h.nodup, fun i hi => by rw [List.length_set]; exact h.lt i hi, (PH.one j m').union m2, fun i x e => ?_, PH.one j m', m2, ap, PH.union_left _ _, PH.union_right ap, by simp [nd, PH.one], hL⟩
  cases hone : PH.one j m' i with
  | some y =>
    simp only [PH.union, hone, Option.orElse_some, Option.some.injEq] at e
    subst e
    simp only [PH.one] at hone
    split at hone
    · rename_i hi; injection hone with hone; subst hi hone
      exact ⟨by rw [List.getElem?_set_self hlt], hnf⟩
    · cases hone
  | none =>
    simp only [PH.union, hone] at e
    have hij : i ≠ j := fun e' => by rw [e', hm2] at e; cases e
    rw [List.getElem?_set_ne (Ne.symm hij)]
    exact h1 _ _ (k2 _ _ e)
/-- A node is given back. -/
theorem Ar.give {j : Nat} {m : MN} (h : Ar ms free (nd j m :: L)) (m' : MN) : Ar (ms.set j m') (free ++ [j]) L := by
  have hlt := h.ltlen
  have hnf := h.notfree
  obtain ⟨a, h1, m1, m2, b, k1, k2, hA, hL⟩ := h.mem
  have hm2 : m2 j = none := b _ _ hA
  refine ⟨?_, fun i hi => ?_, m2, fun i x e => ?_, hL⟩
  · rw [List.nodup_append]
    refine ⟨h.nodup, by simp, fun x hx y hy => ?_⟩
    simp at hy
    subst hy
    intro e; subst e; exact hnf hx
  · rw [List.length_set]
    rcases List.mem_append.1 hi with h2 | h2
    · exact h.lt i h2
    · simp at h2; omega
  · have hij : i ≠ j := fun e' => by rw [e', hm2] at e; cases e
    have := h1 _ _ (k2 _ _ e)
    exact ⟨by rw [List.getElem?_set_ne (Ne.symm hij)]; exact this.1, by simp; exact ⟨this.2, hij⟩⟩
/-- A free node is taken. -/
theorem Ar.take {j : Nat} (h : Ar ms (free ++ [j]) L) (m : MN) : Ar (ms.set j m) free (nd j m :: L) := by
  have hlt := h.lt j (by simp)
  have hd := List.nodup_append.1 h.nodup
  have hnf : j ∉ free := fun e => hd.2.2 j e j (by simp) rfl
  obtain ⟨a, h1, hL⟩ := h.mem
  have haj : a j = none := by
    cases e : a j with
    | none => rfl
    | some x => exact absurd (by simp) (h1 _ _ e).2
  have ap : PH.apart (PH.one j m) a := fun i x e => by
    simp only [PH.one] at e
    split at e
    · rename_i hi; rw [hi]; exact haj
    · cases e
  refine ⟨hd.1, fun i hi => by rw [List.length_set]; exact h.lt i (by simp [hi]), (PH.one j m).union a, fun i x e => ?_, PH.one j m, a, ap, PH.union_left _ _, PH.union_right ap, by simp [nd, PH.one], hL⟩
  cases hone : PH.one j m i with
  | some y =>
    simp only [PH.union, hone, Option.orElse_some, Option.some.injEq] at e
    subst e
    simp only [PH.one] at hone
    split at hone
    · rename_i hi; injection hone with hone; subst hi hone
      exact ⟨by rw [List.getElem?_set_self hlt], hnf⟩
    · cases hone
  | none =>
    simp only [PH.union, hone] at e
    have hij : i ≠ j := fun e' => by rw [e', haj] at e; cases e
    have := h1 _ _ e
    rw [List.getElem?_set_ne (Ne.symm hij)]
    exact ⟨this.1, fun hf => this.2 (by simp [hf])⟩
/-- A new node. -/
theorem Ar.new (h : Ar ms free L) (m : MN) : Ar (ms ++ [m]) free (nd ms.length m :: L) := by
  obtain ⟨a, h1, hL⟩ := h.mem
  have haj : a ms.length = none := by
    cases e : a ms.length with
    | none => rfl
    | some x => have := (List.getElem?_eq_some_iff.1 (h1 _ _ e).1).1; omega
  have ap : PH.apart (PH.one ms.length m) a := fun i x e => by
    simp only [PH.one] at e
    split at e
    · rename_i hi; rw [hi]; exact haj
    · cases e
  refine ⟨h.nodup, fun i hi => by rw [List.length_append]; have := h.lt i hi; omega, (PH.one ms.length m).union a, fun i x e => ?_, PH.one ms.length m, a, ap, PH.union_left _ _, PH.union_right ap, by simp [nd, PH.one], hL⟩
  cases hone : PH.one ms.length m i with
  | some y =>
    simp only [PH.union, hone, Option.orElse_some, Option.some.injEq] at e
    subst e
    simp only [PH.one] at hone
    split at hone
    · rename_i hi; injection hone with hone; subst hi hone
      exact ⟨by simp, fun hf => by have := h.lt _ hf; omega⟩
    · cases hone
  | none =>
    simp only [PH.union, hone] at e
    have := h1 _ _ e
    have hlt := (List.getElem?_eq_some_iff.1 this.1).1
    rw [List.getElem?_append_left hlt]
    exact this
end
end Go.Sl
namespace Go.Sl
variable {ms : List MN} {free : List Nat} {F : List (Asg MN)} {h j : Nat} {es : List El}

theorem tree_leaf (ha : Ar ms free (Tree 0 j es :: F)) : ∃ m, Ar ms free (nd j m :: F) ∧ m.kids = [] ∧ m.elems = es ∧ Good m es := by
  obtain ⟨m, h1⟩ := Ar.open_ex ha
  have h2 := h1.open_list
  obtain ⟨⟨h3, h4, h5⟩, h6⟩ := h2.swap.open_pure
  exact ⟨m, h6, h3, h4, h5⟩
theorem leaf_tree {m : MN} (ha : Ar ms free (nd j m :: F)) (h1 : m.kids = []) (h2 : m.elems = es) (h3 : Good m es) : Ar ms free (Tree 0 j es :: F) := by
  have h4 : Ar ms free (Asg.pure (m.kids = [] ∧ m.elems = es ∧ Good m es) :: nd j m :: F) := ha.shut_pure ⟨h1, h2, h3⟩
  exact Ar.shut_ex m (Ar.shut_list [nd j m, Asg.pure (m.kids = [] ∧ m.elems = es ∧ Good m es)] h4.swap)
theorem tree_knot (ha : Ar ms free (Tree (h + 1) j es :: F)) : ∃ m ps, Ar ms free (nd j m :: Trees h ps :: F) ∧ m.elems = [] ∧ ps ≠ [] ∧ m.kids = partsK ps ∧ es = partsE ps ∧ Good m es := by
  obtain ⟨m, h1⟩ := Ar.open_ex ha
  obtain ⟨ps, h1⟩ := h1.open_ex
  have h2 := h1.open_list
  obtain ⟨⟨h3, h4, h5, h6, h7⟩, h8⟩ := h2.swap.open_pure
  exact ⟨m, ps, h8, h3, h4, h5, h6, h7⟩
theorem knot_tree {m : MN} {ps : List Part} (ha : Ar ms free (nd j m :: Trees h ps :: F)) (h1 : m.elems = []) (h2 : ps ≠ []) (h3 : m.kids = partsK ps) (h4 : es = partsE ps) (h5 : Good m es) : Ar ms free (Tree (h + 1) j es :: F) := by
  have h6 : Ar ms free (Asg.pure (m.elems = [] ∧ ps ≠ [] ∧ m.kids = partsK ps ∧ es = partsE ps ∧ Good m es) :: nd j m :: Trees h ps :: F) := ha.shut_pure ⟨h1, h2, h3, h4, h5⟩
  exact Ar.shut_ex m (Ar.shut_ex ps (Ar.shut_list [nd j m, Asg.pure (m.elems = [] ∧ ps ≠ [] ∧ m.kids = partsK ps ∧ es = partsE ps ∧ Good m es), Trees h ps] h6.swap))
theorem trees_open {a b : List Part} {q : Part} (ha : Ar ms free (Trees h (a ++ q :: b) :: F)) : Ar ms free (Tree h q.1 q.2 :: Trees h a :: Trees h b :: F) := by
  have h1 := Ar.open_list ha
  simp only [List.map_append, List.map_cons, List.append_assoc, List.cons_append] at h1
  have h2 := Ar.shut_list (a.map fun q => Tree h q.1 q.2) h1
  have h3 := h2.pull 1
  have h4 : Ar ms free (Tree h q.1 q.2 :: Asg.list (a.map fun q => Tree h q.1 q.2) :: (b.map (fun q => Tree h q.1 q.2) ++ F)) := h3
  refine h4.imp ?_
  rintro m p ⟨m1, m2, d, k1, k2, hA, n1, n2, e, l1, l2, hB, hC⟩
  exact ⟨m1, m2, d, k1, k2, hA, n1, n2, e, l1, l2, hB, All.append.1 hC⟩
theorem trees_shut {a b : List Part} {q : Part} (ha : Ar ms free (Tree h q.1 q.2 :: Trees h a :: Trees h b :: F)) : Ar ms free (Trees h (a ++ q :: b) :: F) := by
  have h4 : Ar ms free (Tree h q.1 q.2 :: Asg.list (a.map fun q => Tree h q.1 q.2) :: (b.map (fun q => Tree h q.1 q.2) ++ F)) := by
    refine ha.imp ?_
    rintro m p ⟨m1, m2, d, k1, k2, hA, n1, n2, e, l1, l2, hB, hC⟩
    exact ⟨m1, m2, d, k1, k2, hA, n1, n2, e, l1, l2, hB, All.append.2 hC⟩
  have h5 := h4.swap.open_list
  refine Ar.shut_list ((a ++ q :: b).map fun q => Tree h q.1 q.2) ?_
  simpa using h5
theorem trees_app {a b : List Part} : Ar ms free (Trees h (a ++ b) :: F) ↔ Ar ms free (Trees h a :: Trees h b :: F) := by
  constructor
  · intro ha
    have h1 := Ar.open_list ha
    simp only [List.map_append, List.append_assoc] at h1
    refine (Ar.shut_list (a.map fun q => Tree h q.1 q.2) h1).imp ?_
    rintro m p ⟨m1, m2, d, k1, k2, hA, hC⟩
    exact ⟨m1, m2, d, k1, k2, hA, All.append.1 hC⟩
  · intro ha
    have h4 : Ar ms free (Asg.list (a.map fun q => Tree h q.1 q.2) :: (b.map (fun q => Tree h q.1 q.2) ++ F)) := by
      refine ha.imp ?_
      rintro m p ⟨m1, m2, d, k1, k2, hA, hC⟩
      exact ⟨m1, m2, d, k1, k2, hA, All.append.2 hC⟩
    refine Ar.shut_list ((a ++ b).map fun q => Tree h q.1 q.2) ?_
    have h5 := h4.open_list
    simpa using h5
theorem trees_one {q : Part} : Ar ms free (Trees h [q] :: F) ↔ Ar ms free (Tree h q.1 q.2 :: F) := by
  constructor
  · intro ha
    have h1 := Ar.open_list ha
    simpa using h1
  · intro ha
    exact Ar.shut_list [Tree h q.1 q.2] ha
theorem trees_nil : Ar ms free (Trees h [] :: F) ↔ Ar ms free F := ⟨fun ha => Ar.open_list ha, fun ha => Ar.shut_list [] ha⟩
/-- A tree's node. -/
theorem tree_node (ha : Ar ms free (Tree h j es :: F)) : ∃ x, ms[j]? = some x ∧ Good x es ∧ (x.kids = [] ↔ h = 0) ∧ ∃ F', Ar ms free (nd j x :: F') ∧ (∀ i m F2, F = nd i m :: F2 → i ≠ j) := by
  cases h with
  | zero =>
    obtain ⟨m, h1, h2, h3, h4⟩ := tree_leaf ha
    exact ⟨m, h1.at_, h4, by simp [h2], F, h1, fun i x F2 e => by subst e; exact (Ar.ne h1).symm⟩
  | succ h =>
    obtain ⟨m, ps, h1, h2, h3, h4, h5, h6⟩ := tree_knot ha
    refine ⟨m, h1.at_, h6, ?_, _, h1, fun i x F2 e => ?_⟩
    · rw [h4]
      simp [partsK, h3]
    · subst e
      exact (Ar.ne ((h1.pull 2).swap)).symm ∘ fun e => e ▸ rfl
/-- The kids' nodes. -/
theorem kid_node {m : MN} {ps : List Part} (ha : Ar ms free (nd j m :: Trees h ps :: F)) (q : Nat) (hq : q < ps.length) : ∃ x, ms[(ps[q]).1]? = some x ∧ Good x (ps[q]).2 ∧ (ps[q]).1 ≠ j ∧ (x.kids = [] ↔ h = 0) := by
  have hdec := (List.take_append_drop q ps).symm
  rw [List.drop_eq_getElem_cons hq] at hdec
  have h1 := ha.swap
  rw [hdec] at h1
  have h2 := (trees_open h1).pull 3
  obtain ⟨x, hx, hg, hk, F', -, hne⟩ := tree_node (h2.swap)
  exact ⟨x, hx, hg, fun e => hne _ _ _ rfl e.symm, hk⟩
end Go.Sl
namespace Go.Sl
variable {ms : List MN} {free : List Nat} {F : List (Asg MN)} {j h : Nat} {es : List El}
/-- What is under a node. -/
def Under : Nat → MN → List Part → Asg MN
  | 0, _, ps => Asg.pure (ps = [])
  | h + 1, m, ps => Asg.list [Asg.pure (m.elems = [] ∧ ps ≠ []), Trees h ps]
theorem under_0 {m : MN} {ps : List Part} (ha : Ar ms free (Under 0 m ps :: F)) : ps = [] ∧ Ar ms free F := Ar.open_pure ha
theorem under_s {m : MN} {ps : List Part} (ha : Ar ms free (Under (h + 1) m ps :: F)) : (m.elems = [] ∧ ps ≠ []) ∧ Ar ms free (Trees h ps :: F) := Ar.open_pure (Ar.open_list (M := [Asg.pure (m.elems = [] ∧ ps ≠ []), Trees h ps]) ha)
theorem to_under_0 {m : MN} (ha : Ar ms free F) : Ar ms free (Under 0 m [] :: F) := ha.shut_pure rfl
theorem to_under_s {m : MN} {ps : List Part} (ha : Ar ms free (Trees h ps :: F)) (h1 : m.elems = []) (h2 : ps ≠ []) : Ar ms free (Under (h + 1) m ps :: F) :=
  Ar.shut_list [Asg.pure (m.elems = [] ∧ ps ≠ []), Trees h ps] (Ar.shut_pure ha ⟨h1, h2⟩)
theorem tree_under (ha : Ar ms free (Tree h j es :: F)) : ∃ m ps, Ar ms free (nd j m :: Under h m ps :: F) ∧ m.kids = partsK ps ∧ es = m.elems ++ partsE ps ∧ Good m es ∧ (m.kids = [] ↔ h = 0) := by
  cases h with
  | zero =>
    obtain ⟨m, h1, h2, h3, h4⟩ := tree_leaf ha
    exact ⟨m, [], (to_under_0 h1).swap, by simp [h2, partsK], by simp [h3, partsE], h4, by simp [h2]⟩
  | succ h =>
    obtain ⟨m, ps, h1, h2, h3, h4, h5, h6⟩ := tree_knot ha
    exact ⟨m, ps, (to_under_s h1.swap h2 h3).swap, h4, by rw [h2, h5]; rfl, h6, by rw [h4]; simp [partsK, h3]⟩
theorem under_tree {m : MN} {ps : List Part} (ha : Ar ms free (nd j m :: Under h m ps :: F)) (h1 : m.kids = partsK ps) (h2 : es = m.elems ++ partsE ps) (h3 : Good m es) : Ar ms free (Tree h j es :: F) := by
  cases h with
  | zero =>
    obtain ⟨rfl, h4⟩ := under_0 ha.swap
    exact leaf_tree h4 (by rw [h1]; rfl) (by rw [h2]; simp [partsE]) h3
  | succ h =>
    obtain ⟨⟨h4, h5⟩, h6⟩ := under_s ha.swap
    exact knot_tree h6.swap h4 h5 h1 (by rw [h2, h4]; rfl) h3
theorem under_app {x y m : MN} {p q : List Part} (ha : Ar ms free (Under h x p :: Under h y q :: F)) (hm : m.elems = x.elems ++ y.elems) : Ar ms free (Under h m (p ++ q) :: F) := by
  cases h with
  | zero =>
    obtain ⟨rfl, h1⟩ := under_0 ha
    obtain ⟨rfl, h2⟩ := under_0 h1
    exact to_under_0 h2
  | succ h =>
    obtain ⟨⟨h4, h5⟩, h6⟩ := under_s ha
    obtain ⟨⟨h7, h8⟩, h9⟩ := under_s h6.swap
    exact to_under_s (trees_app.2 h9.swap) (by rw [hm, h4, h7]; rfl) (by simp [h5])
theorem under_list {x y : MN} {p q : List Part} (ha : Ar ms free (Under h x p :: Under h y q :: F)) : x.elems ++ y.elems ++ partsE (p ++ q) = (x.elems ++ partsE p) ++ (y.elems ++ partsE q) := by
  cases h with
  | zero =>
    obtain ⟨rfl, h1⟩ := under_0 ha
    obtain ⟨rfl, h2⟩ := under_0 h1
    simp [partsE]
  | succ h =>
    obtain ⟨⟨h4, h5⟩, h6⟩ := under_s ha
    obtain ⟨⟨h7, h8⟩, h9⟩ := under_s h6.swap
    simp [partsE, h4, h7]
theorem under_kid {x : MN} {i : Nat} {z : MN} {p : List Part} (ha : Ar ms free (nd i z :: Under h x p :: F)) (t : Nat) (ht : t < p.length) : ∃ z, ms[(p[t]).1]? = some z ∧ Good z (p[t]).2 ∧ (p[t]).1 ≠ i := by
  cases h with
  | zero =>
    obtain ⟨rfl, h1⟩ := under_0 ha.swap
    simp at ht
  | succ h =>
    obtain ⟨-, h6⟩ := under_s ha.swap
    obtain ⟨z, h1, h2, h3, -⟩ := kid_node h6.swap t ht
    exact ⟨z, h1, h2, h3⟩
end Go.Sl
