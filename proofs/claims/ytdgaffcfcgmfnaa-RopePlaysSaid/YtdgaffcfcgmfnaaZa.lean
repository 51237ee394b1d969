/- A small logic of parts of a heap: what a call owns, what is shared and never written again, and what else there is. Rows of one's own and shared rows; append, copy. Rows of one's own, written: copy, clear, append of zeros. What all walks of this seat import; small facts. -/
import Derived.Below
import Derived.Deep.Draws
import Derived.Laws.Append
import Derived.Laws.AppendOwn
import Derived.Laws.IdiomCopy
import Derived.Lib.Hide
import Derived.Tactics
import Derived.Lib.AppendZerosOnto
import Derived.Lib.Overlaps
import Derived.Deep.RegionWith
import Derived.Deep.MidRow
import Derived.Test.YtdgaffcfcgmfnaaProg
import Derived.WalkKit
import Derived.WalkSpells
import Derived.KernelRfl
import Derived.Laws.Externs
import Derived.Deep.RegionLaw
import Derived.Deep.RegionHeld3
import Derived.Deep.QuietTactic
import Derived.BigQuiet
import Derived.StillTailTactics
import Derived.Outline
set_option linter.unusedVariables false
set_option linter.unusedSimpArgs false
namespace Go.Sl
open Go.RowKit

/-- A part of a heap. -/
abbrev PH (α : Type) := Nat → Option α
section
variable {α : Type}
def PH.le (a b : PH α) : Prop := ∀ k o, a k = some o → b k = some o
def PH.apart (a b : PH α) : Prop := ∀ k o, a k = some o → b k = none
theorem PH.le.refl (a : PH α) : PH.le a a := fun _ _ h => h
theorem PH.le.trans {a b c : PH α} (h : PH.le a b) (k : PH.le b c) : PH.le a c := fun i o e => k i o (h i o e)
theorem PH.apart.symm {a b : PH α} (h : PH.apart a b) : PH.apart b a := fun k o e => by
  cases ha : a k with
  | none => rfl
  | some x => rw [h k x ha] at e; cases e
theorem PH.apart.mono {a b a' b' : PH α} (h : PH.apart a b) (ha : PH.le a' a) (hb : PH.le b' b) : PH.apart a' b' := fun k o e => by
  cases hb' : b' k with
  | none => rfl
  | some x => have := h k o (ha k o e); rw [hb k x hb'] at this; cases this
def PH.none : PH α := fun _ => Option.none
theorem PH.none_apart (a : PH α) : PH.apart PH.none a := fun _ _ e => nomatch e
theorem PH.none_le (a : PH α) : PH.le PH.none a := fun _ _ e => nomatch e
def PH.one (b : Nat) (o : α) : PH α := fun k => if k = b then some o else Option.none
def PH.union (a b : PH α) : PH α := fun k => (a k).orElse fun _ => b k
theorem PH.union_left (a b : PH α) : PH.le a (a.union b) := fun k o e => by simp [PH.union, e]
theorem PH.union_right {a b : PH α} (h : PH.apart a b) : PH.le b (a.union b) := fun k o e => by simp [PH.union, h.symm k o e, e]
theorem PH.union_le {a b c : PH α} (ha : PH.le a c) (hb : PH.le b c) : PH.le (a.union b) c := fun k o e => by
  cases h : a k with
  | none => simp [PH.union, h] at e; exact hb k o e
  | some x => simp [PH.union, h] at e; subst e; exact ha k x h
theorem PH.union_apart {a b c : PH α} (ha : PH.apart a c) (hb : PH.apart b c) : PH.apart (a.union b) c := fun k o e => by
  cases h : a k with
  | none => simp [PH.union, h] at e; exact hb k o e
  | some x => exact ha k x h

/-- What may be said of a part that is owned (m) and of what is shared (p). -/
structure Asg (α : Type) where
  holds : PH α → PH α → Prop
  mono : ∀ {m m' p p' : PH α}, PH.le m m' → PH.le p p' → holds m p → holds m' p'

/-- All of a list, of parts that have nothing in common. -/
def All : List (Asg α) → PH α → PH α → Prop
  | [], _, _ => True
  | A :: L, m, p => ∃ m1 m2, PH.apart m1 m2 ∧ PH.le m1 m ∧ PH.le m2 m ∧ A.holds m1 p ∧ All L m2 p
theorem All.mono : ∀ {L : List (Asg α)} {m m' p p' : PH α}, PH.le m m' → PH.le p p' → All L m p → All L m' p'
  | [], _, _, _, _, _, _, _ => trivial
  | _ :: _, _, _, _, _, hm, hp, ⟨m1, m2, h, h1, h2, hA, hL⟩ => ⟨m1, m2, h, h1.trans hm, h2.trans hm, Asg.mono _ (PH.le.refl _) hp hA, hL.mono (PH.le.refl _) hp⟩
/-- A list as one. -/
def Asg.list (L : List (Asg α)) : Asg α := ⟨All L, All.mono⟩
/-- What is true whatever the memory. -/
def Asg.pure (φ : Prop) : Asg α := ⟨fun _ _ => φ, fun _ _ h => h⟩
def Asg.ex {β : Type} (A : β → Asg α) : Asg α := ⟨fun m p => ∃ x, (A x).holds m p, fun hm hp ⟨x, h⟩ => ⟨x, (A x).mono hm hp h⟩⟩
/-- A block of one's own. -/
def pt (b : Nat) (o : α) : Asg α := ⟨fun m _ => m b = some o, fun hm _ h => hm _ _ h⟩
/-- A block that nobody writes again. -/
def ro (b : Nat) (o : α) : Asg α := ⟨fun _ p => p b = some o, fun _ hp h => hp _ _ h⟩
/-- What looks at no part of its own. -/
structure Shared (A : Asg α) : Prop where
  of : ∀ {m p : PH α}, A.holds m p → A.holds PH.none p

theorem All.append : ∀ {L L' : List (Asg α)} {m p : PH α}, All (L ++ L') m p ↔ ∃ m1 m2, PH.apart m1 m2 ∧ PH.le m1 m ∧ PH.le m2 m ∧ All L m1 p ∧ All L' m2 p
  | [], L', m, p => ⟨fun h => ⟨PH.none, m, PH.none_apart _, PH.none_le _, PH.le.refl _, trivial, h⟩, fun ⟨_, _, _, _, h2, _, h⟩ => h.mono h2 (PH.le.refl _)⟩
  | A :: L, L', m, p => by
    constructor
    · rintro ⟨m1, m2, h, h1, h2, hA, hL⟩
      obtain ⟨n1, n2, k, k1, k2, hl, hl'⟩ := All.append.1 hL
      refine ⟨m1.union n1, n2, PH.union_apart (h.mono (PH.le.refl _) k2) k, PH.union_le h1 (k1.trans h2), k2.trans h2, ⟨m1, n1, h.mono (PH.le.refl _) k1, PH.union_left _ _, PH.union_right (h.mono (PH.le.refl _) k1), hA, hl⟩, hl'⟩
    · rintro ⟨m1, m2, h, h1, h2, ⟨n1, n2, k, k1, k2, hA, hL⟩, hL'⟩
      refine ⟨n1, n2.union m2, ?_, k1.trans h1, PH.union_le (k2.trans h1) h2, hA, All.append.2 ⟨n2, m2, h.mono k2 (PH.le.refl _), PH.union_left _ _, PH.union_right (h.mono k2 (PH.le.refl _)), hL, hL'⟩⟩
      exact (PH.union_apart k.symm (h.symm.mono (PH.le.refl _) k1)).symm
theorem All.swap {A B : Asg α} {L : List (Asg α)} {m p : PH α} (h : All (A :: B :: L) m p) : All (B :: A :: L) m p := by
  obtain ⟨m1, m2, a, h1, h2, hA, n1, n2, b, k1, k2, hB, hL⟩ := h
  refine ⟨n1, m1.union n2, ?_, k1.trans h2, PH.union_le h1 (k2.trans h2), hB, m1, n2, a.mono (PH.le.refl _) k2, PH.union_left _ _, PH.union_right (a.mono (PH.le.refl _) k2), hA, hL⟩
  exact (PH.union_apart (a.mono (PH.le.refl _) k1) b.symm).symm
theorem All.perm {L L' : List (Asg α)} (hp : L.Perm L') : ∀ {m p : PH α}, All L m p → All L' m p := by
  induction hp with
  | nil => exact fun h => h
  | cons A _ ih => exact fun ⟨m1, m2, a, h1, h2, hA, hL⟩ => ⟨m1, m2, a, h1, h2, hA, ih hL⟩
  | swap A B L => exact fun h => h.swap
  | trans _ _ ih1 ih2 => exact fun h => ih2 (ih1 h)

theorem All.drop {A : Asg α} {L : List (Asg α)} {m p : PH α} (h : All (A :: L) m p) : All L m p := let ⟨_, _, _, _, h2, _, hL⟩ := h; hL.mono h2 (PH.le.refl _)
/-- Take the n-th to the front. -/
def pullAt : Nat → List (Asg α) → List (Asg α)
  | 0, L => L
  | n + 1, A :: L => match pullAt n L with
    | B :: L' => B :: A :: L'
    | [] => A :: L
  | _ + 1, [] => []
theorem pullAt_perm : ∀ (n : Nat) (L : List (Asg α)), L.Perm (pullAt n L)
  | 0, L => .refl _
  | n + 1, [] => .refl _
  | n + 1, A :: L => by
    have ih := pullAt_perm n L
    unfold pullAt
    cases h : pullAt n L with
    | nil => exact .refl _
    | cons B L' => rw [h] at ih; exact (List.Perm.cons A ih).trans (.swap B A L')
/-- Put the first back behind n others. -/
def pushAt : Nat → List (Asg α) → List (Asg α)
  | 0, L => L
  | n + 1, A :: B :: L => B :: pushAt n (A :: L)
  | _ + 1, L => L
theorem pushAt_perm : ∀ (n : Nat) (L : List (Asg α)), L.Perm (pushAt n L)
  | 0, L => .refl _
  | n + 1, [] => .refl _
  | n + 1, [A] => .refl _
  | n + 1, A :: B :: L => (List.Perm.swap B A L).trans (.cons B (pushAt_perm n (A :: L)))
end
abbrev Asn := Asg Obj
/-- The world w, in which the streams are as in k, and of whose heap the list is true. -/
structure St (k w : World) (L : List Asn) : Prop where
  os : w.os = k.os
  tape : w.tape = k.tape
  output : w.output = k.output
  size : k.heap.size ≤ w.heap.size
  mem : ∃ m p, PH.apart m p ∧ (∀ b o, m b = some o → w.heap[b]? = some o) ∧ (∀ b o, p b = some o → w.heap[b]? = some o) ∧ All L m p

section
variable {k w : World} {L L' : List Asn} {A B : Asn}
/-- The same memory. -/
theorem St.same {w' : World} (h : St k w L) (h1 : w'.os = w.os) (h2 : w'.tape = w.tape) (h3 : w'.output = w.output) (h4 : w'.heap = w.heap) : St k w' L :=
  ⟨h1.trans h.os, h2.trans h.tape, h3.trans h.output, by rw [h4]; exact h.size, by rw [h4]; exact h.mem⟩
theorem St.drew (h : St k w L) : St k w.drew L := h.same rfl rfl rfl rfl
theorem St.drewN (h : St k w L) (n : Nat) : St k (w.drewN n) L := h.same rfl rfl rfl rfl
/-- Another list of which that one speaks. -/
theorem St.imp (h : St k w L) (hi : ∀ m p, All L m p → All L' m p) : St k w L' :=
  ⟨h.os, h.tape, h.output, h.size, let ⟨m, p, a, h1, h2, h3⟩ := h.mem; ⟨m, p, a, h1, h2, hi m p h3⟩⟩
theorem St.perm (h : St k w L) (hp : L.Perm L') : St k w L' := h.imp fun _ _ => All.perm hp
theorem St.swap (h : St k w (A :: B :: L)) : St k w (B :: A :: L) := h.imp fun _ _ => All.swap
theorem St.pull (n : Nat) (h : St k w L) : St k w (pullAt n L) := h.perm (pullAt_perm n L)
theorem St.push (n : Nat) (h : St k w L) : St k w (pushAt n L) := h.perm (pushAt_perm n L)
/-- The first is left out. -/
theorem St.drop (h : St k w (A :: L)) : St k w L := h.imp fun _ _ ⟨_, _, _, _, h2, _, hL⟩ => hL.mono h2 (PH.le.refl _)
/-- The first by what it gives. -/
theorem St.head (h : St k w (A :: L)) (hi : ∀ m p, A.holds m p → B.holds m p) : St k w (B :: L) := h.imp fun _ _ ⟨m1, m2, a, h1, h2, hA, hL⟩ => ⟨m1, m2, a, h1, h2, hi _ _ hA, hL⟩
theorem St.open_list {M : List Asn} (h : St k w (Asg.list M :: L)) : St k w (M ++ L) := h.imp fun _ _ h => All.append.2 h
theorem St.shut_list (M : List Asn) (h : St k w (M ++ L)) : St k w (Asg.list M :: L) := h.imp fun _ _ h => All.append.1 h
theorem St.open_ex {β : Type} {F : β → Asn} (h : St k w (Asg.ex F :: L)) : ∃ x, St k w (F x :: L) := by
  obtain ⟨m, p, a, h1, h2, m1, m2, b, k1, k2, ⟨x, hx⟩, hL⟩ := h.mem
  exact ⟨x, h.os, h.tape, h.output, h.size, m, p, a, h1, h2, m1, m2, b, k1, k2, hx, hL⟩
theorem St.shut_ex {β : Type} {F : β → Asn} (x : β) (h : St k w (F x :: L)) : St k w (Asg.ex F :: L) := h.head fun _ _ hx => ⟨x, hx⟩
theorem St.open_pure {φ : Prop} (h : St k w (Asg.pure φ :: L)) : φ ∧ St k w L := ⟨let ⟨_, _, _, _, _, _, _, _, _, _, hA, _⟩ := h.mem; hA, h.drop⟩
theorem St.shut_pure {φ : Prop} (h : St k w L) (hφ : φ) : St k w (Asg.pure φ :: L) := h.imp fun m _ hL => ⟨PH.none, m, PH.none_apart _, PH.none_le _, PH.le.refl _, hφ, hL⟩
/-- What is shared may be taken twice. -/
theorem St.again (hs : Shared A) (h : St k w (A :: L)) : St k w (A :: A :: L) := h.imp fun m _ ⟨m1, m2, a, h1, h2, hA, hL⟩ => ⟨PH.none, m, PH.none_apart _, PH.none_le _, PH.le.refl _, hs.of hA, m1, m2, a, h1, h2, hA, hL⟩
theorem ro_shared (b : Nat) (o : Obj) : Shared (ro b o) := ⟨fun h => h⟩
theorem pure_shared (φ : Prop) : Shared (Asg.pure (α := Obj) φ) := ⟨fun h => h⟩

/-- Two shared things give a third. -/
theorem St.merge {C : Asn} (hA : Shared A) (hB : Shared B) (h : St k w (A :: B :: L)) (hi : ∀ p, A.holds PH.none p → B.holds PH.none p → C.holds PH.none p) : St k w (C :: L) :=
  h.imp fun _ p ⟨_, _, _, _, h2, hAh, _, n2, _, _, l2, hBh, hL⟩ => ⟨PH.none, n2, PH.none_apart _, PH.none_le _, l2.trans h2, hi p (hA.of hAh) (hB.of hBh), hL⟩
/-- What lies there. -/
theorem St.lies {b : Nat} {o : Obj} (h : St k w (pt b o :: L)) : w.heap[b]? = some o := by
  obtain ⟨m, p, a, h1, h2, m1, m2, b, k1, k2, hA, hL⟩ := h.mem
  exact h1 _ _ (k1 _ _ hA)
theorem St.liesS {b : Nat} {o : Obj} (h : St k w (ro b o :: L)) : w.heap[b]? = some o := by
  obtain ⟨m, p, a, h1, h2, m1, m2, b, k1, k2, hA, hL⟩ := h.mem
  exact h2 _ _ hA
/-- What is known of all worlds that hold the first. -/
theorem St.of (h : St k w (A :: L)) {φ : Prop} (hi : ∀ m p, A.holds m p → (∀ b o, m b = some o → w.heap[b]? = some o) → (∀ b o, p b = some o → w.heap[b]? = some o) → φ) : φ := by
  obtain ⟨m, p, a, h1, h2, m1, m2, b, k1, k2, hA, hL⟩ := h.mem
  exact hi m1 p hA (fun b o e => h1 b o (k1 b o e)) h2
theorem blk_lt {w : World} {b : Nat} {o : Obj} (h : w.heap[b]? = some o) : b < w.heap.size := (Array.getElem?_eq_some_iff.1 h).1
theorem St.ne {b b' : Nat} {o o' : Obj} (h : St k w (pt b o :: pt b' o' :: L)) : b ≠ b' := by
  obtain ⟨m, p, a, h1, h2, m1, m2, ap, k1, k2, hA, n1, n2, ap', l1, l2, hB, hL⟩ := h.mem
  intro e
  have hA' : m1 b = some o := hA
  have hB' : n1 b' = some o' := hB
  have := ap b o hA'
  rw [e, l1 _ _ hB'] at this
  cases this

/-- Another world that has, but for one own block, what that one had. -/
theorem St.turn {w' : World} {b : Nat} {o o' : Obj} (h : St k w (pt b o :: L)) (h1 : w'.os = w.os) (h2 : w'.tape = w.tape) (h3 : w'.output = w.output) (h4 : w.heap.size ≤ w'.heap.size)
    (ho : w'.heap[b]? = some o') (hr : ∀ i, i < w.heap.size → i ≠ b → w'.heap[i]? = w.heap[i]?) : St k w' (pt b o' :: L) := by
  obtain ⟨m, p, a, e1, e2, m1, m2, ap, k1, k2, hA, hL⟩ := h.mem
  have hmb : m b = some o := k1 _ _ hA
  have hm2 : m2 b = none := ap _ _ hA
  have hpb : p b = none := a _ _ hmb
  have keep : ∀ i x, m2 i = some x → w'.heap[i]? = some x := fun i x e => by
    have hi := e1 i x (k2 i x e)
    rw [hr i (blk_lt hi) (fun e' => by rw [e', hm2] at e; cases e)]
    exact hi
  have keepp : ∀ i x, p i = some x → w'.heap[i]? = some x := fun i x e => by
    have hi := e2 i x e
    rw [hr i (blk_lt hi) (fun e' => by rw [e', hpb] at e; cases e)]
    exact hi
  refine ⟨h1.trans h.os, h2.trans h.tape, h3.trans h.output, Nat.le_trans h.size h4, (PH.one b o').union m2, p, ?_, ?_, keepp, PH.one b o', m2, ?_, PH.union_left _ _, PH.union_right ?_, by simp [pt, PH.one], hL⟩
  · refine PH.union_apart (fun i x e => ?_) (a.mono k2 (PH.le.refl _))
    simp only [PH.one] at e
    split at e
    · rename_i hi; rw [hi]; exact hpb
    · cases e
  · intro i x e
    cases hone : PH.one b o' i with
    | some y =>
      simp only [PH.union, hone, Option.orElse_some, Option.some.injEq] at e
      subst e
      simp only [PH.one] at hone
      split at hone
      · rename_i hi; injection hone with hone; rw [hi, ho, hone]
      · cases hone
    | none =>
      simp only [PH.union, hone] at e
      exact keep i x e
  all_goals
    intro i x e
    simp only [PH.one] at e
    split at e
    · rename_i hi; rw [hi]; exact hm2
    · cases e
/-- A new block. -/
theorem St.fresh {w' : World} {o : Obj} (h : St k w L) (h1 : w'.os = w.os) (h2 : w'.tape = w.tape) (h3 : w'.output = w.output) (h4 : w.heap.size < w'.heap.size)
    (ho : w'.heap[w.heap.size]? = some o) (hr : ∀ i, i < w.heap.size → w'.heap[i]? = w.heap[i]?) : St k w' (pt w.heap.size o :: L) := by
  obtain ⟨m, p, a, e1, e2, hL⟩ := h.mem
  have fm : m w.heap.size = none := by
    cases hm : m w.heap.size with
    | none => rfl
    | some x => exact absurd (blk_lt (e1 _ _ hm)) (Nat.lt_irrefl _)
  have fp : p w.heap.size = none := by
    cases hm : p w.heap.size with
    | none => rfl
    | some x => exact absurd (blk_lt (e2 _ _ hm)) (Nat.lt_irrefl _)
  have ap1 : PH.apart (PH.one w.heap.size o) m := fun i x e => by
    simp only [PH.one] at e
    split at e
    · rename_i hi; rw [hi]; exact fm
    · cases e
  refine ⟨h1.trans h.os, h2.trans h.tape, h3.trans h.output, Nat.le_trans h.size (Nat.le_of_lt h4), (PH.one w.heap.size o).union m, p, PH.union_apart (fun i x e => ?_) a, fun i x e => ?_, fun i x e => ?_, PH.one w.heap.size o, m, ap1, PH.union_left _ _, PH.union_right ap1, by simp [pt, PH.one], hL⟩
  · simp only [PH.one] at e
    split at e
    · rename_i hi; rw [hi]; exact fp
    · cases e
  · cases hone : PH.one w.heap.size o i with
    | some y =>
      simp only [PH.union, hone, Option.orElse_some, Option.some.injEq] at e
      subst e
      simp only [PH.one] at hone
      split at hone
      · rename_i hi; injection hone with hone; rw [hi, ho, hone]
      · cases hone
    | none =>
      simp only [PH.union, hone] at e
      have := e1 i x e
      rw [hr i (blk_lt this)]; exact this
  · have := e2 i x e
    rw [hr i (blk_lt this)]; exact this
theorem St.alloc (h : St k w L) (o : Obj) : St k (w.alloc o) (pt w.heap.size o :: L) :=
  h.fresh rfl rfl rfl (by show w.heap.size < (w.heap.push o).size; rw [Array.size_push]; exact Nat.lt_succ_self _) (heap_alloc_new w o) (fun i hi => heap_alloc_old w o (r := i) hi)
/-- A store into one's own. -/
theorem St.set {b : Nat} {c : Array Value} {t : TypeId} {fr : Nat × Nat} (h : St k w (pt b (.cells c t fr) :: L)) (j : Nat) (v : Value) : St k (w.setCell ⟨b, j, none⟩ v) (pt b (.cells (c.setIfInBounds j v) t fr) :: L) := by
  refine h.turn rfl rfl rfl (by simp [World.setCell]) ?_ (fun i _ hi => Below.heap_setCell w ⟨b, j, none⟩ v i hi)
  have hb := h.lies
  show (w.heap.modify b _)[b]? = _
  rw [Array.getElem?_modify, if_pos rfl, hb]
  rfl
theorem St.setRow {b : Nat} {c c' : Array Value} {t : TypeId} {fr : Nat × Nat} (h : St k w (pt b (.cells c t fr) :: L)) : St k (w.setRow b c') (pt b (.cells c' t fr) :: L) :=
  h.turn (by simp) (by simp) (by simp) (by simp) (setRow_heap w b c c' t fr h.lies) (fun i _ hi => setRow_other w b i c' hi)
/-- It is written no more. -/
theorem St.freeze {b : Nat} {o : Obj} (h : St k w (pt b o :: L)) : St k w (ro b o :: L) := by
  obtain ⟨m, p, a, e1, e2, m1, m2, ap, k1, k2, hA, hL⟩ := h.mem
  have hmb : m b = some o := k1 _ _ hA
  have hm2 : m2 b = none := ap _ _ hA
  have hpb : p b = none := a _ _ hmb
  have hpo : PH.apart p (PH.one b o) := fun i x e => by
    simp only [PH.one]
    split
    · rename_i hi; rw [hi, hpb] at e; cases e
    · rfl
  refine ⟨h.os, h.tape, h.output, h.size, m2, p.union (PH.one b o), ?_, fun i x e => e1 i x (k2 i x e), ?_, PH.none, m2, PH.none_apart _, PH.none_le _, PH.le.refl _, ?_, hL.mono (PH.le.refl _) (PH.union_left _ _)⟩
  · refine (PH.union_apart (a.mono k2 (PH.le.refl _)).symm (fun i x e => ?_)).symm
    simp only [PH.one] at e
    split at e
    · rename_i hi; rw [hi]; exact hm2
    · cases e
  · intro i x e
    refine PH.union_le (c := fun i => w.heap[i]?) (fun i x e => e2 i x e) (fun i x e => ?_) i x e
    simp only [PH.one] at e
    split at e
    · rename_i hi; injection e with e; subst e; rw [hi]; exact h.lies
    · cases e
  · exact PH.union_right hpo b o (by simp [PH.one])
end

theorem size_setCell (w : World) (a : Addr) (v : Value) : (w.setCell a v).heap.size = w.heap.size := by simp [World.setCell]
/-- All that was there when a call began, as it was. -/
def old (k : World) : Asn := ⟨fun _ p => ∀ b o, k.heap[b]? = some o → p b = some o, fun _ hp h b o e => hp _ _ (h b o e)⟩
theorem old_shared (k : World) : Shared (old k) := ⟨fun h => h⟩
theorem St.start (w : World) : St w w [old w] :=
  ⟨rfl, rfl, rfl, Nat.le_refl _, PH.none, fun b => w.heap[b]?, PH.none_apart _, fun _ _ e => (PH.none_le (fun b => w.heap[b]?)) _ _ e, fun _ _ e => e, PH.none, PH.none, PH.none_apart _, PH.le.refl _, PH.le.refl _, fun _ _ e => e, trivial⟩
theorem St.below {k w : World} {L : List Asn} (h : St k w (old k :: L)) : Below k.heap.size k w :=
  ⟨h.os, h.tape, h.output, h.size, fun b hb => by
    have h1 : k.heap[b]? = some k.heap[b] := Array.getElem?_eq_getElem hb
    rw [h1]
    exact h.of fun m p hA _ hp => hp _ _ (hA b _ h1)⟩
end Go.Sl
namespace Go.Sl
open Go.RowKit
variable {P : Program} {k w : World} {L : List Asn}

/-- What lies at an offset of a block. -/
def objCell : Obj → Nat → Option Value
  | .cells c _ _, j => c[j]?
  | _, _ => none
theorem cell_obj {w : World} {b j : Nat} {o : Obj} {u : Value} (h : w.heap[b]? = some o) (hu : objCell o j = some u) : w.cell? ⟨b, j, none⟩ = some u := by
  cases o <;> simp only [objCell] at hu <;> first | cases hu | simp [World.cell?, h, hu]
theorem blk_cell {w : World} {b : Nat} {c : Array Value} {t : TypeId} {fr : Nat × Nat} (h : w.heap[b]? = some (.cells c t fr)) (j : Nat) : w.cell? ⟨b, j, none⟩ = c[j]? := by simp [World.cell?, h]
theorem blk_frozen {w : World} {b : Nat} {c : Array Value} {t : TypeId} (h : w.heap[b]? = some (.cells c t (0, 0))) (j : Nat) : w.frozen? ⟨b, j, none⟩ = false := by simp [World.frozen?, h]
theorem blk_shape {w : World} {b : Nat} {c : Array Value} {t : TypeId} {fr : Nat × Nat} (h : w.heap[b]? = some (.cells c t fr)) : w.shape? b = some (t, c.size) := by simp [World.shape?, h]

/-- In w the slice v of n elements (sz cells each) reads as the cells cs. -/
structure Reads (w : World) (sz : Nat) (v : Value) (n : Nat) (cs : List Value) : Prop where
  len : cs.length = n * sz
  at_ : ∃ A c, v = .slice A n c ∧ n ≤ c ∧ c ≤ maxLen ∧ (A = none → n = 0 ∧ c = 0) ∧ ∀ a, A = some a → (0 < n * sz → a.spot = none) ∧ ∀ j u, cs[j]? = some u → w.cell? ⟨a.block, a.off + j, none⟩ = some u

/-- A row of one's own. -/
def rowA (e sz : Nat) (v : Value) (n : Nat) (cs : List Value) : Asn :=
  ⟨fun m _ => cs.length = n * sz ∧ ((v = .slice none 0 0 ∧ n = 0) ∨
    ∃ g cap cur, v = .slice (some ⟨g, 0, none⟩) n cap ∧ m g = some (.cells cur e (0, 0)) ∧ n ≤ cap ∧ cap ≤ maxLen ∧ cur.size = cap * sz ∧ cur.toList.take (n * sz) = cs),
   fun hm _ ⟨h1, h2⟩ => ⟨h1, h2.imp id fun ⟨g, cap, cur, a, b, c⟩ => ⟨g, cap, cur, a, hm _ _ b, c⟩⟩⟩
/-- A shared row. -/
def rowS (sz : Nat) (v : Value) (n : Nat) (cs : List Value) : Asn :=
  ⟨fun _ p => cs.length = n * sz ∧ ∃ A c, v = .slice A n c ∧ n ≤ c ∧ c ≤ maxLen ∧ (A = none → n = 0 ∧ c = 0) ∧ ∀ a, A = some a → 0 < n * sz → a.spot = none ∧ ∃ o, p a.block = some o ∧ ∀ j u, cs[j]? = some u → objCell o (a.off + j) = some u,
   fun _ hp ⟨h1, A, c, h2, h3, h4, h5, h6⟩ => ⟨h1, A, c, h2, h3, h4, h5, fun a e h0 => let ⟨hs, o, ho, hc⟩ := h6 a e h0; ⟨hs, o, hp _ _ ho, hc⟩⟩⟩
theorem rowS_shared (sz : Nat) (v : Value) (n : Nat) (cs : List Value) : Shared (rowS sz v n cs) := ⟨fun h => h⟩

theorem St.readsS {sz n : Nat} {v : Value} {cs : List Value} (h : St k w (rowS sz v n cs :: L)) : Reads w sz v n cs :=
  h.of fun m p ⟨h1, A, c, h2, h3, h4, h5, h6⟩ _ hp => ⟨h1, A, c, h2, h3, h4, h5, fun a e => ⟨fun h0 => (h6 a e h0).1, fun j u hu => by
    have hj : j < cs.length := (List.getElem?_eq_some_iff.1 hu).1
    obtain ⟨-, o, ho, hc⟩ := h6 a e (by omega)
    exact cell_obj (hp _ _ ho) (hc j u hu)⟩⟩
theorem take_get {α : Type} {l : List α} {n : Nat} {cs : List α} (h : l.take n = cs) {j : Nat} {u : α} (hu : cs[j]? = some u) : l[j]? = some u := by
  rw [← h, List.getElem?_take] at hu
  split at hu
  · exact hu
  · cases hu
theorem St.readsA {e sz n : Nat} {v : Value} {cs : List Value} (h : St k w (rowA e sz v n cs :: L)) : Reads w sz v n cs :=
  h.of fun m p ⟨h1, h2⟩ hm _ => ⟨h1, by
    rcases h2 with ⟨rfl, rfl⟩ | ⟨g, cap, cur, rfl, hg, hn, hc, hs, ht⟩
    · exact ⟨none, 0, rfl, Nat.le_refl _, by decide, fun _ => ⟨rfl, rfl⟩, fun a e => by cases e⟩
    · refine ⟨some ⟨g, 0, none⟩, cap, rfl, hn, hc, fun e => (by cases e), fun a e => ?_⟩
      injection e with e
      subst e
      refine ⟨fun _ => rfl, fun j u hu => ?_⟩
      have := take_get ht hu
      rw [Nat.zero_add, blk_cell (hm _ _ hg) j, ← Array.getElem?_toList]
      exact this⟩
/-- A row of one's own, opened. -/
theorem St.openA {e sz n : Nat} {v : Value} {cs : List Value} (h : St k w (rowA e sz v n cs :: L)) :
    (v = .slice none 0 0 ∧ n = 0 ∧ cs = [] ∧ St k w L) ∨ ∃ g cap cur, v = .slice (some ⟨g, 0, none⟩) n cap ∧ n ≤ cap ∧ cap ≤ maxLen ∧ cur.size = cap * sz ∧ cur.toList.take (n * sz) = cs ∧ cs.length = n * sz ∧ St k w (pt g (.cells cur e (0, 0)) :: L) := by
  obtain ⟨m, p, a, e1, e2, m1, m2, ap, k1, k2, ⟨hl, hA⟩, hL⟩ := h.mem
  rcases hA with ⟨rfl, rfl⟩ | ⟨g, cap, cur, rfl, hg, hn, hc, hs, ht⟩
  · exact .inl ⟨rfl, rfl, List.eq_nil_of_length_eq_zero (by simpa using hl), h.drop⟩
  · exact .inr ⟨g, cap, cur, rfl, hn, hc, hs, ht, hl, h.os, h.tape, h.output, h.size, m, p, a, e1, e2, m1, m2, ap, k1, k2, hg, hL⟩
theorem St.shutA {e sz n : Nat} {g cap : Nat} {cur : Array Value} {cs : List Value} (h : St k w (pt g (.cells cur e (0, 0)) :: L)) (hn : n ≤ cap) (hc : cap ≤ maxLen) (hs : cur.size = cap * sz) (ht : cur.toList.take (n * sz) = cs) :
    St k w (rowA e sz (.slice (some ⟨g, 0, none⟩) n cap) n cs :: L) := by
  refine h.head fun m p hg => ⟨?_, .inr ⟨g, cap, cur, rfl, hg, hn, hc, hs, ht⟩⟩
  rw [← ht, List.length_take, Array.length_toList, hs]
  have := Nat.mul_le_mul_right sz hn
  omega
theorem St.nilA (e sz : Nat) (h : St k w L) : St k w (rowA e sz (.slice none 0 0) 0 [] :: L) :=
  h.imp fun m _ hL => ⟨PH.none, m, PH.none_apart _, PH.none_le _, PH.le.refl _, ⟨by simp, .inl ⟨rfl, rfl⟩⟩, hL⟩
theorem St.nilS (sz : Nat) (h : St k w L) : St k w (rowS sz (.slice none 0 0) 0 [] :: L) :=
  h.imp fun m _ hL => ⟨PH.none, m, PH.none_apart _, PH.none_le _, PH.le.refl _, ⟨by simp, none, 0, rfl, Nat.le_refl _, by decide, fun _ => ⟨rfl, rfl⟩, fun a e => by cases e⟩, hL⟩
/-- A block of one's own, read from its head on. -/
theorem St.readsP {sz b n cap : Nat} {c : Array Value} {t : TypeId} {fr : Nat × Nat} (h : St k w (pt b (.cells c t fr) :: L)) (hs : c.size = n * sz) (hn : n ≤ cap) (hc : cap ≤ maxLen) : Reads w sz (.slice (some ⟨b, 0, none⟩) n cap) n c.toList :=
  ⟨by simpa using hs, some ⟨b, 0, none⟩, cap, rfl, hn, hc, fun e => (by cases e), fun a e => by
    injection e with e
    subst e
    refine ⟨fun _ => rfl, fun j u hu => ?_⟩
    rw [Nat.zero_add, blk_cell h.lies j, ← Array.getElem?_toList]
    exact hu⟩
/-- It is written no more. -/
theorem St.freezeA {e sz n : Nat} {v : Value} {cs : List Value} (h : St k w (rowA e sz v n cs :: L)) : St k w (rowS sz v n cs :: L) := by
  rcases h.openA with ⟨rfl, rfl, rfl, h'⟩ | ⟨g, cap, cur, rfl, hn, hc, hs, ht, hl, h'⟩
  · exact h'.nilS sz
  · refine h'.freeze.head fun m p hg => ⟨hl, some ⟨g, 0, none⟩, cap, rfl, hn, hc, fun e => (by cases e), fun a e _ => ?_⟩
    injection e with e
    subst e
    refine ⟨rfl, _, hg, fun j u hu => ?_⟩
    have := take_get ht hu
    simpa [objCell] using this
/-- Cut short. -/
theorem St.cutA {e sz n : Nat} {A : Option Addr} {c : Nat} {cs : List Value} (h : St k w (rowA e sz (.slice A n c) n cs :: L)) {i : Nat} (hi : i ≤ n) : St k w (rowA e sz (.slice A i c) i (cs.take (i * sz)) :: L) := by
  rcases h.openA with ⟨hv, rfl, rfl, h'⟩ | ⟨g, cap, cur, hv, hn, hc, hs, ht, hl, h'⟩
  · injection hv with h1 h2 h3
    subst h1 h3
    obtain rfl : i = 0 := by omega
    simpa using h'.nilA e sz
  · injection hv with h1 h2 h3
    subst h1 h3
    refine h'.shutA (by omega) hc hs ?_
    rw [← ht, List.take_take, Nat.min_eq_left (Nat.mul_le_mul_right sz hi)]
theorem Reads.same {w' : World} {sz n : Nat} {v : Value} {cs : List Value} (h : Reads w sz v n cs) (hs : w'.heap = w.heap) : Reads w' sz v n cs :=
  ⟨h.len, let ⟨A, c, h1, h2, h3, h4, h5⟩ := h.at_; ⟨A, c, h1, h2, h3, h4, fun a e => ⟨(h5 a e).1, fun j u hu => by
    have := (h5 a e).2 j u hu
    simp only [World.cell?, hs] at this ⊢
    exact this⟩⟩⟩
/-- What was read is read as it was, behind a call that has but own blocks turned. -/
theorem Reads.nil (w : World) (sz : Nat) : Reads w sz (.slice none 0 0) 0 [] := ⟨by simp, none, 0, rfl, Nat.le_refl _, by decide, fun _ => ⟨rfl, rfl⟩, fun a e => by cases e⟩
theorem cell_alloc {a : Addr} {u : Value} (h : w.cell? a = some u) (o : Obj) : (w.alloc o).cell? a = some u := by
  have hb := World.block_lt_of_cell? w a h
  rw [← h]
  exact World.cell?_of_block (heap_alloc_old w o (r := a.block) hb)
theorem Reads.alloc {sz n : Nat} {v : Value} {cs : List Value} (h : Reads w sz v n cs) (o : Obj) : Reads (w.alloc o) sz v n cs :=
  ⟨h.len, let ⟨A, c, h1, h2, h3, h4, h5⟩ := h.at_; ⟨A, c, h1, h2, h3, h4, fun a e => ⟨(h5 a e).1, fun j u hu => cell_alloc ((h5 a e).2 j u hu) o⟩⟩⟩
theorem Reads.drew {sz n : Nat} {v : Value} {cs : List Value} (h : Reads w sz v n cs) : Reads w.drew sz v n cs := h.same rfl
theorem addr_add (b o j : Nat) : (⟨b, o, none⟩ : Addr).add j = ⟨b, o + j, none⟩ := by unfold Addr.add; split <;> simp_all
theorem info_parts' {e : TypeId} {z : Value} {sz bytes : Nat} (h : (P.info? e).map (fun i => (i.zero, i.size, i.bytes)) = some (some z, sz, bytes)) : ∃ i, P.info? e = some i ∧ i.zero = some z ∧ i.size = sz ∧ i.bytes = bytes := by
  cases hi : P.info? e with
  | none => simp [hi] at h
  | some i => simp [hi] at h; exact ⟨i, rfl, h⟩

/-- append. -/
theorem append_run {t ty e sz bytes : Nat} {z : Value} (ht : P.underlying t = some (.slice e)) (hinfo : (P.info? e).map (fun i => (i.zero, i.size, i.bytes)) = some (some z, sz, bytes)) (hz : z.cells.size = sz) (hsz : 0 < sz)
    {v x : Value} {n m : Nat} {cs news : List Value} (h : St k w (rowA e sz v n cs :: L)) (hx : Reads w sz x m news) (h1 : ∀ u ∈ news, u.oneCell' = true) (hm : n + m ≤ maxLen) (hb : (n + m) * bytes ≤ 140737488355328) :
    ∃ v' w', (Builtin.append_ #[t, t] ty #[v, x]).run P w = .ok v' w' ∧ St k w' (rowA e sz v' (n + m) (cs ++ news) :: L) ∧ (v' = .slice none 0 0 ↔ v = .slice none 0 0 ∧ m = 0) := by
  obtain ⟨i, hi, hz0, rfl, rfl⟩ := info_parts' hinfo
  obtain ⟨A, c, rfl, hmc, hcm, hA, hc⟩ := hx.at_
  have hl := hx.len
  have h63 : n + m ≤ 9223372036854775807 := by simp only [maxLen] at hm; omega
  cases A with
  | none =>
    obtain ⟨rfl, rfl⟩ := hA rfl
    have hn0 : news = [] := List.eq_nil_of_length_eq_zero (by simpa using hl)
    subst hn0
    have hr : ∀ B cap, n ≤ cap → (Builtin.append_ #[t, t] ty #[.slice B n cap, .slice none 0 0]).run P w = .ok (.slice B n cap) w := by
      intro B cap hcap
      cases B <;> simp [Builtin.append_, run_underlying ht, sizeOf, typeInfo, hi, Builtin.lenOf, Builtin.firstCells, hcap, storeCells]
    rcases h.openA with ⟨rfl, rfl, rfl, h'⟩ | ⟨g, cap, cur, rfl, hn, hc', hs, ht', hl', h'⟩
    · exact ⟨_, _, hr none 0 (Nat.le_refl _), by simpa using h, by simp⟩
    · exact ⟨_, _, hr _ _ hn, by simpa using h, by simp⟩
  | some a =>
    obtain ⟨hsp, hcell⟩ := hc a rfl
    rcases Nat.eq_zero_or_pos m with rfl | hmp
    · have hn0 : news = [] := List.eq_nil_of_length_eq_zero (by simpa using hl)
      subst hn0
      have hr : ∀ B cap, n ≤ cap → (Builtin.append_ #[t, t] ty #[.slice B n cap, .slice (some a) 0 c]).run P w = .ok (.slice B n cap) w := by
        intro B cap hcap
        cases B <;> simp [Builtin.append_, run_underlying ht, sizeOf, typeInfo, hi, Builtin.lenOf, Builtin.firstCells, hcap, storeCells, loadCells, loadCellsFrom]
      rcases h.openA with ⟨rfl, rfl, rfl, h'⟩ | ⟨g, cap, cur, rfl, hn, hc', hs, ht', hl', h'⟩
      · exact ⟨_, _, hr none 0 (Nat.le_refl _), by simpa using h, by simp⟩
      · exact ⟨_, _, hr _ _ hn, by simpa using h, by simp⟩
    have hsp := hsp (Nat.mul_pos hmp hsz)
    obtain ⟨b, o, sp⟩ := a
    simp only at hsp hcell
    subst hsp
    have hnews : ∀ j u, news[j]? = some u → w.cell? ((⟨b, o, none⟩ : Addr).add j) = some u := fun j u hu => by rw [addr_add]; exact hcell j u hu
    rcases h.openA with ⟨rfl, rfl, rfl, h'⟩ | ⟨g, cap, cur, rfl, hn, hcm', hs, htk, hl', h'⟩
    · rcases Nat.eq_zero_or_pos m with rfl | hpos
      · have hn0 : news = [] := List.eq_nil_of_length_eq_zero (by simpa using hl)
        subst hn0
        refine ⟨.slice none 0 0, w, ?_, by simpa using h, by simp⟩
        simp [Builtin.append_, run_underlying ht, sizeOf, typeInfo, hi, Builtin.lenOf, Builtin.firstCells, loadCells, loadCellsFrom]
      · have hr := run_append_nil (P := P) w t ty e i z ht hi hz0 ⟨b, o, none⟩ m c news hl hnews hpos (by omega) (by simp only [Nat.zero_add] at hb; omega)
        refine ⟨_, _, hr, ?_, by simp; omega⟩
        have hge := grownCap_ge w m 0 e
        simp only [Nat.zero_add, List.nil_append]
        refine (h'.drew.alloc _).shutA (n := m) (cap := grownCap w m 0 e) hge (grownCap_le_maxLen w m 0 e (by simp only [Nat.zero_add] at hm; exact hm)) ?_ ?_
        · simp only [Array.size_append, List.size_toArray, size_zeroCells, hz, hl, ← Nat.add_mul]
          congr 1; omega
        · simp only [Array.toList_append]
          rw [← hl]; exact List.take_left
    · by_cases hroom : n + m ≤ cap
      · have hfit : n * i.size + news.length ≤ cur.size := by rw [hl, hs, ← Nat.add_mul]; exact Nat.mul_le_mul_right _ hroom
        have hr := run_append_room (P := P) w t ty e i ht hi g n cap cur h'.lies ⟨b, o, none⟩ m c news hl hnews h1 hroom hfit
        refine ⟨_, _, hr, ?_, by simp⟩
        refine (h'.setRow).shutA hroom hcm' ?_ ?_
        · simp only [List.size_toArray, List.length_append, List.length_take, List.length_drop, Array.length_toList]
          omega
        · simp only []
          rw [htk, Nat.add_mul, ← hl, ← hl', ← List.length_append]
          exact List.take_left
      · have holds : ∀ j u, cs[j]? = some u → w.cell? ((⟨g, 0, none⟩ : Addr).add j) = some u := fun j u hu => by
          rw [addr_add, Nat.zero_add, blk_cell h'.lies j, ← Array.getElem?_toList]
          exact take_get htk hu
        have hr := run_append_grow (P := P) w t ty e i z ht hi hz0 ⟨g, 0, none⟩ n cap cs hl' holds ⟨b, o, none⟩ m c news hl hnews (by omega) (by omega) (growslice_fits (by omega) hb)
        refine ⟨_, _, hr, ?_, by simp⟩
        have hge := grownCap_ge w (n + m) cap e
        refine (h'.drop.drew.alloc _).shutA (n := n + m) (cap := grownCap w (n + m) cap e) hge (grownCap_le_maxLen w (n + m) cap e hm) ?_ ?_
        · simp only [Array.size_append, List.size_toArray, size_zeroCells, hz, hl, hl', ← Nat.add_mul]
          congr 1; omega
        · simp only [Array.toList_append, List.append_assoc]
          rw [← List.append_assoc, Nat.add_mul, ← hl, ← hl', ← List.length_append]
          exact List.take_left
section
variable {ops : Array Oper} {o : Oper} {a : Act} {K : Act → World → Prop} {Q : Exit → Act → World → Prop}
theorem wp_append {t e sz bytes : Nat} {z : Value} (s x : Operand) (ho : o.op = .call { callee := .builtin .append, args := #[s, x], argTypes := #[t, t] })
    (ht : P.underlying t = some (.slice e)) (hinfo : (P.info? e).map (fun i => (i.zero, i.size, i.bytes)) = some (some z, sz, bytes)) (hz : z.cells.size = sz) (hsz : 0 < sz)
    {v X : Value} {n m : Nat} {cs news : List Value} (h : St k w (rowA e sz v n cs :: L)) (hx : Reads w sz X m news) (hs : a.eval s = v) (hX : a.eval x = X) (h1 : ∀ u ∈ news, u.oneCell' = true) (hm : n + m ≤ maxLen) (hb : (n + m) * bytes ≤ 140737488355328)
    (hK : ∀ v' w', St k w' (rowA e sz v' (n + m) (cs ++ news) :: L) → (v' = .slice none 0 0 ↔ v = .slice none 0 0 ∧ m = 0) → K (a.put o.dst v') w') : o.wp P a w K Q := by
  obtain ⟨v', w', hr, h2, h3⟩ := append_run (ty := o.type) ht hinfo hz hsz h hx h1 hm hb
  unfold Oper.wp execOp
  simp only [ho, resolve, invoke, builtin, Sem.run_bind, Sem.run_pure, Result.andThen_ok, List.map_toArray, List.map_cons, List.map_nil, hs, hX, hr]
  exact hK v' w' h2 h3
theorem wpList_append {t e sz bytes : Nat} {z : Value} {rest : List Oper} (hgd : o.guard = none) (s x : Operand) (ho : o.op = .call { callee := .builtin .append, args := #[s, x], argTypes := #[t, t] })
    (ht : P.underlying t = some (.slice e)) (hinfo : (P.info? e).map (fun i => (i.zero, i.size, i.bytes)) = some (some z, sz, bytes)) (hz : z.cells.size = sz) (hsz : 0 < sz)
    {v X : Value} {n m : Nat} {cs news : List Value} (h : St k w (rowA e sz v n cs :: L)) (hx : Reads w sz X m news) (hs : a.eval s = v) (hX : a.eval x = X) (h1 : ∀ u ∈ news, u.oneCell' = true) (hm : n + m ≤ maxLen) (hb : (n + m) * bytes ≤ 140737488355328)
    (hK : ∀ v' w', St k w' (rowA e sz v' (n + m) (cs ++ news) :: L) → (v' = .slice none 0 0 ↔ v = .slice none 0 0 ∧ m = 0) → wpList P ops Q rest (a.put o.dst v') w') : wpList P ops Q (o :: rest) a w :=
  wpList_plain hgd fun _ hK' => wp_append s x ho ht hinfo hz hsz h hx hs hX h1 hm hb fun v' w' h2 h3 => hK' _ _ (hK v' w' h2 h3)
end
end Go.Sl
namespace Go.Sl
open Go.RowKit
variable {P : Program} {k w : World} {L : List Asn}

/-- c with vs from o on. -/
def spl (c : Array Value) (o : Nat) (vs : List Value) : Array Value := (c.toList.take o ++ vs ++ c.toList.drop (o + vs.length)).toArray
theorem spl_size (c : Array Value) (o : Nat) (vs : List Value) (h : o + vs.length ≤ c.size) : (spl c o vs).size = c.size := by
  simp [spl]; omega
theorem spl_get (c : Array Value) (o : Nat) (vs : List Value) (h : o + vs.length ≤ c.size) (j : Nat) :
    (spl c o vs)[j]? = if j < o then c[j]? else if j < o + vs.length then vs[j - o]? else c[j]? := by
  simp only [spl, List.getElem?_toArray, List.append_assoc]
  rw [List.getElem?_append]
  simp only [List.length_take, Array.length_toList]
  rw [Nat.min_eq_left (by omega)]
  split
  · rw [List.getElem?_take, if_pos (by assumption), Array.getElem?_toList]
  · rw [List.getElem?_append]
    split
    · rw [if_pos (by omega)]
    · rw [if_neg (by omega), List.getElem?_drop, Array.getElem?_toList]
      congr 1; omega
theorem spl_nil (c : Array Value) (o : Nat) : spl c o [] = c := by simp [spl]

/-- cells into a block of one's own. -/
theorem storeCells_run {b : Nat} {c : Array Value} {t : TypeId} (h : w.heap[b]? = some (.cells c t (0, 0))) (o : Nat) (vs : List Value) (hf : o + vs.length ≤ c.size) (h1 : ∀ u ∈ vs, u.oneCell' = true) :
    (storeCells ⟨b, o, none⟩ vs).run P w = .ok () (w.setRow b (spl c o vs)) := by
  have := run_storeCells_at P b o t vs 0 c w h (by simpa using hf) h1
  simpa [spl] using this
theorem firstCells_run {sz n m : Nat} {x : Value} {cs : List Value} (hx : Reads w sz x m cs) (hn : n ≤ m) : (Builtin.firstCells sz n x).run P w = .ok (cs.take (n * sz)).toArray w := by
  obtain ⟨A, c, rfl, h2, h3, h4, h5⟩ := hx.at_
  cases A with
  | none =>
    obtain ⟨rfl, rfl⟩ := h4 rfl
    obtain rfl : n = 0 := by omega
    simp [Builtin.firstCells]
  | some a =>
    rcases Nat.eq_zero_or_pos (n * sz) with h0 | h0
    · simp [Builtin.firstCells, h0, loadCells, loadCellsFrom]
    obtain ⟨b, o, sp⟩ := a
    obtain ⟨h6, h7⟩ := h5 _ rfl
    simp only at h6 h7
    obtain rfl := h6 (Nat.lt_of_lt_of_le h0 (Nat.mul_le_mul_right sz hn))
    have hl : (cs.take (n * sz)).length = n * sz := by
      rw [List.length_take, hx.len, Nat.min_eq_left (Nat.mul_le_mul_right sz hn)]
    have := run_loadCells_list (P := P) w ⟨b, o, none⟩ (cs.take (n * sz)) (fun j u hu => by
      rw [addr_add]
      exact h7 j u (by
        rw [List.getElem?_take] at hu
        split at hu
        · exact hu
        · cases hu))
    rw [hl] at this
    simpa [Builtin.firstCells] using this
theorem size_run {e sz : Nat} (hs : (P.info? e).map (·.size) = some sz) : (sizeOf e).run P w = .ok sz w := by
  cases hq : P.info? e with
  | none => simp [hq] at hs
  | some i => simp [hq] at hs; simp [sizeOf, typeInfo, hq, hs]
/-- copy into one's own. -/
theorem copy_run {dT sT ty e sz : Nat} (ht : P.underlying dT = some (.slice e)) (hs : (P.info? e).map (·.size) = some sz) {b : Nat} {c : Array Value} {t : TypeId} (h : w.heap[b]? = some (.cells c t (0, 0)))
    (o dLen dCap : Nat) {x : Value} {m : Nat} {cs : List Value} (hx : Reads w sz x m cs) (h1 : ∀ u ∈ cs, u.oneCell' = true) (hf : o + min m dLen * sz ≤ c.size) :
    (Builtin.copy_ #[dT, sT] ty #[.slice (some ⟨b, o, none⟩) dLen dCap, x]).run P w = .ok (goInt ((min m dLen : Nat) : Int)) (w.setRow b (spl c o (cs.take (min m dLen * sz)))) := by
  have hx' := hx
  obtain ⟨A, cap, rfl, -⟩ := hx.at_
  have hl := hx.len
  have hle : min m dLen * sz ≤ m * sz := Nat.mul_le_mul_right sz (Nat.min_le_left _ _)
  have hst := storeCells_run (P := P) h o (cs.take (min m dLen * sz)) (by rw [List.length_take, hl, Nat.min_eq_left hle]; exact hf) (fun u hu => h1 u (List.mem_of_mem_take hu))
  have hfc := firstCells_run (P := P) hx' (Nat.min_le_left m dLen)
  have e1 : m.min dLen = min m dLen := rfl
  simp only [Builtin.copy_, List.getElem?_toArray, List.getElem?_cons_zero, List.getElem?_cons_succ, Sem.run_bind, run_underlying ht, Builtin.lenOf, Sem.run_pure, Result.andThen_ok, size_run hs, e1, hfc, hst]
/-- .. of so many cells as go over. -/
theorem copy_run' {dT sT ty e sz : Nat} (ht : P.underlying dT = some (.slice e)) (hs : (P.info? e).map (·.size) = some sz) {b : Nat} {c : Array Value} {t : TypeId} (h : w.heap[b]? = some (.cells c t (0, 0)))
    (o dLen dCap b' o' m cap n : Nat) (cs : List Value) (hn : n = min m dLen) (hl : cs.length = n * sz) (hx : ∀ j u, cs[j]? = some u → w.cell? ⟨b', o' + j, none⟩ = some u) (h1 : ∀ u ∈ cs, u.oneCell' = true) (hf : o + n * sz ≤ c.size) :
    (Builtin.copy_ #[dT, sT] ty #[.slice (some ⟨b, o, none⟩) dLen dCap, .slice (some ⟨b', o', none⟩) m cap]).run P w = .ok (.int .i64 n) (w.setRow b (spl c o cs)) := by
  have hst := storeCells_run (P := P) h o cs (by rw [hl]; exact hf) h1
  have hlc := run_loadCells_list (P := P) w ⟨b', o', none⟩ cs (fun j u hu => by rw [addr_add]; exact hx j u hu)
  have e1 : m.min dLen = n := hn.symm
  rw [hl] at hlc
  simp only [Builtin.copy_, List.getElem?_toArray, List.getElem?_cons_zero, List.getElem?_cons_succ, Sem.run_bind, run_underlying ht, Builtin.lenOf, Sem.run_pure, Result.andThen_ok, size_run hs, e1, Builtin.firstCells, hlc, hst]
  rfl
theorem zeros_all {z : Array Value} (h : ∀ v ∈ z, v.oneCell' = true) (n : Nat) : ∀ u ∈ (Builtin.zeroCells z n).toList, u.oneCell' = true := by
  intro u hu
  simp only [Builtin.zeroCells, Array.toList_map, List.mem_map] at hu
  obtain ⟨i, hi, rfl⟩ := hu
  simp only [Array.toList_range, List.mem_range] at hi
  have hpos : 0 < z.size := by
    rcases Nat.eq_zero_or_pos z.size with h0 | h0
    · rw [h0] at hi; simp at hi
    · exact h0
  have hlt : i % z.size < z.size := Nat.mod_lt _ hpos
  rw [getElem!_pos z (i % z.size) hlt]
  exact h _ (Array.getElem_mem hlt)
/-- clear of what is one's own. -/
theorem clear_run {t ty e sz bytes : Nat} {z : Value} (ht : P.underlying t = some (.slice e)) (hinfo : (P.info? e).map (fun i => (i.zero, i.size, i.bytes)) = some (some z, sz, bytes)) (hz : z.cells.size = sz) (hz1 : ∀ v ∈ z.cells, v.oneCell' = true)
    {b : Nat} {c : Array Value} {t' : TypeId} (h : w.heap[b]? = some (.cells c t' (0, 0))) (o n cap : Nat) (hf : o + n * sz ≤ c.size) :
    (Builtin.clear_ #[t] ty #[.slice (some ⟨b, o, none⟩) n cap]).run P w = .ok (.tuple #[]) (w.setRow b (spl c o (Builtin.zeroCells z.cells n).toList)) := by
  obtain ⟨i, hi, hz0, rfl, rfl⟩ := info_parts' hinfo
  have hl : (Builtin.zeroCells z.cells n).toList.length = n * i.size := by rw [Array.length_toList, size_zeroCells, hz]
  have hst := storeCells_run (P := P) h o (Builtin.zeroCells z.cells n).toList (by rw [hl]; exact hf) (zeros_all hz1 n)
  cases n with
  | zero =>
    have e0 : (Builtin.zeroCells z.cells 0).toList = [] := List.eq_nil_of_length_eq_zero (by rw [hl]; simp)
    rw [e0, spl_nil]
    have : w.setRow b c = w := by
      have hb := blk_lt h
      have hlt : w.heap[b] = .cells c t' (0, 0) := by rw [Array.getElem?_eq_getElem hb] at h; exact Option.some.inj h
      unfold World.setRow
      congr 1
      apply Array.ext
      · simp
      · intro j h1 h2
        rw [Array.getElem_modify]
        split
        · rename_i e; subst e; rw [hlt]
        · rfl
    rw [this]
    simp [Builtin.clear_, run_underlying ht]
  | succ n =>
    simp [Builtin.clear_, run_underlying ht, zeroValue, typeInfo, hi, hz0, hst]

/-- append(s, make(.., m)..): no room: a new row; the old one stays. -/
theorem zeros_run {t tn ty e sz bytes : Nat} {z : Value} {kn : IntKind} (ht : P.underlying t = some (.slice e)) (htn : P.underlying tn = some (.int kn)) (hinfo : (P.info? e).map (fun i => (i.zero, i.size, i.bytes)) = some (some z, sz, bytes)) (hz : z.cells.size = sz) (hsz : 0 < sz)
    {n cap m : Nat} {A : Option Addr} {cs : List Value} (h : St k w L) (hr0 : Reads w sz (.slice A n cap) n cs) (hm0 : 0 < m) (hno : cap < n + m) (hm : n + m ≤ maxLen) (hb : (n + m) * bytes ≤ 140737488355328) :
    ∃ g c w', (Builtin.append_ #[t, tn] ty #[.slice A n cap, .int .i64 m]).run P w = .ok (.slice (some ⟨g, 0, none⟩) (n + m) c) w' ∧ n + m ≤ c ∧ c ≤ maxLen ∧ St k w' (rowA e sz (.slice (some ⟨g, 0, none⟩) (n + m) c) (n + m) (cs ++ (Builtin.zeroCells z.cells m).toList) :: L) := by
  obtain ⟨i, hi, hz0, rfl, rfl⟩ := info_parts' hinfo
  have h63 : n + m ≤ 9223372036854775807 := by simp only [maxLen] at hm; omega
  have hfit := growslice_fits (old := cap) hno hb
  have hmb : m * i.bytes ≤ 281474976710656 := by
    have := Nat.mul_le_mul_right i.bytes (Nat.le_add_left m n)
    omega
  have hold : (Builtin.firstCells i.size n (.slice A n cap)).run P w.drew = .ok cs.toArray w.drew := by
    have := firstCells_run (P := P) (hr0.drew) (Nat.le_refl n)
    rwa [List.take_of_length_le (by rw [hr0.len]; exact Nat.le_refl _)] at this
  have hr := Lib.run_append_grow_zeros (P := P) w t tn ty e i z .i64 kn ht htn hi hz0 A n cap cs hold m hm0 hsz hno (by omega) hmb hfit
  have hge := grownCap_ge w (n + m) cap e
  refine ⟨_, _, _, hr, hge, grownCap_le_maxLen w (n + m) cap e hm, ?_⟩
  refine (h.drew.alloc _).shutA (n := n + m) (cap := grownCap w (n + m) cap e) hge (grownCap_le_maxLen w (n + m) cap e hm) ?_ ?_
  · simp only [Array.size_append, List.size_toArray, size_zeroCells, hz, hr0.len, ← Nat.add_mul]
    congr 1; omega
  · simp only [Array.toList_append, List.append_assoc]
    rw [← List.append_assoc, Nat.add_mul]
    have : cs.length + (Builtin.zeroCells z.cells m).toList.length = n * i.size + m * i.size := by rw [hr0.len, Array.length_toList, size_zeroCells, hz]
    rw [← this, ← List.length_append]
    exact List.take_left
/-- append into one's own, where there is room. -/
theorem room_run {t ty e sz : Nat} (ht : P.underlying t = some (.slice e)) (hs : (P.info? e).map (·.size) = some sz) {g n cap : Nat} {c : Array Value} (h : w.heap[g]? = some (.cells c e (0, 0)))
    (b' o' m cap' : Nat) (cs : List Value) (hl : cs.length = m * sz) (hx : ∀ j u, cs[j]? = some u → w.cell? ⟨b', o' + j, none⟩ = some u) (h1 : ∀ u ∈ cs, u.oneCell' = true) (hroom : n + m ≤ cap) (hf : n * sz + m * sz ≤ c.size) :
    (Builtin.append_ #[t, t] ty #[.slice (some ⟨g, 0, none⟩) n cap, .slice (some ⟨b', o', none⟩) m cap']).run P w = .ok (.slice (some ⟨g, 0, none⟩) (n + m) cap) (w.setRow g (spl c (n * sz) cs)) := by
  cases hq : P.info? e with
  | none => simp [hq] at hs
  | some i =>
    simp [hq] at hs
    subst hs
    exact run_append_room (P := P) w t ty e i ht hq g n cap c h ⟨b', o', none⟩ m cap' cs hl (fun j u hu => by rw [addr_add]; exact hx j u hu) h1 hroom (by rw [hl]; exact hf)
/-- A struct, or an array, into one's own. -/
theorem store_run {ty : TypeId} {cells : Array Value} {b : Nat} {c : Array Value} {t : TypeId} (h : w.heap[b]? = some (.cells c t (0, 0))) (o : Nat) (hi : (P.info? ty).map (·.size) = some cells.size) (h1 : ∀ u ∈ cells.toList, u.oneCell' = true) (hf : o + cells.size ≤ c.size) :
    (Instr.storeAt ty (.pointer (some ⟨b, o, none⟩)) (.agg cells)).run P w = .ok () (w.setRow b (spl c o cells.toList)) := by
  have hst := storeCells_run (P := P) h o cells.toList (by simpa using hf) h1
  cases hq : P.info? ty with
  | none => simp [hq] at hi
  | some i =>
    have hs : cells.size = i.size := by simp [hq] at hi; omega
    simp [Instr.storeAt, Instr.sureAddr, storeVar, sizeOf, typeInfo, hq, Value.cells, hs, hst]
theorem load_run {ty : TypeId} {d : TypeDesc} {b o : Nat} {cs : List Value} (hc : ∀ j u, cs[j]? = some u → w.cell? ⟨b, o + j, none⟩ = some u) (hu : P.underlying ty = some d) (hd : d.isRow = true) (hi : (P.info? ty).map (·.size) = some cs.length) :
    (Instr.loadAt ty (.pointer (some ⟨b, o, none⟩))).run P w = .ok (.agg cs.toArray) w := run_loadAt_mid w b o ty cs d hc hu hd hi
theorem fill_list : ∀ (l : List Value) (i : Nat) (c : Array Value), i + l.length = c.size → ((l.zipIdx i).foldl (fun (cs : Array Value) (x : Value × Nat) => cs.setIfInBounds (0 + x.2) x.1) c).toList = c.toList.take i ++ l
  | [], i, c, h => by
    simp only [List.length_nil, Nat.add_zero] at h
    simp [h, ← Array.length_toList]
  | v :: l, i, c, h => by
    simp only [List.length_cons] at h
    rw [List.zipIdx_cons, List.foldl_cons, fill_list l (i + 1) _ (by simp; omega)]
    simp only [Nat.zero_add, Array.toList_setIfInBounds]
    rw [List.take_succ_eq_append_getElem (by simp; omega), List.take_set_of_le (Nat.le_refl _)]
    simp
theorem fill_all (v cells : Array Value) (h : v.size = cells.size) : v.zipIdx.foldl (fun cs (x : Value × Nat) => cs.setIfInBounds (0 + x.2) x.1) cells = v := by
  rw [← Array.foldl_toList, Array.toList_zipIdx]
  have := fill_list v.toList 0 cells (by simpa using h)
  simp only [List.take_zero, List.nil_append] at this
  exact Array.ext' this
/-- A literal of one element. -/
theorem buildSlice_run {t e sz bytes : Nat} {z : Value} (ht : P.underlying t = some (.slice e)) (hinfo : (P.info? e).map (fun i => (i.zero, i.size, i.bytes)) = some (some z, sz, bytes)) (hsz : 0 < sz) (hs2 : sz ≤ 1000) (v : Value) (hv : v.cells.size = sz) :
    (Instr.buildSlice t 1 #[(0, v)]).run P w = .ok (.slice (some ⟨w.heap.size, 0, none⟩) 1 1) (w.alloc (.cells v.cells e)) := by
  obtain ⟨i, hi, hz0, rfl, rfl⟩ := info_parts' hinfo
  have hne : ¬ (1 * i.size = 0) := by omega
  have hbig : ¬ (1 * i.size > 2 ^ 24) := by omega
  have hf := fill_all v.cells ((Array.range (1 * i.size)).map (fun j => z.cells[j % z.cells.size]!)) (by simp [hv])
  simp [Instr.buildSlice, run_underlying ht, sizeOf, typeInfo, hi, zeroValue, hz0, Instr.fill, hv]
  simp only [Nat.one_mul, Nat.zero_add] at hf
  have hf2 : Array.foldl (fun (cs : Array Value) (x : Value × Nat) => cs.setIfInBounds x.snd x.fst) (Array.map (fun j => z.cells[j % z.cells.size]!) (Array.range i.size)) v.cells.zipIdx 0 i.size = v.cells := by
    have e : v.cells.zipIdx.size = i.size := by simp [hv]
    exact (congrArg (fun q => Array.foldl (fun (cs : Array Value) (x : Value × Nat) => cs.setIfInBounds x.snd x.fst) (Array.map (fun j => z.cells[j % z.cells.size]!) (Array.range i.size)) v.cells.zipIdx 0 q) e.symm).trans hf
  rw [if_neg (by omega), if_neg (by omega), hf2]
  simp [newRow]
/-- Other names, that the walk does not lay open. -/
def sliceBig (t : TypeId) (n : Nat) (ps : Array (Nat × Value)) : Sem Value := Instr.buildSlice t n ps
def loadBig (t : TypeId) (a : Value) : Sem Value := Instr.loadAt t a
def storeBig (t : TypeId) (a v : Value) : Sem Unit := Instr.storeAt t a v
/-- The world's spelling is left behind. -/
theorem gen_world {c : Code} {Q : Exit → Act → World → Prop} {a : Act} (h : St k w L) (hn : ∀ w', St k w' L → c.wp P Q a w') : c.wp P Q a w := hn w h
section
variable {ops : Array Oper} {o : Oper} {a : Act} {K : Act → World → Prop} {Q : Exit → Act → World → Prop} {E : Prop}
/-- In a region that draws its order. -/
theorem step_of (hg : o.guard = none) (h : o.wp P a w K Q) : if Region.wanted o (yielded ops a.tmps) = true then o.wp P a w K Q else E := by
  rw [if_pos (by simp [Region.wanted, hg])]; exact h
theorem list_of {rest : List Oper} (hg : o.guard = none) (h : ∀ K : Act → World → Prop, (∀ a w, wpList P ops Q rest a w → K a w) → o.wp P a w K Q) : wpList P ops Q (o :: rest) a w := wpList_plain hg h
theorem wp_store_run (x y : Operand) (ty : TypeId) (ho : o.op = .store ty x y) {v u : Value} {w' : World} (hr : (Instr.storeAt ty v u).run P w = .ok () w') (hx : a.eval x = v) (hy : a.eval y = u) (h : K (a.put o.dst undef) w') : o.wp P a w K Q := by
  unfold Oper.wp execOp
  simp only [ho, hx, hy, Sem.run_bind, Sem.run_pure, Result.andThen_ok, hr]
  exact h
theorem wp_load_run (x : Operand) (ty : TypeId) (ho : o.op = .load ty x) {v u : Value} (hr : (Instr.loadAt ty v).run P w = .ok u w) (hx : a.eval x = v) (h : K (a.put o.dst u) w) : o.wp P a w K Q := by
  unfold Oper.wp execOp
  simp only [ho, hx, Sem.run_bind, Sem.run_pure, Result.andThen_ok, hr]
  exact h
theorem wp_append_run (x y : Operand) (t t' : TypeId) (ho : o.op = .call { callee := .builtin .append, args := #[x, y], argTypes := #[t, t'] }) {v u v' : Value} {w' : World}
    (hr : (Builtin.append_ #[t, t'] o.type #[v, u]).run P w = .ok v' w') (hx : a.eval x = v) (hy : a.eval y = u) (h : K (a.put o.dst v') w') : o.wp P a w K Q := by
  unfold Oper.wp execOp
  simp only [ho, resolve, invoke, builtin, Sem.run_bind, Sem.run_pure, Result.andThen_ok, List.map_toArray, List.map_cons, List.map_nil, hx, hy, hr]
  exact h
theorem wp_copy_run (x y : Operand) (t t' : TypeId) (ho : o.op = .call { callee := .builtin .copy, args := #[x, y], argTypes := #[t, t'] }) {v u v' : Value} {w' : World}
    (hr : (Builtin.copy_ #[t, t'] o.type #[v, u]).run P w = .ok v' w') (hx : a.eval x = v) (hy : a.eval y = u) (h : K (a.put o.dst v') w') : o.wp P a w K Q := by
  unfold Oper.wp execOp
  simp only [ho, resolve, invoke, builtin, Sem.run_bind, Sem.run_pure, Result.andThen_ok, List.map_toArray, List.map_cons, List.map_nil, hx, hy, hr]
  exact h
theorem wp_clear_run (x : Operand) (t : TypeId) (ho : o.op = .call { callee := .builtin .clear, args := #[x], argTypes := #[t] }) {v v' : Value} {w' : World}
    (hr : (Builtin.clear_ #[t] o.type #[v]).run P w = .ok v' w') (hx : a.eval x = v) (h : K (a.put o.dst v') w') : o.wp P a w K Q := by
  unfold Oper.wp execOp
  simp only [ho, resolve, invoke, builtin, Sem.run_bind, Sem.run_pure, Result.andThen_ok, List.map_toArray, List.map_cons, List.map_nil, hx, hr]
  exact h
end
end Go.Sl
namespace Go.Sl
open Go.RowKit
theorem take_exact {α : Type} {l a b : List α} {n : Nat} (h : l = a ++ b) (hn : n = a.length) : l.take n = a := by subst h hn; exact List.take_left
/-- What is shifted up, and what is put there. -/
theorem shift_take {c : Array Value} {cs news : List Value} {A M N : Nat} (hA : A ≤ N) (hN : N + M ≤ c.size) (hc : c.toList.take N = cs) (hl : cs.length = N) (hm : news.length = M) :
    (spl (spl c (A + M) (cs.drop A)) A news).toList.take (N + M) = cs.take A ++ news ++ cs.drop A := by
  have h1 : (spl c (A + M) (cs.drop A)).size = c.size := spl_size _ _ _ (by rw [List.length_drop, hl]; omega)
  apply List.ext_getElem?
  intro j
  rw [List.getElem?_take, Array.getElem?_toList]
  rw [spl_get _ _ _ (by rw [h1, hm]; omega)]
  rw [spl_get _ _ _ (by rw [List.length_drop, hl]; omega)]
  rw [List.append_assoc, List.getElem?_append, List.getElem?_append, List.length_take, Nat.min_eq_left (by omega), hm, List.length_drop, hl]
  have g : ∀ j, j < N → c[j]? = cs[j]? := fun j hj => by
    rw [← hc, List.getElem?_take, if_pos hj, Array.getElem?_toList]
  split
  · by_cases h2 : j < A
    · simp only [if_pos h2, if_pos (show j < A + M by omega), List.getElem?_take]; exact g j (by omega)
    · by_cases h3 : j < A + M
      · simp only [if_neg h2, if_pos h3, if_pos (show j - A < M by omega)]
      · simp only [if_neg h2, if_neg h3, if_neg (show ¬ j - A < M by omega), if_pos (show j < A + M + (N - A) by omega), List.getElem?_drop]
        congr 1
        omega
  · rw [if_neg (by omega), if_neg (by omega), List.getElem?_drop, List.getElem?_eq_none]
    omega
/-- What is put into zeros. -/
theorem grow_take {c : Array Value} {cs news z : List Value} {A M N : Nat} (hA : A ≤ N) (hN : N + M ≤ c.size) (hc : c.toList.take (N + M) = cs.take A ++ z) (hl : cs.length = N) (hm : news.length = M) :
    (spl (spl c A news) (A + M) (cs.drop A)).toList.take (N + M) = cs.take A ++ news ++ cs.drop A := by
  have h1 : (spl c A news).size = c.size := spl_size _ _ _ (by rw [hm]; omega)
  apply List.ext_getElem?
  intro j
  rw [List.getElem?_take, Array.getElem?_toList]
  rw [spl_get _ _ _ (by rw [h1, List.length_drop, hl]; omega)]
  rw [spl_get _ _ _ (by rw [hm]; omega)]
  rw [List.append_assoc, List.getElem?_append, List.getElem?_append, List.length_take, Nat.min_eq_left (by omega), hm, List.length_drop, hl]
  have g : ∀ j, j < A → c[j]? = (cs.take A)[j]? := fun j hj => by
    have : (c.toList.take (N + M))[j]? = (cs.take A ++ z)[j]? := by rw [hc]
    rw [List.getElem?_take, if_pos (by omega), Array.getElem?_toList, List.getElem?_append, if_pos (by rw [List.length_take]; omega)] at this
    exact this
  split
  · by_cases h2 : j < A
    · simp only [if_pos h2, if_pos (show j < A + M by omega)]; exact g j h2
    · by_cases h3 : j < A + M
      · simp only [if_neg h2, if_pos h3, if_pos (show j - A < M by omega)]
      · simp only [if_neg h2, if_neg h3, if_neg (show ¬ j - A < M by omega), if_pos (show j < A + M + (N - A) by omega)]
        congr 1
        omega
  · rw [if_neg (by omega), if_neg (by omega), List.getElem?_drop, List.getElem?_eq_none]
    omega
/-- What is taken out. -/
theorem del_take {c : Array Value} {cs z : List Value} {A B M N : Nat} (hA : A < B) (hB : B ≤ N) (hN : N ≤ c.size) (hc : c.toList.take N = cs) (hl : cs.length = N) (hz : M + z.length = N) (hM : M = A + (N - B)) :
    (spl (spl c A (cs.drop B)) M z).toList.take M = cs.take A ++ cs.drop B := by
  subst hM
  have h1 : (spl c A (cs.drop B)).size = c.size := spl_size _ _ _ (by rw [List.length_drop, hl]; omega)
  apply List.ext_getElem?
  intro j
  rw [List.getElem?_take, Array.getElem?_toList]
  rw [spl_get _ _ _ (by rw [h1]; omega)]
  rw [spl_get _ _ _ (by rw [List.length_drop, hl]; omega)]
  rw [List.getElem?_append, List.length_take, Nat.min_eq_left (by omega), List.length_drop, hl]
  have g : ∀ j, j < N → c[j]? = cs[j]? := fun j hj => by
    rw [← hc, List.getElem?_take, if_pos hj, Array.getElem?_toList]
  split
  · by_cases h2 : j < A
    · simp only [if_pos h2, List.getElem?_take]; exact g j (by omega)
    · simp only [if_neg h2]
  · rw [if_neg (by omega), List.getElem?_drop, List.getElem?_eq_none]
    omega
theorem nil_keep {v v' : Value} {n m : Nat} (a : v' = .slice none 0 0 ↔ v = .slice none 0 0 ∧ m = 0) (b : v = .slice none 0 0 ↔ n = 0) (h : m ≤ n) : v' = .slice none 0 0 ↔ n = 0 :=
  ⟨fun e => b.1 (a.1 e).1, fun e => a.2 ⟨b.2 e, by omega⟩⟩
theorem minLen {n : Nat} (h : n ≤ maxLen) : n ≤ 9223372036854775807 := h
end Go.Sl
