/- A range over a function, in the logic of parts: a function that gives all of a list, one by one; the loop over it. -/
import Derived.Test.YtdgaffcfcgmfnaaZa
import Derived.RangeFuncRecord
import Derived.RangeFuncBound
import Derived.OwnWalkIn
namespace Go.Sl
open Go.RowKit
variable {P : Program} {k w : World} {L : List Asn}

theorem St.putObj {b : Nat} {o : Obj} (h : St k w (pt b o :: L)) (o' : Obj) : St k (w.putObj b o') (pt b o' :: L) := by
  have hb := blk_lt h.lies
  exact h.turn rfl rfl rfl (by simp) (World.putObj_heap_same hb) (fun i _ hi => World.putObj_heap_other hi)
/-- A round of the loop l at x. -/
def Round (P : Program) (k : World) (l : Nat) (args : Array Value) (A B : Asn) : Prop :=
  ∀ (m : Nat) (W : World) (L : List Asn), St k W (A :: L) → YieldAt Fence.wide m P l args W fun e W' => e = .returned (.bool true) ∧ St k W' (B :: L)
/-- The function f (at args and yield) gives all of xs, one by one; A is what it reads. -/
def Gives {α : Type} (P : Program) (k : World) (f : Nat) (args : Value → Array Value) (A : Asn) (encs : α → Array Value) (xs : List α) : Prop :=
  ∀ (J : List α → Asn) (l m : Nat) (W : World) (L : List Asn), (∀ pre x suf, xs = pre ++ x :: suf → Round P k l (encs x) (Asg.list [A, J pre]) (Asg.list [A, J (pre ++ [x])])) → St k W (A :: J [] :: L) →
    CallsIn Fence.wide m P f (args (.func (.yield l) #[] #[])) W fun e W' => (∃ v, e = .returned v) ∧ St k W' (A :: J xs :: L)

theorem wpIn_range {α : Type} {n : Nat} {g : Operand} {ps : Array Tmp} {assign body : Code} {Q : Exit → Act → World → Prop} {a : Act} {A : Asn} {encs : α → Array Value} {xs : List α} {gf : Nat} {fs : Array Value}
    (hg : a.eval g = .func (.func gf) fs #[]) (eg : ∀ args w, (callFunc gf args).run P w = .ok (.enter gf args) w)
    (hseq : Gives P k gf (fun y => fs ++ #[y]) A encs xs) (hps : ∀ x, (encs x).size = ps.size)
    (J : List α → Asn) (Bx : α → Act → Asn) (h0 : St k w (A :: J [] :: L))
    (hassign : ∀ (l m : Nat) (x : α) (W : World) (L : List Asn) (K : Act → World → Prop), St k W L → (∀ a₁ W₁, St k W₁ (Bx x a₁ :: L) → K a₁ W₁) →
      assign.wpIn (Fence.wide.inRound l) m P (Exit.then K (fun _ _ _ => False)) { tmps := (ps.zip (encs x)).foldl (fun t (p, v) => t.setIfInBounds p v) a.tmps, defers := [] } W)
    (hbody : ∀ (l m : Nat) (pre : List α) (x : α) (suf : List α) (a₁ : Act) (W : World) (L : List Asn), xs = pre ++ x :: suf → St k W (Bx x a₁ :: A :: J pre :: L) →
      body.wpIn (Fence.wide.inRound l) m P (fun e _ W' => e = .normal ∧ St k W' (A :: J (pre ++ [x]) :: L)) a₁ W)
    (hdone : ∀ (D : Nat) (W : World), St k W (pt D (.deferred (some [])) :: A :: J xs :: L) → Q .normal { a with defers := { target := .collected D, args := #[] } :: a.defers } W) :
    (Code.rangeFunc g ps assign body).wpIn Fence.wide n P Q a w := by
  refine wpIn_rangeFunc ?_
  intro fn hfn
  obtain ⟨rec, hrec⟩ : ∃ rec : LoopState → Option Code → Loop, rec = fun st pe => { state := st, pending := pe, fn, tmps := a.tmps, params := ps, assign, body, defers := w.heap.size } := ⟨_, rfl⟩
  obtain ⟨W1, hW1⟩ : ∃ W1, (w.alloc (.deferred (some []))).alloc (.loop (rec .ready none)) = W1 := ⟨_, rfl⟩
  obtain ⟨D, hD⟩ : ∃ D, w.heap.size = D := ⟨_, rfl⟩
  have hs1 : St k W1 (pt (D + 1) (.loop (rec .ready none)) :: pt D (.deferred (some [])) :: A :: J [] :: L) := by
    rw [← hW1, ← hD]
    have := (h0.alloc (.deferred (some []))).alloc (.loop (rec .ready none))
    rwa [World.size_alloc] at this
  let JJ : List α → Asn := fun pre => Asg.list [pt (D + 1) (.loop (rec .ready none)), J pre]
  have hs2 : St k W1 (A :: JJ [] :: pt D (.deferred (some [])) :: L) := by
    have h2 : St k W1 (pt (D + 1) (.loop (rec .ready none)) :: J [] :: pt D (.deferred (some [])) :: A :: L) := ((hs1.pull 3).push 1).perm (by
      simp only [pushAt, pullAt]
      refine .cons _ (.cons _ ?_)
      exact .refl _)
    have h3 : St k W1 (JJ [] :: pt D (.deferred (some [])) :: A :: L) := St.shut_list [pt (D + 1) (.loop (rec .ready none)), J []] h2
    exact h3.pull 2
  refine ⟨D + 1, [{ target := .collected D, args := #[] }], W1, { target := .fn (.func gf) #[], args := fs ++ #[.func (.yield (D + 1)) #[] #[]] }, W1, gf,
    fs ++ #[.func (.yield (D + 1)) #[] #[]], W1, ?_, ?_, ?_, ?_, fun h => by simp [Fence.wide] at h, ?_⟩
  · rw [← hW1, ← hD, hrec]; exact run_enterLoop_outer _ _ _ _ _
  · simp only [resolve, hg]
    simp [go_sem]
  · intro f' hf'; trivial
  · simp [invoke, go_sem, eg]
  refine (hseq JJ (D + 1) (n - 1) W1 _ ?_ hs2).mono ?_
  · intro pre x suf hx m W L1 hW
    have h1 : St k W (pt (D + 1) (.loop (rec .ready none)) :: J pre :: A :: L1) := (hW.open_list (M := [A, JJ pre])).swap.open_list
    have hl := h1.lies
    have hy := run_yield (P := P) (args := encs x) hl (by rw [hrec]; exact hps x)
    have e1 : (rec .ready none).fn = fn := by rw [hrec]
    have e2 : (rec .ready none).tmps = a.tmps := by rw [hrec]
    have e3 : (rec .ready none).assign = assign := by rw [hrec]
    have e4 : (rec .ready none).body = body := by rw [hrec]
    have e5 : (rec .ready none).params = ps := by rw [hrec]
    have e6 : (rec .ready none).state = .ready := by rw [hrec]
    have e7 : ({ rec .ready none with state := .busy } : Loop) = rec .busy none := by rw [hrec]
    have e8 : ∀ j, ({ rec .busy none with state := if (none : Option Code).isNone then .ready else .done, pending := j } : Loop) = rec .ready j := by rw [hrec]; intro j; rfl
    rw [e1, e2, e3, e4, e5] at hy
    refine ⟨fn, _, assign, body, hy, roundIn_of_wpIn hfn (hassign _ m x W _ _ h1 ?_)⟩
    intro a₁ W₁ h2
    have h3 := h2.swap
    have hbr := run_beginRound (P := P) h3.lies e6
    rw [e7] at hbr
    refine ⟨_, hbr, ?_⟩
    have h4 := h3.putObj (.loop (rec .busy none))
    have h5 : St k (W₁.putObj (D + 1) (.loop (rec .busy none))) (Bx x a₁ :: A :: J pre :: pt (D + 1) (.loop (rec .busy none)) :: L1) := h4.perm (by
      refine (List.Perm.swap _ _ _).trans (.cons _ ?_)
      exact (List.Perm.swap _ _ _).trans (((List.Perm.swap _ _ _).cons _).trans (List.Perm.swap _ _ _)))
    refine wpIn_mono (hbody _ m pre x suf a₁ _ _ hx h5) ?_
    rintro e a3 W3 ⟨rfl, hp⟩
    have h6 := hp.pull 2
    have hend := run_endRound (P := P) none h6.lies
    rw [e8] at hend
    refine ⟨_, _, hend, rfl, ?_⟩
    have h7 : St k (W3.putObj (D + 1) (.loop (rec .ready none))) (pt (D + 1) (.loop (rec .ready none)) :: J (pre ++ [x]) :: A :: L1) := (h6.putObj (.loop (rec .ready none))).perm ((List.Perm.swap _ _ _).cons _)
    exact St.shut_list [A, JJ (pre ++ [x])] (St.swap (St.shut_list [pt (D + 1) (.loop (rec .ready none)), J (pre ++ [x])] h7))
  · rintro e W2 ⟨⟨v, rfl⟩, h1⟩
    have h2 : St k W2 (pt (D + 1) (.loop (rec .ready none)) :: J xs :: A :: pt D (.deferred (some [])) :: L) := h1.swap.open_list
    have hend := run_endLoop (P := P) h2.lies (by rw [hrec]; simp)
    have e9 : (rec .ready none).pending = none := by rw [hrec]
    rw [e9] at hend
    refine ⟨none, _, hend, ?_⟩
    show Q .normal _ _
    exact hdone D _ (((h2.putObj _).drop.pull 2).perm ((List.Perm.swap _ _ _).cons _))

section
variable {F : Fence} {m : Nat} {ops : Array Oper} {o : Oper} {a : Act} {Q : Exit → Act → World → Prop}
theorem wpListIn_append {t e sz bytes : Nat} {z : Value} {rest : List Oper} (hgd : o.guard = none) (s x : Operand) (ho : o.op = .call { callee := .builtin .append, args := #[s, x], argTypes := #[t, t] })
    (ht : P.underlying t = some (.slice e)) (hinfo : (P.info? e).map (fun i => (i.zero, i.size, i.bytes)) = some (some z, sz, bytes)) (hz : z.cells.size = sz) (hsz : 0 < sz)
    {v X : Value} {n j : Nat} {cs news : List Value} (h : St k w (rowA e sz v n cs :: L)) (hx : Reads w sz X j news) (hs : a.eval s = v) (hX : a.eval x = X) (h1 : ∀ u ∈ news, u.oneCell' = true) (hm : n + j ≤ maxLen) (hb : (n + j) * bytes ≤ 140737488355328)
    (hK : ∀ v' w', St k w' (rowA e sz v' (n + j) (cs ++ news) :: L) → (v' = .slice none 0 0 ↔ v = .slice none 0 0 ∧ j = 0) → wpListIn F m P ops Q rest (a.put o.dst v') w') : wpListIn F m P ops Q (o :: rest) a w := by
  refine wpListIn_plain hgd fun K hK' => ?_
  obtain ⟨v', w', hr, h2, h3⟩ := append_run (ty := o.type) ht hinfo hz hsz h hx h1 hm hb
  unfold Oper.wpIn
  refine ⟨?_, ?_⟩
  · simp [Oper.about, ho, resolve, Target.leads, Sem.run_pure]
  · rw [Oper.semAt_plain F _ _ (by rw [ho]; intro c hc'; cases hc')]
    simp [execOp, ho, resolve, invoke, builtin, hs, hX, hr, Result.andThen]
    exact hK' _ _ (hK v' w' h2 h3)
/-- A whole block is written. -/
theorem wpListIn_store_all {ty t : TypeId} {rest : List Oper} (hgd : o.guard = none) (x y : Operand) (ho : o.op = .store ty x y) {b : Nat} {c cells : Array Value}
    (h : St k w (pt b (.cells c t (0, 0)) :: L)) (hx : a.eval x = .pointer (some ⟨b, 0, none⟩)) (hy : a.eval y = .agg cells) (hi : (P.info? ty).map (·.size) = some cells.size) (h1 : ∀ u ∈ cells.toList, u.oneCell' = true) (hf : c.size = cells.size)
    (hK : ∀ w', St k w' (pt b (.cells cells t (0, 0)) :: L) → wpListIn F m P ops Q rest (a.put o.dst undef) w') : wpListIn F m P ops Q (o :: rest) a w := by
  refine wpListIn_plain hgd fun K hK' => ?_
  have hr := store_run (P := P) h.lies 0 hi h1 (by omega)
  have h2 := h.setRow (c' := spl c 0 cells.toList)
  have e : spl c 0 cells.toList = cells := by
    apply Array.ext'
    simp [spl, hf]
  rw [e] at hr h2
  unfold Oper.wpIn
  refine ⟨?_, ?_⟩
  · simp [Oper.about, ho]
  · rw [Oper.semAt_plain F _ _ (by rw [ho]; intro c hc'; cases hc')]
    simp [execOp, ho, hx, hy, hr, Result.andThen]
    exact hK' _ _ (hK _ h2)
end
theorem gen_worldIn {F : Fence} {m : Nat} {c : Code} {Q : Exit → Act → World → Prop} {a : Act} (h : St k w L) (hn : ∀ w', St k w' L → c.wpIn F m P Q a w') : c.wpIn F m P Q a w := hn w h
end Go.Sl
