/- A sequence by what it says: Len, Count, Size. -/
import Derived.Test.YtdgaffcfcgmfnaaR9
set_option linter.unusedVariables false
set_option linter.unusedSimpArgs false
namespace Go.Sl
/-- A world in which the list is true: for a region that draws its order and reads. -/
structure WSt (k : World) (L : List Asn) where
  w : World
  h : St k w L
theorem region_st {P : Program} {k W : World} {L : List Asn} {id : Nat} {Q : Exit → Act → World → Prop} {a : Act} {l : List Oper} (hm : P.follows .mixedOrders = true) (hB : Region.lexB .any l.toArray = true) (h0 : St k W L)
    (h : wpQuiet P l.toArray (fun w' => ∃ n : WSt k L, w' = n.w) (fun a' => ∀ w', (∃ n : WSt k L, w' = n.w) → Q .normal a' w') l a) : (Code.region id l.toArray true).wp P Q a W :=
  wp_region_quiet (C := fun w' => ∃ n : WSt k L, w' = n.w) hm hB ⟨⟨_, h0.drew⟩, rfl⟩ (by simpa using h)
theorem st_elim {k : World} {L : List Asn} {p : World → Prop} (h : ∀ w', St k w' L → p w') : ∀ w', (∃ n : WSt k L, w' = n.w) → p w' := by
  rintro w' ⟨n, rfl⟩
  exact h _ n.h
theorem calls_st {P : Program} {f : FuncId} {args : Array Value} {k : World} {L : List Asn} {n : WSt k L} {v : Value}
    (h : Calls P f args n.w fun e w' => e = .returned v ∧ St k w' L) : Calls P f args n.w fun e w'' => e = .returned v ∧ ∃ m : WSt k L, w'' = m.w :=
  h.mono fun _ w' ⟨he, hb⟩ => ⟨he, ⟨w', hb⟩, rfl⟩
end Go.Sl
namespace Go.Proofs.Ytdgaffcfcgmfnaa
open Go.RowKit Go.Sl

attribute [local go_sem ↓ high] load107 store107 load105 store105 slice82
/-- Who sees what. -/
structure Pol where
  labels : Nat
  sees : List Bool
/-- Sees whoever works at v text of the label l? -/
def Pol.see (P : Pol) (v : Nat) (l : Int) : Bool := P.sees.getD (v * 32 + l.toNat) false
def runeOk (r : Int) : Bool := decide (0 ≤ r ∧ r < 55296 ∨ 57343 < r ∧ r ≤ 1114111)
/-- May these be the code points of a sequence? -/
structure Fit (P : Pol) (es : List El) : Prop where
  lab : ∀ e ∈ es, 0 ≤ e.label ∧ e.label < P.labels
  rune : ∀ e ∈ es, runeOk e.rune = true
structure Ok (r : RM) (P : Pol) (es : List El) (c : Nat) : Prop where
  ar : ∃ h, h ≤ c ∧ Ar r.ms r.free [Tree h r.root es]
  few : r.ms.length ≤ (c + 2) * (c + 2)
  fit : Fit P es
  labels : r.labels = P.labels
  l32 : P.labels ≤ 32
  sees : r.sees = P.sees
  slen : P.sees.length = 1024
  len : es.length ≤ 1048576
theorem Ok.labs {r : RM} {P : Pol} {es : List El} {c : Nat} (h : Ok r P es c) : Labs es := fun e he => by have := h.fit.lab e he; have := h.l32; omega
/-- A sequence of the code points es, behind a pointer to block g; c: how many were put, at most. -/
def Rope (g : Nat) (P : Pol) (es : List El) (c : Nat) : Asn := Asg.ex fun r => Asg.list [ropeA g r, Asg.pure (Ok r P es c)]
section
variable {k w : World} {L : List Asn} {g c : Nat} {P : Pol} {es : List El} {R : Ending → World → Prop}
theorem Rope.out (h : St k w (Rope g P es c :: L)) : ∃ r, St k w (ropeA g r :: L) ∧ Ok r P es c := by
  obtain ⟨r, h1⟩ := h.open_ex
  obtain ⟨h3, h4⟩ := h1.open_list.swap.open_pure
  exact ⟨r, h4, h3⟩
theorem Rope.mk {r : RM} (h : St k w (ropeA g r :: L)) (ho : Ok r P es c) : St k w (Rope g P es c :: L) := by
  have h1 : St k w (Asg.pure (Ok r P es c) :: ropeA g r :: L) := h.shut_pure ho
  exact St.shut_ex r (St.shut_list [ropeA g r, Asg.pure (Ok r P es c)] h1.swap)
theorem rope_dead {r : RM} (h : St k w (ropeA g r :: L)) (ho : Ok r P es c) : w.cell? ⟨g, 1028, none⟩ = some (.bool true) := rope_made h (by rw [ho.sees]; exact ho.slen)
theorem seenL_one (s : List Bool) (v : Nat) (f : Nat → Int) (x : Int) : ∀ q, seenL s v (fun l => (if x = (l : Int) then 1 else 0) + f l) q = (if 0 ≤ x ∧ x < (q : Int) ∧ s.getD (v * 32 + x.toNat) false = true then 1 else 0) + seenL s v f q
  | 0 => by
    simp only [seenL]
    rw [if_neg (by omega)]; rfl
  | q + 1 => by
    simp only [seenL]
    rw [seenL_one s v f x q]
    by_cases h1 : x = (q : Int)
    · have e : x.toNat = q := by omega
      have hA : (if 0 ≤ x ∧ x < (q : Int) ∧ s.getD (v * 32 + x.toNat) false = true then (1 : Int) else 0) = 0 := if_neg (by omega)
      have hB : (if x = (q : Int) then (1 : Int) else 0) = 1 := if_pos h1
      rw [hA, hB]
      by_cases h2 : s.getD (v * 32 + q) false = true
      · have hC : (if 0 ≤ x ∧ x < ((q + 1 : Nat) : Int) ∧ s.getD (v * 32 + x.toNat) false = true then (1 : Int) else 0) = 1 := if_pos ⟨by omega, by omega, by rw [e]; exact h2⟩
        rw [hC]; simp only [h2, if_true]; omega
      · have hC : (if 0 ≤ x ∧ x < ((q + 1 : Nat) : Int) ∧ s.getD (v * 32 + x.toNat) false = true then (1 : Int) else 0) = 0 := if_neg (fun h => h2 (by rw [← e]; exact h.2.2))
        rw [hC]; simp only [h2, if_false]; simp
    · have hB : (if x = (q : Int) then (1 : Int) else 0) = 0 := if_neg h1
      have hC : (if 0 ≤ x ∧ x < ((q + 1 : Nat) : Int) ∧ s.getD (v * 32 + x.toNat) false = true then (1 : Int) else 0) = if 0 ≤ x ∧ x < (q : Int) ∧ s.getD (v * 32 + x.toNat) false = true then (1 : Int) else 0 := by
        by_cases h3 : 0 ≤ x ∧ x < (q : Int) ∧ s.getD (v * 32 + x.toNat) false = true
        · rw [if_pos h3, if_pos ⟨h3.1, by omega, h3.2.2⟩]
        · rw [if_neg h3, if_neg (fun h => h3 ⟨h.1, by omega, h.2.2⟩)]
      rw [hB, hC]
      split <;> split <;> omega
/-- How many of these are seen. -/
def seenN (P : Pol) (v : Nat) (es : List El) : Nat := (es.filter fun e => P.see v e.label).length
theorem seenL_all (P : Pol) (v : Nat) : ∀ {es : List El}, Labs es → seenL P.sees v (cnt es) 32 = (seenN P v es : Nat)
  | [], _ => by
    have : ∀ q, seenL P.sees v (cnt []) q = 0 := by
      intro q
      induction q with
      | zero => rfl
      | succ q ih => simp only [seenL, ih, cnt_nil]; split <;> rfl
    exact this 32
  | e :: es, h => by
    have e1 : cnt (e :: es) = fun l : Nat => (if e.label = (l : Int) then 1 else 0) + cnt es l := funext fun l : Nat => cnt_cons e es l
    rw [e1, seenL_one, seenL_all P v (es := es) (fun x hx => h x (by simp [hx]))]
    have := h e (by simp)
    unfold seenN Pol.see
    rw [List.filter_cons]
    by_cases h2 : P.sees.getD (v * 32 + e.label.toNat) false = true
    · rw [if_pos ⟨this.1, by omega, h2⟩, if_pos h2, List.length_cons]; omega
    · rw [if_neg (fun h => h2 h.2.2), if_neg h2]; omega
theorem seenL_congr (s : List Bool) (v : Nat) (f f' : Nat → Int) : ∀ q, (∀ l, l < q → f l = f' l) → seenL s v f q = seenL s v f' q
  | 0, _ => rfl
  | q + 1, h => by
    simp only [seenL]
    rw [seenL_congr s v f f' q (fun l hl => h l (by omega)), h q (by omega)]
/-- The root's node. -/
theorem Ok.node {r : RM} (ho : Ok r P es c) : ∃ x, r.ms[r.root]? = some x ∧ Sl.Good x es := by
  obtain ⟨h, -, ha⟩ := ho.ar
  obtain ⟨x, h1, h2, -⟩ := tree_node ha
  exact ⟨x, h1, h2⟩
set_option maxRecDepth 100000 in
theorem len_any (h : St k w (Rope g P es c :: L)) (hR : ∀ w', St k w' (Rope g P es c :: L) → R (.returned (.int .i64 (es.length : Nat))) w') : Calls Try.prog 29 #[.pointer (some ⟨g, 0, none⟩)] w R := by
  obtain ⟨r, h1, ho⟩ := Rope.out h
  obtain ⟨x, hx, hg⟩ := ho.node
  have hjl := (List.getElem?_eq_some_iff.1 hx).1
  obtain ⟨bn, cap, hv, -, -, -⟩ := rope_nodes h1 hjl
  have c0 := rope_0 h1
  rw [hv] at c0
  have c2 := rope_2 h1
  have s0 := rope_node h1 hv hx (t := 2) rfl
  rw [hg.size] at s0
  have d0 := rope_dead h1 ho
  have b1 : (r.root : Int) < (r.ms.length : Int) := by omega
  have b2 : (0 : Int) ≤ (r.root : Int) := by omega
  have HR := Lib.hid (fun (n : Nat) => hR _ (Rope.mk (h1.drewN n) ho))
  clear h hR h1 ho hx hg hv hjl
  go_enter Try.func29, Try.ntmps29
  go_wp2_with (go_at_call 55; refine dead_any d0 ?_)
  go_quiet (fail)
  go_wp2
  exact HR.out nq
/-- Is there such a label? -/
def Pol.has (P : Pol) (v : Int) : Bool := decide (0 ≤ v ∧ v < (P.labels : Int))
theorem Pol.has_iff {P : Pol} {v : Int} : P.has v = true ↔ 0 ≤ v ∧ v < (P.labels : Int) := by simp [Pol.has]
theorem Ok.label {r : RM} (ho : Ok r P es c) (v : Int) : P.has v = decide (0 ≤ v ∧ v < (r.labels : Int)) := by rw [ho.labels]; rfl
def countP (P : Pol) (v : Int) (es : List El) : Int := if P.has v = true then cnt es v.toNat else 0
def sizeP (P : Pol) (v : Int) (es : List El) : Int := if P.has v = true then (seenN P v.toNat es : Nat) else 0
set_option maxRecDepth 100000 in
theorem count1_any {v : Int} (h : St k w (Rope g P es c :: L)) (hR : ∀ w', St k w' (Rope g P es c :: L) → R (.returned (.int .i64 (countP P v es))) w') : Calls Try.prog 26 #[.pointer (some ⟨g, 0, none⟩), .int .i64 v] w R := by
  obtain ⟨r, h1, ho⟩ := Rope.out h
  obtain ⟨x, hx, hg⟩ := ho.node
  have hjl := (List.getElem?_eq_some_iff.1 hx).1
  obtain ⟨bn, cap, hv, -, -, -⟩ := rope_nodes h1 hjl
  have c0 := rope_0 h1
  rw [hv] at c0
  have c2 := rope_2 h1
  have c3 := rope_3 h1
  have d0 := rope_dead h1 ho
  have b1 : (r.root : Int) < (r.ms.length : Int) := by omega
  have b2 : (0 : Int) ≤ (r.root : Int) := by omega
  have HR := Lib.hid (fun (n : Nat) => hR _ (Rope.mk (h1.drewN n) ho))
  have HR0 := Lib.hid (hR _ h)
  have HL := Lib.hid (ho.label v)
  cases hb : P.has v
  · have e : countP P v es = 0 := by rw [countP, if_neg (by rw [hb]; simp)]
    rw [e] at HR0
    have HB := Lib.hid hb
    clear h hR h1 ho hx hg hv hjl hb HR e
    go_enter Try.func26, Try.ntmps26
    go_wp2_with (first | (go_at_call 55; refine dead_any d0 ?_) | (go_at_call 56; refine label_any c3 (HB.out.symm.trans HL.out) ?_))
    exact HR0.out
  · have e : countP P v es = cnt es v.toNat := by rw [countP, if_pos hb]
    obtain ⟨v0, v1⟩ := Pol.has_iff.1 hb
    have hvl : v.toNat < 32 := by have := ho.l32; omega
    have s0 := rope_ofc h1 hv hx hvl
    rw [hg.of _ hvl, ← e] at s0
    have v2 : v < 32 := by omega
    have HB := Lib.hid hb
    clear h hR h1 ho hx hg hv hjl hb HR0 e
    go_enter Try.func26, Try.ntmps26
    go_wp2_with (first | (go_at_call 55; refine dead_any d0 ?_) | (go_at_call 56; refine label_any c3 (HB.out.symm.trans HL.out) ?_))
    go_quiet (fail)
    go_wp2
    exact HR.out nq
set_option maxRecDepth 100000 in
theorem size_any {v : Int} (h : St k w (Rope g P es c :: L)) (hR : ∀ w', St k w' (Rope g P es c :: L) → R (.returned (.int .i64 (sizeP P v es))) w') : Calls Try.prog 18 #[.pointer (some ⟨g, 0, none⟩), .int .i64 v] w R := by
  obtain ⟨r, h1, ho⟩ := Rope.out h
  obtain ⟨x, hx, hg⟩ := ho.node
  have hjl := (List.getElem?_eq_some_iff.1 hx).1
  obtain ⟨bn, cap, hv, -, -, -⟩ := rope_nodes h1 hjl
  have c2 := rope_2 h1
  have c3 := rope_3 h1
  have d0 := rope_dead h1 ho
  have HR0 := Lib.hid (hR _ h)
  have HL := Lib.hid (ho.label v)
  cases hb : P.has v
  · have e : sizeP P v es = 0 := by rw [sizeP, if_neg (by rw [hb]; simp)]
    rw [e] at HR0
    have HB := Lib.hid hb
    clear h hR h1 ho hx hg hv hjl hb e
    go_enter Try.func18, Try.ntmps18
    go_wp2_with (first | (go_at_call 55; refine dead_any d0 ?_) | (go_at_call 56; refine label_any c3 (HB.out.symm.trans HL.out) ?_))
    exact HR0.out
  · have e : sizeP P v es = (seenN P v.toNat es : Nat) := by rw [sizeP, if_pos hb]
    obtain ⟨v0, v1⟩ := Pol.has_iff.1 hb
    have hvl : v.toNat < 32 := by have := ho.l32; omega
    obtain ⟨u, hu⟩ : ∃ u : Nat, v = (u : Int) := ⟨v.toNat, by omega⟩
    subst hu
    rw [Int.toNat_natCast] at e hvl
    have e2 : seenL r.sees u x.of 32 = sizeP P u es := by
      rw [e, ← seenL_all P u ho.labs, ho.sees]
      exact seenL_congr _ _ _ _ 32 fun l hl => hg.of l hl
    have hm : ∀ l, l < 32 → 0 ≤ x.of l ∧ x.of l ≤ 10000000000 := fun l hl => by
      have a := hg.of l hl
      have b := cnt_le es l
      have d := ho.len
      omega
    rw [← e2] at HR0
    have HS := Lib.hid (fun (RR : Ending → World → Prop) => seen_any (R := RR) h1 hv hx hvl (by rw [ho.sees]; exact ho.slen) hm)
    have HB := Lib.hid hb
    clear h hR h1 ho hx hg hv hjl hb e e2 hm
    go_enter Try.func18, Try.ntmps18
    go_wp2_with (first | (go_at_call 55; refine dead_any d0 ?_) | (go_at_call 56; refine label_any c3 (HB.out.symm.trans HL.out) ?_) | (go_at_call 57; refine HS.out _ ?_))
    exact HR0.out
end
end Go.Proofs.Ytdgaffcfcgmfnaa
