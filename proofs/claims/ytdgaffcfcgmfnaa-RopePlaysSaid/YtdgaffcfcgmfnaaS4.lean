/- Index and Place, whatever is asked; View. -/
import Derived.Test.YtdgaffcfcgmfnaaS3
namespace Go.Proofs.Ytdgaffcfcgmfnaa
open Go.RowKit Go.Sl

attribute [local go_sem ↓ high] load107 store107 load105 store105 slice82
/-- Where the n-th one stands of those that f is true of. -/
def idxF (f : El → Bool) : List El → Nat → Nat
  | [], _ => 0
  | e :: es, n => if f e = true then (if n = 0 then 0 else idxF f es (n - 1) + 1) else idxF f es n + 1
def seeE (P : Pol) (v : Nat) : El → Bool := fun e => P.see v e.label
theorem idxF_at {P : Pol} {v : Nat} {es : List El} {n i : Nat} (h : IdxAt P v es n i) : i = idxF (seeE P v) es n := by
  obtain ⟨a, e, b, rfl, he, hn, rfl⟩ := h
  induction a generalizing n with
  | nil =>
    have : n = 0 := by rw [← hn]; rfl
    subst this
    simp [idxF, seeE, he]
  | cons x a ih =>
    rw [seenN_cons] at hn
    simp only [List.cons_append, idxF, List.length_cons]
    by_cases hx : P.see v x.label = true
    · have hx' : seeE P v x = true := hx
      rw [if_pos hx] at hn
      rw [if_pos hx', if_neg (by omega)]
      have := ih (n := n - 1) (by omega)
      omega
    · have hx' : ¬ seeE P v x = true := hx
      rw [if_neg hx] at hn
      rw [if_neg hx']
      have := ih (n := n) (by omega)
      omega
theorem idxF_le (f : El → Bool) : ∀ (es : List El) (n : Nat), idxF f es n ≤ es.length
  | [], _ => Nat.le_refl _
  | e :: es, n => by
    simp only [idxF, List.length_cons]
    have h1 := idxF_le f es (n - 1)
    have h2 := idxF_le f es n
    split
    · split <;> omega
    · omega
def indexP (P : Pol) (v : Int) (es : List El) (n : Int) : Int × Int :=
  if P.has v = true then (if 0 ≤ n ∧ n < (seenN P v.toNat es : Nat) then ((idxF (seeE P v.toNat) es n.toNat : Nat), 0) else (0, 1)) else (0, 10)
def placeP (P : Pol) (v : Int) (es : List El) (n : Int) : Int × Int :=
  if P.has v = true then (if n < 0 then (0, 1) else if n = 0 then (0, 0) else if (indexP P v es (n - 1)).2 = 0 then ((indexP P v es (n - 1)).1 + 1, 0) else (0, (indexP P v es (n - 1)).2)) else (0, 10)
def viewP (P : Pol) (v : Int) (es : List El) (i : Int) : Int × Int :=
  if P.has v = true then (if 0 ≤ i ∧ i ≤ (es.length : Nat) then ((seenN P v.toNat (es.take i.toNat) : Nat), 0) else (0, 1)) else (0, 10)
section
variable {k w : World} {L : List Asn} {F : List (Asg MN)} {g c : Nat} {P : Pol} {es : List El} {r : RM} {R : Ending → World → Prop}
abbrev pairV (p : Int × Int) : Value := .tuple #[.int .i64 p.1, .int .i64 p.2]
set_option maxRecDepth 100000 in
set_option maxHeartbeats 1000000 in
theorem index_any {v n : Int} (h : St k w (Rope g P es c :: L)) (hR : ∀ w', St k w' (Rope g P es c :: L) → R (.returned (pairV (indexP P v es n))) w') : Calls Try.prog 19 #[.pointer (some ⟨g, 0, none⟩), .int .i64 v, .int .i64 n] w R := by
  obtain ⟨r, h1, ho⟩ := Rope.out h
  have c3 := rope_3 h1
  have d0 := rope_dead h1 ho
  have HL := Lib.hid (ho.label v)
  cases hb : P.has v
  · have e : indexP P v es n = (0, 10) := by rw [indexP, if_neg (by rw [hb]; simp)]
    rw [e] at hR
    have HB := Lib.hid hb
    have HR := Lib.hid (hR _ h)
    clear h hR h1 ho hb e
    go_enter Try.func19, Try.ntmps19
    go_wp2_with (first | (go_at_call 55; refine dead_any d0 ?_) | (go_at_call 56; refine label_any c3 (HB.out.symm.trans HL.out) ?_))
    exact HR.out
  · by_cases hn : 0 ≤ n ∧ n < (seenN P v.toNat es : Nat)
    · have e : indexP P v es n = (((idxF (seeE P v.toNat) es n.toNat : Nat) : Int), 0) := by rw [indexP, if_pos hb, if_pos hn]
      rw [e] at hR
      have hv := Pol.has_iff.1 hb
      obtain ⟨v', rfl⟩ : ∃ v' : Nat, v = v' := ⟨v.toNat, by omega⟩
      obtain ⟨n', rfl⟩ : ∃ n' : Nat, n = n' := ⟨n.toNat, by omega⟩
      simp only [Int.toNat_natCast] at hR hn
      refine index_main h hb (by omega) fun i w' h2 h3 => ?_
      rw [idxF_at h3]
      exact hR w' h2
    · have e : indexP P v es n = (0, 1) := by rw [indexP, if_pos hb, if_neg hn]
      rw [e] at hR
      have hsz : sizeP P v es = (seenN P v.toNat es : Nat) := by unfold sizeP; rw [if_pos hb]
      have HB := Lib.hid hb
      have HR := Lib.hid hR
      have H := Lib.hid h
      by_cases h0 : n < 0
      · have HR0 := Lib.hid (hR _ h)
        clear h hR h1 ho hb e hn hsz
        go_enter Try.func19, Try.ntmps19
        go_wp2_with (first | (go_at_call 55; refine dead_any d0 ?_) | (go_at_call 56; refine label_any c3 (HB.out.symm.trans HL.out) ?_))
        exact HR0.out
      · obtain ⟨S, hS⟩ : ∃ S, seenN P v.toNat es = S := ⟨_, rfl⟩
        rw [hS] at hsz hn
        have b1 : (S : Int) ≤ n := by omega
        have b0 : 0 ≤ n := by omega
        have HSZ := Lib.hid hsz
        clear h hR h1 ho hb e hn hsz h0 hS
        go_enter Try.func19, Try.ntmps19
        go_wp2_with (first | (go_at_call 55; refine dead_any d0 ?_) | (go_at_call 56; refine label_any c3 (HB.out.symm.trans HL.out) ?_))
        refine size_any H.out fun w1 h2 => ?_
        rw [HSZ.out]
        have HX := Lib.hid (HR.out _ h2)
        clear h2
        go_wp2
        exact HX.out
set_option maxRecDepth 100000 in
set_option maxHeartbeats 1000000 in
theorem place_any {v n : Int} (h : St k w (Rope g P es c :: L)) (hn63 : -9223372036854775808 ≤ n ∧ n ≤ 9223372036854775807) (hR : ∀ w', St k w' (Rope g P es c :: L) → R (.returned (pairV (placeP P v es n))) w') : Calls Try.prog 21 #[.pointer (some ⟨g, 0, none⟩), .int .i64 v, .int .i64 n] w R := by
  obtain ⟨r, h1, ho⟩ := Rope.out h
  have c3 := rope_3 h1
  have d0 := rope_dead h1 ho
  have HL := Lib.hid (ho.label v)
  cases hb : P.has v
  · have e : placeP P v es n = (0, 10) := by rw [placeP, if_neg (by rw [hb]; simp)]
    rw [e] at hR
    have HB := Lib.hid hb
    have HR := Lib.hid (hR _ h)
    clear h hR h1 ho hb e hn63
    go_enter Try.func21, Try.ntmps21
    go_wp2_with (first | (go_at_call 55; refine dead_any d0 ?_) | (go_at_call 56; refine label_any c3 (HB.out.symm.trans HL.out) ?_))
    exact HR.out
  · have HB := Lib.hid hb
    by_cases h0 : n < 0
    · have e : placeP P v es n = (0, 1) := by rw [placeP, if_pos hb, if_pos h0]
      rw [e] at hR
      have HR := Lib.hid (hR _ h)
      clear h hR h1 ho hb e hn63
      go_enter Try.func21, Try.ntmps21
      go_wp2_with (first | (go_at_call 55; refine dead_any d0 ?_) | (go_at_call 56; refine label_any c3 (HB.out.symm.trans HL.out) ?_))
      exact HR.out
    · by_cases h1' : n = 0
      · have e : placeP P v es n = (0, 0) := by rw [placeP, if_pos hb, if_neg h0, if_pos h1']
        rw [e] at hR
        subst h1'
        have HR := Lib.hid (hR _ h)
        clear h hR h1 ho hb e h0 hn63
        go_enter Try.func21, Try.ntmps21
        go_wp2_with (first | (go_at_call 55; refine dead_any d0 ?_) | (go_at_call 56; refine label_any c3 (HB.out.symm.trans HL.out) ?_))
        exact HR.out
      · have hp : placeP P v es n = if (indexP P v es (n - 1)).2 = 0 then ((indexP P v es (n - 1)).1 + 1, 0) else (0, (indexP P v es (n - 1)).2) := by rw [placeP, if_pos hb, if_neg h0, if_neg h1']
        rw [hp] at hR
        have hib : 0 ≤ (indexP P v es (n - 1)).1 ∧ (indexP P v es (n - 1)).1 ≤ 10000000 := by
          have hel := ho.len
          have h3 := idxF_le (seeE P v.toNat) es (n - 1).toNat
          rw [indexP, if_pos hb]
          split
          · show (0 : Int) ≤ ((idxF (seeE P v.toNat) es (n - 1).toNat : Nat) : Int) ∧ ((idxF (seeE P v.toNat) es (n - 1).toNat : Nat) : Int) ≤ 10000000
            omega
          · show (0 : Int) ≤ 0 ∧ (0 : Int) ≤ 10000000
            omega
        obtain ⟨a, b, hab⟩ : ∃ a b, indexP P v es (n - 1) = (a, b) := ⟨_, _, rfl⟩
        rw [hab] at hR hib
        simp only at hR hib
        have b0 : 1 ≤ n := by omega
        have b2 : n ≤ 9223372036854775807 := hn63.2
        obtain ⟨b3, b4⟩ := hib
        have HAB := Lib.hid hab
        have H := Lib.hid h
        have HR := Lib.hid hR
        have b5 : ((n : Int) == 0) = false := by simp; omega
        clear h hR h1 ho hb hp h0 h1' hab hn63
        go_enter Try.func21, Try.ntmps21
        go_wp2_with (first | (go_at_call 55; refine dead_any d0 ?_) | (go_at_call 56; refine label_any c3 (HB.out.symm.trans HL.out) ?_))
        refine index_any H.out fun w1 h2 => ?_
        rw [HAB.out]
        have HX := Lib.hid (HR.out _ h2)
        clear h2
        by_cases hb0 : b = 0
        · subst hb0
          have HY := Lib.hid (show R (.returned (pairV (a + 1, 0))) w1 from by have := HX.out; rwa [if_pos rfl] at this)
          go_wp2
          exact HY.out
        · have HY := Lib.hid (show R (.returned (pairV (0, b))) w1 from by have := HX.out; rwa [if_neg hb0] at this)
          have b6 : ((b : Int) == 0) = false := by simp; omega
          have b7 : ((b : Int) != 0) = true := by simp; omega
          clear hb0
          go_wp2
          exact HY.out
end
end Go.Proofs.Ytdgaffcfcgmfnaa
