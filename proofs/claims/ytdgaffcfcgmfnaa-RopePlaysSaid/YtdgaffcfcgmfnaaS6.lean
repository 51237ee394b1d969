/- Insert. -/
import Derived.Test.YtdgaffcfcgmfnaaS5
namespace Go.Proofs.Ytdgaffcfcgmfnaa
open Go.RowKit Go.Sl

attribute [local go_sem ↓ high] load107 store107 load105 store105 slice82
/-- utf8.ValidRune. -/
theorem valid_any {w : World} {R : Ending → World → Prop} {x : Int} (hR : R (.returned (.bool (runeOk x))) w) : Calls Try.prog 67 #[.int .i32 x] w R := by
  by_cases h1 : 0 ≤ x
  · by_cases h2 : x < 55296
    · have e : runeOk x = true := by simp [runeOk]; omega
      rw [e] at hR
      have HR := Lib.hid hR
      clear hR e
      go_enter Try.func67, Try.ntmps67
      go_wp2
      exact HR.out
    · have h3 : 55296 ≤ x := by omega
      by_cases h4 : 57343 < x
      · by_cases h5 : x ≤ 1114111
        · have e : runeOk x = true := by simp [runeOk]; omega
          rw [e] at hR
          have HR := Lib.hid hR
          clear hR e
          go_enter Try.func67, Try.ntmps67
          go_wp2
          exact HR.out
        · have e : runeOk x = false := by simp [runeOk]; omega
          rw [e] at hR
          have HR := Lib.hid hR
          clear hR e
          go_enter Try.func67, Try.ntmps67
          go_wp2
          exact HR.out
      · have e : runeOk x = false := by simp [runeOk]; omega
        rw [e] at hR
        have HR := Lib.hid hR
        clear hR e
        go_enter Try.func67, Try.ntmps67
        go_wp2
        exact HR.out
  · have e : runeOk x = false := by simp [runeOk]; omega
    rw [e] at hR
    have HR := Lib.hid hR
    clear hR e
    go_enter Try.func67, Try.ntmps67
    go_wp2
    exact HR.out
/-- The error of the first one that may not be put. -/
def badE (P : Pol) : List El → Int
  | [] => 0
  | e :: l => if P.has e.label = true then (if runeOk e.rune = true then badE P l else 21) else 10
def insertP (P : Pol) (es : List El) (i : Int) (l : List El) : Int × List El :=
  if i < 0 ∨ (es.length : Int) < i ∨ 1048576 - (es.length : Int) < (l.length : Int) then (1, es) else if badE P l = 0 then (0, es.take i.toNat ++ l ++ es.drop i.toNat) else (badE P l, es)
theorem badE_app (P : Pol) : ∀ a b : List El, badE P a = 0 → badE P (a ++ b) = badE P b
  | [], _, _ => rfl
  | e :: a, b, h => by
    simp only [badE, List.cons_append] at h ⊢
    by_cases h1 : P.has e.label = true
    · rw [if_pos h1] at h ⊢
      by_cases h2 : runeOk e.rune = true
      · rw [if_pos h2] at h ⊢
        exact badE_app P a b h
      · rw [if_neg h2] at h; exact absurd h (by decide)
    · rw [if_neg h1] at h; exact absurd h (by decide)
theorem badE_all (P : Pol) : ∀ {l : List El}, badE P l = 0 → ∀ e ∈ l, P.has e.label = true ∧ runeOk e.rune = true
  | [], _, e, he => by cases he
  | e :: a, h, x, hx => by
    simp only [badE] at h
    by_cases h1 : P.has e.label = true
    · rw [if_pos h1] at h
      by_cases h2 : runeOk e.rune = true
      · rw [if_pos h2] at h
        rcases List.mem_cons.1 hx with rfl | hx
        · exact ⟨h1, h2⟩
        · exact badE_all P h x hx
      · rw [if_neg h2] at h; exact absurd h (by decide)
    · rw [if_neg h1] at h; exact absurd h (by decide)
/-- A row that may be read wherever it lies. -/
def RowLike (sz : Nat) (v : Value) (n : Nat) (cs : List Value) (X : Asn) : Prop := ∀ (k w : World) (L : List Asn), St k w (X :: L) → Reads w sz v n cs
theorem rowLike_S (sz : Nat) (v : Value) (n : Nat) (cs : List Value) : RowLike sz v n cs (rowS sz v n cs) := fun _ _ _ h => h.readsS
theorem rowLike_A (e sz : Nat) (v : Value) (n : Nat) (cs : List Value) : RowLike sz v n cs (rowA e sz v n cs) := fun _ _ _ h => h.readsA
/-- The code points of a row. -/
theorem reads_el {w : World} {v : Value} {es : List El} {A : Option Addr} {n c : Nat} (h : Reads w 3 v es.length (elsC es)) (hv : v = .slice A n c) (hp : 0 < es.length) :
    ∃ b o, A = some ⟨b, o, none⟩ ∧ ∀ q e t u, es[q]? = some e → (elC e)[t]? = some u → w.cell? ⟨b, o + q * 3 + t, none⟩ = some u := by
  obtain ⟨A', c', hv', -, -, hA, hc⟩ := h.at_
  rw [hv] at hv'
  injection hv' with e1 e2 e3
  subst e1 e3
  cases A with
  | none => have := (hA rfl).1; omega
  | some a =>
    obtain ⟨b, o, sp⟩ := a
    obtain ⟨hsp, hc⟩ := hc _ rfl
    obtain rfl := hsp (by omega)
    refine ⟨b, o, rfl, fun q e t u he hu => ?_⟩
    have ht : t < 3 := (List.getElem?_eq_some_iff.1 hu).1
    have := hc (q * 3 + t) u (by unfold elsC; rw [flat_get elC_len _ _ _ ht, he]; exact hu)
    rwa [← Nat.add_assoc] at this
section
variable {k w : World} {L : List Asn} {F : List (Asg MN)} {g c : Nat} {P : Pol} {es l : List El} {r : RM} {R : Ending → World → Prop}
/-- The root is turned. -/
theorem rope_root (j : Nat) (h : St k w (ropeA g r :: L)) : St k (w.setCell ⟨g, 2, none⟩ (.int .i64 (j : Nat))) (ropeA g { r with root := j } :: L) := by
  have h1 := (rope_open h).set 2 (.int .i64 (j : Nat))
  exact rope_shut (r := { r with root := j }) h1
theorem Fit.app {a b : List El} : Fit P (a ++ b) ↔ Fit P a ∧ Fit P b := by
  constructor
  · intro h
    exact ⟨⟨fun e he => h.lab e (by simp [he]), fun e he => h.rune e (by simp [he])⟩, ⟨fun e he => h.lab e (by simp [he]), fun e he => h.rune e (by simp [he])⟩⟩
  · rintro ⟨h1, h2⟩
    refine ⟨fun e he => ?_, fun e he => ?_⟩
    · rcases List.mem_append.1 he with h | h
      · exact h1.lab e h
      · exact h2.lab e h
    · rcases List.mem_append.1 he with h | h
      · exact h1.rune e h
      · exact h2.rune e h
theorem fit_of (h : badE P l = 0) : Fit P l := ⟨fun e he => Pol.has_iff.1 (badE_all P h e he).1, fun e he => (badE_all P h e he).2⟩
theorem Fit.take (h : Fit P es) (i : Nat) : Fit P (es.take i) := ⟨fun e he => h.lab e (List.mem_of_mem_take he), fun e he => h.rune e (List.mem_of_mem_take he)⟩
theorem Fit.drop (h : Fit P es) (i : Nat) : Fit P (es.drop i) := ⟨fun e he => h.lab e (List.mem_of_mem_drop he), fun e he => h.rune e (List.mem_of_mem_drop he)⟩
theorem ins_mid (a t b : List El) (e : El) (i : Nat) (h : i = a.length + t.length) : insAt (a ++ t ++ b) i e = a ++ (t ++ [e]) ++ b := by
  subst h
  unfold insAt
  rw [← List.length_append, List.take_left' rfl, List.drop_left' rfl]
  simp
end
end Go.Proofs.Ytdgaffcfcgmfnaa
