/- RopeCounts: plain. -/
import Derived.Test.YtdgaffcfcgmfnaaZp
import Derived.Test.YtdgaffcfcgmfnaaU1
namespace Go.Proofs.Ytdgaffcfcgmfnaa
open Go.RowKit Go.Sl

/-- How many stand below a label. -/
def cntLt (es : List El) (q : Nat) : Nat := (es.filter fun e => decide (e.label < (q : Int))).length
theorem cntLt_le (es : List El) (q : Nat) : cntLt es q ≤ es.length := List.length_filter_le _ _
theorem cntLt_zero {P : Pol} {es : List El} (h : Fit P es) : cntLt es 0 = 0 := by
  unfold cntLt
  rw [List.length_eq_zero_iff, List.filter_eq_nil_iff]
  intro e he
  have := h.lab e he
  simp; omega
theorem cntLt_snoc : ∀ (es : List El) (q : Nat), ((cntLt es (q + 1) : Nat) : Int) = (cntLt es q : Nat) + cnt es q
  | [], q => rfl
  | e :: es, q => by
    have ih := cntLt_snoc es q
    have e1 : ∀ n : Nat, cntLt (e :: es) n = (if e.label < (n : Int) then 1 else 0) + cntLt es n := fun n => by
      unfold cntLt
      rw [List.filter_cons]
      by_cases h : e.label < (n : Int)
      · rw [if_pos h, if_pos (decide_eq_true h), List.length_cons]; omega
      · rw [if_neg h, if_neg (by simpa using h)]; omega
    rw [e1, e1, cnt_cons]
    by_cases h1 : e.label < (q : Int)
    · rw [if_pos (show e.label < ((q + 1 : Nat) : Int) by omega), if_pos h1, if_neg (by omega)]; omega
    · by_cases h2 : e.label = (q : Int)
      · rw [if_pos (show e.label < ((q + 1 : Nat) : Int) by omega), if_neg h1, if_pos h2]; omega
      · rw [if_neg (show ¬ e.label < ((q + 1 : Nat) : Int) by omega), if_neg h1, if_neg h2]; omega
theorem cntLt_all {P : Pol} {es : List El} (h : Fit P es) : cntLt es P.labels = es.length := by
  unfold cntLt
  rw [List.filter_eq_self.2]
  intro e he
  have := h.lab e he
  simp; omega
/-- The counts of labels. -/
def sumC (es : List El) (S : List Nat) : Int := (S.map fun u => cnt es u).sum
theorem sumC_snoc (es : List El) (S : List Nat) (q x : Nat) (h : S[q]? = some x) : sumC es (S.take (q + 1)) = sumC es (S.take q) + cnt es x := by
  unfold sumC
  rw [List.take_add_one, h]
  simp [List.sum_append]
theorem sumC_bounds (es : List El) : ∀ S : List Nat, 0 ≤ sumC es S ∧ sumC es S ≤ S.length * es.length
  | [] => by simp [sumC]
  | u :: S => by
    have h1 := cnt_le es u
    have h2 := sumC_bounds es S
    have e : sumC es (u :: S) = cnt es u + sumC es S := by simp [sumC]
    have e2 : (((u :: S).length : Nat) : Int) * es.length = (S.length : Int) * es.length + es.length := by
      rw [List.length_cons, Int.natCast_add, Int.add_mul]; simp
    rw [e, e2]
    omega
theorem sumC_nil (S : List Nat) : sumC [] S = 0 := by
  induction S with
  | nil => rfl
  | cons u S ih => unfold sumC at *; rw [List.map_cons, List.sum_cons, ih]; rfl
theorem sumC_cons (e : El) (es : List El) : ∀ {S : List Nat}, S.Nodup → sumC (e :: es) S = (if 0 ≤ e.label ∧ e.label.toNat ∈ S then 1 else 0) + sumC es S
  | [], _ => by simp [sumC]
  | u :: S, h => by
    have hn := List.nodup_cons.1 h
    have ih := sumC_cons e es hn.2
    have e1 : ∀ es, sumC es (u :: S) = cnt es u + sumC es S := fun es => by simp [sumC]
    rw [e1, e1, ih, cnt_cons]
    by_cases h1 : e.label = (u : Int)
    · have h2 : e.label.toNat = u := by omega
      have h3 : ¬ (0 ≤ e.label ∧ e.label.toNat ∈ S) := fun h => hn.1 (h2 ▸ h.2)
      rw [if_pos h1, if_neg h3, if_pos ⟨by omega, by rw [h2]; simp⟩]; omega
    · rw [if_neg h1]
      by_cases h4 : 0 ≤ e.label ∧ e.label.toNat ∈ S
      · rw [if_pos h4, if_pos ⟨h4.1, by simp [h4.2]⟩]; omega
      · rw [if_neg h4, if_neg (fun h => h4 ⟨h.1, by
          rcases List.mem_cons.1 h.2 with h5 | h5
          · exact absurd (by omega) h1
          · exact h5⟩)]; omega
theorem seenW_nodup (p : PV) (v : Int) (N : Nat) : (seenW p v N).Nodup := List.nodup_range.sublist List.filter_sublist
/-- A size is the counts of what is seen. -/
theorem sumC_seen {p : PV} {v : Nat} (hv : v < 32) (hN : p.labels.length ≤ 32) : ∀ {es : List El}, Fit (polOf p) es → sumC es (seenW p (v : Nat) p.labels.length) = (seenN (polOf p) v es : Nat)
  | [], _ => by rw [sumC_nil]; rfl
  | e :: es, h => by
    have hl := h.lab e (by simp)
    have hl2 : e.label < (p.labels.length : Int) := hl.2
    rw [sumC_cons e es (seenW_nodup _ _ _), sumC_seen hv hN (es := es) ⟨fun x hx => h.lab x (by simp [hx]), fun x hx => h.rune x (by simp [hx])⟩, seenN_cons]
    obtain ⟨l, hl3⟩ : ∃ l : Nat, e.label = l := ⟨e.label.toNat, by omega⟩
    have hs := polOf_see p (v := v) (u := l) hv (by omega)
    rw [hl3, Int.toNat_natCast, hs]
    have hm := seenW_mem p (v : Nat) p.labels.length l
    by_cases h5 : seesB p (v : Nat) (l : Nat) = true
    · rw [if_pos ⟨by omega, hm.2 ⟨by omega, h5⟩⟩, if_pos h5]; omega
    · rw [if_neg (fun h => h5 (hm.1 h.2).2), if_neg h5]; omega
theorem Fit.seen {P : Pol} {v : Int} {es : List El} (h : Fit P es) : ∀ e ∈ seenE P v es, validRune e.rune = true := by
  intro e he
  unfold seenE at he
  split at he
  · exact h.rune e (List.mem_filter.1 he).1
  · cases he
theorem seenE_len {P : Pol} {v : Nat} {es : List El} (hv : v < P.labels) : (seenE P (v : Nat) es).length = seenN P v es := by
  unfold seenE
  rw [if_pos (Pol.has_iff.2 ⟨by omega, by omega⟩)]
  rfl
/-- A text's code points, one by one. -/
theorem convert_back {k w : World} {L : List Asn} (h : St k w L) {S : List El} (hS : ∀ e ∈ S, validRune e.rune = true) (hl : S.length ≤ 1048576) :
    ∃ A c w', (convert 9 53 (.string (textE S))).run Try.prog w = .ok (.slice A S.length c) w' ∧ St k w' L := by
  have hb := runes_back (S.map (·.rune)) (fun r hr => by
    obtain ⟨e, he, rfl⟩ := List.mem_map.1 hr
    exact hS e he)
  rw [List.length_map] at hb
  have hr := run_runes_of_string (P := Try.prog) w 9 53 21 (textE S) Try.underlying9 Try.underlying53 Try.underlying21 (by
    show (Conv.runesFrom (runesBytes (S.map (·.rune))) (runesBytes (S.map (·.rune))).size 0 #[]).size ≤ _
    rw [hb]; omega)
  have e : (Conv.runesFrom (textE S) (textE S).size 0 #[]).size = S.length := hb
  rw [e] at hr
  exact ⟨_, _, _, hr, (h.drew.alloc _).drop⟩
end Go.Proofs.Ytdgaffcfcgmfnaa
