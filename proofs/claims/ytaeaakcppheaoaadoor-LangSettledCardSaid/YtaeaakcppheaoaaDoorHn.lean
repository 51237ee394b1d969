/- What the reader's method line does. -/
import Derived.Test.YtaeaakcppheaoaaDoorHm
namespace Go.Proofs.YtaeaakcppheaoaaDoor
open Go.RowKit Go.Proofs.YtaeaakcppheaoaaDoorW.PrintWords Go.Maps

/-- A line. -/
def lineP (s : St) (l : List ByteArray) : Option St :=
  if l.getD 0 (ofL []) = ofL [108, 97, 98, 101, 108] then labelP s l
  else if l.getD 0 (ofL []) = ofL [113, 117, 111, 116, 97] then quotaP s l
  else if l.getD 0 (ofL []) = ofL [99, 108, 105, 101, 110, 116] then clientP s l
  else none
theorem lineP_fits {s s' : St} {l : List ByteArray} (h : lineP s l = some s') (hf : s.Fits) : s'.Fits := by
  obtain ⟨fl, fq, ft, fn, fe⟩ := hf
  unfold lineP at h
  split at h
  · unfold labelP at h
    split at h
    · rename_i hc
      obtain ⟨x, hx, h⟩ := Option.bind_eq_some_iff.1 h
      unfold labelQ at h
      split at h
      · rename_i hq
        injection h with h
        subst h
        constructor <;> simp <;> omega
      · cases h
    · cases h
  · split at h
    · unfold quotaP at h
      split at h
      · injection h with h
        subst h
        constructor <;> simp <;> omega
      · cases h
    · split at h
      · unfold clientP at h
        split at h
        · rename_i hc
          injection h with h
          subst h
          constructor <;> simp <;> omega
        · cases h
      · cases h

set_option maxRecDepth 100000 in
set_option maxHeartbeats 4000000 in
theorem line_any (base g m N : Nat) (s : St) (A : Option Addr) (c : Nat) (l : List ByteArray) (m0 : Int) (w : World) (hR : Rdr w base g m N s) (hf : s.Fits) (hN : N ≤ w.heap.size) (hbase : base ≤ N)
    (hr : Kd.C Kd.string w A l.length l) (hA : ∀ b o, A = some ⟨b, o, none⟩ → N ≤ b) (hsz : ∀ x ∈ l, x.size ≤ 32768) (hm : w.cell? ⟨0, 0, none⟩ = some (.int .i64 m0)) (hl : 0 < l.length) :
    Calls Tryd.prog 25 #[.pointer (some ⟨g, 0, none⟩), .slice A l.length c] w (LinePost base g m w s (lineP s l)) := by
  have P1 := Aside0.mk (label_any base g m N s A c l m0 w hR hf hN hbase hr hA hsz hm)
  have P2 := Aside0.mk (quota_line base g m N s A c l w hR hf hN hbase hr)
  have P3 := Aside0.mk (client_line base g m N s A c l w hR hf hN hbase hr hsz)
  have HR := Aside0.mk hR
  obtain ⟨b, o, hA0, hc0⟩ := str_at hr 0 hl
  rw [← rd_getElem l (ofL []) 0 hl] at hc0
  obtain ⟨x0, hx0⟩ : ∃ x, x = l.getD 0 (ofL []) := ⟨_, rfl⟩
  rw [← hx0, Nat.add_zero] at hc0
  have HD := Aside0.mk (show lineP s l = if x0 = ofL [108, 97, 98, 101, 108] then labelP s l else if x0 = ofL [113, 117, 111, 116, 97] then quotaP s l else if x0 = ofL [99, 108, 105, 101, 110, 116] then clientP s l else none by
    rw [hx0]; rfl)
  have hbN : base ≤ w.heap.size := by omega
  clear hR hf hr hA hsz hm hx0 hN hbase
  obtain ⟨n, hn⟩ : ∃ n, n = l.length := ⟨_, rfl⟩
  rw [← hn] at P1 P2 P3 hl ⊢
  clear hn
  subst hA0
  have hl' : (0 : Int) < (n : Int) := by omega
  cases h1 : (x0.toList == [108, 97, 98, 101, 108]) with
  | true =>
    have Hq := Aside0.mk (show lineP s l = labelP s l by rw [HD.out, if_pos (by rw [str_eq] at h1; exact of_decide_eq_true h1)])
    go_enter Tryd.func25, Tryd.ntmps25
    go_wp2_with fail
    refine (P1.out).mono ?_
    rintro e w2 ⟨rfl, q1, q2⟩
    go_wp2
    go_ret
    exact ⟨by rw [Hq.out]; rfl, by rw [Hq.out]; exact q1, q2⟩
  | false =>
    cases h2 : (x0.toList == [113, 117, 111, 116, 97]) with
    | true =>
      have Hq := Aside0.mk (show lineP s l = quotaP s l by rw [HD.out, if_neg (by rw [str_eq] at h1; exact of_decide_eq_false h1), if_pos (by rw [str_eq] at h2; exact of_decide_eq_true h2)])
      go_enter Tryd.func25, Tryd.ntmps25
      go_wp2_with fail
      refine (P2.out).mono ?_
      rintro e w2 ⟨rfl, q1, q2⟩
      go_wp2
      go_ret
      exact ⟨by rw [Hq.out]; rfl, by rw [Hq.out]; exact q1, q2⟩
    | false =>
      cases h3 : (x0.toList == [99, 108, 105, 101, 110, 116]) with
      | true =>
        have Hq := Aside0.mk (show lineP s l = clientP s l by rw [HD.out, if_neg (by rw [str_eq] at h1; exact of_decide_eq_false h1), if_neg (by rw [str_eq] at h2; exact of_decide_eq_false h2), if_pos (by rw [str_eq] at h3; exact of_decide_eq_true h3)])
        go_enter Tryd.func25, Tryd.ntmps25
        go_wp2_with fail
        refine (P3.out).mono ?_
        rintro e w2 ⟨rfl, q1, q2⟩
        go_wp2
        go_ret
        exact ⟨by rw [Hq.out]; rfl, by rw [Hq.out]; exact q1, q2⟩
      | false =>
        have Hq := Aside0.mk (show lineP s l = none by rw [HD.out, if_neg (by rw [str_eq] at h1; exact of_decide_eq_false h1), if_neg (by rw [str_eq] at h2; exact of_decide_eq_false h2), if_neg (by rw [str_eq] at h3; exact of_decide_eq_false h3)])
        go_enter Tryd.func25, Tryd.ntmps25
        go_wp2
        go_ret
        exact line_fails Hq.out HR.out (Below.refl _ _) (by omega)
end Go.Proofs.YtaeaakcppheaoaaDoor
