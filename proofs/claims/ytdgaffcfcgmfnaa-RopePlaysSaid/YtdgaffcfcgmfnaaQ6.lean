/- Text. -/
import Derived.Test.YtdgaffcfcgmfnaaQ5
import Derived.Test.YtdgaffcfcgmfnaaS8
import Derived.Laws.Cover4
namespace Go.Proofs.Ytdgaffcfcgmfnaa
open Go.RowKit Go.Sl Go.Shelf

attribute [local go_sem ↓ high] load107 store107 load105 store105 slice82
section
variable {k w : World} {L : List Asn} {g c : Nat} {P : Pol} {es : List El} {R : Ending → World → Prop}
theorem info21 : (Try.prog.info? 21).map (fun i => (i.zero, i.size, i.bytes)) = some (some (.int .i32 0), 1, 4) := by kernel_rfl
def runesC (l : List Int) : List Value := l.map (Value.int .i32)
theorem convert_runes {v : Value} {n : Nat} {rs : List Int} (h : Reads w 1 v n (runesC rs)) : (convert 53 9 v).run Try.prog w = .ok (.string (runesBytes rs)) w := by
  obtain ⟨A, c, rfl, h1, h2, h3, h4⟩ := h.at_
  have hl : rs.length = n := by simpa [runesC] using h.len
  cases A with
  | none =>
    obtain ⟨rfl, rfl⟩ := h3 rfl
    rw [List.eq_nil_of_length_eq_zero hl]
    exact run_convert_runes_nil w 53 9 21 0 0 Try.underlying53 Try.underlying21 Try.underlying9
  | some a =>
    have := run_convert_runes (P := Try.prog) w 53 9 21 a n c rs (by omega) Try.underlying53 Try.underlying21 Try.underlying9 (fun j hj => by
      obtain ⟨b, o, s⟩ := a
      obtain ⟨h5, h6⟩ := h4 _ rfl
      simp only at h5 h6
      obtain rfl := h5 (by omega)
      rw [addr_add]
      exact h6 j _ (by simp [runesC, List.getElem?_eq_getElem hj]))
    rwa [List.take_of_length_le (by omega)] at this
/-- What is told as text. -/
def textE (l : List El) : ByteArray := runesBytes (l.map (·.rune))
set_option maxRecDepth 100000 in
set_option maxHeartbeats 1000000 in
theorem text_any {v : Int} (h : St k w (Rope g P es c :: L)) (hlen : es.length ≤ 1048576) (hR : ∀ w', St k w' (Rope g P es c :: L) → R (.returned (.string (textE (seenE P v es)))) w') : Calls Try.prog 28 #[.pointer (some ⟨g, 0, none⟩), .int .i64 v] w R := by
  have hsl : (seenE P v es).length ≤ es.length := by
    unfold seenE
    split
    · exact List.length_filter_le _ _
    · simp
  obtain ⟨S, hS⟩ : ∃ S, seenE P v es = S := ⟨_, rfl⟩
  have H := Lib.hid h
  have HR := Lib.hid hR
  have HS := Lib.hid hS
  rw [hS] at hsl
  clear h hR hS
  go_enter Try.func28, Try.ntmps28
  go_wp2_with fail
  refine seenx_any H.out ?_
  rw [HS.out]
  intro u w1 hu h1
  obtain ⟨A, cc, rfl, -⟩ := h1.readsA.at_
  have hb : (S.length : Int) ≤ 1048576 := by omega
  have H1 := Lib.hid ((h1.nilA 21 1))
  clear h1 hu
  go_wp2_with fail
  go_loopw [5, 12] (fun s5 j wr => ∃ q : Nat, q ≤ S.length ∧ j = .int .i64 q ∧ (∃ A' c', s5 = .slice A' q c') ∧ Hid (St k wr (rowA 21 1 s5 q (runesC ((S.take q).map (·.rune))) :: rowA 39 3 (.slice A S.length cc) S.length (elsC S) :: Rope g P es c :: L))) (fun _ j _ => S.length - (intOf j).toNat)
  case atStart => exact ⟨0, by omega, rfl, ⟨_, _, rfl⟩, by simpa [runesC] using H1⟩
  case round =>
    obtain ⟨q, hq, rfl, ⟨A', c', rfl⟩, HW⟩ := hrel
    by_cases hlt : q < S.length
    · obtain ⟨b, o, rfl, hcell⟩ := reads_el (HW.out.swap.readsA) rfl (by omega)
      obtain ⟨e, he⟩ : ∃ e, S[q]? = some e := ⟨_, List.getElem?_eq_getElem hlt⟩
      have e0 := hcell q e 0 _ he rfl
      have e1 := hcell q e 1 _ he rfl
      have e2 := hcell q e 2 _ he rfl
      rw [Nat.add_zero] at e0
      have htk : (S.take (q + 1)).map (·.rune) = (S.take q).map (·.rune) ++ [e.rune] := by rw [List.take_add_one, he]; simp
      have HT := Lib.hid htk
      have hb2 : (q : Int) < (S.length : Int) := by omega
      have h2 := (HW.out.alloc (.cells #[.int .i64 e.id, .int .i32 e.rune, .int .i64 e.label] 39)).alloc (.cells #[.int .i32 e.rune] 21)
      rw [World.size_alloc] at h2
      have H2 := Lib.hid h2
      clear hcell he htk HW h2
      go_wp2_with ((at_builtin; refine wpList_append rfl _ _ rfl Try.underlying53 info21 rfl (by decide) (n := q) (cs := runesC ((S.take q).map (·.rune))) (H2.out.pull 2) (H2.out.readsP (sz := 1) (n := 1) (cap := 1) rfl (Nat.le_refl _) (by decide)) rfl rfl (fun u hu => by simp at hu; subst hu; rfl) (by unfold maxLen; omega) (by omega) ?_; intro v' w5 h6 h7; obtain ⟨A5, c5, rfl, -⟩ := h6.readsA.at_; have H6 := Lib.hid h6; clear h6 h7))
      go_roundw
      case rel =>
        have h7 := H6.out
        refine ⟨q + 1, by omega, by go_num, ⟨_, _, rfl⟩, Lib.hid ?_⟩
        rw [HT.out]
        have e5 : runesC ((S.take q).map (·.rune) ++ [e.rune]) = runesC ((S.take q).map (·.rune)) ++ [.int .i32 e.rune] := by simp [runesC]
        rw [e5]
        exact h7.swap.drop.swap.drop
      case measure => simp [intOf]; omega
    · obtain rfl : q = S.length := by omega
      have h2 := HW.out
      rw [List.take_length] at h2
      have hcv := convert_runes h2.readsA
      have h3 := HR.out _ h2.drop.drop
      rw [HS.out] at h3
      have HX := Lib.hid h3
      clear h2 h3 HW
      go_wp2
      exact HX.out
end
end Go.Proofs.Ytdgaffcfcgmfnaa
