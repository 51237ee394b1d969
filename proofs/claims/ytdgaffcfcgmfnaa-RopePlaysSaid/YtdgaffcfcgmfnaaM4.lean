/- Remove. -/
import Derived.Test.YtdgaffcfcgmfnaaM3
namespace Go.Proofs.Ytdgaffcfcgmfnaa
open Go.RowKit Go.Sl

attribute [local go_sem ↓ high] load107 store107 load105 store105 slice82
def badR (es : List El) (i n : Int) : Prop := i < 0 ∨ n < 0 ∨ (es.length : Int) < i ∨ (es.length : Int) - i < n
instance (es : List El) (i n : Int) : Decidable (badR es i n) := by unfold badR; infer_instance
/-- What is taken out, the error, what stays. -/
def removeP (es : List El) (i n : Int) : List El × Int × List El := if badR es i n then ([], 1, es) else ((es.drop i.toNat).take n.toNat, 0, es.take i.toNat ++ es.drop (i.toNat + n.toNat))
section
variable {k w : World} {L : List Asn} {F : List (Asg MN)} {g c : Nat} {P : Pol} {es : List El} {r : RM} {R : Ending → World → Prop}
set_option maxRecDepth 100000 in
set_option maxHeartbeats 1000000 in
theorem remove_bad {i n : Int} (h : St k w (Rope g P es c :: L)) (hi : -9223372036854775808 ≤ i ∧ i ≤ 9223372036854775807) (hn : -9223372036854775808 ≤ n ∧ n ≤ 9223372036854775807) (hbad : badR es i n)
    (hR : ∀ w', St k w' (Rope g P es c :: L) → R (.returned (.tuple #[.slice none 0 0, .int .i64 1])) w') : Calls Try.prog 32 #[.pointer (some ⟨g, 0, none⟩), .int .i64 i, .int .i64 n] w R := by
  obtain ⟨r, h1, ho⟩ := Rope.out h
  have d0 := rope_dead h1 ho
  have hel : (es.length : Int) ≤ 1048576 := by have := ho.len; omega
  obtain ⟨N, hN⟩ : ∃ N, es.length = N := ⟨_, rfl⟩
  unfold badR at hbad
  rw [hN] at hbad hel
  have HNN := Lib.hid hN
  have H := Lib.hid h
  have HR := Lib.hid hR
  obtain ⟨i1, i2⟩ := hi
  obtain ⟨n1, n2⟩ := hn
  by_cases h0 : i < 0
  · have HR0 := Lib.hid (hR _ h)
    clear h hR h1 ho hN hbad
    go_enter Try.func32, Try.ntmps32
    go_wp2_with (go_at_call 55; refine dead_any d0 ?_)
    exact HR0.out
  · have b0 : 0 ≤ i := by omega
    by_cases h0' : n < 0
    · have HR0 := Lib.hid (hR _ h)
      clear h hR h1 ho hN hbad h0
      go_enter Try.func32, Try.ntmps32
      go_wp2_with (go_at_call 55; refine dead_any d0 ?_)
      exact HR0.out
    · have b1 : 0 ≤ n := by omega
      by_cases hlt : (N : Int) < i
      · clear h hR h1 ho hN hbad h0 h0'
        go_enter Try.func32, Try.ntmps32
        go_wp2_with (go_at_call 55; refine dead_any d0 ?_)
        refine len_any H.out fun w1 h2 => ?_
        rw [HNN.out]
        have HX := Lib.hid (HR.out _ h2)
        clear h2
        go_wp2
        exact HX.out
      · have b2 : i ≤ (N : Int) := by omega
        have b3 : (N : Int) - i < n := by omega
        clear h hR h1 ho hN hbad h0 hlt h0'
        go_enter Try.func32, Try.ntmps32
        go_wp2_with (go_at_call 55; refine dead_any d0 ?_)
        refine len_any H.out fun w1 h2 => ?_
        rw [HNN.out]
        have H2 := Lib.hid h2
        clear h2
        go_wp2_with fail
        refine len_any H2.out fun w2 h3 => ?_
        rw [HNN.out]
        have HX := Lib.hid (HR.out _ h3)
        clear h3
        go_wp2
        exact HX.out
theorem Ok.cut {r' : RM} {es' : List El} (ho : Ok r P es c) (h1 : r'.labels = r.labels) (h2 : r'.sees = r.sees) (har : ∃ h, h ≤ c ∧ Ar r'.ms r'.free [Tree h r'.root es']) (hf : r'.ms.length = r.ms.length) (hfit : Fit P es') (hl : es'.length ≤ 1048576) : Ok r' P es' c :=
  ⟨har, by rw [hf]; exact ho.few, hfit, h1.trans ho.labels, ho.l32, h2.trans ho.sees, ho.slen, hl⟩
theorem Fit.sub {es' : List El} (h : Fit P es) (hs : ∀ x ∈ es', x ∈ es) : Fit P es' := ⟨fun e he => h.lab e (hs e he), fun e he => h.rune e (hs e he)⟩
end
end Go.Proofs.Ytdgaffcfcgmfnaa
