/- Insert: the walk. -/
import Derived.Test.YtdgaffcfcgmfnaaS6
namespace Go.Proofs.Ytdgaffcfcgmfnaa
open Go.RowKit Go.Sl

attribute [local go_sem ↓ high] load107 store107 load105 store105 slice82
section
variable {k w : World} {L : List Asn} {F : List (Asg MN)} {g c : Nat} {P : Pol} {es l : List El} {r : RM} {R : Ending → World → Prop} {X : Asn}
set_option maxRecDepth 100000 in
set_option maxHeartbeats 1000000 in
theorem insert_bad {i : Int} {A : Option Addr} {n cp : Nat} (h : St k w (Rope g P es c :: L)) (hi : -9223372036854775808 ≤ i ∧ i ≤ 9223372036854775807) (hn : n = l.length) (hnm : n ≤ maxLen)
    (hbad : i < 0 ∨ (es.length : Int) < i ∨ 1048576 - (es.length : Int) < (l.length : Int)) (hR : ∀ w', St k w' (Rope g P es c :: L) → R (.returned (.int .i64 1)) w') :
    Calls Try.prog 33 #[.pointer (some ⟨g, 0, none⟩), .int .i64 i, .slice A n cp] w R := by
  obtain ⟨r, h1, ho⟩ := Rope.out h
  have d0 := rope_dead h1 ho
  have hel : (es.length : Int) ≤ 1048576 := by have := ho.len; omega
  have hnm2 : (n : Int) ≤ 9223372036854775807 := by have : maxLen = 9223372036854775807 := rfl
                                                    omega
  subst hn
  obtain ⟨N, hN⟩ : ∃ N, es.length = N := ⟨_, rfl⟩
  obtain ⟨n, hn⟩ : ∃ n, l.length = n := ⟨_, rfl⟩
  rw [hN, hn] at hbad
  rw [hN] at hel
  rw [hn] at hnm2
  have HNN := Lib.hid hN
  have H := Lib.hid h
  have HR := Lib.hid hR
  have b2 : i ≤ 9223372036854775807 := hi.2
  rw [hn]
  by_cases h0 : i < 0
  · have HR0 := Lib.hid (hR _ h)
    clear h hR h1 ho hN hn hnm hbad hi
    go_enter Try.func33, Try.ntmps33
    go_wp2_with (go_at_call 55; refine dead_any d0 ?_)
    exact HR0.out
  · by_cases hlt : (N : Int) < i
    · have b0 : 0 ≤ i := by omega
      clear h hR h1 ho hN hn hnm hbad hi h0
      go_enter Try.func33, Try.ntmps33
      go_wp2_with (go_at_call 55; refine dead_any d0 ?_)
      refine len_any H.out fun w1 h2 => ?_
      rw [HNN.out]
      have HX := Lib.hid (HR.out _ h2)
      clear h2
      go_wp2
      exact HX.out
    · have b0 : 0 ≤ i := by omega
      have b1 : i ≤ (N : Int) := by omega
      have b3 : 1048576 - (N : Int) < (n : Int) := by omega
      clear h hR h1 ho hN hn hnm hbad hi h0 hlt
      go_enter Try.func33, Try.ntmps33
      go_wp2_with (go_at_call 55; refine dead_any d0 ?_)
      refine len_any H.out fun w1 h2 => ?_
      rw [HNN.out]
      have H2 := Lib.hid h2
      clear h2
      go_wp2_with fail
      refine len_any H2.out fun w2 h3 => ?_
      rw [HNN.out]
      have HX := Lib.hid (HR.out _ h3)
      clear h3
      go_wp2
      exact HX.out
end
end Go.Proofs.Ytdgaffcfcgmfnaa
