/- sealskinlaw04.RopePlays returns true of all that it is given, and leaves it as it was. -/
import Derived.Test.YtdgaffcfcgmfnaaP7
import Derived.Test.YtdgaffcfcgmfnaaZq
namespace Go.Proofs.Ytdgaffcfcgmfnaa.RopePlays
open Go.ChangeShapes Go.WideShapes Go.ChangeAt Go.RowKit Go.Sl

set_option maxRecDepth 100000 in
theorem lifted (os : Os) (started : os.Started) (H : Type) (enc : TypeId × Value → H) :
    ReturnsInHanded {} Try.checked os 7 .any (Rows.ropePlaysSpec.pre6 enc Try.prog Try.f7 Rows.ropePlaysRow.domain false) (Rows.ropePlaysSpec.post enc Try.prog Try.f7 false true false false) := by
  refine returnsInHanded_of_change_shaped (C := Try.checked) own started (by kernel_rfl) Try.func7
    (ChangeSpec.witness6 (enc := enc) (C := Try.checked) false ⟨#[], #[.agg #[.slice none 0 0, .slice none 0 0, .slice none 0 0], .slice none 0 0], []⟩ 8 (by kernel_rfl) (by kernel_rfl) (by kernel_rfl) (by kernel_rfl)) ?_
  intro W base args ds gs before hval0 hW _ hsized _ _
  have hval : ∀ (j : Nat) t v, Try.f7.params[j]? = some t → args[j]? = some v → Value.okWide Try.prog W .any base t v := hval0
  have hW' := hW
  obtain ⟨p, q, hA0, hV, rfl, _, _⟩ := hW
  have hA : DataW.TrodAll enc Try.prog W 0 (fun _ => true) true Try.f7.params.toList args.toList ds p := hA0
  rw [Try.params7] at hA hval hsized
  obtain ⟨v0, v1, d0, d1, p0, p1, rfl, rfl, rfl, h0, h1⟩ := trodAll_two hA
  obtain ⟨rfl, rfl⟩ := trodVars_none hV
  have lt0 : ∀ x ∈ p0, x.block < W.heap.size := by obtain ⟨m, hm⟩ := h0; exact DataW.trod_lt m _ _ _ hm
  have lt1 : ∀ x ∈ p1, x.block < W.heap.size := by obtain ⟨m, hm⟩ := h1; exact DataW.trod_lt m _ _ _ hm
  obtain ⟨a0, A00, A01, A02, c00, c01, c02, rfl, k0, g0⟩ := open_pol (hval 0 26 v0 rfl rfl) h0
  obtain ⟨a1, A1, c1, rfl, k1, g1, s1⟩ := open_dos (hval 1 27 v1 rfl rfl) h1
  have z1 : a1.length * 64 ≤ 140737488351232 := by
    rcases s1 with rfl | ⟨el, sp, rfl, hl⟩
    · simp
    · have := sized_slice hsized (j := 1) rfl rfl Try.underlying27
      change _ * Try.prog.bytesOf 48 ≤ _ at this
      rw [bytes48] at this
      unfold reachBytes at this
      omega
  clear hA0 hval0
  simp only [List.append_nil] at hW'
  have hst : St W W ([polS a0 A00 A01 A02 c00 c01 c02, dosS A1 c1 a1] ++ [old W]) := St.start_with (by
    intro A hA
    simp only [List.mem_cons, List.not_mem_nil, or_false] at hA
    rcases hA with rfl | rfl
    · exact k0
    · exact k1)
  refine (plays_walk (R := fun e W' => e = .returned (.bool true) ∧ Below W.heap.size W W') hst g0 g1 (fun w' hw => ⟨rfl, hw.below⟩)).mono fun e W' ⟨he, hb⟩ => ?_
  subst he
  exact ⟨_, rfl, _, _, _, [], _, [], hW', trodAll_mk1 (shut_bool Try.underlying4 _), trodAll_mk2 (Below.trod laidOut (by kernel_rfl) (of_decide_eq_true (by kernel_rfl)) h0 hb lt0) (Below.trod laidOut (by kernel_rfl) (of_decide_eq_true (by kernel_rfl)) h1 hb lt1), rfl, hb.frame _, fun h => by cases h⟩

theorem holds : Rows.RopePlaysSaid :=
  OpenClaim.holds_of_wide 7 Try.f7 rfl rfl rfl rfl rfl rfl rfl ⟨rfl, rfl, rfl, rfl, rfl⟩ rfl rfl rfl rfl rfl (by kernel_rfl) Try.func7 (by kernel_rfl)
    (of_decide_eq_true (by kernel_rfl)) (by unfold Func.isWrapper; first | (rw [if_pos (by decide +kernel)]; kernel_rfl) | (rw [if_neg (by decide +kernel)]; exact ⟨rfl, rfl⟩))
    (fun os started H enc _ => lifted os started H enc)
end Go.Proofs.Ytdgaffcfcgmfnaa.RopePlays
namespace Go.Proofs.Ytdgaffcfcgmfnaa
theorem ropePlays_holds : Rows.RopePlaysSaid := RopePlays.holds
#print axioms ropePlays_holds
end Go.Proofs.Ytdgaffcfcgmfnaa
