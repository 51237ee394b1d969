/- walk; every: all code points, one by one. -/
import Derived.Test.YtdgaffcfcgmfnaaQ2
import Derived.Test.YtdgaffcfcgmfnaaS5
namespace Go.Proofs.Ytdgaffcfcgmfnaa
open Go.RowKit Go.Sl Go.Shelf

attribute [local go_sem] Oper.semAt_some
attribute [local go_sem ↓ high] load107 store107 load105 store105 slice82
section
variable {k w : World} {L : List Asn} {g : Nat} {r : RM} {F : List (Asg MN)}
theorem walk_all {l : Nat} {J : List El → Asn} : ∀ h {j n : Nat} {w : World} {L : List Asn} {F : List (Asg MN)} {es pre : List El} (_ : Ar r.ms r.free (Tree h j es :: F)) (_ : es.length ≤ 10000000000)
    (_ : ∀ a x b, es = a ++ x :: b → Round Try.prog k l #[elV x] (Asg.list [ropeA g r, J (pre ++ a)]) (Asg.list [ropeA g r, J (pre ++ (a ++ [x]))]))
    (_ : St k w (ropeA g r :: J pre :: L)),
    CallsIn Fence.wide n Try.prog 79 #[.pointer (some ⟨g, 0, none⟩), .int .i64 (j : Nat), .func (.yield l) #[] #[]] w fun e W' => e = .returned (.bool true) ∧ St k W' (ropeA g r :: J (pre ++ es) :: L)
  | 0, j, n, w, L, F, es, pre, ha, hlen, hY, hs => by
    obtain ⟨m, h1, h2, h3, h4⟩ := tree_leaf ha
    subst h3
    have := walk_node (ps := []) (n := n) h1.at_ (by rw [h2]; rfl) (by simp) hlen hY (fun a q b e => by simp at e) hs
    simpa [partsE] using this
  | h + 1, j, n, w, L, F, es, pre, ha, hlen, hY, hs => by
    obtain ⟨m, ps, h1, h2, h3, h4, rfl, h6⟩ := tree_knot ha
    have hps : ps.length ≤ 8 := by have := h6.few; rw [h4] at this; simpa [partsK] using this
    have := walk_node (ps := ps) (n := n) (J := J) (pre := pre) (l := l) h1.at_ h4 hps (by rw [h2]; simp) (fun a x b e => by rw [h2] at e; simp at e) (fun a q b e n W L hW => by
      subst e
      have h5 := trees_open (h1.swap)
      rw [h2] at hW ⊢
      simp only [List.nil_append] at hW ⊢
      have e2 : partsE (a ++ q :: b) = partsE a ++ (q.2 ++ partsE b) := by rw [partsE_app, partsE_cons]
      have := walk_all h (n := n) (pre := pre ++ partsE a) h5 (by rw [e2] at hlen; simp at hlen; omega) (fun a' x b' e' => by
        have := hY (partsE a ++ a') x (b' ++ partsE b) (by rw [e2, e']; simp)
        simpa [List.append_assoc] using this) hW
      simpa [List.append_assoc] using this) hs
    rw [h2] at this
    simpa using this
/-- All of es, one by one. -/
theorem every_gives {c : Nat} {P : Pol} {es : List El} (ho : Ok r P es c) : Gives Try.prog k 64 (fun y => #[.pointer (some ⟨g, 0, none⟩)] ++ #[y]) (ropeA g r) (fun x => #[elV x]) es := by
  intro J l m W L hY hs
  obtain ⟨hh, -, ha⟩ := ho.ar
  have hw := walk_all (l := l) (J := J) (n := m - 1) hh ha (by have := ho.len; omega) (fun a x b e => by simpa using hY a x b e) hs
  simp only [List.nil_append] at hw
  have c2 := rope_2 hs
  clear hY hs ha
  show CallsIn _ _ _ _ #[_, _] _ _
  refine callsIn_of_wp Try.func64 rfl trivial ?_ rfl
  simp only [Try.ntmps64, List.size_toArray, List.length_cons, List.length_nil, Nat.reduceAdd, Nat.reduceSub, Array.replicate_succ, Array.replicate_zero, List.push_toArray, List.append_toArray, List.nil_append, List.cons_append]
  gi_wp2_with (refine ⟨trivial, fun h => by simp [Fence.wide] at h, ?_⟩; gi_at_call 79; refine hw.mono ?_; clear hw; rintro e W1 ⟨rfl, h1⟩)
  go_end0
  exact ⟨⟨_, rfl⟩, h1⟩
end
end Go.Proofs.Ytdgaffcfcgmfnaa
