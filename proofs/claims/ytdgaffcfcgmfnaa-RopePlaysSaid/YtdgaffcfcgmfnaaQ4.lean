/- Elems. -/
import Derived.Test.YtdgaffcfcgmfnaaQ3
import Derived.Test.YtdgaffcfcgmfnaaM4
namespace Go.Proofs.Ytdgaffcfcgmfnaa
open Go.RowKit Go.Sl Go.Shelf

attribute [local go_sem] Oper.semAt_some
attribute [local go_sem ↓ high] load107 store107 load105 store105 slice82
section
variable {k w : World} {L : List Asn} {g c : Nat} {P : Pol} {es : List El} {R : Ending → World → Prop}
/-- A row of one's own that grows, in a variable at block b. -/
def grows (b : Nat) (xs : List El) : Asn := Asg.ex fun v => Asg.list [pt b (.cells #[v] 46 (0, 0)), rowA 39 3 v xs.length (elsC xs), Asg.pure (v = .slice none 0 0 ↔ xs = [])]
theorem grows_out {b : Nat} {xs : List El} (h : St k w (grows b xs :: L)) : ∃ v, St k w (pt b (.cells #[v] 46 (0, 0)) :: rowA 39 3 v xs.length (elsC xs) :: L) ∧ (v = .slice none 0 0 ↔ xs = []) := by
  obtain ⟨v, h1⟩ := h.open_ex
  have h2 := h1.open_list.pull 2
  obtain ⟨h3, h4⟩ := h2.open_pure
  exact ⟨v, h4, h3⟩
theorem grows_mk {b : Nat} {xs : List El} {v : Value} (h : St k w (pt b (.cells #[v] 46 (0, 0)) :: rowA 39 3 v xs.length (elsC xs) :: L)) (hv : v = .slice none 0 0 ↔ xs = []) : St k w (grows b xs :: L) := by
  have h2 : St k w (Asg.pure (v = .slice none 0 0 ↔ xs = []) :: pt b (.cells #[v] 46 (0, 0)) :: rowA 39 3 v xs.length (elsC xs) :: L) := h.shut_pure hv
  exact St.shut_ex v (St.shut_list [pt b (.cells #[v] 46 (0, 0)), rowA 39 3 v xs.length (elsC xs), Asg.pure (v = .slice none 0 0 ↔ xs = [])] (h2.push 2))
/-- A round's box for a code point. -/
def boxE (T : El → Nat → Act) (x : El) (a₁ : Act) : Asn := Asg.ex fun b => Asg.list [pt b (elO x), Asg.pure (a₁ = T x b)]
theorem boxE_out {T : El → Nat → Act} {x : El} {a₁ : Act} (h : St k w (boxE T x a₁ :: L)) : ∃ b, St k w (pt b (elO x) :: L) ∧ a₁ = T x b := by
  obtain ⟨v, h1⟩ := h.open_ex
  have h2 := h1.open_list.swap
  obtain ⟨h3, h4⟩ := h2.open_pure
  exact ⟨v, h4, h3⟩
theorem boxE_mk {T : El → Nat → Act} {x : El} {b : Nat} (h : St k w (pt b (elO x) :: L)) : St k w (boxE T x (T x b) :: L) := by
  have h2 : St k w (Asg.pure (T x b = T x b) :: pt b (elO x) :: L) := h.shut_pure rfl
  exact St.shut_ex b (St.shut_list [pt b (elO x), Asg.pure (T x b = T x b)] h2.swap)
theorem grows_push {b3 b bn : Nat} {A' : Option Addr} {c' : Nat} {v : Value} {pre : List El} {x : El} {A : Asn}
    (h : St k w (rowA 39 3 (.slice A' (pre.length + 1) c') (pre.length + 1) (elsC pre ++ elC x) :: pt bn (elO x) :: pt b3 (.cells #[v] 46 (0, 0)) :: pt b (elO x) :: A :: L)) :
    St k (w.setCell ⟨b3, 0, none⟩ (.slice A' (pre.length + 1) c')) (A :: grows b3 (pre ++ [x]) :: L) := by
  have h2 := (h.pull 2).set 0 (.slice A' (pre.length + 1) c')
  have e1 : (pre ++ [x]).length = pre.length + 1 := by simp
  have e2 : elsC (pre ++ [x]) = elsC pre ++ elC x := by simp [elsC]
  rw [← e1, ← e2] at h2
  have h3 := grows_mk h2 (by simp)
  rw [e1] at h3
  exact (h3.swap.drop.swap.drop.swap)
set_option maxRecDepth 100000 in
set_option maxHeartbeats 1000000 in
theorem elems_any (h : St k w (Rope g P es c :: L)) (hR : ∀ v w', (v = .slice none 0 0 ↔ es = []) → St k w' (rowA 39 3 v es.length (elsC es) :: Rope g P es c :: L) → R (.returned v) w') : Calls Try.prog 30 #[.pointer (some ⟨g, 0, none⟩)] w R := by
  obtain ⟨r, h1, ho⟩ := Rope.out (h.alloc (.cells #[.slice none 0 0] 46)).swap
  have d0 := rope_dead h1 ho
  have HR := Lib.hid hR
  have HO := Lib.hid ho
  have H1 := Lib.hid h1
  clear h hR h1 ho
  refine (callsIn_wide (n := 0)).1 ?_
  refine callsIn_of_wp_marks Try.func30 rfl trivial ?_ rfl
  simp only [Try.ntmps30, List.size_toArray, List.length_cons, List.length_nil, Nat.reduceAdd, Nat.reduceSub, Array.replicate_succ, Array.replicate_zero, List.push_toArray, List.append_toArray, List.nil_append, List.cons_append]
  gi_wp2_with (refine ⟨trivial, rfl, ?_⟩; gi_at_call 55; refine callsIn_wide.2 (dead_any d0 ?_))
  obtain ⟨b3, hb3⟩ : ∃ b3, w.heap.size = b3 := ⟨_, rfl⟩
  rw [hb3] at H1 ⊢
  have h2 : St k _ (ropeA g r :: grows b3 [] :: L) := (grows_mk (xs := []) (H1.out.swap.nilA 39 3).swap (by simp)).pull 1
  refine gen_worldIn h2 fun w1 h3 => ?_
  have hlen := HO.out.len
  have HE := every_gives (k := k) (g := g) HO.out
  clear h2
  refine wpIn_range (gf := 64) (fs := #[.pointer (some ⟨g, 0, none⟩)]) rfl (enters_of Try.func64 (by kernel_rfl) rfl) HE (fun _ => rfl) (grows b3)
    (boxE fun x b => { tmps := #[.pointer (some ⟨g, 0, none⟩), undef, .slice none 0 0, .pointer (some ⟨b3, 0, none⟩), .pointer (some ⟨b, 0, none⟩), .pointer (some ⟨g, 0, none⟩), .bool false, undef, .pointer (some ⟨g, 0, none⟩), .func (.func 64) #[.pointer (some ⟨g, 0, none⟩)] #[], elV x, undef, undef, undef, undef, undef], defers := [] }) h3 ?assign ?body ?done
  case assign =>
    intro l m x W L' K hW hK
    gi_wp2
    exact boxE_mk (hW.alloc _)
  case body =>
    intro l m pre x suf a₁ W L' hx hW
    obtain ⟨b, h4, rfl⟩ := boxE_out hW
    obtain ⟨v, h5, hv⟩ := grows_out (h4.pull 2)
    have hpl : pre.length + 1 ≤ 1048576 := by rw [hx] at hlen; simp at hlen; omega
    have c3 := blk_cell h5.lies 0
    change _ = some v at c3
    have e0 : W.cell? ⟨b, 0, none⟩ = some (.int .i64 x.id) := blk_cell (h5.pull 2).lies 0
    have e1 : W.cell? ⟨b, 1, none⟩ = some (.int .i32 x.rune) := blk_cell (h5.pull 2).lies 1
    have e2 : W.cell? ⟨b, 2, none⟩ = some (.int .i64 x.label) := blk_cell (h5.pull 2).lies 2
    have H5 := Lib.hid (h5.alloc (elO x))
    have HV := Lib.hid hv
    clear hx hW h4 h5 hv HE H1 h3
    gi_wp2_with ((gi_at_builtin; refine wpListIn_append rfl _ _ rfl Try.underlying46 info39 rfl (by decide) (n := pre.length) (cs := elsC pre) (H5.out.pull 2) (H5.out.readsP (sz := 3) (n := 1) (cap := 1) rfl (Nat.le_refl _) (by decide)) rfl rfl (fun u hu => by simp at hu; rcases hu with rfl | rfl | rfl <;> rfl) (by unfold maxLen; omega) (by omega) ?_; intro v' w5 h6 h7; obtain ⟨A', c', rfl, -⟩ := h6.readsA.at_; have c3' := blk_cell (h6.pull 2).lies 0; have f3' := blk_frozen (h6.pull 2).lies 0; have H6 := Lib.hid h6; have H7 := Lib.hid h7; clear h6 h7))
    exact grows_push H6.out
  case done =>
    intro D W hW
    obtain ⟨v, h4, hv⟩ := grows_out (hW.pull 2)
    have c3 := blk_cell h4.lies 0
    change _ = some v at c3
    have h5 := h4.pull 2
    have hK := h5.lies
    have h6 := (h5.putObj (.deferred none)).drop
    have h7 := HR.out v _ hv (Rope.mk ((h6.drop.swap)) HO.out).swap
    have H7 := Lib.hid h7
    clear hW h4 h5 h6 h7 hv HE H1 h3
    gi_wp2
    refine ⟨by simp, .inl ⟨_, _, rfl, run_takeDeferred hK, ?_⟩⟩
    exact ⟨v, by simp [results, Try.results30, go_sem], H7.out⟩
end
end Go.Proofs.Ytdgaffcfcgmfnaa
