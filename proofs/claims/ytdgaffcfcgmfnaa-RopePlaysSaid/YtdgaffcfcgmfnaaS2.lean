/- At. -/
import Derived.Test.YtdgaffcfcgmfnaaS1
namespace Go.Proofs.Ytdgaffcfcgmfnaa
open Go.RowKit Go.Sl

attribute [local go_sem ↓ high] load107 store107 load105 store105 slice82
section
variable {k w : World} {L : List Asn} {g c : Nat} {P : Pol} {es : List El} {R : Ending → World → Prop}
/-- The i-th of them; all zero, if there is none. -/
def elAt (es : List El) (i : Int) : El := if 0 ≤ i then es.getD i.toNat ⟨0, 0, 0⟩ else ⟨0, 0, 0⟩
def isAt (es : List El) (i : Int) : Bool := decide (0 ≤ i ∧ i < (es.length : Int))
set_option maxRecDepth 100000 in
set_option maxHeartbeats 1000000 in
theorem atx_any {i : Int} (h : St k w (Rope g P es c :: L)) (hR : ∀ w', St k w' (Rope g P es c :: L) → R (.returned (.tuple #[elV (elAt es i), .bool (isAt es i)])) w') : Calls Try.prog 22 #[.pointer (some ⟨g, 0, none⟩), .int .i64 i] w R := by
  have h0 := (h.alloc (.cells #[.int .i64 0, .int .i32 0, .int .i64 0] 39)).swap
  obtain ⟨r, h1, ho⟩ := Rope.out h0
  have d0 := rope_dead h1 ho
  cases hb : isAt es i
  · have e : elAt es i = ⟨0, 0, 0⟩ := by
      unfold elAt
      unfold isAt at hb
      split
      · rw [List.getD_eq_getElem?_getD, List.getElem?_eq_none (by simp at hb; omega)]; rfl
      · rfl
    rw [e, hb] at hR
    have HR := Lib.hid hR
    have H0 := Lib.hid h0
    by_cases hi : i < 0
    · have z0 : (w.alloc (.cells #[.int .i64 0, .int .i32 0, .int .i64 0] 39)).cell? ⟨w.heap.size, 0, none⟩ = some (.int .i64 0) := blk_cell h0.swap.lies 0
      have HX := Lib.hid (hR _ h0.swap.drop)
      clear h hR h0 h1 ho hb e
      go_enter Try.func22, Try.ntmps22
      go_wp2_with (go_at_call 55; refine dead_any d0 ?_)
      exact bodyPost_ret (v := .tuple #[.agg #[.int .i64 0, .int .i32 0, .int .i64 0], .bool false]) (by simp [results, Try.results22, go_sem]) rfl HX.out
    · have hi0 : 0 ≤ i := by omega
      have hi1 : (es.length : Int) ≤ i := by simp [isAt] at hb; omega
      clear h hR h0 h1 ho hb e hi
      go_enter Try.func22, Try.ntmps22
      go_wp2_with (go_at_call 55; refine dead_any d0 ?_)
      refine len_any H0.out fun w1 h2 => ?_
      have z0 : w1.cell? ⟨w.heap.size, 0, none⟩ = some (.int .i64 0) := blk_cell h2.swap.lies 0
      have z1 : w1.cell? ⟨w.heap.size, 1, none⟩ = some (.int .i32 0) := blk_cell h2.swap.lies 1
      have z2 : w1.cell? ⟨w.heap.size, 2, none⟩ = some (.int .i64 0) := blk_cell h2.swap.lies 2
      have f0 := blk_frozen h2.swap.lies 0
      have f1 := blk_frozen h2.swap.lies 1
      have f2 := blk_frozen h2.swap.lies 2
      have zl := blk_lt h2.swap.lies
      have HX := Lib.hid (HR.out _ (((h2.swap.set 0 (.int .i64 0)).set 1 (.int .i32 0)).set 2 (.int .i64 0)).drop)
      clear h2
      go_wp2
      exact bodyPost_ret (v := .tuple #[.agg #[.int .i64 0, .int .i32 0, .int .i64 0], .bool false]) (by simp [results, Try.results22, go_sem, z0, z1, z2]) rfl HX.out
  · have hb' := of_decide_eq_true hb
    obtain ⟨e, he⟩ : ∃ e, es[i.toNat]? = some e := ⟨_, List.getElem?_eq_getElem (by omega)⟩
    have e1 : elAt es i = e := by unfold elAt; rw [if_pos hb'.1, List.getD_eq_getElem?_getD, he]; rfl
    rw [e1, hb] at hR
    have HR := Lib.hid hR
    have H0 := Lib.hid h0
    obtain ⟨hi0, hi1⟩ := hb'
    have HE := Lib.hid he
    clear h hR h0 h1 ho hb e1 he
    go_enter Try.func22, Try.ntmps22
    go_wp2_with (go_at_call 55; refine dead_any d0 ?_)
    refine len_any H0.out fun w1 h2 => ?_
    obtain ⟨r2, h3, ho2⟩ := Rope.out h2
    obtain ⟨x, hx, hg⟩ := ho2.node
    have hjl := (List.getElem?_eq_some_iff.1 hx).1
    obtain ⟨bn, cap, hv, -, -, -⟩ := rope_nodes h3 hjl
    have c0 := rope_0 h3
    rw [hv] at c0
    have c2 := rope_2 h3
    have b1 : (r2.root : Int) < (r2.ms.length : Int) := by omega
    have b2 : (0 : Int) ≤ (r2.root : Int) := by omega
    obtain ⟨hh, -, ha⟩ := ho2.ar
    have hlen := ho2.len
    have HA := Lib.hid (fun (RR : Ending → World → Prop) => at_any (R := RR) h3.drew hv ha (show i = ((i.toNat : Nat) : Int) by omega) HE.out (by omega))
    have HO := Lib.hid ho2
    clear h2 h3 ho2 hx hg hv hjl ha hlen
    go_wp2
    go_region_with ((refine HA.out _ ?_; intro w2 h4; have z0 : w2.cell? ⟨w.heap.size, 0, none⟩ = some (.int .i64 0) := blk_cell h4.swap.lies 0; have z1 : w2.cell? ⟨w.heap.size, 1, none⟩ = some (.int .i32 0) := blk_cell h4.swap.lies 1; have z2 : w2.cell? ⟨w.heap.size, 2, none⟩ = some (.int .i64 0) := blk_cell h4.swap.lies 2; have f0 := blk_frozen h4.swap.lies 0; have f1 := blk_frozen h4.swap.lies 1; have f2 := blk_frozen h4.swap.lies 2; have zl := blk_lt h4.swap.lies; have HX := Lib.hid (HR.out _ (Rope.mk (((h4.swap.set 0 (.int .i64 e.id)).set 1 (.int .i32 e.rune)).set 2 (.int .i64 e.label)).drop HO.out)); clear h4))
    all_goals
      go_wp2
      exact bodyPost_ret (v := .tuple #[.agg #[.int .i64 e.id, .int .i32 e.rune, .int .i64 e.label], .bool true]) (by simp [results, Try.results22, go_sem, z0, z1, z2]) rfl HX.out
end
end Go.Proofs.Ytdgaffcfcgmfnaa
