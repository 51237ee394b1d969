/- A sequence that no call made. -/
import Derived.Test.YtdgaffcfcgmfnaaZp
namespace Go.Proofs.Ytdgaffcfcgmfnaa
open Go.RowKit Go.Sl Go.Shelf

/-- A nil sequence, or a zero one. -/
def Dead (w : World) (v : Value) : Prop := v = .pointer none ∨ ∃ g, v = .pointer (some ⟨g, 0, none⟩) ∧ w.cell? ⟨g, 1028, none⟩ = some (.bool false)
theorem Dead.alloc {w : World} {v : Value} (h : Dead w v) (o : Obj) : Dead (w.alloc o) v := h.imp id fun ⟨g, e, hc⟩ => ⟨g, e, cell_alloc hc o⟩
section
variable {w : World} {R : Ending → World → Prop} {v : Value}
theorem dead_call (h : Dead w v) (hR : R (.returned (.bool true)) w) : Calls Try.prog 55 #[v] w R := by
  have HR := Lib.hid hR
  clear hR
  rcases h with rfl | ⟨g, rfl, hc⟩
  · go_enter Try.func55, Try.ntmps55
    go_wp2
    exact HR.out
  · go_enter Try.func55, Try.ntmps55
    go_wp2
    exact HR.out
theorem index_dead {a b : Int} (h : Dead w v) (hR : R (.returned (.tuple #[.int .i64 0, .int .i64 6])) w) : Calls Try.prog 19 #[v, .int .i64 a, .int .i64 b] w R := by
  have H := Lib.hid h
  have HR := Lib.hid hR
  clear h hR
  go_enter Try.func19, Try.ntmps19
  go_wp2_with (go_at_call 55; refine dead_call H.out ?_)
  exact HR.out
theorem place_dead {a b : Int} (h : Dead w v) (hR : R (.returned (.tuple #[.int .i64 0, .int .i64 6])) w) : Calls Try.prog 21 #[v, .int .i64 a, .int .i64 b] w R := by
  have H := Lib.hid h
  have HR := Lib.hid hR
  clear h hR
  go_enter Try.func21, Try.ntmps21
  go_wp2_with (go_at_call 55; refine dead_call H.out ?_)
  exact HR.out
theorem view_dead {a b : Int} (h : Dead w v) (hR : R (.returned (.tuple #[.int .i64 0, .int .i64 6])) w) : Calls Try.prog 20 #[v, .int .i64 a, .int .i64 b] w R := by
  have H := Lib.hid h
  have HR := Lib.hid hR
  clear h hR
  go_enter Try.func20, Try.ntmps20
  go_wp2_with (go_at_call 55; refine dead_call H.out ?_)
  exact HR.out
theorem len_dead (h : Dead w v) (hR : R (.returned (.int .i64 0)) w) : Calls Try.prog 29 #[v] w R := by
  have H := Lib.hid h
  have HR := Lib.hid hR
  clear h hR
  go_enter Try.func29, Try.ntmps29
  go_wp2_with (go_at_call 55; refine dead_call H.out ?_)
  exact HR.out
theorem count_dead {a : Int} (h : Dead w v) (hR : R (.returned (.int .i64 0)) w) : Calls Try.prog 26 #[v, .int .i64 a] w R := by
  have H := Lib.hid h
  have HR := Lib.hid hR
  clear h hR
  go_enter Try.func26, Try.ntmps26
  go_wp2_with (go_at_call 55; refine dead_call H.out ?_)
  exact HR.out
theorem size_dead {a : Int} (h : Dead w v) (hR : R (.returned (.int .i64 0)) w) : Calls Try.prog 18 #[v, .int .i64 a] w R := by
  have H := Lib.hid h
  have HR := Lib.hid hR
  clear h hR
  go_enter Try.func18, Try.ntmps18
  go_wp2_with (go_at_call 55; refine dead_call H.out ?_)
  exact HR.out
theorem clone_dead (h : Dead w v) (hR : R (.returned (.pointer none)) w) : Calls Try.prog 47 #[v] w R := by
  have H := Lib.hid h
  have HR := Lib.hid hR
  clear h hR
  go_enter Try.func47, Try.ntmps47
  go_wp2_with (go_at_call 55; refine dead_call H.out ?_)
  exact HR.out
theorem insert_dead {a : Int} {s : Value} (h : Dead w v) (hR : R (.returned (.int .i64 6)) w) : Calls Try.prog 33 #[v, .int .i64 a, s] w R := by
  have H := Lib.hid h
  have HR := Lib.hid hR
  clear h hR
  go_enter Try.func33, Try.ntmps33
  go_wp2_with (go_at_call 55; refine dead_call H.out ?_)
  exact HR.out
theorem remove_dead {a b : Int} (h : Dead w v) (hR : R (.returned (.tuple #[.slice none 0 0, .int .i64 6])) w) : Calls Try.prog 32 #[v, .int .i64 a, .int .i64 b] w R := by
  have H := Lib.hid h
  have HR := Lib.hid hR
  clear h hR
  go_enter Try.func32, Try.ntmps32
  go_wp2_with (go_at_call 55; refine dead_call H.out ?_)
  exact HR.out
theorem relabel_dead {a b c : Int} (h : Dead w v) (hR : R (.returned (.int .i64 6)) w) : Calls Try.prog 63 #[v, .int .i64 a, .int .i64 b, .int .i64 c] w R := by
  have H := Lib.hid h
  have HR := Lib.hid hR
  clear h hR
  go_enter Try.func63, Try.ntmps63
  go_wp2_with (go_at_call 55; refine dead_call H.out ?_)
  exact HR.out
theorem at_dead {a : Int} (h : Dead w v) (hR : R (.returned (.tuple #[elV ⟨0, 0, 0⟩, .bool false])) (w.alloc (.cells #[.int .i64 0, .int .i32 0, .int .i64 0] 39))) : Calls Try.prog 22 #[v, .int .i64 a] w R := by
  have H := Lib.hid (h.alloc (.cells #[.int .i64 0, .int .i32 0, .int .i64 0] 39))
  have HR := Lib.hid hR
  have z0 : (w.alloc (.cells #[.int .i64 0, .int .i32 0, .int .i64 0] 39)).cell? ⟨w.heap.size, 0, none⟩ = some (.int .i64 0) := blk_cell (blk_new _ _) 0
  have z1 : (w.alloc (.cells #[.int .i64 0, .int .i32 0, .int .i64 0] 39)).cell? ⟨w.heap.size, 1, none⟩ = some (.int .i32 0) := blk_cell (blk_new _ _) 1
  have z2 : (w.alloc (.cells #[.int .i64 0, .int .i32 0, .int .i64 0] 39)).cell? ⟨w.heap.size, 2, none⟩ = some (.int .i64 0) := blk_cell (blk_new _ _) 2
  clear h hR
  go_enter Try.func22, Try.ntmps22
  go_wp2_with (go_at_call 55; refine dead_call H.out ?_)
  exact bodyPost_ret (v := .tuple #[.agg #[.int .i64 0, .int .i32 0, .int .i64 0], .bool false]) (by simp [results, Try.results22, go_sem, z0, z1, z2]) rfl HR.out
end
section
attribute [local go_sem] Oper.semAt_some
variable {w : World} {R : Ending → World → Prop} {v : Value}
theorem elems_dead (h : Dead w v) (hR : R (.returned (.slice none 0 0)) (w.alloc (.cells #[.slice none 0 0] 46))) : Calls Try.prog 30 #[v] w R := by
  have H := Lib.hid (h.alloc (.cells #[.slice none 0 0] 46))
  have HR := Lib.hid hR
  clear h hR
  refine (callsIn_wide (n := 3)).1 ?_
  refine callsIn_of_wp_marks Try.func30 rfl trivial ?_ rfl
  simp only [Try.ntmps30, List.size_toArray, List.length_cons, List.length_nil, Nat.reduceAdd, Nat.reduceSub, Array.replicate_succ, Array.replicate_zero, List.push_toArray, List.append_toArray, List.nil_append, List.cons_append]
  gi_wp2_with (refine ⟨trivial, ?_⟩; gi_at_call 55; refine callsIn_wide.2 (dead_call H.out ?_))
  exact ⟨.slice none 0 0, by simp [results, Try.results30, go_sem], HR.out⟩
theorem seen_dead {a : Int} (h : Dead w v) (hR : ∀ w', Below w.heap.size w w' → Dead w' v → R (.returned (.slice none 0 0)) w') : Calls Try.prog 42 #[v, .int .i64 a] w R := by
  have h3 := ((h.alloc (.cells #[v] 33)).alloc (.cells #[.int .i64 a] 3)).alloc (.cells #[.slice none 0 0] 46)
  have H := Lib.hid h3
  have HR := Lib.hid (hR _ ((((Below.refl _ w).alloc (Nat.le_refl _) (.cells #[v] 33)).alloc (by simp) (.cells #[.int .i64 a] 3)).alloc (by simp; omega) (.cells #[.slice none 0 0] 46)) h3)
  clear h hR h3
  refine (callsIn_wide (n := 3)).1 ?_
  refine callsIn_of_wp_marks Try.func42 rfl trivial ?_ rfl
  simp only [Try.ntmps42, List.size_toArray, List.length_cons, List.length_nil, Nat.reduceAdd, Nat.reduceSub, Array.replicate_succ, Array.replicate_zero, List.push_toArray, List.append_toArray, List.nil_append, List.cons_append]
  rcases H.out with rfl | ⟨g, rfl, -⟩
  all_goals
    gi_wp2_with (refine ⟨trivial, ?_⟩; gi_at_call 55; refine callsIn_wide.2 (dead_call H.out ?_))
    refine ⟨trivial, ?_⟩
    gi_wp2
    exact ⟨.slice none 0 0, by simp [results, Try.results42, go_sem], HR.out⟩
end
end Go.Proofs.Ytdgaffcfcgmfnaa
