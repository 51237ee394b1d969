/- A strings.Builder of the call's own, written byte by byte and string by string; what it gives at last. What lang.plain and lang.secret answer. What strconv.Itoa and the reference's digits answer: a number's digits. The text of a policy, in plain Lean. The program's Print: what its parts hold. -/
import Derived.Test.YtaeaakcppheaoaaDoorK1
import Derived.Lib.AppendStr
import Derived.Lib.UnsafeStr
import Derived.Lib.Builder
import Derived.Lib.SmallJoins
import Derived.Lib.ItoaLen
import Derived.Lib.AppendIntMem
import Derived.Test.YtaeaakcppheaoaaDoorKh
import Derived.Deep.RegionHeld3
namespace Go.Proofs.YtaeaakcppheaoaaDoor
open Go.RowKit Go.Proofs.YtaeaakcppheaoaaDoorW.PrintWords Go.Maps

/-- A builder in block b, whose bytes lie from base on. -/
def Bld (w : World) (b base : Nat) (l : List UInt8) : Prop :=
  ∃ p v, w.heap[b]? = some (.cells #[p, v] 71 (0, 0)) ∧ (p = .pointer none ∨ p = .pointer (some ⟨b, 0, none⟩)) ∧ Kd.R (Kd.int .u8) 5 w base (fun _ => True) v (intsL l)
theorem Bld.lt {w : World} {b base : Nat} {l : List UInt8} (h : Bld w b base l) : b < w.heap.size := by
  obtain ⟨p, v, hb, _⟩ := h
  exact blk_lt hb
theorem Bld.below {w w1 : World} {b base : Nat} {l : List UInt8} (h : Bld w b base l) (hb : Below w.heap.size w w1) : Bld w1 b base l := by
  obtain ⟨p, v, hg, hp, hR⟩ := h
  exact ⟨p, v, blk_below hg hb, hp, Kd.R_below hR hb⟩
theorem Bld.nil (w : World) (b base : Nat) (h : w.heap[b]? = some (.cells #[.pointer none, .slice none 0 0] 71 (0, 0))) : Bld w b base [] :=
  ⟨_, _, h, .inl rfl, Kd.R_nil _ _ _ _ _⟩
/-- Whatever is no row of bytes, and not the builder, lies as it lay. -/
def Others (b : Nat) (w w' : World) : Prop := ∀ g t cs, w.heap[g]? = some (.cells cs t (0, 0)) → t ≠ 5 → g ≠ b → w'.heap[g]? = some (.cells cs t (0, 0))
theorem Others.trans {b : Nat} {w w1 w2 : World} (h : Others b w w1) (k : Others b w1 w2) : Others b w w2 := fun g t cs hg ht hb => k g t cs (h g t cs hg ht hb) ht hb
theorem Others.refl (b : Nat) (w : World) : Others b w w := fun _ _ _ h _ _ => h
theorem Others.set (b : Nat) (w : World) (j : Nat) (v : Value) : Others b w (w.setCell ⟨b, j, none⟩ v) := fun _ _ _ h _ hb => blk_far h hb v
theorem Others.below (b : Nat) {w w' : World} (hb : Below w.heap.size w w') : Others b w w' := fun _ _ _ h _ _ => blk_below h hb
theorem Others.grown {b base : Nat} {w w' : World} {v : Value} {l : List Int} (h : w.grownBy w' v.ownBlock) (hR : Kd.R (Kd.int .u8) 5 w base (fun _ => True) v l) : Others b w w' := fun _ _ _ hg ht _ =>
  blk_grown hg h (Kd.R_ne hR hg (Ne.symm ht))
theorem size71 : (Tryd.prog.info? 71).map (·.size) = some 2 := by kernel_rfl
theorem blk_shape {w : World} {g t : Nat} {cs : Array Value} (h : w.heap[g]? = some (.cells cs t (0, 0))) : w.shape? g = some (t, cs.size) := by simp [World.shape?, h]

set_option maxRecDepth 100000 in
set_option maxHeartbeats 1000000 in
theorem check_used (b : Nat) (w : World) (h0 : w.cell? ⟨b, 0, none⟩ = some (.pointer (some ⟨b, 0, none⟩))) :
    Calls Tryd.prog 56 #[.pointer (some ⟨b, 0, none⟩)] w fun e w' => e = .returned (.tuple #[]) ∧ w' = w := by
  obtain ⟨j, hj, hjs⟩ := Option.map_eq_some_iff.1 size71
  go_enter Tryd.func56, Tryd.ntmps56
  go_wp2
  rw [Lib.run_neq_ptr_same w _ Tryd.underlying68 hj]
  go_wp2
  go_end0
  exact ⟨rfl, rfl⟩
set_option maxRecDepth 100000 in
set_option maxHeartbeats 1000000 in
theorem check_fresh (b : Nat) (w : World) (h0 : w.cell? ⟨b, 0, none⟩ = some (.pointer none)) (hsh : w.shape? b = some (71, 2)) (hfz : w.frozen? ⟨b, 0, none⟩ = false) :
    Calls Tryd.prog 56 #[.pointer (some ⟨b, 0, none⟩)] w fun e w' => e = .returned (.tuple #[]) ∧ w' = w.setCell ⟨b, 0, none⟩ (.pointer (some ⟨b, 0, none⟩)) := by
  obtain ⟨j, hj, hjs⟩ := Option.map_eq_some_iff.1 size71
  go_enter Tryd.func56, Tryd.ntmps56
  go_wp2
  rw [Lib.run_to_unsafe w ⟨b, 0, none⟩ Tryd.underlying68 Tryd.underlying102 hj (by rw [hjs]; decide) hsh (Nat.zero_lt_succ 1)]
  simp only [Result.andThen]
  rw [Oper.upon_value]
  go_wp2
  rw [run_callFunc_extern Tryd.func73 (by kernel_rfl) (by kernel_rfl) (by kernel_rfl) (e := Extern.AbiNoEscape.same) (by kernel_rfl)]
  rw [Lib.run_noEscape]
  simp only [Result.andThen]
  rw [Oper.upon_value]
  go_wp2
  rw [Lib.run_from_unsafe w ⟨b, 0, none⟩ Tryd.underlying102 Tryd.underlying68 hj hsh (by kernel_rfl)]
  simp only [Result.andThen]
  rw [Oper.upon_value]
  go_wp2
  go_end0
  exact ⟨rfl, rfl⟩
/-- copyCheck: behind it the builder is used. -/
theorem check_bld (b base : Nat) (l : List UInt8) (w : World) (h : Bld w b base l) :
    Calls Tryd.prog 56 #[.pointer (some ⟨b, 0, none⟩)] w fun e w' => e = .returned (.tuple #[]) ∧ (∃ v, w'.heap[b]? = some (.cells #[.pointer (some ⟨b, 0, none⟩), v] 71 (0, 0)) ∧ Kd.R (Kd.int .u8) 5 w' base (fun _ => True) v (intsL l)) ∧ Keep2 base b b w w' ∧ Others b w w' := by
  obtain ⟨p, v, hb, hp, hR⟩ := h
  rcases hp with rfl | rfl
  · refine (check_fresh b w (blk_cell hb 0) (blk_shape hb) (blk_frozen hb 0)).mono ?_
    rintro e w' ⟨rfl, rfl⟩
    refine ⟨rfl, ⟨v, blk_put hb 0 _ rfl, ?_⟩, Keep2.set w 0 _, Others.set b w 0 _⟩
    exact Kd.R_mono (Kd.R_far (Kd.R_types hR hb (by decide)) (p := ⟨b, 0, none⟩) (fun k hk => hk.2) _) (fun _ _ => trivial)
  · refine (check_used b w (blk_cell hb 0)).mono ?_
    rintro e w' ⟨rfl, rfl⟩
    exact ⟨rfl, ⟨v, hb, hR⟩, Keep2.refl _ _ _ _, Others.refl _ _⟩

theorem intsL_snoc (l : List UInt8) (c : UInt8) : intsL (l ++ [c]) = intsL l ++ [(c.toNat : Int)] := by simp [intsL]
theorem intsL_length (l : List UInt8) : (intsL l).length = l.length := by simp [intsL]
set_option maxRecDepth 100000 in
set_option maxHeartbeats 1000000 in
theorem bld_byte (b base : Nat) (l : List UInt8) (c : UInt8) (cI : Int) (w : World) (hc : cI = (c.toNat : Int)) (h : Bld w b base l) (hl : l.length ≤ 1000000) (hbase : base ≤ w.heap.size) :
    Calls Tryd.prog 62 #[.pointer (some ⟨b, 0, none⟩), .int .u8 cI] w fun e w' => e = .returned .nilIface ∧ Bld w' b base (l ++ [c]) ∧ Keep2 base b b w w' ∧ Others b w w' := by
  have H := Aside0.mk h
  have HC := Aside0.mk hc
  clear h hc
  go_enter Tryd.func62, Tryd.ntmps62
  go_wp2_with fail
  refine (check_bld b base l w H.out).mono ?_
  rintro e w1 ⟨rfl, ⟨v, hb, hR⟩, hK, hO1⟩
  have HK := Aside0.mk hK
  have HO1 := Aside0.mk hO1
  clear hO1
  have hs := hK.size
  have c0 := blk_cell hb 0
  have c1 : w1.cell? ⟨b, 1, none⟩ = some v := by rw [blk_cell hb 1]; rfl
  have f1 := blk_frozen hb 1
  have hlt := blk_lt hb
  have ng : v.ownBlock ≠ some b := fun e => Kd.R_ne hR hb (by decide) e.symm
  have HB := Aside0.mk hb
  have HR := Aside0.mk hR
  have hll := intsL_length l
  have hz : (intsL l).length + 1 ≤ 140737488355328 := by omega
  have hm : (intsL l).length + 1 ≤ maxLen := by unfold maxLen; omega
  clear hb hR hK hll
  go_wp2_with ((at_builtin; refine R_lies_plain (Kd.int .u8) (by rfl) _ _ 69 5 (.int .u8 0) 1 (by rfl) Tryd.underlying69 info5 rfl (by decide) base v (intsL l) cI [.int .u8 cI] w1.heap.size _ (by rfl) (by rfl) (blk_new _ _) rfl (Kd.R_alloc HR.out _) (by simp; omega) (by omega) hm (w1.heap.size + 1) (by simp) ?_; intro gn capn w2 hR2 hgrow hat hlt2; have k0 := (hgrow.cell_far ⟨b, 1, none⟩ (by simp; omega) (Ne.symm ng)); have k0f := (hgrow.frozen_far ⟨b, 1, none⟩ (by simp; omega) (Ne.symm ng))))
  go_ret
  have hgrow2 : (w1.alloc (.cells #[.int .u8 cI] 5)).grownBy w2 v.ownBlock := ⟨hgrow.os, hgrow.tape, hgrow.output, hgrow.size, hgrow.block⟩
  have hb2 := blk_grown (blk_alloc HB.out (.cells #[.int .u8 cI] 5)) hgrow2 (Ne.symm ng)
  refine ⟨rfl, ⟨_, _, blk_put hb2 1 _ rfl, .inr rfl, ?_⟩, ?_, HO1.out.trans (((Others.below b ((Below.refl _ _).alloc (Nat.le_refl _) _)).trans (Others.grown hgrow2 (Kd.R_alloc HR.out _))).trans (Others.set b w2 1 _))⟩
  · rw [intsL_snoc, ← HC.out]
    exact Kd.R_mono (Kd.R_far (Kd.R_types hR2 hb2 (by decide)) (p := ⟨b, 1, none⟩) (fun k hk => hk.2) _) (fun _ _ => trivial)
  · refine HK.out.trans ((Keep2.below (B := w1.heap.size) ((Below.refl _ _).alloc (Nat.le_refl _) _) (by omega)).trans ((Keep2.grown hgrow2 (by simp; omega) (fun k hk => .inl ?_)).trans (Keep2.set w2 1 _)))
    exact Kd.R_base HR.out k hk
set_option maxRecDepth 100000 in
set_option maxHeartbeats 1000000 in
theorem bld_str (b base : Nat) (l : List UInt8) (s : ByteArray) (w : World) (h : Bld w b base l) (hl : l.length ≤ 1000000) (hs : s.size ≤ 1000000) (hbase : base ≤ w.heap.size) :
    Calls Tryd.prog 31 #[.pointer (some ⟨b, 0, none⟩), .string s] w fun e w' => e = .returned (.tuple #[.int .i64 s.size, .nilIface]) ∧ Bld w' b base (l ++ s.data.toList) ∧ Keep2 base b b w w' ∧ Others b w w' := by
  have H := Aside0.mk h
  obtain ⟨i0, hi, hz0, hz1, hz2⟩ := info_parts info5
  clear h
  go_enter Tryd.func31, Tryd.ntmps31
  go_wp2_with fail
  refine (check_bld b base l w H.out).mono ?_
  rintro e w1 ⟨rfl, ⟨v, hb, hR⟩, hK, hO1⟩
  have HK := Aside0.mk hK
  have HO1 := Aside0.mk hO1
  clear hO1
  have hsz := hK.size
  have c0 := blk_cell hb 0
  have c1 : w1.cell? ⟨b, 1, none⟩ = some v := by rw [blk_cell hb 1]; rfl
  have f1 := blk_frozen hb 1
  have hlt := blk_lt hb
  have ng : v.ownBlock ≠ some b := fun e => Kd.R_ne hR hb (by decide) e.symm
  have HB := Aside0.mk hb
  have HR := Aside0.mk hR
  have hown0 := Kd.own_of_R hR
  have hll := intsL_length l
  have hm : (intsL l).length + s.size ≤ maxLen := by unfold maxLen; omega
  have hm2 : (intsL l).length + s.size ≤ 140737488355328 := by omega
  have HO := Aside0.mk hown0
  clear hb hR hK hown0 hll
  go_wp2_with ((at_builtin; refine Lib.wpList_append_own_string _ rfl _ _ 69 9 rfl base 5 i0 Tryd.underlying69 Tryd.underlying9 hi hz0 hz1 hz2 _ _ _ rfl HO.out s rfl hm hm2 (by omega) ?_; intro v' w2 hown' hgrow _; obtain ⟨Ao, cv, rfl⟩ := own_slice hown'; have k0 := (hgrow.cell_far ⟨b, 1, none⟩ hlt (Ne.symm ng)); have k0f := (hgrow.frozen_far ⟨b, 1, none⟩ hlt (Ne.symm ng))))
  go_ret2
  have hb2 := blk_grown HB.out hgrow (Ne.symm ng)
  refine ⟨rfl, ⟨_, _, blk_put hb2 1 _ rfl, .inr rfl, ?_⟩, ?_, HO1.out.trans ((Others.grown hgrow HR.out).trans (Others.set b w2 1 _))⟩
  · have e1 : encs (fun n => Value.int .u8 n) (intsL l) ++ Lib.strCells s = encs (fun n => Value.int .u8 n) (intsL (l ++ s.data.toList)) := by
      unfold encs intsL Lib.strCells
      rw [List.map_append, List.map_append, List.map_map, List.map_map]
      rfl
    have e2 : (intsL (l ++ s.data.toList)).length = (intsL l).length + s.size := by rw [intsL_length, intsL_length, List.length_append, Lib.size_eq]
    have hR2 : Kd.R (Kd.int .u8) 5 w2 base (fun _ => True) _ (intsL (l ++ s.data.toList)) := Kd.R_of_own (by rw [e2, ← e1]; exact hown') (fun _ _ => trivial)
    exact Kd.R_mono (Kd.R_far (Kd.R_types hR2 hb2 (by decide)) (p := ⟨b, 1, none⟩) (fun k hk => hk.2) _) (fun _ _ => trivial)
  · refine HK.out.trans ((Keep2.grown hgrow (by omega) (fun k hk => .inl ?_)).trans (Keep2.set w2 1 _))
    exact Kd.R_base HR.out k hk
/-- What a builder gives at last. -/
theorem bld_string (b base : Nat) (l : List UInt8) (w : World) (h : Bld w b base l) (hb : b ≤ base) :
    Calls Tryd.prog 32 #[.pointer (some ⟨b, 0, none⟩)] w fun e w' => e = .returned (.string (ofL l)) ∧ Below b w w' := by
  have hlt := h.lt
  obtain ⟨p, v, hg, hp, hR⟩ := h
  have hown := own_weaken (Kd.own_of_R hR) hb
  have e1 : encs (fun n => Value.int .u8 n) (intsL l) = Lib.byteCells l := by
    unfold encs intsL Lib.byteCells
    rw [List.map_map]
    rfl
  have e2 : (intsL l).length = (Lib.byteCells l).length := by rw [intsL_length, Lib.byteCells_length]
  have hat : ∀ q, w.heap[b]? = some (.cells #[q, v] 71 (0, 0)) → Lib.BuilderAt 71 5 b b q (Lib.byteCells l) w := fun q hq =>
    ⟨Nat.le_refl _, v, hq, by rw [← e2, ← e1]; exact hown, fun e => Kd.R_ne hR hq (by decide) e.symm⟩
  refine Tryd.Builder_String_any b b l w ?_ (by omega)
  rcases hp with rfl | rfl
  · exact .inl (hat _ hg)
  · exact .inr (hat _ hg)
end Go.Proofs.YtaeaakcppheaoaaDoor
namespace Go.Proofs.YtaeaakcppheaoaaDoor
open Go.RowKit Go.Proofs.YtaeaakcppheaoaaDoorW.PrintWords Go.Maps

set_option maxHeartbeats 1000000 in
theorem plain_any (c : Nat) (w : World) :
    Calls Tryd.prog 61 #[.int .u8 (c : Int)] w fun e w' => e = .returned (.bool (plainB c)) ∧ w' = w := by
  obtain ⟨n, hn⟩ : ∃ n : Int, (c : Int) = n := ⟨_, rfl⟩
  have HS := Aside0.mk (plainB_int c n hn)
  rw [hn]
  clear hn
  have hcases : (97 ≤ n ∧ n ≤ 122) ∨ (122 < n ∧ 97 ≤ n ∧ 90 < n ∧ 57 < n ∧ 65 ≤ n ∧ 48 ≤ n) ∨ (n < 97 ∧ 90 < n ∧ 65 ≤ n ∧ 57 < n ∧ 48 ≤ n) ∨ (n < 97 ∧ 65 ≤ n ∧ n ≤ 90) ∨ (n < 97 ∧ n < 65 ∧ 57 < n ∧ 48 ≤ n) ∨ (n < 97 ∧ n < 65 ∧ 48 ≤ n ∧ n ≤ 57) ∨ (n < 97 ∧ n < 65 ∧ n < 48) := by omega
  rcases hcases with ⟨a, b⟩ | ⟨a, b, c1, d, e1, f⟩ | ⟨a, b, c1, d, e1⟩ | ⟨a, b, c1⟩ | ⟨a, b, c1, d⟩ | ⟨a, b, c1, d⟩ | ⟨a, b, c1⟩
  all_goals
    go_enter Tryd.func61, Tryd.ntmps61
    go_wp2
    go_ret
    refine ⟨?_, rfl⟩
    rw [HS.out]
    refine ret_bool ?_
    rw [Bool.eq_iff_iff]
    simp only [Bool.or_eq_true, Bool.and_eq_true, decide_eq_true_eq]
    first | omega | (simp; omega) | (simp; done)


theorem hexget : ∀ q : Fin 16, hexS[q.val]'(by have := q.isLt; show q.val < 16; exact this) = hexC q.val := by decide
theorem hex_at (q : Nat) (h : q < 16) (h2 : q < hexS.size) : ((hexS[q]'h2).toNat : Int) = ((hexC q).toNat : Int) := by
  rw [← hexget ⟨q, h⟩]
theorem plain_is (c : Nat) (w : World) (b : Bool) (h : plainB c = b) :
    Calls Tryd.prog 61 #[.int .u8 (c : Int)] w fun e w' => e = .returned (.bool b) ∧ w = w' := by
  rw [← h]; exact (plain_any c w).mono fun e w' ⟨he, hw⟩ => ⟨he, hw.symm⟩
set_option maxRecDepth 100000 in
set_option maxHeartbeats 4000000 in
theorem secret_any (s : ByteArray) (w : World) (hs : s.size ≤ 4096) :
    Calls Tryd.prog 38 #[.string s] w fun e w' => e = .returned (.string (ofL (secretL s.data.toList))) ∧ Below w.heap.size w w' := by
  have kb := fun W => print_bytes (P := Tryd.prog) 9 69 5 Tryd.underlying9 Tryd.underlying69 Tryd.underlying5 s W
  have hsi : (s.size : Int) ≤ 4096 := by omega
  go_enter Tryd.func38, Tryd.ntmps38
  go_wp2
  clear kb
  obtain ⟨W0, hW0⟩ : ∃ W0, W0 = w.alloc (.cells #[.pointer none, .slice none 0 0] 71) := ⟨_, rfl⟩
  obtain ⟨W1, hW1⟩ : ∃ W1, W1 = Lib.bytesWorld W0 5 s := ⟨_, rfl⟩
  have hz0 : W0.heap.size = w.heap.size + 1 := by rw [hW0]; simp
  have hz1 : W1.heap.size = w.heap.size + 2 := by rw [hW1, Lib.bytesWorld_size, hz0]
  have HB1 := Aside0.mk (show Below w.heap.size w W1 by rw [hW1]; exact bytes_below (by rw [hW0]; exact (Below.refl _ _).alloc (Nat.le_refl _) _) (by omega) 5 s)
  have HBl := Aside0.mk (show Bld W1 w.heap.size (w.heap.size + 2) [] from Bld.nil _ _ _ (by
    rw [hW1, Lib.bytesWorld_at_old W0 5 s w.heap.size (by omega), hW0]; exact blk_new _ _))
  have HCB := Aside0.mk (show ∀ j, (hj : j < s.size) → W1.cell? ⟨w.heap.size + 1, j, none⟩ = some (.int .u8 s[j].toNat) from fun j hj => by
    have := Lib.bytesWorld_cell W0 5 s j hj
    rw [← hW1, hz0] at this
    rw [this, List.getD_eq_getElem?_getD, List.getElem?_eq_getElem (by rw [← Lib.size_eq]; exact hj)]
    rfl)
  have e8 : (Lib.bytesWorld (w.alloc (.cells #[.pointer none, .slice none 0 0] 71)) 5 s) = W1 := by rw [hW1, hW0]
  rw [e8]
  clear hW0 hW1 e8 hz0
  obtain ⟨base, hbase⟩ : ∃ base, base = w.heap.size + 2 := ⟨_, rfl⟩
  rw [← hbase] at HBl hz1
  go_loopw [9] (fun i wr => ∃ k : Nat, k ≤ s.size ∧ i = .int .i64 k ∧ Aside0 (Bld wr w.heap.size base (secretL (s.data.toList.take k))) ∧ Aside0 (Keep2 base w.heap.size w.heap.size W1 wr)) (fun i _ => s.size - (intOf i).toNat)
  case atStart => exact ⟨0, Nat.zero_le _, rfl, HBl, ⟨Keep2.refl _ _ _ _⟩⟩
  case round =>
    obtain ⟨k, hk, rfl, HBr, HKr⟩ := hrel
    have hsz := HKr.out.size
    by_cases hlt : k < s.size
    · have hc : wr.cell? ⟨w.heap.size + 1, k, none⟩ = some (.int .u8 s[k].toNat) := (World.cell?_of_block (HKr.out.block (w.heap.size + 1) (by omega) (by omega) (by omega))).trans (HCB.out k hlt)
      have HS := Aside0.mk (secretL_step s k hlt)
      obtain ⟨l, hl⟩ : ∃ l, l = secretL (s.data.toList.take k) := ⟨_, rfl⟩
      have hll : l.length ≤ 3 * 4096 := by
        rw [hl]
        have := secretL_len (s.data.toList.take k)
        rw [List.length_take, ← Lib.size_eq] at this
        omega
      rw [← hl] at HS HBr
      obtain ⟨c, hcc⟩ : ∃ c, c = s[k] := ⟨_, rfl⟩
      rw [← hcc] at hc HS
      clear hcc hl
      have hc256 : c.toNat < 256 := c.toNat_lt
      cases hp : plainB c.toNat with
      | true =>
        have HX := Aside0.mk (show secretL (s.data.toList.take (k + 1)) = l ++ [c] by rw [HS.out, encB, if_pos hp])
        have HP := Aside0.mk (plain_is c.toNat wr true hp)
        clear hp HS
        go_wp2_with fail
        refine HP.out.mono ?_
        rintro e w' ⟨rfl, rfl⟩
        go_wp2_with fail
        refine (bld_byte w.heap.size base l c (c.toNat : Int) wr rfl HBr.out (by omega) (by omega)).mono ?_
        rintro e w2 ⟨rfl, hB2, hK2, -⟩
        have HB2 := Aside0.mk hB2
        have HK2 := Aside0.mk (HKr.out.trans hK2)
        clear hB2 hK2
        go_wp2
        go_roundw
        case rel => exact ⟨k + 1, by omega, by go_num, ⟨by rw [HX.out]; exact HB2.out⟩, HK2⟩
        case measure => simp [intOf]; omega
      | false =>
        have HX := Aside0.mk (show secretL (s.data.toList.take (k + 1)) = l ++ [37] ++ [hexC (c.toNat / 16)] ++ [hexC (c.toNat % 16)] by rw [HS.out, encB, if_neg (by rw [hp]; decide)]; simp)
        have HP := Aside0.mk (plain_is c.toNat wr false hp)
        clear hp HS
        go_wp2_with fail
        refine HP.out.mono ?_
        rintro e w' ⟨rfl, rfl⟩
        go_wp2_with fail
        refine (bld_byte w.heap.size base l 37 37 wr rfl HBr.out (by omega) (by omega)).mono ?_
        rintro e w2 ⟨rfl, hB2, hK2, -⟩
        have HB2 := Aside0.mk hB2
        have HK2 := Aside0.mk (HKr.out.trans hK2)
        have hs2 := hK2.size
        clear hB2 hK2 HBr HKr hc
        go_wp2_with fail
        refine (bld_byte w.heap.size base (l ++ [37]) (hexC (c.toNat / 16)) _ w2 (hex_at (c.toNat / 16) (by omega) _) HB2.out (by simp; omega) (by omega)).mono ?_
        rintro e w3 ⟨rfl, hB3, hK3, -⟩
        have HB3 := Aside0.mk hB3
        have HK3 := Aside0.mk (HK2.out.trans hK3)
        have hs3 := hK3.size
        clear hB3 hK3 HB2 HK2
        go_wp2_with fail
        refine (bld_byte w.heap.size base (l ++ [37] ++ [hexC (c.toNat / 16)]) (hexC (c.toNat % 16)) _ w3 (hex_at (c.toNat % 16) (by omega) _) HB3.out (by simp; omega) (by omega)).mono ?_
        rintro e w4 ⟨rfl, hB4, hK4, -⟩
        have HB4 := Aside0.mk hB4
        have HK4 := Aside0.mk (HK3.out.trans hK4)
        clear hB4 hK4 HB3 HK3
        go_wp2
        go_roundw
        case rel => exact ⟨k + 1, by omega, by go_num, ⟨by rw [HX.out]; exact HB4.out⟩, HK4⟩
        case measure => simp [intOf]; omega
    · have hend : s.data.toList.take k = s.data.toList := List.take_of_length_le (by rw [← Lib.size_eq]; omega)
      have HF := Aside0.mk (show Bld wr w.heap.size base (secretL s.data.toList) by have := HBr.out; rwa [hend] at this)
      have HKB := Aside0.mk (HKr.out.toBelow (B := w.heap.size) HB1.out (by omega) (Nat.le_refl _) (Nat.le_refl _))
      clear hend HBr
      go_wp2_with fail
      refine (bld_string w.heap.size base _ wr HF.out (by omega)).mono ?_
      rintro e w2 ⟨rfl, hb2⟩
      have HB2 := Aside0.mk (HKB.out.trans hb2)
      clear hb2
      go_wp2
      go_ret
      exact ⟨rfl, HB2.out⟩
end Go.Proofs.YtaeaakcppheaoaaDoor
namespace Go.Proofs.YtaeaakcppheaoaaDoor
open Go.RowKit Go.Proofs.YtaeaakcppheaoaaDoorW.PrintWords Go.Maps

def decS (n : Nat) : ByteArray := ofL (Lib.decDigits n)
def Tab (w : World) : Prop := Lib.TabIs Tryd.prog w "internal/strconv.uint64pow10" .u64 Lib.pow10Tab
theorem decS_size (n : Nat) (h : n ≤ 9999) : (decS n).size ≤ 21 := by
  unfold decS
  rw [Lib.size_eq, ofL_data, ← Lib.itoa_nonneg]
  exact Lib.itoa_length_le _ (by omega) (by omega)
theorem itoa_any (n : Nat) (w : World) (hn : n ≤ 9999) (ht : Tab w) :
    Calls Tryd.prog 37 #[.int .i64 (n : Int)] w fun e w' => e = .returned (.string (decS n)) ∧ Below w.heap.size w w' := by
  refine (Tryd.strconv_Itoa (n : Int) (by omega) (by omega) w ht).mono ?_
  rintro e w' ⟨rfl, k, os, rfl⟩
  refine ⟨by rw [Lib.itoa_nonneg]; rfl, ?_⟩
  exact Lib.below_grow _ w (Nat.le_refl _) k os

theorem hex_cut64 (w : World) (i : Int) (h0 : 0 ≤ i) (h2 : i ≤ 15) :
    (Instr.slice 9 (.string { data := #[48, 49, 50, 51, 52, 53, 54, 55, 56, 57, 97, 98, 99, 100, 101, 102] }) (some (.int .i64 i)) (some (.int .i64 (i + 1))) none).run Tryd.prog w = .ok (.string (hexE i (i + 1))) w :=
  run_slice_string w 9 hexS .i64 .i64 i (i + 1) Tryd.underlying9 h0 (by omega) (by show i + 1 ≤ 16; omega)
theorem dec_add (w : World) (m : Nat) (q : Int) (h : m ≤ 9999) (h0 : 0 ≤ q) : (Op.stringOp .add (decS m) (hexE q (q + 1))).run Tryd.prog w = .ok (.string (decS m ++ hexE q (q + 1))) w :=
  run_string_add_sum w _ _ (by have := decS_size m h; have := hexE_size q h0; omega)
theorem hexC_dig (d : Nat) (h : d < 10) : hexC d = UInt8.ofNat (48 + d) := by unfold hexC; rw [if_pos h]
theorem decS_step (n : Nat) (h : ¬ n < 10) : decS n = decS (n / 10) ++ hexE ((n : Int) % 10) ((n : Int) % 10 + 1) := by
  have e : (n : Int) % 10 = ((n % 10 : Nat) : Int) := by omega
  rw [e, hexE_at _ (by omega), hexC_dig _ (by omega)]
  unfold decS
  rw [Lib.decDigits, dif_neg h]
  exact (ByteArray.mk_append_mk _ _).symm
theorem decS_one (n : Nat) (h : n < 10) : decS n = hexE ((n : Int) % 10) ((n : Int) % 10 + 1) := by
  have e : (n : Int) % 10 = ((n : Nat) : Int) := by omega
  rw [e, hexE_at _ (by omega), hexC_dig _ h]
  unfold decS
  rw [Lib.decDigits_one h]
section
attribute [local go_sem high] hex_cut64 dec_add
set_option maxRecDepth 100000 in
set_option maxHeartbeats 4000000 in
theorem digits_any (f : Nat) : ∀ (n : Nat) (w : World), n < f → n ≤ 9999 →
    Calls Tryd.prog 41 #[.int .i64 (n : Int)] w fun e w' => e = .returned (.string (decS n)) ∧ w = w' := by
  induction f with
  | zero => intro n w h; omega
  | succ f ih =>
    intro n w hf hn
    obtain ⟨d, hd⟩ : ∃ d : Int, (n : Int) % 10 = d := ⟨_, rfl⟩
    have hni : (n : Int) ≤ 9999 := by omega
    by_cases h9 : 9 < n
    · have IH := Aside0.mk (ih (n / 10) w (by omega) (by omega))
      have h9i : (9 : Int) < (n : Int) := by omega
      have d0 : (0 : Int) ≤ d := by omega
      have d1 : d ≤ 15 := by omega
      have hS := decS_step n (by omega)
      rw [hd] at hS
      have HS := Aside0.mk hS
      clear hS
      obtain ⟨q, hq⟩ : ∃ q, q = n / 10 := ⟨_, rfl⟩
      have hqi : (n : Int) / 10 = (q : Int) := by omega
      have hq9 : q ≤ 9999 := by omega
      rw [← hq] at IH HS
      clear ih hq
      go_enter Tryd.func41, Tryd.ntmps41
      go_wp2_with fail
      refine IH.out.mono ?_
      rintro e w' ⟨rfl, rfl⟩
      go_wp2
      go_ret
      exact ⟨by rw [HS.out]; rfl, rfl⟩
    · have d0 : (0 : Int) ≤ d := by omega
      have d1 : d ≤ 15 := by omega
      have h9i : (n : Int) ≤ 9 := by omega
      have hS := decS_one n (by omega)
      rw [hd] at hS
      have HS := Aside0.mk hS
      clear hS
      clear ih
      go_enter Tryd.func41, Tryd.ntmps41
      go_wp2
      go_ret
      exact ⟨by rw [HS.out]; rfl, rfl⟩
end
end Go.Proofs.YtaeaakcppheaoaaDoor
namespace Go.Proofs.YtaeaakcppheaoaaDoor
open Go.RowKit Go.Proofs.YtaeaakcppheaoaaDoorW.PrintWords Go.Maps

def nameAt (given : List ByteArray) (i : Nat) : ByteArray := if i < given.length then given.getD i (ofL []) else nameS (i : Int)
/-- The names of the first labels, if they may be. -/
def namesO (given : List ByteArray) : Nat → Option (List ByteArray)
  | 0 => some []
  | k + 1 => (namesO given k).bind fun N => if 0 ≤ idxI N (nameAt given k) ∨ wordB (nameAt given k).data.toList = false then none else some (N ++ [nameAt given k])
/-- The compartments among the first bits; were there any? -/
def compT (c : Nat) : Nat → List UInt8 × Bool
  | 0 => ([], false)
  | b + 1 => if c / 2 ^ b % 2 = 1 then ((compT c b).1 ++ ((if (compT c b).2 then [44] else [32, 99, 111, 109, 112, 115, 32]) ++ Lib.decDigits b), true) else compT c b
def sepS (a : Bool) : ByteArray := if a then ⟨#[44]⟩ else ⟨#[32, 99, 111, 109, 112, 115, 32]⟩
def labH (x : ByteArray) (lev : Nat) : List UInt8 := [108, 97, 98, 101, 108, 32] ++ x.data.toList ++ [32, 108, 101, 118, 101, 108, 32] ++ Lib.decDigits lev
def labT (N : List ByteArray) (i : Nat) (l : Lab) : List UInt8 := labH (N.getD i (ofL [])) l.lev.toNat ++ (compT l.com.toNat 32).1 ++ [10]
def quoT (N : List ByteArray) (i : Nat) (q : Quo) : List UInt8 :=
  [113, 117, 111, 116, 97, 32] ++ (N.getD i (ofL [])).data.toList ++ [32, 99, 104, 97, 114, 115, 32] ++ Lib.decDigits q.chars.toNat ++ [32, 111, 112, 115, 32] ++ Lib.decDigits q.ops.toNat ++ [32, 115, 101, 97, 116, 115, 32] ++ Lib.decDigits q.seats.toNat ++ [10]
def entH (x s : ByteArray) : List UInt8 := [99, 108, 105, 101, 110, 116, 32] ++ x.data.toList ++ [32, 115, 101, 99, 114, 101, 116, 32] ++ secretL s.data.toList
def entT (N : List ByteArray) (e : Ent) : List UInt8 := entH (N.getD e.lab.toNat (ofL [])) e.sec ++ (if e.down then [32, 100, 111, 119, 110] else []) ++ [10]
def labsT (N : List ByteArray) (l : List Lab) : Nat → List UInt8
  | 0 => []
  | k + 1 => labsT N l k ++ labT N k (l.getD k ⟨0, 0⟩)
def quosT (N : List ByteArray) (l : List Quo) : Nat → List UInt8
  | 0 => []
  | k + 1 => quosT N l k ++ quoT N k (l.getD k ⟨0, 0, 0⟩)
def entsT (N : List ByteArray) (l : List Ent) : Nat → List UInt8
  | 0 => []
  | k + 1 => entsT N l k ++ entT N (l.getD k ⟨0, ofL [], false⟩)
def textT (N : List ByteArray) (p : Pol) : List UInt8 := labsT N p.labels p.labels.length ++ quosT N p.quotas p.quotas.length ++ entsT N p.entries p.entries.length
def printP (p : Pol) (given : List ByteArray) : ByteArray × Int :=
  if rightB p = true then
    match namesO given p.labels.length with
    | some N => (ofL (textT N p), 0)
    | none => (ofL [], 90)
  else (ofL [], 11)

theorem namesO_len {given : List ByteArray} : ∀ {k : Nat} {N : List ByteArray}, namesO given k = some N → N.length = k ∧ ∀ x ∈ N, wordB x.data.toList = true := by
  intro k
  induction k with
  | zero => intro N h; injection h with h; subst h; exact ⟨rfl, fun x hx => by cases hx⟩
  | succ k ih =>
    intro N h
    obtain ⟨M, hM, h⟩ := Option.bind_eq_some_iff.1 h
    obtain ⟨h1, h2⟩ := ih hM
    split at h
    · cases h
    · rename_i hc
      injection h with h
      subst h
      refine ⟨by rw [List.length_append, h1]; rfl, fun x hx => ?_⟩
      rcases List.mem_append.1 hx with hx | hx
      · exact h2 x hx
      · rw [List.mem_singleton.1 hx]
        by_cases hb : wordB (nameAt given k).data.toList = true
        · exact hb
        · exact absurd (.inr (by simpa using hb)) hc
theorem word_len {x : ByteArray} (h : wordB x.data.toList = true) : x.size ≤ 12 := by
  unfold wordB at h
  simp only [Bool.and_eq_true, decide_eq_true_eq] at h
  rw [Lib.size_eq]; exact h.2
/-- A policy that may be. -/
structure Fine (p : Pol) : Prop where
  n : p.labels.length ≤ 32
  q : p.quotas.length = p.labels.length
  e : p.entries.length ≤ 8
  lev : ∀ x ∈ p.labels, 0 ≤ x.lev ∧ x.lev ≤ 15
  quo : ∀ x ∈ p.quotas, quotaB x = true
  ent : ∀ x ∈ p.entries, 0 ≤ x.lab ∧ x.lab < (p.labels.length : Int) ∧ 1 ≤ x.sec.size ∧ x.sec.size ≤ 16
theorem fine_of {p : Pol} (h : rightB p = true) : Fine p := by
  unfold rightB at h
  simp only [Bool.and_eq_true] at h
  obtain ⟨⟨hs, hl⟩, he⟩ := h
  unfold sizesB at hs
  simp only [Bool.and_eq_true, decide_eq_true_eq] at hs
  obtain ⟨⟨⟨⟨d1, d2⟩, d3⟩, d4⟩, d5⟩ := hs
  have hk : ∀ k, k < p.labels.length → labOk p k = true := fun k hk => List.all_eq_true.1 hl k (List.mem_range.2 hk)
  refine ⟨d2, d3, d5, fun x hx => ?_, fun x hx => ?_, fun x hx => ?_⟩
  · obtain ⟨k, hkl, rfl⟩ := List.mem_iff_getElem.1 hx
    have := hk k hkl
    unfold labOk at this
    rw [rd_getElem _ _ k hkl] at this
    simp only [Bool.and_eq_true, decide_eq_true_eq] at this
    have h1 := this.1.1
    unfold checkN at h1
    split at h1
    · cases h1
    · omega
  · obtain ⟨k, hkl, rfl⟩ := List.mem_iff_getElem.1 hx
    have := hk k (by omega)
    unfold labOk at this
    rw [rd_getElem p.quotas _ k hkl] at this
    simp only [Bool.and_eq_true] at this
    exact this.2
  · have := List.all_eq_true.1 he x hx
    unfold entOk at this
    simp only [Bool.and_eq_true, decide_eq_true_eq] at this
    obtain ⟨⟨⟨a, b⟩, c⟩, d⟩ := this
    exact ⟨a, b, c, d⟩
theorem dec_len (n : Nat) (h : n ≤ 9999) : (Lib.decDigits n).length ≤ 21 := by
  have := decS_size n h
  unfold decS at this
  rwa [Lib.size_eq, ofL_data] at this
theorem compT_len (c : Nat) : ∀ b, b ≤ 9999 → (compT c b).1.length ≤ 28 * b := by
  intro b
  induction b with
  | zero => intro _; simp [compT]
  | succ b ih =>
    intro hb
    have := ih (by omega)
    have hd := dec_len b (by omega)
    unfold compT
    split
    · simp only [List.length_append]
      split <;> simp <;> omega
    · omega
theorem labT_len {N : List ByteArray} {i : Nat} {l : Lab} (hN : ∀ x ∈ N, x.size ≤ 12) (hl : l.lev.toNat ≤ 15) : (labT N i l).length ≤ 1000 := by
  have hx : (N.getD i (ofL [])).data.toList.length ≤ 12 := by
    rw [List.getD_eq_getElem?_getD]
    cases h : N[i]? with
    | none => simp [ofL]
    | some x => rw [← Lib.size_eq]; exact hN x (List.mem_of_getElem? h)
  have hc := compT_len l.com.toNat 32 (by omega)
  have hd := dec_len l.lev.toNat (by omega)
  unfold labT labH
  simp only [List.length_append, List.length_cons, List.length_nil]
  omega
theorem quoT_len {N : List ByteArray} {i : Nat} {q : Quo} (hN : ∀ x ∈ N, x.size ≤ 12) (hq : quotaB q = true) : (quoT N i q).length ≤ 1000 := by
  have hx : (N.getD i (ofL [])).data.toList.length ≤ 12 := by
    rw [List.getD_eq_getElem?_getD]
    cases h : N[i]? with
    | none => simp [ofL]
    | some x => rw [← Lib.size_eq]; exact hN x (List.mem_of_getElem? h)
  have hb := quotaB_yes q hq
  have h1 := dec_len q.chars.toNat (by omega)
  have h2 := dec_len q.ops.toNat (by omega)
  have h3 := dec_len q.seats.toNat (by omega)
  unfold quoT
  simp only [List.length_append, List.length_cons, List.length_nil]
  omega
theorem labsT_len {N : List ByteArray} {l : List Lab} (hN : ∀ x ∈ N, x.size ≤ 12) (hl : ∀ x ∈ l, 0 ≤ x.lev ∧ x.lev ≤ 15) : ∀ k, k ≤ l.length → (labsT N l k).length ≤ 1000 * k := by
  intro k
  induction k with
  | zero => intro _; simp [labsT]
  | succ k ih =>
    intro hk
    have h1 := ih (by omega)
    have h2 := labT_len (i := k) hN (l := l.getD k ⟨0, 0⟩) (by
      rw [rd_getElem l _ k (by omega)]
      have := hl _ (List.getElem_mem (show k < l.length by omega))
      omega)
    unfold labsT
    rw [List.length_append]; omega
theorem quosT_len {N : List ByteArray} {l : List Quo} (hN : ∀ x ∈ N, x.size ≤ 12) (hl : ∀ x ∈ l, quotaB x = true) : ∀ k, k ≤ l.length → (quosT N l k).length ≤ 1000 * k := by
  intro k
  induction k with
  | zero => intro _; simp [quosT]
  | succ k ih =>
    intro hk
    have h1 := ih (by omega)
    have h2 := quoT_len (i := k) hN (q := l.getD k ⟨0, 0, 0⟩) (by
      rw [rd_getElem l _ k (by omega)]
      exact hl _ (List.getElem_mem (show k < l.length by omega)))
    unfold quosT
    rw [List.length_append]; omega
theorem entT_len {N : List ByteArray} {e : Ent} (hN : ∀ x ∈ N, x.size ≤ 12) (he : e.sec.size ≤ 16) : (entT N e).length ≤ 1000 := by
  have hx : (N.getD e.lab.toNat (ofL [])).data.toList.length ≤ 12 := by
    rw [List.getD_eq_getElem?_getD]
    cases h : N[e.lab.toNat]? with
    | none => simp [ofL]
    | some x => rw [← Lib.size_eq]; exact hN x (List.mem_of_getElem? h)
  have hs := secretL_len e.sec.data.toList
  rw [← Lib.size_eq] at hs
  have hd : (if e.down then ([32, 100, 111, 119, 110] : List UInt8) else []).length ≤ 5 := by split <;> simp
  unfold entT entH
  simp only [List.length_append, List.length_cons, List.length_nil]
  omega
theorem entsT_len {N : List ByteArray} {l : List Ent} (hN : ∀ x ∈ N, x.size ≤ 12) (hl : ∀ x ∈ l, x.sec.size ≤ 16) : ∀ k, k ≤ l.length → (entsT N l k).length ≤ 1000 * k := by
  intro k
  induction k with
  | zero => intro _; simp [entsT]
  | succ k ih =>
    intro hk
    have h1 := ih (by omega)
    have h2 := entT_len hN (e := l.getD k ⟨0, ofL [], false⟩) (by
      rw [rd_getElem l _ k (by omega)]
      exact hl _ (List.getElem_mem (show k < l.length by omega)))
    unfold entsT
    rw [List.length_append]; omega
end Go.Proofs.YtaeaakcppheaoaaDoor
namespace Go.Proofs.YtaeaakcppheaoaaDoor
open Go.RowKit Go.Proofs.YtaeaakcppheaoaaDoorW.PrintWords Go.Maps

/-- A code's rest, from a region on. -/
def fromR (n : Nat) : Code → Option Code
  | .seq (.region id ops d) b => if id == n then some (.seq (.region id ops d) b) else fromR n b
  | .seq a b => match fromR n a with
    | some c => some c
    | none => fromR n b
  | .block _ c => fromR n c
  | .scope c => fromR n c
  | .loop c => fromR n c
  | .cond _ a b => match fromR n a with
    | some c => some c
    | none => fromR n b
  | _ => none
def headC : Code → Code
  | .seq a _ => a
  | c => c
def restC : Code → Code
  | .seq _ b => b
  | c => c
noncomputable def codeP (n : Nat) : Code := (Tryd.f22.body.bind (fromR n)).getD .skip
/-- A code's region. -/
def findR (n : Nat) : Code → Option Code
  | .region id ops d => if id == n then some (.region id ops d) else none
  | .seq a b => match findR n a with
    | some c => some c
    | none => findR n b
  | .block _ c => findR n c
  | .scope c => findR n c
  | .loop c => findR n c
  | .cond _ a b => match findR n a with
    | some c => some c
    | none => findR n b
  | _ => none
noncomputable def regP (n : Nat) : Code := (Tryd.f22.body.bind (findR n)).getD .skip
/-- Two texts, one behind the other. -/
def cat (a b : ByteArray) : ByteArray := a ++ b
def Short (a : ByteArray) : Prop := a.size ≤ 40000
theorem cat_add (w : World) (a b : ByteArray) (ha : Short a) (hb : Short b) : (Op.stringOp .add a b).run Tryd.prog w = .ok (.string (cat a b)) w :=
  run_string_add_sum w _ _ (by unfold Short at ha hb; omega)
theorem cat_data (a b : ByteArray) : (cat a b).data.toList = a.data.toList ++ b.data.toList := by
  obtain ⟨⟨a⟩⟩ := a
  obtain ⟨⟨b⟩⟩ := b
  unfold cat
  rw [ByteArray.mk_append_mk]
theorem cat_size (a b : ByteArray) : (cat a b).size = a.size + b.size := by unfold cat; exact ByteArray.size_append
theorem Bld.drew {w : World} {b base : Nat} {l : List UInt8} (h : Bld w b base l) : Bld w.drew b base l := h.below (below_drew (Below.refl _ _))
theorem le_drew {W w : World} (h : Below W.drew.heap.size W.drew w) : W.heap.size ≤ w.heap.size := h.size
theorem below_of_drew {W w : World} (h : Below W.drew.heap.size W.drew w) : Below W.heap.size W w := below_step (below_drew (Below.refl _ _)) h
/-- What lies behind a policy that is printed, ahead of the builder. -/
structure PrL (p : Pol) (N : List ByteArray) (wL : World) (pb : Nat) (A0 A1 A2 An : Option Addr) (c0 c1 c2 cn : Nat) : Prop where
  box : wL.heap[pb]? = some (.cells #[.slice A0 p.labels.length c0, .slice A1 p.quotas.length c1, .slice A2 p.entries.length c2] 27 (0, 0))
  C0 : Kd.C kLab wL A0 p.labels.length p.labels
  C1 : Kd.C kQuo wL A1 p.quotas.length p.quotas
  C2 : Kd.C kEnt wL A2 p.entries.length p.entries
  CN : Kd.C Kd.string wL An N.length N
  fine : Fine p
  com : ∀ x ∈ p.labels, 0 ≤ x.com ∧ x.com ≤ 4294967295
  len : N.length = p.labels.length
  words : ∀ x ∈ N, x.size ≤ 12
  tab : Tab wL
/-- The builder and what was written. -/
structure PrW (wL W : World) (b base : Nat) (T : List UInt8) : Prop where
  bl : Bld W b base T
  be : Below wL.heap.size wL W
  hb : b = wL.heap.size
  lt : b < base
  sz : base ≤ W.heap.size
theorem PrW.step {wL w w' : World} {b base : Nat} {T T' : List UInt8} (h : PrW wL w b base T) (hB : Bld w' b base T') (hK : Keep2 base b b w w') : PrW wL w' b base T' :=
  ⟨hB, hK.toBelow h.be (by have := h.hb; have := h.lt; omega) (by rw [h.hb]; exact Nat.le_refl _) (by rw [h.hb]; exact Nat.le_refl _), h.hb, h.lt, Nat.le_trans h.sz hK.size⟩
theorem PrW.below {wL w w' : World} {b base : Nat} {T : List UInt8} (h : PrW wL w b base T) (hb : Below w.heap.size w w') : PrW wL w' b base T :=
  ⟨h.bl.below hb, below_step h.be hb, h.hb, h.lt, Nat.le_trans h.sz hb.size⟩
theorem tab_below {w w' : World} (h : Tab w) (hb : Below w.heap.size w w') : Tab w' :=
  Joins.tab_stays (g := 3) (by kernel_rfl) h hb (Nat.le_refl _)
/-- What is at hand where a line is put together. -/
structure PrQ (wL : World) (b base : Nat) (T : List UInt8) (A : Addr) (x : ByteArray) (g ty : Nat) (cs : Array Value) (W : World) : Prop where
  w : PrW wL W b base T
  t : Tab W
  x : W.cell? A = some (.string x)
  box : W.heap[g]? = some (.cells cs ty (0, 0))
theorem PrQ.below {wL w w' : World} {b base : Nat} {T : List UInt8} {A : Addr} {x : ByteArray} {g ty : Nat} {cs : Array Value} (h : PrQ wL b base T A x g ty cs w) (hb : Below w.heap.size w w') : PrQ wL b base T A x g ty cs w' :=
  ⟨h.w.below hb, tab_below h.t hb, pw_cell_below hb h.x, blk_below h.box hb⟩
theorem PrQ.drew {wL w : World} {b base : Nat} {T : List UInt8} {A : Addr} {x : ByteArray} {g ty : Nat} {cs : Array Value} (h : PrQ wL b base T A x g ty cs w) : PrQ wL b base T A x g ty cs w.drew :=
  h.below (below_drew (Below.refl _ _))
theorem itoa_is (n : Nat) (w : World) (hn : n ≤ 9999) (ht : Tab w) (t : ByteArray) (h : decS n = t) :
    Calls Tryd.prog 37 #[.int .i64 (n : Int)] w fun e w' => e = .returned (.string t) ∧ Below w.heap.size w w' := by
  rw [← h]; exact itoa_any n w hn ht
def quoL (x : ByteArray) (a1 a2 a3 : Nat) : List UInt8 :=
  [113, 117, 111, 116, 97, 32] ++ x.data.toList ++ [32, 99, 104, 97, 114, 115, 32] ++ Lib.decDigits a1 ++ [32, 111, 112, 115, 32] ++ Lib.decDigits a2 ++ [32, 115, 101, 97, 116, 115, 32] ++ Lib.decDigits a3 ++ [10]
theorem secret_is (s : ByteArray) (w : World) (hs : s.size ≤ 4096) (t : ByteArray) (ht : ofL (secretL s.data.toList) = t) :
    Calls Tryd.prog 38 #[.string s] w fun e w' => e = .returned (.string t) ∧ Below w.heap.size w w' := by
  rw [← ht]; exact secret_any s w hs
end Go.Proofs.YtaeaakcppheaoaaDoor
