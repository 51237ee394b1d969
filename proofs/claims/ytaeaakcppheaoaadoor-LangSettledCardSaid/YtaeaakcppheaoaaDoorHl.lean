/- What the reader's method quota does. -/
import Derived.Test.YtaeaakcppheaoaaDoorHj
namespace Go.Proofs.YtaeaakcppheaoaaDoor
open Go.RowKit Go.Proofs.YtaeaakcppheaoaaDoorW.PrintWords Go.Maps

/-- A quota's line. -/
def quotaP (s : St) (l : List ByteArray) : Option St :=
  if l.length = 8 ∧ l.getD 2 (ofL []) = ofL [99, 104, 97, 114, 115] ∧ l.getD 4 (ofL []) = ofL [111, 112, 115] ∧ l.getD 6 (ofL []) = ofL [115, 101, 97, 116, 115] ∧
      0 ≤ idxI s.names (l.getD 1 (ofL [])) ∧ numB (l.getD 3 (ofL [])).data.toList = true ∧ numB (l.getD 5 (ofL [])).data.toList = true ∧ numB (l.getD 7 (ofL [])).data.toList = true ∧
      s.told.getD (idxI s.names (l.getD 1 (ofL []))).toNat false = false ∧
      numV (l.getD 3 (ofL [])).data.toList ≤ 4096 ∧ numV (l.getD 5 (ofL [])).data.toList ≤ 4096 ∧ numV (l.getD 7 (ofL [])).data.toList ≤ 4096 then
    some { s with
      quotas := s.quotas.set (idxI s.names (l.getD 1 (ofL []))).toNat ⟨numV (l.getD 3 (ofL [])).data.toList, numV (l.getD 5 (ofL [])).data.toList, numV (l.getD 7 (ofL [])).data.toList⟩
      told := s.told.set (idxI s.names (l.getD 1 (ofL []))).toNat true }
  else none
/-- A client's line. -/
def clientP (s : St) (l : List ByteArray) : Option St :=
  if (l.length = 4 ∨ l.length = 5 ∧ l.getD 4 (ofL []) = ofL [100, 111, 119, 110]) ∧ l.getD 2 (ofL []) = ofL [115, 101, 99, 114, 101, 116] ∧ s.entries.length < 8 ∧
      0 ≤ idxI s.names (l.getD 1 (ofL [])) ∧ (meantP (l.getD 3 (ofL [])).data.toList).2 = true then
    some { s with entries := s.entries ++ [⟨idxI s.names (l.getD 1 (ofL [])), (meantP (l.getD 3 (ofL [])).data.toList).1, decide (l.length = 5)⟩] }
  else none
theorem lookup_bool {w : World} {b n : Nat} {D : DataW Unit} (h : w.ownsMap Tryd.prog 3 (plainElem Tryd.prog 4) b n D) (i : Nat) (hi : i < 32) :
    ∃ c, (Instr.lookup 53 (.map (some b)) (.int .i64 (i : Int)) false).run Tryd.prog w = .ok (.bool c) w ∧ D.atKey (.int .i64 (i : Int)) (.lit (.bool false)) = .lit (.bool c) := by
  have hz : (zeroValue 4).run Tryd.prog w = .ok (.bool false) w := by kernel_rfl
  have hw : (Lit.int .i64 (i : Int)).wf = true := WalkArith.wf_i64 (by omega)
  obtain ⟨v, ps, hrun, hv⟩ := h.lookup (Maps.int_keyed Tryd.underlying3) Tryd.underlying53 hz (plainElem_bool Tryd.underlying4 false) (Maps.keyOf_int_mk Tryd.underlying3 hw)
  cases v with
  | bool c =>
    refine ⟨c, hrun, ?_⟩
    rw [plainElem_bool Tryd.underlying4] at hv
    simp only [Option.some.injEq, Prod.mk.injEq] at hv
    exact hv.1.symm
  | _ => simp [plainElem, Tryd.underlying4] at hv
theorem find_at (A : Option Addr) (c : Nat) (l : List ByteArray) (s : ByteArray) (w : World) (hr : Kd.C Kd.string w A l.length l) (i : Int) (b : Bool) (hi : idxI l s = i) (h : decide (0 ≤ i) = b) :
    Calls Tryd.prog 35 #[.slice A l.length c, .string s] w fun e w' => e = .returned (.tuple #[.int .i64 i, .bool b]) ∧ Below w.heap.size w w' := by
  have := find_is A c l s w hr b (by rw [hi]; exact h)
  rwa [hi] at this

def mxI (a b : Int) : Int := if a < b then b else a
theorem mxI_le {a b c : Int} (h1 : a ≤ c) (h2 : b ≤ c) : mxI a b ≤ c := by unfold mxI; split <;> assumption
theorem lt_mxI {a b c : Int} (h : c < a ∨ c < b) : c < mxI a b := by unfold mxI; split <;> omega
theorem max2_int (k k' : IntKind) (x y : Int) : Builtin.max2 (.int k x) (.int k' y) = pure (.int k (mxI x y)) := by simp only [Builtin.max2, gt_iff_lt, mxI]
/-- A reader's quota, and that it was told. -/
theorem rdr_set_quota {w w6 : World} {base g m N nD k cap gq : Nat} {s : St} {vn vl ve : Value} {D : DataW Unit} {q : Quo}
    (hg : w.heap[g]? = some (.cells #[vn, vl, .slice (some ⟨gq, 0, none⟩) s.quotas.length cap, ve, .map (some m)] 56 (0, 0))) (hn : Kd.R Kd.string 9 w base (fun k => k < N) vn s.names) (hl : Kd.R kLab 66 w base (fun k => k < N) vl s.labels)
    (hq : Kd.R kQuo 49 w base (fun k => k < N) (.slice (some ⟨gq, 0, none⟩) s.quotas.length cap) s.quotas) (he : Kd.R kEnt 51 w base (fun k => k < N) ve s.entries) (hc : nD ≤ s.told.count true) (hD : MapSays D s.told)
    (hm : w.ownsMap Tryd.prog 3 (plainElem Tryd.prog 4) m nD D) (hk : k < s.quotas.length) (hk32 : k < 32) (ht : s.told.length = s.quotas.length) (hf : s.told.getD k false = false)
    (hm6 : w6.ownsMap Tryd.prog 3 (plainElem Tryd.prog 4) m (nD + 1) (D.put (.int .i64 (k : Int)) (.lit (.bool true)))) (hgrow : w.grownBy w6 (some m)) (hbase : base ≤ w.heap.size) (W : World)
    (hW : W = w6.setCells gq (k * 3) [.int .i64 q.chars, .int .i64 q.ops, .int .i64 q.seats]) :
    Rdr W base g m W.heap.size { s with quotas := s.quotas.set k q, told := s.told.set k true } ∧ Keep2 base g m w W := by
  subst hW
  have hmt : ∀ {α : Type} {d : Kd α} {e : Nat} {v : Value} {xs : List α}, Kd.R d e w base (fun k => k < N) v xs → Kd.R d e w base (fun k => k < N ∧ k ≠ m) v xs := by
    intro α d e v xs h
    refine Kd.R_mono (Kd.R_bound h) (fun k hk => ⟨hk.1, fun e => ?_⟩)
    obtain ⟨_, _, _, q, _, cells, hcc⟩ := hk
    obtain ⟨es, cl, hh, _⟩ := hm
    rw [e, hh] at hcc; cases hcc
  have up : ∀ {α : Type} {d : Kd α} {e : Nat} {v : Value} {xs : List α}, Kd.R d e w base (fun k => k < N) v xs → Kd.R d e w6 base (fun k => k < N ∧ k ≠ m) v xs := fun h =>
    Kd.R_grown (hmt h) hgrow (fun k hk => by intro e; injection e with e; exact hk.2 e)
  have hq6 := up hq
  obtain ⟨c, hcl, hM, hcc, hfr⟩ := Kd.R_elem hq6 ⟨0, 0, 0⟩ (k : Int) (by omega) (by omega)
  have hseg := Kd.R_seg (okp := fun _ => False) hq6 (k : Int) (by omega) (by omega) (c := c) (seg := [.int .i64 q.chars, .int .i64 q.ops, .int .i64 q.seats]) (j := 0) hcl hcc (Nat.le_refl 3) (x' := q)
    (by
      have : c.drop 3 = [] := List.drop_of_length_le (by rw [hcl]; decide)
      simp only [List.take_zero, List.nil_append, List.length_cons, List.length_nil, Nat.zero_add]
      rw [this, List.append_nil]
      exact kQuo_mk _ _ _ q) (fun k hk => hk.elim)
  have hsz : kQuo.sz = 3 := rfl
  rw [Int.toNat_natCast, Nat.add_zero, hsz] at hseg
  obtain ⟨hq7, hgrow7⟩ := hseg
  have over : ∀ {α : Type} {d : Kd α} {e : Nat} {v : Value} {xs : List α}, Kd.R d e w base (fun k => k < N) v xs → (∀ q, q ∈ e :: d.E → q ≠ 49) →
      Kd.R d e (w6.setCells gq (k * 3) [.int .i64 q.chars, .int .i64 q.ops, .int .i64 q.seats]) base (fun z => z < (w6.setCells gq (k * 3) [.int .i64 q.chars, .int .i64 q.ops, .int .i64 q.seats]).heap.size) v xs := by
    intro α d e v xs h hE
    have h6 := R_other (up h) hq6 hE
    have h7 := Kd.R_grown h6 hgrow7 (fun k hk => hk.2)
    exact Kd.R_mono (Kd.R_bound h7) (fun k hk => hk.2.2.1)
  have hgm : g ≠ m := by
    intro e
    subst e
    obtain ⟨es, cl, hh, _⟩ := hm
    rw [hg] at hh; cases hh
  have hgg : some g ≠ some gq := Kd.R_ne hq hg (by decide)
  have hmg : some m ≠ some gq := by
    intro e
    injection e with e
    have := hq6.1 gq rfl
    exact this.2 e.symm
  have hg7 := blk_grown (blk_grown hg hgrow (fun e => hgm (by injection e))) hgrow7 hgg
  have hk2 : k < s.told.length := by omega
  have hf2 : s.told[k] = false := by rw [← hf, rd_getElem _ _ k hk2]
  have hq8 : Kd.R kQuo 49 (w6.setCells gq (k * 3) [.int .i64 q.chars, .int .i64 q.ops, .int .i64 q.seats]) base (fun z => z < (w6.setCells gq (k * 3) [.int .i64 q.chars, .int .i64 q.ops, .int .i64 q.seats]).heap.size) (.slice (some ⟨gq, 0, none⟩) s.quotas.length cap) (s.quotas.set k q) :=
    Kd.R_mono (Kd.R_bound hq7) (fun k hk => hk.2.2.1)
  refine ⟨⟨vn, vl, _, ve, _, nD + 1, hg7, over hn (by decide), over hl (by decide), hq8, over he (by decide), hm6.kept hgrow7 hmg, ?_, ?_⟩, ?_⟩
  · rw [List.count_set hk2, hf2]
    simp
    exact hc
  · intro i hi
    have e : (s.told.set k true).getD i false = if i = k then true else s.told.getD i false := by
      rw [List.getD_eq_getElem?_getD, List.getD_eq_getElem?_getD, List.getElem?_set]
      by_cases hik : k = i
      · subst hik; rw [if_pos rfl, if_pos hk2, if_pos rfl]; rfl
      · rw [if_neg hik, if_neg (fun h => hik h.symm)]
    rw [e]
    by_cases hik : i = k
    · subst hik
      rw [if_pos rfl, Maps.atKey_put_same (k := .int .i64 (i : Int)) _ trivial]
      obtain ⟨es, cl, hh, _, _, rfl⟩ := hm
      exact ⟨_, rfl⟩
    · rw [if_neg hik, Maps.atKey_put_other (fun h => hik (by injection h with _ h; omega)), hD i hi]
  · refine (Keep2.grown hgrow hbase (fun k hk => .inr (.inr (by injection hk with hk; exact hk.symm)))).trans (Keep2.grown hgrow7 (Nat.le_trans hbase hgrow.size) (fun k hk => .inl ?_))
    injection hk with hk
    subst hk
    exact Kd.R_base hq6 _ rfl
theorem max_three (ats : Array TypeId) (ty : TypeId) (a b c : Value) : Builtin.max_ ats ty #[a, b, c] = (Builtin.max2 a b >>= fun s => Builtin.max2 s c >>= fun s => pure s) := by simp only [Builtin.max_, List.foldlM_cons, List.foldlM_nil]
attribute [local go_sem] max2_int max_three
set_option maxRecDepth 100000 in
set_option maxHeartbeats 4000000 in
theorem quota_line (base g m N : Nat) (s : St) (A : Option Addr) (c : Nat) (l : List ByteArray) (w : World) (hR : Rdr w base g m N s) (hf : s.Fits) (hN : N ≤ w.heap.size) (hbase : base ≤ N)
    (hr : Kd.C Kd.string w A l.length l) :
    Calls Tryd.prog 47 #[.pointer (some ⟨g, 0, none⟩), .slice A l.length c] w (LinePost base g m w s (quotaP s l)) := by
  have HR := Aside0.mk hR
  have Hr := Aside0.mk hr
  have HF := Aside0.mk hf
  clear hR hr hf
  have hfail : ¬ (l.length = 8 ∧ l.getD 2 (ofL []) = ofL [99, 104, 97, 114, 115] ∧ l.getD 4 (ofL []) = ofL [111, 112, 115] ∧ l.getD 6 (ofL []) = ofL [115, 101, 97, 116, 115] ∧
      0 ≤ idxI s.names (l.getD 1 (ofL [])) ∧ numB (l.getD 3 (ofL [])).data.toList = true ∧ numB (l.getD 5 (ofL [])).data.toList = true ∧ numB (l.getD 7 (ofL [])).data.toList = true ∧
      s.told.getD (idxI s.names (l.getD 1 (ofL []))).toNat false = false ∧
      numV (l.getD 3 (ofL [])).data.toList ≤ 4096 ∧ numV (l.getD 5 (ofL [])).data.toList ≤ 4096 ∧ numV (l.getD 7 (ofL [])).data.toList ≤ 4096) → quotaP s l = none := fun h => if_neg h
  have HX := Aside0.mk hfail
  clear hfail
  by_cases hl : l.length = 8
  · obtain ⟨b, o, rfl, hc1⟩ := str_at Hr.out 1 (by omega)
    have hat : ∀ k, k < l.length → w.cell? ⟨b, o + k, none⟩ = some (.string (l.getD k (ofL []))) := by
      intro k hk
      obtain ⟨b2, o2, hA, hc2⟩ := str_at Hr.out k hk
      injection hA with hA
      injection hA with h1 h2
      subst h1 h2
      rw [rd_getElem l _ k hk]; exact hc2
    obtain ⟨x1, hx1⟩ : ∃ x, x = l.getD 1 (ofL []) := ⟨_, rfl⟩
    obtain ⟨x2, hx2⟩ : ∃ x, x = l.getD 2 (ofL []) := ⟨_, rfl⟩
    obtain ⟨x3, hx3⟩ : ∃ x, x = l.getD 3 (ofL []) := ⟨_, rfl⟩
    obtain ⟨x4, hx4⟩ : ∃ x, x = l.getD 4 (ofL []) := ⟨_, rfl⟩
    obtain ⟨x5, hx5⟩ : ∃ x, x = l.getD 5 (ofL []) := ⟨_, rfl⟩
    obtain ⟨x6, hx6⟩ : ∃ x, x = l.getD 6 (ofL []) := ⟨_, rfl⟩
    obtain ⟨x7, hx7⟩ : ∃ x, x = l.getD 7 (ofL []) := ⟨_, rfl⟩
    have c1 : w.cell? ⟨b, o + 1, none⟩ = some (.string x1) := by rw [hx1]; exact hat 1 (by omega)
    have c2 : w.cell? ⟨b, o + 2, none⟩ = some (.string x2) := by rw [hx2]; exact hat 2 (by omega)
    have c3 : w.cell? ⟨b, o + 3, none⟩ = some (.string x3) := by rw [hx3]; exact hat 3 (by omega)
    have c4 : w.cell? ⟨b, o + 4, none⟩ = some (.string x4) := by rw [hx4]; exact hat 4 (by omega)
    have c5 : w.cell? ⟨b, o + 5, none⟩ = some (.string x5) := by rw [hx5]; exact hat 5 (by omega)
    have c6 : w.cell? ⟨b, o + 6, none⟩ = some (.string x6) := by rw [hx6]; exact hat 6 (by omega)
    have c7 : w.cell? ⟨b, o + 7, none⟩ = some (.string x7) := by rw [hx7]; exact hat 7 (by omega)
    have HD := Aside0.mk (show quotaP s l = if l.length = 8 ∧ x2 = ofL [99, 104, 97, 114, 115] ∧ x4 = ofL [111, 112, 115] ∧ x6 = ofL [115, 101, 97, 116, 115] ∧
      0 ≤ idxI s.names x1 ∧ numB x3.data.toList = true ∧ numB x5.data.toList = true ∧ numB x7.data.toList = true ∧
      s.told.getD (idxI s.names x1).toNat false = false ∧
      numV x3.data.toList ≤ 4096 ∧ numV x5.data.toList ≤ 4096 ∧ numV x7.data.toList ≤ 4096 then
      some { s with quotas := s.quotas.set (idxI s.names x1).toNat ⟨numV x3.data.toList, numV x5.data.toList, numV x7.data.toList⟩, told := s.told.set (idxI s.names x1).toNat true } else none by
      rw [hx1, hx2, hx3, hx4, hx5, hx6, hx7]; rfl)
    clear hat hc1 hx1 hx2 hx3 hx4 hx5 hx6 hx7 HX
    have HL := Aside0.mk hl
    rw [hl]
    clear hl
    by_cases hform : (x2.toList == [99, 104, 97, 114, 115]) = true ∧ (x4.toList == [111, 112, 115]) = true ∧ (x6.toList == [115, 101, 97, 116, 115]) = true
    · obtain ⟨e2, e4, e6⟩ := hform
      have E := Aside0.mk (show x2 = ofL [99, 104, 97, 114, 115] ∧ x4 = ofL [111, 112, 115] ∧ x6 = ofL [115, 101, 97, 116, 115] by
        rw [str_eq] at e2 e4 e6; exact ⟨of_decide_eq_true e2, of_decide_eq_true e4, of_decide_eq_true e6⟩)
      obtain ⟨i, hi⟩ : ∃ i, idxI s.names x1 = i := ⟨_, rfl⟩
      obtain ⟨v3, hv3⟩ : ∃ v, numV x3.data.toList = v := ⟨_, rfl⟩
      obtain ⟨v5, hv5⟩ : ∃ v, numV x5.data.toList = v := ⟨_, rfl⟩
      obtain ⟨v7, hv7⟩ : ∃ v, numV x7.data.toList = v := ⟨_, rfl⟩
      obtain ⟨b3, hb3⟩ : ∃ v, numB x3.data.toList = v := ⟨_, rfl⟩
      obtain ⟨b5, hb5⟩ : ∃ v, numB x5.data.toList = v := ⟨_, rfl⟩
      obtain ⟨b7, hb7⟩ : ∃ v, numB x7.data.toList = v := ⟨_, rfl⟩
      have HD2 := Aside0.mk (show quotaP s l = if 0 ≤ i ∧ b3 = true ∧ b5 = true ∧ b7 = true ∧ s.told.getD i.toNat false = false ∧ v3 ≤ 4096 ∧ v5 ≤ 4096 ∧ v7 ≤ 4096 then
          some { s with quotas := s.quotas.set i.toNat ⟨v3, v5, v7⟩, told := s.told.set i.toNat true } else none by
        rw [HD.out, hi, hv3, hv5, hv7, hb3, hb5, hb7]
        by_cases h : 0 ≤ i ∧ b3 = true ∧ b5 = true ∧ b7 = true ∧ s.told.getD i.toNat false = false ∧ v3 ≤ 4096 ∧ v5 ≤ 4096 ∧ v7 ≤ 4096
        · rw [if_pos h, if_pos ⟨HL.out, E.out.1, E.out.2.1, E.out.2.2, h⟩]
        · rw [if_neg h, if_neg (fun h2 => h h2.2.2.2.2)])
      have Hi := Aside0.mk hi
      have H3 := Aside0.mk (And.intro hv3 hb3)
      have H5 := Aside0.mk (And.intro hv5 hb5)
      have H7 := Aside0.mk (And.intro hv7 hb7)
      have hilt : i < 32 := by
        have hn := HF.out.n
        rw [← hi]
        unfold idxI
        split <;> omega
      clear hi hv3 hb3 hv5 hb5 hv7 hb7 HD
      cases hb : decide (0 ≤ i)
      all_goals
        have Hb := Aside0.mk hb
        clear hb
        go_enter Tryd.func47, Tryd.ntmps47
        go_wp2
        obtain ⟨An, cn, hgn, hCn⟩ := rdr_names HR.out
        have HCn := Aside0.mk hCn
        have s0 : ∀ n : Later w, n.w.cell? ⟨g, 0, none⟩ = some (.slice An s.names.length cn) := later_cell hgn
        have s1 : ∀ n : Later w, n.w.cell? ⟨b, o + 1, none⟩ = some (.string x1) := later_cell c1
        clear hCn hgn
        refine wp_region_later (by kernel_rfl) (by kernel_rfl) ?_
        repeat (go_big_quiet_step (exact calls_later (find_at _ _ _ _ _ (later_C HCn.out _) _ _ Hi.out Hb.out)))
        refine wpQuiet_nil (later_elim fun w2 hb2 => ?_)
        have HB2 := Aside0.mk hb2
        have c3' := pw_cell_below HB2.out c3
        clear s0 s1 hb2 HCn
        go_wp2_with fail
        refine (number_is _ _ v3 b3 H3.out.1 H3.out.2).mono ?_
        rintro e w3 ⟨rfl, hb3⟩
        have HB3 := Aside0.mk (below_step HB2.out hb3)
        have c5' := pw_cell_below HB3.out c5
        clear hb3 HB2 c3'
        go_wp2_with fail
        refine (number_is _ _ v5 b5 H5.out.1 H5.out.2).mono ?_
        rintro e w4 ⟨rfl, hb4⟩
        have HB4 := Aside0.mk (below_step HB3.out hb4)
        have c7' := pw_cell_below HB4.out c7
        clear hb4 HB3 c5'
        go_wp2_with fail
        refine (number_is _ _ v7 b7 H7.out.1 H7.out.2).mono ?_
        rintro e w5 ⟨rfl, hb5⟩
        have HB5 := Aside0.mk (below_step HB4.out hb5)
        clear hb5 HB4 c7'
      · have Hq := Aside0.mk (show quotaP s l = none by rw [HD2.out, if_neg]; intro h; have := of_decide_eq_false Hb.out; exact this h.1)
        go_wp2
        go_ret
        exact line_fails Hq.out HR.out HB5.out (by omega)
      · have h0 := of_decide_eq_true Hb.out
        obtain ⟨k, rfl⟩ := Int.eq_ofNat_of_zero_le h0
        have HR5 := Aside0.mk (HR.out.keep HB5.out)
        have hm5 : w5.cell? ⟨g, 4, none⟩ = some (.map (some m)) := by
          obtain ⟨vn, vl, vq, ve, D, n, hg, hn, hl, hq, he, hm, hc, hD⟩ := HR5.out
          exact blk_cell hg 4
        have hlk : ∃ cb, (Instr.lookup 53 (.map (some m)) (.int .i64 (k : Int)) false).run Tryd.prog w5 = .ok (.bool cb) w5 ∧ s.told.getD k false = cb := by
          obtain ⟨vn, vl, vq, ve, D, n, hg, hn, hl, hq, he, hm, hc, hD⟩ := HR5.out
          obtain ⟨cb, h1, h2⟩ := lookup_bool hm k (by omega)
          refine ⟨cb, h1, ?_⟩
          rw [hD k (by omega)] at h2
          injection h2 with h2
          injection h2
        obtain ⟨cb, hrun, hcb⟩ := hlk
        have Hcb := Aside0.mk hcb
        clear hcb h0
        by_cases hok : b3 = true ∧ b5 = true ∧ b7 = true ∧ cb = false ∧ v3 ≤ 4096 ∧ v5 ≤ 4096 ∧ v7 ≤ 4096
        · obtain ⟨rfl, rfl, rfl, rfl, o3, o5, o7⟩ := hok
          replace o3 : (v3 : Int) ≤ 4096 := by omega
          replace o5 : (v5 : Int) ≤ 4096 := by omega
          replace o7 : (v7 : Int) ≤ 4096 := by omega
          have hmx : mxI (mxI v3 v5) v7 ≤ 4096 := mxI_le (mxI_le o3 o5) o7
          have HS := Aside0.mk (show quotaP s l = some { s with quotas := s.quotas.set k ⟨v3, v5, v7⟩, told := s.told.set k true } by
            rw [HD2.out, if_pos]
            · rfl
            · exact ⟨of_decide_eq_true Hb.out, rfl, rfl, rfl, Hcb.out, by omega, by omega, by omega⟩)
          clear o3 o5 o7
          obtain ⟨vn, vl, vq, ve, D, nD, hg, hn, hl, hq, he, hm, hc, hD⟩ := HR5.out
          have hkl : k < s.names.length := by
            have := Hi.out
            unfold idxI at this
            split at this <;> omega
          have hkq : k < s.quotas.length := by rw [HF.out.q]; exact hkl
          obtain ⟨gq, capq, rfl, hgb, hglt, cellsq, hcq⟩ := Kd.R_form hq (by omega)
          have g2 := blk_cell hg 2
          have hgm : g ≠ m := HR5.out.lt.2.2
          have hnD : nD ≤ 32 := by
            have h1 := List.count_le_length (a := true) (l := s.told)
            have h2 := HF.out.n
            rw [HF.out.t] at h1; omega
          have P := Aside0.mk (fun (w6 W : World) h6 hgr hW => rdr_set_quota (w6 := w6) (W := W) (q := ⟨v3, v5, v7⟩) hg hn hl hq he hc hD hm hkq (by omega) (by rw [HF.out.t, HF.out.q]) Hcb.out h6 hgr (by have := HB5.out.size; omega) hW)
          have HQ := Aside0.mk hq
          have HM := Aside0.mk hm
          have Hg := Aside0.mk hg
          have hwf : (Lit.int .i64 (k : Int)).wf = true := WalkArith.wf_i64 (by omega)
          have hgqm : gq ≠ m := by
            intro e
            obtain ⟨es, cl, hh, _⟩ := hm
            rw [e, hh] at hcq; cases hcq
          obtain ⟨cq, hcql, hMq, hccq, hfrq⟩ := Kd.R_elem hq ⟨0, 0, 0⟩ (k : Int) (by omega) (by omega)
          rw [Int.toNat_natCast] at hccq hfrq hMq
          obtain rfl := kQuo_open (kQuo.K_of_M hMq)
          have q0 : w5.cell? ⟨gq, k * 3, none⟩ = _ := hccq 0 _ rfl
          have q1 : w5.cell? ⟨gq, k * 3 + 1, none⟩ = _ := hccq 1 _ rfl
          have q2 : w5.cell? ⟨gq, k * 3 + 2, none⟩ = _ := hccq 2 _ rfl
          have f0 : w5.frozen? ⟨gq, k * 3, none⟩ = false := hfrq 0
          have f1 : w5.frozen? ⟨gq, k * 3 + 1, none⟩ = false := hfrq 1
          have f2 : w5.frozen? ⟨gq, k * 3 + 2, none⟩ = false := hfrq 2
          have hne : some gq ≠ some m := fun e => hgqm (by injection e)
          clear hg hn hl hq he hm hD hcql hMq hccq hfrq
          go_wp2_with ((at_mapUpdate; refine wpList_mapUpdate_own _ rfl _ _ _ 53 rfl 3 4 (Maps.int_keyed Tryd.underlying3) Tryd.underlying53 _ m nD _ rfl HM.out (by unfold maxLen; omega) _ _ (.int .i64 (k : Int)) rfl rfl (Maps.keyOf_int_mk Tryd.underlying3 hwf) _ [] (plainElem_bool Tryd.underlying4 true) ?_; intro w6 hown6 hgrow6; have H6 := Aside0.mk hown6; have G6 := Aside0.mk hgrow6; clear hown6 hgrow6; have g2' := (G6.out.cell_far ⟨g, 2, none⟩ (blk_lt Hg.out) (fun e => hgm (by injection e))).trans g2; have q0' := (G6.out.cell_far ⟨gq, k * 3, none⟩ hglt hne).trans q0; have q1' := (G6.out.cell_far ⟨gq, k * 3 + 1, none⟩ hglt hne).trans q1; have q2' := (G6.out.cell_far ⟨gq, k * 3 + 2, none⟩ hglt hne).trans q2; have f0' := (G6.out.frozen_far ⟨gq, k * 3, none⟩ hglt hne).trans f0; have f1' := (G6.out.frozen_far ⟨gq, k * 3 + 1, none⟩ hglt hne).trans f1; have f2' := (G6.out.frozen_far ⟨gq, k * 3 + 2, none⟩ hglt hne).trans f2))
          go_ret
          have P2 := P.out w6 _ H6.out G6.out rfl
          refine ⟨by rw [HS.out]; rfl, by rw [HS.out]; exact P2.1, (Keep2.below HB5.out (by omega)).trans P2.2⟩
        · have Hq := Aside0.mk (show quotaP s l = none by
            rw [HD2.out, if_neg]
            rintro ⟨_, h3, h5, h7, hn, ho3, ho5, ho7⟩
            exact hok ⟨h3, h5, h7, Hcb.out.symm.trans hn, ho3, ho5, ho7⟩)
          have hor : b3 = false ∨ (b3 = true ∧ b5 = false) ∨ (b3 = true ∧ b5 = true ∧ b7 = false) ∨ (b3 = true ∧ b5 = true ∧ b7 = true ∧ cb = true) ∨ (b3 = true ∧ b5 = true ∧ b7 = true ∧ cb = false ∧ 4096 < mxI (mxI v3 v5) v7) := by
            cases b3
            · exact .inl rfl
            · cases b5
              · exact .inr (.inl ⟨rfl, rfl⟩)
              · cases b7
                · exact .inr (.inr (.inl ⟨rfl, rfl, rfl⟩))
                · cases cb
                  · refine .inr (.inr (.inr (.inr ⟨rfl, rfl, rfl, rfl, ?_⟩)))
                    refine lt_mxI ?_
                    by_cases h7 : v7 ≤ 4096
                    · left
                      refine lt_mxI ?_
                      by_cases h3 : v3 ≤ 4096
                      · right
                        have : ¬ v5 ≤ 4096 := fun h5 => hok ⟨rfl, rfl, rfl, rfl, h3, h5, h7⟩
                        omega
                      · left; omega
                    · right; omega
                  · exact .inr (.inr (.inr (.inl ⟨rfl, rfl, rfl, rfl⟩)))
          clear hok
          rcases hor with rfl | ⟨rfl, rfl⟩ | ⟨rfl, rfl, rfl⟩ | ⟨rfl, rfl, rfl, rfl⟩ | ⟨rfl, rfl, rfl, rfl, hmx⟩
          all_goals
            go_wp2
            go_ret
            exact line_fails Hq.out HR.out HB5.out (by omega)
    · have hq : quotaP s l = none := by
        rw [HD.out, if_neg]
        rintro ⟨_, h2, h4, h6, _⟩
        exact hform ⟨by rw [str_eq, decide_eq_true h2], by rw [str_eq, decide_eq_true h4], by rw [str_eq, decide_eq_true h6]⟩
      have Hq := Aside0.mk hq
      have hcase : (x2.toList == [99, 104, 97, 114, 115]) = false ∨ ((x2.toList == [99, 104, 97, 114, 115]) = true ∧ (x4.toList == [111, 112, 115]) = false) ∨ ((x2.toList == [99, 104, 97, 114, 115]) = true ∧ (x4.toList == [111, 112, 115]) = true ∧ (x6.toList == [115, 101, 97, 116, 115]) = false) := by
        cases h2 : (x2.toList == [99, 104, 97, 114, 115]) with
        | false => exact .inl rfl
        | true =>
          cases h4 : (x4.toList == [111, 112, 115]) with
          | false => exact .inr (.inl ⟨rfl, rfl⟩)
          | true =>
            cases h6 : (x6.toList == [115, 101, 97, 116, 115]) with
            | false => exact .inr (.inr ⟨rfl, rfl, rfl⟩)
            | true => exact absurd ⟨h2, h4, h6⟩ hform
      clear hform hq
      rcases hcase with e1 | ⟨e1, e2⟩ | ⟨e1, e2, e3⟩
      all_goals
        go_enter Tryd.func47, Tryd.ntmps47
        go_wp2
        go_ret
        exact line_fails Hq.out HR.out (Below.refl _ _) (by omega)
  · have Hq := Aside0.mk (HX.out (fun h => hl h.1))
    have h8 : ((l.length : Int) == 8) = false := beq_eq_false_iff_ne.2 (by omega)
    have h8' : ((l.length : Int) != 8) = true := by rw [bne, h8]; rfl
    clear hl HX
    go_enter Tryd.func47, Tryd.ntmps47
    go_wp2
    go_ret
    exact line_fails Hq.out HR.out (Below.refl _ _) (by omega)
end Go.Proofs.YtaeaakcppheaoaaDoor
