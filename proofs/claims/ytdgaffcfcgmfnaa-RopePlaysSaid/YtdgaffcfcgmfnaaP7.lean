/- Parts picked out of a list, in any order. RopePlays: the walk. -/
import Derived.Test.YtdgaffcfcgmfnaaZa
import Derived.Test.YtdgaffcfcgmfnaaF7
import Derived.Test.YtdgaffcfcgmfnaaZp
import Derived.Test.YtdgaffcfcgmfnaaSc
namespace Go.Sl
section
variable {α : Type}
/-- Parts by their places. -/
structure Fam (L : List (Asg α)) (m p : PH α) (f : Nat → PH α) : Prop where
  apart : ∀ i j, i ≠ j → PH.apart (f i) (f j)
  le : ∀ i, PH.le (f i) m
  holds : ∀ (i : Nat) (A : Asg α), L[i]? = some A → A.holds (f i) p
theorem All.fam : ∀ {L : List (Asg α)} {m p : PH α}, All L m p → ∃ f, Fam L m p f
  | [], m, p, _ => ⟨fun _ => PH.none, fun _ _ _ => PH.none_apart _, fun _ => PH.none_le _, fun i A h => by simp at h⟩
  | A :: L, m, p, ⟨m1, m2, a, h1, h2, hA, hL⟩ => by
    obtain ⟨f, hf⟩ := All.fam hL
    refine ⟨fun i => match i with | 0 => m1 | i + 1 => f i, ?_, ?_, ?_⟩
    · intro i j hij
      match i, j with
      | 0, 0 => exact absurd rfl hij
      | 0, j + 1 => exact a.mono (PH.le.refl _) (hf.le j)
      | i + 1, 0 => exact (a.mono (PH.le.refl _) (hf.le i)).symm
      | i + 1, j + 1 => exact hf.apart i j (fun e => hij (by rw [e]))
    · intro i
      match i with
      | 0 => exact h1
      | i + 1 => exact (hf.le i).trans h2
    · intro i B hB
      match i with
      | 0 => simp at hB; subst hB; exact hA
      | i + 1 => exact hf.holds i B (by simpa using hB)
/-- A part without another one. -/
def PH.minus (m a : PH α) : PH α := fun k => match a k with | some _ => Option.none | Option.none => m k
theorem PH.minus_apart (m a : PH α) : PH.apart a (m.minus a) := fun k o e => by simp [PH.minus, e]
theorem PH.minus_le (m a : PH α) : PH.le (m.minus a) m := fun k o e => by
  unfold PH.minus at e
  split at e
  · cases e
  · exact e
theorem PH.le_minus {m a b : PH α} (h : PH.le b m) (ha : PH.apart a b) : PH.le b (m.minus a) := fun k o e => by
  have := ha.symm k o e
  simp [PH.minus, this]
  exact h k o e
theorem All.of_fam {f : Nat → PH α} (hap : ∀ i j, i ≠ j → PH.apart (f i) (f j)) {p : PH α} : ∀ (L : List (Asg α)) (n : Nat) {m : PH α}, (∀ i, PH.le (f (n + i)) m) → (∀ (i : Nat) (A : Asg α), L[i]? = some A → A.holds (f (n + i)) p) → All L m p
  | [], _, _, _, _ => trivial
  | A :: L, n, m, hle, hh => by
    refine ⟨f n, m.minus (f n), PH.minus_apart _ _, hle 0, PH.minus_le _ _, hh 0 A rfl, All.of_fam hap L (n + 1) (fun i => ?_) (fun i B hB => ?_)⟩
    · exact PH.le_minus (by have := hle (i + 1); rwa [show n + (i + 1) = n + 1 + i by omega] at this) (hap _ _ (by omega))
    · have := hh (i + 1) B (by simpa using hB)
      rwa [show n + (i + 1) = n + 1 + i by omega] at this
/-- Those at the places is, in that order; behind them those from n on. -/
def pickT (n : Nat) (L : List (Asg α)) : List Nat → List (Asg α)
  | [] => L.drop n
  | i :: is => match L[i]? with
    | some A => A :: pickT n L is
    | none => pickT n L is
def pickOk (n : Nat) : List Nat → Bool
  | [] => true
  | i :: is => decide (i < n) && !is.contains i && pickOk n is
theorem pickT_all {n : Nat} {L : List (Asg α)} {p : PH α} {f : Nat → PH α} (hap : ∀ i j, i ≠ j → PH.apart (f i) (f j)) (hh : ∀ (i : Nat) (A : Asg α), L[i]? = some A → A.holds (f i) p) :
    ∀ (is : List Nat) {m : PH α}, pickOk n is = true → (∀ i ∈ is, PH.le (f i) m) → (∀ i, PH.le (f (n + i)) m) → All (pickT n L is) m p
  | [], m, _, _, hn => by
    refine All.of_fam hap (L.drop n) n hn fun i A hA => hh _ _ ?_
    rwa [List.getElem?_drop] at hA
  | i :: is, m, hok, hi, hn => by
    simp only [pickOk, Bool.and_eq_true, decide_eq_true_eq, Bool.not_eq_true'] at hok
    obtain ⟨⟨h1, h2⟩, h3⟩ := hok
    have hne : ∀ j ∈ is, i ≠ j := fun j hj e => by
      subst e
      have : is.contains i = true := by simpa using hj
      rw [h2] at this
      cases this
    unfold pickT
    split
    · rename_i A hA
      exact ⟨f i, m.minus (f i), PH.minus_apart _ _, hi i (by simp), PH.minus_le _ _, hh i A hA, pickT_all hap hh is h3 (fun j hj => PH.le_minus (hi j (by simp [hj])) (hap _ _ (hne j hj))) (fun j => PH.le_minus (hn j) (hap _ _ (by omega)))⟩
    · exact pickT_all hap hh is h3 (fun j hj => hi j (by simp [hj])) hn
theorem All.pick {L : List (Asg α)} {m p : PH α} (n : Nat) (is : List Nat) (hc : pickOk n is = true) (h : All L m p) : All (pickT n L is) m p := by
  obtain ⟨f, hf⟩ := All.fam h
  exact pickT_all hf.apart hf.holds is hc (fun i _ => hf.le i) (fun i => hf.le _)
end
/-- Of the n first parts those at the places is, in that order; all others stay behind them. -/
theorem St.pick {k w : World} {L : List Asn} (h : St k w L) (n : Nat) (is : List Nat) (hc : pickOk n is = true := by rfl) : St k w (pickT n L is) := h.imp fun _ _ hL => hL.pick n is hc
end Go.Sl
namespace Go.Proofs.Ytdgaffcfcgmfnaa
open Go.RowKit Go.Sl

section
variable {k w : World} {L : List Asn} {A A0 A1 A2 : Option Addr} {cp c0 c1 c2 : Nat} {ds : List DoM} {p : PV} {R : Ending → World → Prop}
theorem short_each : ∀ {ds : List DoM}, totL ds ≤ 600 → ∀ d ∈ ds, d.L.length ≤ 600
  | [], _, d, hd => by cases hd
  | x :: ds, h, d, hd => by
    have e1 : totL (x :: ds) = min x.L.length 601 + totL ds := rfl
    rcases List.mem_cons.1 hd with rfl | hd
    · omega
    · exact short_each (by omega) d hd
theorem sizeP_seen' (P : Pol) (v : Int) (es : List El) : sizeP P v es = ((seenE P v es).length : Nat) := by
  unfold sizeP seenE seenN
  split <;> rfl
set_option maxRecDepth 100000 in
set_option maxHeartbeats 8000000 in
theorem plays_walk (h : St k w (polS p A0 A1 A2 c0 c1 c2 :: dosS A cp ds :: L)) (hL : ∀ x ∈ p.labels, inLab x) (hf : Fits ds) (hR : ∀ w', St k w' L → R (.returned (.bool true)) w') :
    Calls Try.prog 7 #[polV p A0 A1 A2 c0 c1 c2, .slice A ds.length cp] w R := by
  obtain ⟨B, hB⟩ : ∃ B, w.heap.size = B := ⟨_, rfl⟩
  have h1 := (h.alloc (.cells (polC p A0 A1 A2 c0 c1 c2) 26)).push 2
  simp only [hB] at h1
  have hmax := (dos_row h.swap).max
  have H1 := Lib.hid h1
  have HR := Lib.hid hR
  have HF := Lib.hid (And.intro hf hL)
  obtain ⟨N, hN⟩ : ∃ N, ds.length = N := ⟨_, rfl⟩
  have hNN := Lib.hid hN
  rw [hN] at hmax
  have hNmax : (N : Int) ≤ 9223372036854775807 := by omega
  clear h h1 hR hf hL
  change Hid (St k (w.alloc (.cells (polC p A0 A1 A2 c0 c1 c2) 26)) (polS p A0 A1 A2 c0 c1 c2 :: dosS A cp ds :: pt B (.cells (polC p A0 A1 A2 c0 c1 c2) 26 (0, 0)) :: L)) at H1
  have hsh := fun (Q : Ending → World → Prop) => short_any (R := Q) H1.out.swap
  rw [hN] at hsh ⊢
  have HSH := Lib.hid hsh
  clear hN hsh
  unfold polV
  go_enter Try.func7, Try.ntmps7
  go_wp2_with fail
  refine HSH.out _ ?_
  clear HSH
  cases hs : shortB ds
  · clear hs
    go_wp2_with fail
    refine awake_any H1.out.drop.drop.drop fun wz hz => ?_
    have HX := Lib.hid (HR.out _ hz)
    clear hz
    go_wp2
    exact HX.out
  have hs2 : totL ds ≤ 600 := by
    unfold shortB at hs
    simp only [Bool.and_eq_true, decide_eq_true_eq] at hs
    exact hs.2
  have HS := Lib.hid (And.intro (cntL_short hs) (short_each hs2))
  clear hs hs2
  obtain ⟨y0, y1, y2⟩ := boxP (H1.out.pull 2)
  go_wp2_with fail
  refine small_st (p := p) (A0 := A0) (A1 := A1) (A2 := A2) (c0 := c0) (c1 := c1) (c2 := c2) H1.out fun w6 h8 => ?_
  have H8 := Lib.hid h8
  clear h8 H1 y0 y1 y2
  cases hsm : smallB p
  · clear hsm
    go_wp2_with fail
    refine awake_any H8.out.drop.drop.drop fun wz hz => ?_
    have HX := Lib.hid (HR.out _ hz)
    clear hz
    go_wp2
    exact HX.out
  clear hsm
  obtain ⟨y0, y1, y2⟩ := boxP (H8.out.pull 2)
  by_cases hr : rightN p = 0
  case neg =>
    have HRN := Lib.hid hr
    clear hr
    go_wp2_with fail
    refine new_bad H8.out HRN.out fun w7 h9 => ?_
    have H9 := Lib.hid h9
    obtain ⟨z0, z1, z2⟩ := boxP (h9.pull 2)
    clear h9 H8 y0 y1 y2
    go_wp2_with fail
    refine rnew_bad H9.out HRN.out fun w8 h10 => ?_
    have H10 := Lib.hid h10
    clear h10 H9 z0 z1 z2
    go_wp2_with fail
    refine awake_any H10.out.drop.drop.drop fun wz hz => ?_
    have HX := Lib.hid (HR.out _ hz)
    clear hz
    go_wp2
    exact HX.out
  have HRN := Lib.hid hr
  clear hr
  go_wp2_with fail
  refine new_any H8.out HRN.out fun g w7 h9 => ?_
  have H9 := Lib.hid h9
  obtain ⟨z0, z1, z2⟩ := boxP (h9.pull 3)
  clear h9 H8 y0 y1 y2
  go_wp2_with fail
  refine rnew_any (H9.out.pull 1) HRN.out fun gx w8 h10 => ?_
  have h11 := h10.pull 2
  change St k w8 (Rope g (polOf p) [] 0 :: refA gx p A0 A1 A2 c0 c1 c2 [] :: polS p A0 A1 A2 c0 c1 c2 :: dosS A cp ds :: pt B (.cells (polC p A0 A1 A2 c0 c1 c2) 26 (0, 0)) :: L) at h11
  have H11 := Lib.hid h11
  clear h10 h11 H9 z0 z1 z2
  go_wp2_with fail
  go_loopw [50] (fun i wr => ∃ q : Nat, q ≤ N ∧ i = .int .i64 q ∧ Hid (St k wr (Rope g (polOf p) (madeP (polOf p) [] (ds.take q)) (cntL (ds.take q)) :: refA gx p A0 A1 A2 c0 c1 c2 (madeP (polOf p) [] (ds.take q)) :: polS p A0 A1 A2 c0 c1 c2 :: dosS A cp ds :: pt B (.cells (polC p A0 A1 A2 c0 c1 c2) 26 (0, 0)) :: L))) (fun i _ => N - (intOf i).toNat)
  case atStart => exact ⟨0, by omega, rfl, H11⟩
  case round =>
    clear H11
    obtain ⟨q, hq, rfl, HW⟩ := hrel
    by_cases hlt : q < N
    · have g1 : (q : Int) < (N : Int) := by omega
      obtain ⟨d, hd⟩ : ∃ d, ds[q]? = some d := ⟨_, List.getElem?_eq_getElem (by rw [hNN.out]; exact hlt)⟩
      have hmem := List.mem_of_getElem? hd
      have hf2 := HF.out.1 d hmem
      have hdl := HS.out.2 d hmem
      have hcn := cntL_snoc ds q hd
      have hmd := madeP_snoc (polOf p) [] ds q hd
      have hct := cntL_take ds (q + 1)
      have hcc := HS.out.1
      rw [hcn] at hct
      obtain ⟨es, hes⟩ : ∃ es, madeP (polOf p) [] (ds.take q) = es := ⟨_, rfl⟩
      obtain ⟨c, hc⟩ : ∃ c, cntL (ds.take q) = c := ⟨_, rfl⟩
      rw [hes] at HW hmd
      rw [hc] at HW hcn hct
      have HT := Lib.hid (And.intro hcn hmd)
      obtain ⟨r, -, ho⟩ := Rope.out HW.out
      have hct2 : c + (callL d).length ≤ 8600 := by omega
      have HO := Lib.hid (And.intro ho.fit (And.intro ho.len hct2))
      have HFD := Lib.hid hf2
      have h3 := dos_one (HW.out.pull 3) hmem
      obtain ⟨b, o, rfl, e0, e1, e2, e3, e4, e5⟩ := dos_at (HW.out.pull 3) hd
      have h4 := (h3.alloc (.cells (doC d).toArray 48)).alloc (.cells (doC d).toArray 48)
      obtain ⟨b10, hb10⟩ : ∃ b10, wr.heap.size = b10 := ⟨_, rfl⟩
      rw [World.size_alloc, hb10] at h4
      have x0 : _ = some (Value.int .i64 d.op) := blk_cell (h4.pull 1).lies 0
      have x1 : _ = some (Value.int .i64 d.i) := blk_cell (h4.pull 1).lies 1
      have x2 : _ = some (Value.int .i64 d.n) := blk_cell (h4.pull 1).lies 2
      have x3 : _ = some (Value.int .i64 d.label) := blk_cell (h4.pull 1).lies 3
      have x4 : _ = some (Value.slice d.A d.L.length d.cp) := blk_cell (h4.pull 1).lies 4
      have x5 : _ = some (Value.bool d.wide) := blk_cell (h4.pull 1).lies 5
      have H4 := Lib.hid h4
      obtain ⟨w9, hw9⟩ : ∃ w9, (wr.alloc (.cells (doC d).toArray 48)).alloc (.cells (doC d).toArray 48) = w9 := ⟨_, rfl⟩
      rw [hw9] at x0 x1 x2 x3 x4 x5 H4
      have hw9' : (wr.alloc (.cells #[.int .i64 d.op, .int .i64 d.i, .int .i64 d.n, .int .i64 d.label, .slice d.A d.L.length d.cp, .bool d.wide] 48)).alloc (.cells #[.int .i64 d.op, .int .i64 d.i, .int .i64 d.n, .int .i64 d.label, .slice d.A d.L.length d.cp, .bool d.wide] 48) = w9 := hw9
      clear h3 h4 hes hc hcn hmd hct hct2 hcc hd hmem hf2 ho HW hw9
      go_upto_region 13 with fail
      clear hw9' e0 e1 e2 e3 e4 e5
      have f11 := fun j => blk_frozen (H4.out).lies j
      have l11 := blk_lt (H4.out).lies
      go_wp2_with (go_at_call 35; refine cloneE H4.out (St.readsS (H4.out.pull 2)) (elsC_one _) (by omega) ?_
                   intro v' w10 h5 _
                   obtain ⟨Ag, cg, rfl, -⟩ := h5.readsA.at_
                   have z0 : _ = some (Value.int .i64 d.op) := blk_cell (h5.pull 1).lies 0
                   have z1 : _ = some (Value.int .i64 d.i) := blk_cell (h5.pull 1).lies 1
                   have z2 : _ = some (Value.int .i64 d.n) := blk_cell (h5.pull 1).lies 2
                   have z3 : _ = some (Value.int .i64 d.label) := blk_cell (h5.pull 1).lies 3
                   have z4 : _ = some (Value.slice d.A d.L.length d.cp) := blk_cell (h5.pull 1).lies 4
                   have z5 : _ = some (Value.bool d.wide) := blk_cell (h5.pull 1).lies 5
                   have f12 := fun j => blk_frozen (h5.pull 1).lies j
                   have l12 := blk_lt (h5.pull 1).lies
                   have H5 := Lib.hid h5
                   clear h5)
      clear z0 z1 z2 z3 z4 z5 f12 l12 x0 x1 x2 x3 x4 x5 f11 l11 H4
      have h8 := ((H5.out.freezeA.pull 1).set 4 (.slice Ag d.L.length cg)).drop.pull 4
      obtain ⟨dg, hdg⟩ : ∃ dg : DoM, dg = ⟨d.op, d.i, d.n, d.label, d.L, d.wide, Ag, cg⟩ := ⟨_, rfl⟩
      have hP : doP (polOf p) es dg = doP (polOf p) es d := by rw [hdg]; rfl
      have hC : callL dg = callL d := by rw [hdg]; rfl
      have hS : rowS 3 (.slice Ag d.L.length cg) d.L.length (elsC d.L) = doS dg := by rw [hdg]; rfl
      rw [hS] at h8
      have hdo := fun (Q : Ending → World → Prop) => does_any (R := Q) h8 (by rw [hdg]; exact HFD.out.1) (by rw [hdg]; exact HFD.out.2) (by rw [hC]; have := HO.out.2.2; omega)
      rw [hP, hC] at hdo
      have hdv : doV dg = .agg #[.int .i64 d.op, .int .i64 d.i, .int .i64 d.n, .int .i64 d.label, .slice Ag d.L.length cg, .bool d.wide] := by rw [hdg]
      rw [hdv] at hdo
      obtain ⟨⟨gone, er, es'⟩, hrr⟩ : ∃ rr, doP (polOf p) es d = rr := ⟨_, rfl⟩
      rw [hrr] at hdo
      simp only at hdo
      have HRR := Lib.hid hrr
      obtain ⟨cc, hcc⟩ : ∃ cc, c + (callL d).length = cc := ⟨_, rfl⟩
      rw [hcc] at hdo HT
      clear hcc
      have HDO := Lib.hid hdo
      clear h8 hdg hP hC hS hdo hdv hrr H5
      refine HDO.out _ ?_
      clear HDO
      intro v w11 h9
      obtain ⟨A5, k5, rfl, -⟩ := h9.readsA.at_
      have z0 : _ = some (Value.int .i64 d.op) := blk_cell (h9.pull 3).lies 0
      have z1 : _ = some (Value.int .i64 d.i) := blk_cell (h9.pull 3).lies 1
      have z2 : _ = some (Value.int .i64 d.n) := blk_cell (h9.pull 3).lies 2
      have z3 : _ = some (Value.int .i64 d.label) := blk_cell (h9.pull 3).lies 3
      have z4 : _ = some (Value.slice d.A d.L.length d.cp) := blk_cell (h9.pull 3).lies 4
      have z5 : _ = some (Value.bool d.wide) := blk_cell (h9.pull 3).lies 5
      have H9 := Lib.hid h9
      clear h9
      go_wp2_with fail
      refine call_any (H9.out.pull 4) HFD.out.2 ?_
      clear z0 z1 z2 z3 z4 z5
      intro d' w12 hE h15
      have hN64 := callN_64 HFD.out.2
      have hI64 := HFD.out.1
      have hcs := HO.out.2.2
      have hrr := HRR.out
      obtain ⟨op', i', n', label', L', wide', A', cp'⟩ := d'
      obtain ⟨e1, e2, e3, e4, e5⟩ := hE
      simp only at e1 e2 e3 e4 e5
      unfold doP at hrr
      obtain ⟨op, hop⟩ : ∃ op, d.op = op := ⟨_, rfl⟩
      obtain ⟨i, hi⟩ : ∃ i, d.i = i := ⟨_, rfl⟩
      obtain ⟨n, hn⟩ : ∃ n, callN d = n := ⟨_, rfl⟩
      obtain ⟨lb, hlb⟩ : ∃ lb, d.label = lb := ⟨_, rfl⟩
      obtain ⟨M, hM⟩ : ∃ M, callL d = M := ⟨_, rfl⟩
      rw [hop] at e1
      rw [hi] at e2 hI64
      rw [hn] at e3 hN64
      rw [hlb] at e4
      rw [hM] at e5 hcs
      rw [hop, hi, hn, hlb, hM] at hrr
      subst e1 e2 e3 e4 e5
      have hb := h15.pull 5
      have hst := store_run (P := Try.prog) (ty := 48) (cells := #[.int .i64 op', .int .i64 i', .int .i64 n', .int .i64 label', .slice A' L'.length cp', .bool wide']) hb.lies 0 (by kernel_rfl) (by intro u hu; simp at hu; rcases hu with rfl | rfl | rfl | rfl | rfl | rfl <;> rfl) (Nat.le_refl _)
      have h16 := hb.setRow (c' := spl (doC d).toArray 0 [.int .i64 op', .int .i64 i', .int .i64 n', .int .i64 label', .slice A' L'.length cp', .bool wide'])
      obtain ⟨w13, hw13⟩ : ∃ w13, w12.setRow b10 (spl (doC d).toArray 0 [.int .i64 op', .int .i64 i', .int .i64 n', .int .i64 label', .slice A' L'.length cp', .bool wide']) = w13 := ⟨_, rfl⟩
      change _ = Result.ok () (w12.setRow b10 (spl (doC d).toArray 0 [.int .i64 op', .int .i64 i', .int .i64 n', .int .i64 label', .slice A' L'.length cp', .bool wide'])) at hst
      rw [hw13] at hst h16
      change St k w13 (pt b10 (.cells #[.int .i64 op', .int .i64 i', .int .i64 n', .int .i64 label', .slice A' L'.length cp', .bool wide'] 48 (0, 0)) :: _) at h16
      have H16 := Lib.hid h16
      have HR2 := Lib.hid hrr
      have HI := Lib.hid (And.intro hI64 (And.intro hN64 hcs))
      clear hb h15 h16 hop hi hn hlb hM hI64 hN64 hcs H9 hrr hw13
      unfold doV
      go_upto_region 17 with (refine list_of rfl fun K hK => wp_store_run _ _ _ rfl hst rfl rfl (hK _ _ ?_))
      clear hst
      have x0 : _ = some (Value.int .i64 op') := blk_cell H16.out.lies 0
      have x1 : _ = some (Value.int .i64 i') := blk_cell H16.out.lies 1
      have x2 : _ = some (Value.int .i64 n') := blk_cell H16.out.lies 2
      have x3 : _ = some (Value.int .i64 label') := blk_cell H16.out.lies 3
      have x4 : _ = some (Value.slice A' L'.length cp') := blk_cell H16.out.lies 4
      obtain ⟨oq, ho⟩ : ∃ oq, bits .and .i64 op' 7 = oq := ⟨_, rfl⟩
      have HO2 := Lib.hid ho
      iterate 13 go_step
      go_cut [8, 14] (fun s8 s14 wc => s8 = .int .i64 er ∧ (∃ A6 k6, s14 = .slice A6 gone.length k6) ∧ Hid (St k wc (rowA 39 3 s14 gone.length (elsC gone) :: rowA 39 3 (.slice A5 gone.length k5) gone.length (elsC gone) :: refA gx p A0 A1 A2 c0 c1 c2 es' :: Rope g (polOf p) es' cc :: polS p A0 A1 A2 c0 c1 c2 :: dosS (some ⟨b, o, none⟩) cp ds :: pt B (.cells (polC p A0 A1 A2 c0 c1 c2) 26 (0, 0)) :: L)))
      case first =>
        by_cases h45 : oq = 4 ∨ oq = 5
        · have hx : removeP es i' n' = (gone, er, es') := by
            have := HR2.out
            rwa [ho, if_pos h45] at this
          have hrm := fun (Q : Ending → World → Prop) => rremove_any (R := Q) (H16.out.pull 7) HO.out.2.1 HI.out.1 HI.out.2.1
          rw [hx] at hrm
          have HRM := Lib.hid hrm
          clear hrm hx
          rcases h45 with rfl | rfl
          all_goals
            go_wp2_with (go_at_call 37; refine HRM.out _ ?_; intro v6 w14 h17; obtain ⟨A6, k6, rfl, -⟩ := h17.readsA.at_; have H17 := Lib.hid h17; clear h17)
            go_meet
            refine ⟨rfl, ⟨_, _, rfl⟩, Lib.hid ?_⟩
            exact H17.out.pick 11 [0, 5, 1, 6, 9, 8, 10]
        · have h4 : (oq == 4) = false := by simp; omega
          have h5 : (oq == 5) = false := by simp; omega
          by_cases h6 : oq = 6
          · have hx : [] = gone ∧ relabelP (polOf p) es i' n' label' = (er, es') := by
              have := HR2.out
              rw [ho, if_neg h45, if_pos h6] at this
              simp only [Prod.mk.injEq] at this
              exact ⟨this.1, by rw [← this.2.1, ← this.2.2]⟩
            have hrm := fun (Q : Ending → World → Prop) => rrelabel_any (R := Q) (l := label') (H16.out.pull 7) HO.out.2.1 HI.out.1 HI.out.2.1
            rw [hx.2] at hrm
            have HRM := Lib.hid hrm
            obtain ⟨rfl, -⟩ := hx
            clear hrm h45
            subst h6
            go_wp2_with (go_at_call 38; refine HRM.out _ ?_; intro w14 h17; have H17 := Lib.hid (h17.nilA 39 3); clear h17)
            go_meet
            exact ⟨rfl, ⟨_, _, rfl⟩, Lib.hid (H17.out.pick 11 [0, 5, 1, 6, 9, 8, 10])⟩
          · have hx : [] = gone ∧ insertP (polOf p) es i' L' = (er, es') := by
              have := HR2.out
              rw [ho, if_neg h45, if_neg h6] at this
              simp only [Prod.mk.injEq] at this
              exact ⟨this.1, by rw [← this.2.1, ← this.2.2]⟩
            have hrm := fun (Q : Ending → World → Prop) => rinsert_any (R := Q) (i := i') (l := L') (B := A') (n := L'.length) (cp := cp') (H16.out.pick 10 [7, 1, 0, 2, 3, 4, 5, 6, 8, 9]) (fun _ _ _ h => St.readsS h) rfl HO.out.2.1 (by have := HI.out.2.2; omega)
            rw [hx.2] at hrm
            have HRM := Lib.hid hrm
            obtain ⟨rfl, -⟩ := hx
            have h6 : (oq == 6) = false := by simp; omega
            clear hrm h45
            go_wp2_with (go_at_call 39; refine HRM.out _ ?_; intro w14 h17; have H17 := Lib.hid (h17.nilA 39 3); clear h17)
            go_meet
            exact ⟨rfl, ⟨_, _, rfl⟩, Lib.hid (H17.out.pick 11 [0, 5, 1, 6, 9, 8, 10])⟩
      obtain ⟨rfl, ⟨A6, k6, rfl⟩, H18⟩ := hcut
      clear H16 HR2 HI HO2 ho x0 x1 x2 x3 x4
      obtain ⟨A9, k9, h19⟩ := ref_out (H18.out.pull 2)
      have h20 := h19.pick 5 [3, 2, 0, 1, 4]
      change St k wc (rowA 39 3 (.slice A5 gone.length k5) gone.length (elsC gone) :: rowA 39 3 (.slice A6 gone.length k6) gone.length (elsC gone) :: pt gx (.cells (refC p A0 A1 A2 c0 c1 c2 (.slice A9 es'.length k9)) 72 (0, 0)) :: rowA 39 3 (.slice A9 es'.length k9) es'.length (elsC es') :: Rope g (polOf p) es' cc :: polS p A0 A1 A2 c0 c1 c2 :: dosS (some ⟨b, o, none⟩) cp ds :: pt B (.cells (polC p A0 A1 A2 c0 c1 c2) 26 (0, 0)) :: L) at h20
      obtain ⟨-, -, -, y3⟩ := boxR (h20.pull 2)
      have H20 := Lib.hid h20
      clear h19 h20 H18
      go_upto_region 24 with fail
      go_cut [126] (fun s wc => s = .bool false ∧ Hid (St k wc (Rope g (polOf p) es' cc :: refA gx p A0 A1 A2 c0 c1 c2 es' :: polS p A0 A1 A2 c0 c1 c2 :: dosS (some ⟨b, o, none⟩) cp ds :: pt B (.cells (polC p A0 A1 A2 c0 c1 c2) 26 (0, 0)) :: L)))
      case first =>
        refine wp_region_any (by kernel_rfl) ?_
        try (change wpAny _ _ _ _ _ _ _ (World.drew _))
        refine wpAny_take (i := 0) (v := ?_) rfl (by kernel_rfl) (by kernel_rfl) (by kernel_rfl) (fun _ _ _ h => h) (Or.inl ⟨by kernel_rfl, ?_⟩) ?_
        rotate_left 1
        · intro w
          go_simp
          try with_reducible rfl
        refine wpAny_take (i := 1) (v := ?_) rfl (by kernel_rfl) (by kernel_rfl) (by kernel_rfl) (fun _ _ _ h => h) (Or.inl ⟨by kernel_rfl, ?_⟩) ?_
        rotate_left 1
        · intro w
          go_simp
          try with_reducible rfl
        refine wpAny_take (i := 2) (v := ?_) rfl (by kernel_rfl) (by kernel_rfl) (by kernel_rfl) (fun _ _ _ h => h) (Or.inl ⟨by kernel_rfl, ?_⟩) ?_
        rotate_left 1
        · intro w
          go_simp
          try with_reducible rfl
        refine wpAny_take (i := 3) (v := ?_) rfl (by kernel_rfl) (by kernel_rfl) (by kernel_rfl) (fun _ _ _ h => h) (Or.inl ⟨by kernel_rfl, ?_⟩) ?_
        rotate_left 1
        · intro w
          go_simp
          try with_reducible rfl
        refine wpAny_take (i := 4) (v := ?_) rfl (by kernel_rfl) (by kernel_rfl) (by kernel_rfl) (fun _ _ _ h => h) (Or.inl ⟨by kernel_rfl, ?_⟩) ?_
        rotate_left 1
        · intro w
          go_simp
          try with_reducible rfl
        refine wpAny_take (i := 5) (v := ?_) rfl (by kernel_rfl) (by kernel_rfl) (by kernel_rfl) (fun _ _ _ h => h) (Or.inl ⟨by kernel_rfl, ?_⟩) ?_
        rotate_left 1
        · intro w
          go_simp
          try with_reducible rfl
        refine wpAnyC_any (C := (fun w' : World => w'.cell? ⟨gx, 3, none⟩ = some (.slice A9 es'.length k9))) (T := [26, 27, 28]) _ _ _ _ ?_
        refine wpAnyC_ready (rs := [6]) (by kernel_rfl) (by simp) ?_
        refine AllC.cons rfl (fun K hK => ?_) ?_
        · go_simp
          go_wp2_with (first
            | (go_at_call 31; refine same_any (a := gone) (b := gone) H20.out.drew (rowLike_A 39 3 (.slice A5 gone.length k5) gone.length (elsC gone)) (rowLike_A 39 3 (.slice A6 gone.length k6) gone.length (elsC gone)) rfl rfl ?_
               intro w20 h21
               rw [decide_eq_true (rfl : gone = gone)]
               obtain ⟨-, -, -, y4⟩ := boxR (h21.pull 2)
               have H21 := Lib.hid (h21.pull 4)
               clear h21)
            | (go_at_call 30; refine elems_any H21.out ?_
               intro v7 w21 _ h22
               obtain ⟨A7, k7, rfl, -⟩ := h22.readsA.at_
               obtain ⟨-, -, -, y5⟩ := boxR (h22.pull 4)
               have H22 := Lib.hid (h22.pick 6 [0, 5, 1, 2, 3, 4])
               clear h22)
            | (go_at_call 31; refine same_any (a := es') (b := es') H22.out (rowLike_A 39 3 (.slice A7 es'.length k7) es'.length (elsC es')) (rowLike_A 39 3 (.slice A9 es'.length k9) es'.length (elsC es')) rfl rfl ?_
               intro w22 h23
               rw [decide_eq_true (rfl : es' = es')]
               obtain ⟨-, -, -, y6⟩ := boxR (h23.pull 5)
               have H23 := Lib.hid (h23.pull 2)
               clear h23)
            | (go_at_call 29; refine len_any H23.out fun w23 h24 => ?_
               obtain ⟨-, -, -, y7⟩ := boxR (h24.pull 5)
               have H24 := Lib.hid h24
               clear h24))
          refine And.intro ?_ ?_
          · intro _
            go_simp
          refine wpAnyC_take (i := 7) (v := ?_) rfl (by kernel_rfl) (by kernel_rfl) (by kernel_rfl) (by kernel_rfl) (fun _ _ _ h => h) (by kernel_rfl) ?_ ?_ ?_
          rotate_left 1
          · go_simp
          · intro w hw
            go_simp
            try with_reducible rfl
          refine wpAnyC_take (i := 8) (v := ?_) rfl (by kernel_rfl) (by kernel_rfl) (by kernel_rfl) (by kernel_rfl) (fun _ _ _ h => h) (by kernel_rfl) ?_ ?_ ?_
          rotate_left 1
          · go_simp
          · intro w hw
            go_simp
            try with_reducible rfl
          refine wpAnyC_take (i := 9) (v := ?_) rfl (by kernel_rfl) (by kernel_rfl) (by kernel_rfl) (by kernel_rfl) (fun _ _ _ h => h) (by kernel_rfl) ?_ ?_ ?_
          rotate_left 1
          · go_simp
          · intro w hw
            go_simp
            try with_reducible rfl
          refine wpAnyC_take (i := 10) (v := ?_) rfl (by kernel_rfl) (by kernel_rfl) (by kernel_rfl) (by kernel_rfl) (fun _ _ _ h => h) (by kernel_rfl) ?_ ?_ ?_
          rotate_left 1
          · go_simp
          · intro w hw
            go_simp
            try with_reducible rfl
          refine wpAnyC_take (i := 12) (v := ?_) rfl (by kernel_rfl) (by kernel_rfl) (by kernel_rfl) (by kernel_rfl) (fun _ _ _ h => h) (by kernel_rfl) ?_ ?_ ?_
          rotate_left 1
          · go_simp
          · intro w hw
            go_simp
            try with_reducible rfl
          refine wpAnyC_take (i := 13) (v := ?_) rfl (by kernel_rfl) (by kernel_rfl) (by kernel_rfl) (by kernel_rfl) (fun _ _ _ h => h) (by kernel_rfl) ?_ ?_ ?_
          rotate_left 1
          · go_simp
          · intro w hw
            go_simp
            try with_reducible rfl
          refine wpAnyC_take (i := 14) (v := ?_) rfl (by kernel_rfl) (by kernel_rfl) (by kernel_rfl) (by kernel_rfl) (fun _ _ _ h => h) (by kernel_rfl) ?_ ?_ ?_
          rotate_left 1
          · go_simp
          · intro w hw
            go_simp
            try with_reducible rfl
          refine wpAnyC_take (i := 15) (v := ?_) rfl (by kernel_rfl) (by kernel_rfl) (by kernel_rfl) (by kernel_rfl) (fun _ _ _ h => h) (by kernel_rfl) ?_ ?_ ?_
          rotate_left 1
          · go_simp
          · intro w hw
            go_simp
            try with_reducible rfl
          refine wpAnyC_ready (rs := [11]) (by kernel_rfl) (by simp) ?_
          refine AllC.cons rfl (fun K hK => ?_) ?_
          · go_simp
            go_wp2_with (first
              | (go_at_call 31; refine same_any (a := gone) (b := gone) H20.out.drew (rowLike_A 39 3 (.slice A5 gone.length k5) gone.length (elsC gone)) (rowLike_A 39 3 (.slice A6 gone.length k6) gone.length (elsC gone)) rfl rfl ?_
                 intro w20 h21
                 rw [decide_eq_true (rfl : gone = gone)]
                 obtain ⟨-, -, -, y4⟩ := boxR (h21.pull 2)
                 have H21 := Lib.hid (h21.pull 4)
                 clear h21)
              | (go_at_call 30; refine elems_any H21.out ?_
                 intro v7 w21 _ h22
                 obtain ⟨A7, k7, rfl, -⟩ := h22.readsA.at_
                 obtain ⟨-, -, -, y5⟩ := boxR (h22.pull 4)
                 have H22 := Lib.hid (h22.pick 6 [0, 5, 1, 2, 3, 4])
                 clear h22)
              | (go_at_call 31; refine same_any (a := es') (b := es') H22.out (rowLike_A 39 3 (.slice A7 es'.length k7) es'.length (elsC es')) (rowLike_A 39 3 (.slice A9 es'.length k9) es'.length (elsC es')) rfl rfl ?_
                 intro w22 h23
                 rw [decide_eq_true (rfl : es' = es')]
                 obtain ⟨-, -, -, y6⟩ := boxR (h23.pull 5)
                 have H23 := Lib.hid (h23.pull 2)
                 clear h23)
              | (go_at_call 29; refine len_any H23.out fun w23 h24 => ?_
                 obtain ⟨-, -, -, y7⟩ := boxR (h24.pull 5)
                 have H24 := Lib.hid h24
                 clear h24))
            refine And.intro ?_ ?_
            · intro _
              go_simp
            refine wpAnyC_ready (rs := [16]) (by kernel_rfl) (by simp) ?_
            refine AllC.cons rfl (fun K hK => ?_) ?_
            · go_simp
              go_wp2_with (first
                | (go_at_call 31; refine same_any (a := gone) (b := gone) H20.out.drew (rowLike_A 39 3 (.slice A5 gone.length k5) gone.length (elsC gone)) (rowLike_A 39 3 (.slice A6 gone.length k6) gone.length (elsC gone)) rfl rfl ?_
                   intro w20 h21
                   rw [decide_eq_true (rfl : gone = gone)]
                   obtain ⟨-, -, -, y4⟩ := boxR (h21.pull 2)
                   have H21 := Lib.hid (h21.pull 4)
                   clear h21)
                | (go_at_call 30; refine elems_any H21.out ?_
                   intro v7 w21 _ h22
                   obtain ⟨A7, k7, rfl, -⟩ := h22.readsA.at_
                   obtain ⟨-, -, -, y5⟩ := boxR (h22.pull 4)
                   have H22 := Lib.hid (h22.pick 6 [0, 5, 1, 2, 3, 4])
                   clear h22)
                | (go_at_call 31; refine same_any (a := es') (b := es') H22.out (rowLike_A 39 3 (.slice A7 es'.length k7) es'.length (elsC es')) (rowLike_A 39 3 (.slice A9 es'.length k9) es'.length (elsC es')) rfl rfl ?_
                   intro w22 h23
                   rw [decide_eq_true (rfl : es' = es')]
                   obtain ⟨-, -, -, y6⟩ := boxR (h23.pull 5)
                   have H23 := Lib.hid (h23.pull 2)
                   clear h23)
                | (go_at_call 29; refine len_any H23.out fun w23 h24 => ?_
                   obtain ⟨-, -, -, y7⟩ := boxR (h24.pull 5)
                   have H24 := Lib.hid h24
                   clear h24))
              refine And.intro ?_ ?_
              · intro _
                go_simp
              refine wpAnyC_take (i := 17) (v := ?_) rfl (by kernel_rfl) (by kernel_rfl) (by kernel_rfl) (by kernel_rfl) (fun _ _ _ h => h) (by kernel_rfl) ?_ ?_ ?_
              rotate_left 1
              · go_simp
              · intro w hw
                go_simp
                try with_reducible rfl
              refine wpAnyC_take (i := 18) (v := ?_) rfl (by kernel_rfl) (by kernel_rfl) (by kernel_rfl) (by kernel_rfl) (fun _ _ _ h => h) (by kernel_rfl) ?_ ?_ ?_
              rotate_left 1
              · go_simp
              · intro w hw
                go_simp
                try with_reducible rfl
              refine wpAnyC_take (i := 19) (v := ?_) rfl (by kernel_rfl) (by kernel_rfl) (by kernel_rfl) (by kernel_rfl) (fun _ _ _ h => h) (by kernel_rfl) ?_ ?_ ?_
              rotate_left 1
              · go_simp
              · intro w hw
                go_simp
                try with_reducible rfl
              refine wpAnyC_take (i := 22) (v := ?_) rfl (by kernel_rfl) (by kernel_rfl) (by kernel_rfl) (by kernel_rfl) (fun _ _ _ h => h) (by kernel_rfl) ?_ ?_ ?_
              rotate_left 1
              · go_simp
              · intro w hw
                go_simp
                try with_reducible rfl
              refine wpAnyC_take (i := 23) (v := ?_) rfl (by kernel_rfl) (by kernel_rfl) (by kernel_rfl) (by kernel_rfl) (fun _ _ _ h => h) (by kernel_rfl) ?_ ?_ ?_
              rotate_left 1
              · go_simp
              · intro w hw
                go_simp
                try with_reducible rfl
              refine wpAnyC_take (i := 24) (v := ?_) rfl (by kernel_rfl) (by kernel_rfl) (by kernel_rfl) (by kernel_rfl) (fun _ _ _ h => h) (by kernel_rfl) ?_ ?_ ?_
              rotate_left 1
              · go_simp
              · intro w hw
                go_simp
                try with_reducible rfl
              refine wpAnyC_take (i := 25) (v := ?_) rfl (by kernel_rfl) (by kernel_rfl) (by kernel_rfl) (by kernel_rfl) (fun _ _ _ h => h) (by kernel_rfl) ?_ ?_ ?_
              rotate_left 1
              · go_simp
              · intro w hw
                go_simp
                try with_reducible rfl
              refine wpAnyC_takeP (i := 26) (v := ?_) rfl (by kernel_rfl) (by kernel_rfl) (by kernel_rfl) (by kernel_rfl) (fun _ _ _ h => h) (by kernel_rfl) ?_ ?_
              rotate_left 1
              · intro w
                go_simp
                try with_reducible rfl
              refine wpAnyC_ready (rs := [20]) (by kernel_rfl) (by simp) ?_
              refine AllC.cons rfl (fun K hK => ?_) ?_
              · go_simp
                refine hK _ _ ?_
                clear hK K
                refine And.intro ?_ ?_
                · intro _
                  go_simp
                refine wpAnyC_ready (rs := [21]) (by kernel_rfl) (by simp) ?_
                refine AllC.cons rfl (fun K hK => ?_) ?_
                · go_simp
                  go_wp2_with (first
                    | (go_at_call 31; refine same_any (a := gone) (b := gone) H20.out.drew (rowLike_A 39 3 (.slice A5 gone.length k5) gone.length (elsC gone)) (rowLike_A 39 3 (.slice A6 gone.length k6) gone.length (elsC gone)) rfl rfl ?_
                       intro w20 h21
                       rw [decide_eq_true (rfl : gone = gone)]
                       obtain ⟨-, -, -, y4⟩ := boxR (h21.pull 2)
                       have H21 := Lib.hid (h21.pull 4)
                       clear h21)
                    | (go_at_call 30; refine elems_any H21.out ?_
                       intro v7 w21 _ h22
                       obtain ⟨A7, k7, rfl, -⟩ := h22.readsA.at_
                       obtain ⟨-, -, -, y5⟩ := boxR (h22.pull 4)
                       have H22 := Lib.hid (h22.pick 6 [0, 5, 1, 2, 3, 4])
                       clear h22)
                    | (go_at_call 31; refine same_any (a := es') (b := es') H22.out (rowLike_A 39 3 (.slice A7 es'.length k7) es'.length (elsC es')) (rowLike_A 39 3 (.slice A9 es'.length k9) es'.length (elsC es')) rfl rfl ?_
                       intro w22 h23
                       rw [decide_eq_true (rfl : es' = es')]
                       obtain ⟨-, -, -, y6⟩ := boxR (h23.pull 5)
                       have H23 := Lib.hid (h23.pull 2)
                       clear h23)
                    | (go_at_call 29; refine len_any H23.out fun w23 h24 => ?_
                       obtain ⟨-, -, -, y7⟩ := boxR (h24.pull 5)
                       have H24 := Lib.hid h24
                       clear h24))
                  refine And.intro ?_ ?_
                  · intro _
                    go_simp
                  refine wpAnyC_takeP (i := 27) (v := ?_) rfl (by kernel_rfl) (by kernel_rfl) (by kernel_rfl) (by kernel_rfl) (fun _ _ _ h => h) (by kernel_rfl) ?_ ?_
                  rotate_left 1
                  · intro w
                    go_simp
                    try with_reducible rfl
                  refine wpAnyC_takeP (i := 28) (v := ?_) rfl (by kernel_rfl) (by kernel_rfl) (by kernel_rfl) (by kernel_rfl) (fun _ _ _ h => h) (by kernel_rfl) ?_ ?_
                  rotate_left 1
                  · intro w
                    go_simp
                    try with_reducible rfl
                  refine wpAnyC_done (by kernel_rfl) ?_ _
                  go_wp2_with fail
                  go_meet
                  exact ⟨rfl, Lib.hid (ref_mk (H24.out.pick 6 [5, 2, 0])).swap⟩
                exact AllC.nil
              exact AllC.nil
            exact AllC.nil
          exact AllC.nil
        exact AllC.nil
      obtain ⟨rfl, H25⟩ := hcut
      have HH : Hid (St k wc (Rope g (polOf p) (madeP (polOf p) [] (ds.take (q + 1))) (cntL (ds.take (q + 1))) :: refA gx p A0 A1 A2 c0 c1 c2 (madeP (polOf p) [] (ds.take (q + 1))) :: polS p A0 A1 A2 c0 c1 c2 :: dosS (some ⟨b, o, none⟩) cp ds :: pt B (.cells (polC p A0 A1 A2 c0 c1 c2) 26 (0, 0)) :: L)) := by
        rw [HT.out.1, HT.out.2, HRR.out]
        exact H25
      clear H25 H20 y3
      go_wp2_with fail
      go_roundw
      case rel => exact ⟨q + 1, by omega, by go_num, HH⟩
      case measure => simp [intOf]; omega
    · obtain rfl : q = N := by omega
      have h12 := HW.out
      rw [List.take_of_length_le (by rw [hNN.out]; exact Nat.le_refl _)] at h12
      obtain ⟨es, hes⟩ : ∃ es, madeP (polOf p) [] ds = es := ⟨_, rfl⟩
      obtain ⟨c, hc⟩ : ∃ c, cntL ds = c := ⟨_, rfl⟩
      rw [hes, hc] at h12
      obtain ⟨r, -, ho⟩ := Rope.out h12
      obtain ⟨n1, n2⟩ := rightN_len HRN.out
      have HO := Lib.hid (And.intro ho.fit (And.intro ho.len (And.intro n2 HF.out.2)))
      have hNL : (p.labels.length : Int) ≤ 32 := by omega
      have hNL0 : 0 ≤ (p.labels.length : Int) := by omega
      have H12 := Lib.hid h12
      clear h12 hes hc ho HW n1 n2
      go_wp2_with fail
      go_loopw [15] (fun i wr => ∃ v : Int, -1 ≤ v ∧ v ≤ (p.labels.length : Int) + 1 ∧ i = .int .i64 v ∧ Hid (St k wr (Rope g (polOf p) es c :: refA gx p A0 A1 A2 c0 c1 c2 es :: polS p A0 A1 A2 c0 c1 c2 :: dosS A cp ds :: pt B (.cells (polC p A0 A1 A2 c0 c1 c2) 26 (0, 0)) :: L))) (fun i _ => ((p.labels.length : Int) + 1 - intOf i).toNat)
      case atStart => exact ⟨-1, by omega, by omega, rfl, H12⟩
      case round =>
        clear H12
        obtain ⟨v, hv1, hv2, rfl, HW⟩ := hrel
        obtain ⟨y0, y1, y2⟩ := boxP (HW.out.pull 4)
        by_cases hlt2 : v ≤ (p.labels.length : Int)
        · have HCC := Lib.hid (countP_cntI HO.out.1 v)
          obtain ⟨S, hS⟩ : ∃ S, seenE (polOf p) v es = S := ⟨_, rfl⟩
          have HSE := Lib.hid hS
          have hsz : sizeP (polOf p) v es = (S.length : Nat) := by rw [sizeP_seen', hS]
          have HSZ := Lib.hid hsz
          clear hS hsz
          go_wp2_with fail
          refine count1_any HW.out fun w20 h13 => ?_
          rw [HCC.out]
          have H13 := Lib.hid h13.swap
          clear h13 y0 y1 y2
          go_wp2_with fail
          refine rcount_any H13.out HO.out.2.1 fun w21 h14 => ?_
          have H14 := Lib.hid h14.swap
          clear h14 H13
          go_wp2_with fail
          refine size_any H14.out fun w22 h15 => ?_
          rw [HSZ.out]
          have H15 := Lib.hid (h15.pick 3 [1, 2, 0])
          clear h15 H14
          go_wp2_with fail
          refine rseen_any H15.out HO.out.2.2.2 HO.out.2.2.1 HO.out.1 HO.out.2.1 ?_
          rw [HSE.out]
          intro u1 w23 h16
          obtain ⟨A7, k7, rfl, -⟩ := h16.readsA.at_
          have H16 := Lib.hid (h16.pick 4 [3, 1, 2])
          clear h16 H15
          go_wp2_with fail
          refine seenx_any H16.out ?_
          rw [HSE.out]
          intro u2 w24 _ h17
          obtain ⟨A8, k8, rfl, -⟩ := h17.readsA.at_
          have H17 := Lib.hid (h17.pick 4 [2, 3, 0, 1])
          clear h17 H16
          go_wp2_with fail
          refine rseen_any H17.out HO.out.2.2.2 HO.out.2.2.1 HO.out.1 HO.out.2.1 ?_
          rw [HSE.out]
          intro u3 w25 h18
          obtain ⟨A9, k9, rfl, -⟩ := h18.readsA.at_
          have H18 := Lib.hid (h18.pick 5 [3, 0, 4, 1, 2])
          clear h18 H17
          go_wp2_with fail
          refine same_any (a := S) (b := S) H18.out (rowLike_A 39 3 (.slice A8 S.length k8) S.length (elsC S)) (rowLike_A 39 3 (.slice A9 S.length k9) S.length (elsC S)) rfl rfl ?_
          intro w26 h19
          rw [decide_eq_true (rfl : S = S)]
          have H19 := Lib.hid (h19.pick 5 [2, 3, 4])
          clear h19 H18
          go_wp2_with fail
          refine text_any H19.out HO.out.2.1 fun w27 h20 => ?_
          rw [HSE.out]
          have H20 := Lib.hid (h20.pick 3 [1, 2, 0])
          clear h20 H19
          go_wp2_with fail
          refine rtext_any H20.out HO.out.2.2.2 HO.out.2.2.1 HO.out.1 HO.out.2.1 fun w28 h21 => ?_
          rw [HSE.out]
          have H21 := Lib.hid (h21.pick 3 [2, 0, 1])
          clear h21 H20
          go_wp2_with fail
          go_roundw
          case rel => exact ⟨v + 1, by omega, by omega, by go_num, H21⟩
          case measure => simp [intOf]; omega
        · have H12 := Lib.hid HW.out.drop.drop.drop.drop.drop
          go_wp2_with fail
          refine awake_any H12.out fun wz hz => ?_
          have HX := Lib.hid (HR.out _ hz)
          clear hz
          go_wp2
          exact HX.out
end
end Go.Proofs.Ytdgaffcfcgmfnaa
