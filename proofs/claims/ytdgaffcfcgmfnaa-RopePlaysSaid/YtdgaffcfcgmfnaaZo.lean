/- What a law is given, opened: shared rows. A policy, calls and code points that a law is given. Same. The frame of the Rope laws: the arguments' sizes are handed on. -/
import Derived.Test.YtdgaffcfcgmfnaaZe
import Derived.WalkKit
import Derived.ProofKit
import Derived.OpenShut
import Derived.ShutString
import Derived.HandedShaped
import Derived.Shelf.Vars
import Derived.Deep.Slices
import Derived.Deep.Strs
import Derived.ChangeSame
import Derived.Carry
import Derived.Test.YtdgaffcfcgmfnaaRows
import Derived.SizedLaws
import Derived.Lay
namespace Go.Proofs.Ytdgaffcfcgmfnaa
open Go.ChangeShapes Go.WideShapes Go.ChangeAt Go.RowKit Go.Deep Go.Sl

/-- The whole of a heap, shared. -/
abbrev heapP (w : World) : PH Obj := fun b => w.heap[b]?
theorem St.start_with {w : World} : ∀ {L : List Asn}, (∀ A ∈ L, A.holds PH.none (heapP w)) → St w w (L ++ [old w])
  | [], _ => St.start w
  | A :: L, h => by
    have h1 := St.start_with (L := L) fun B hB => h B (List.mem_cons_of_mem _ hB)
    have h0 : St w w (old w :: (L ++ [old w])) := by
      refine ⟨rfl, rfl, rfl, Nat.le_refl _, PH.none, heapP w, PH.none_apart _, (fun _ _ e => nomatch e), fun _ _ e => e, ?_⟩
      refine ⟨PH.none, PH.none, PH.none_apart _, PH.le.refl _, PH.le.refl _, fun _ _ e => e, ?_⟩
      clear h1
      have h2 := fun B hB => h B (List.mem_cons_of_mem _ hB)
      clear h
      induction L with
      | nil => exact ⟨PH.none, PH.none, PH.none_apart _, PH.le.refl _, PH.le.refl _, fun _ _ e => e, trivial⟩
      | cons B L ih => exact ⟨PH.none, PH.none, PH.none_apart _, PH.le.refl _, PH.le.refl _, h2 B (List.mem_cons_self ..), ih fun C hC => h2 C (List.mem_cons_of_mem _ hC)⟩
    obtain ⟨_, _, _, _, m, p, a, e1, e2, m1, m2, d, k1, k2, hO, hL⟩ := h0
    refine ⟨rfl, rfl, rfl, Nat.le_refl _, m, p, a, e1, e2, PH.none, m, PH.none_apart _, PH.none_le _, PH.le.refl _, A.mono (PH.le.refl _) (fun b o e => hO b o e) (h A (List.mem_cons_self ..)), hL.mono k2 (PH.le.refl _)⟩
theorem rowS_of_trod {α : Type} [Inhabited α] (f : α → List Value) (sz : Nat) (hf : ∀ x, (f x).length = sz) (hs0 : 0 < sz) (G : α → Prop) {H : Type} {enc : TypeId × Value → H} {w : World} {base : Nat} {spare : Nat → Bool} {held : Bool} {fuel t e : Nat} {cs : List Value} {x : DataW H × List MemPlace}
    (ht : Try.prog.underlying t = some (.slice e)) (hsz : Try.prog.cellsOf e = sz) (h : DataW.trod enc Try.prog w base spare held fuel t cs = some x)
    (hel : ∀ n' cs' (y : DataW H × List MemPlace), DataW.trod enc Try.prog w base spare held n' e cs' = some y → ∃ z : α, cs' = f z ∧ G z) :
    ∃ A c xs, cs = [.slice A xs.length c] ∧ (rowS sz (.slice A xs.length c) xs.length (xs.flatMap f)).holds PH.none (heapP w) ∧ (∀ z ∈ xs, G z) ∧ (xs = [] ∨ ∃ el sp, x.1 = .slice el sp ∧ el.length = xs.length) := by
  rcases open_slice ht h with ⟨hcs, _⟩ | ⟨a, len, cap, m, n', D, Pl, hcs, hb, hl, hm, hmm, rfl, hx⟩
  · exact ⟨none, 0, [], hcs, ⟨by simp, none, 0, rfl, Nat.le_refl _, by decide, fun _ => ⟨rfl, rfl⟩, fun a e => by cases e⟩, (fun z hz => by cases hz), .inl rfl⟩
  · have hlm : len ≤ m := by rw [hmm]; split <;> omega
    have each : ∀ i, i < len → ∃ z : α, (∀ j u, (f z)[j]? = some u → w.cell? (a.add (i * sz + j)) = some u) ∧ G z := fun i hi => by
      obtain ⟨cs', h1, h2⟩ := hx i (by omega)
      obtain ⟨z, rfl, hg⟩ := hel _ _ _ h2
      obtain ⟨_, h3, h4⟩ := World.cells?_some h1
      rw [hsz] at h3
      refine ⟨z, fun j u hu => ?_, hg⟩
      have hj : j < (f z).length := (List.getElem?_eq_some_iff.1 hu).1
      have := h4 j (by omega)
      rw [Go.Deep.add_add, hsz] at this
      rw [this, hu]
    obtain ⟨g, hg⟩ := choose_lt each
    have hxl : ((List.range len).map g).length = len := by simp
    refine ⟨some a, cap, (List.range len).map g, by rw [hxl]; exact hcs, ⟨by rw [flat_len hf], some a, cap, rfl, by rw [hxl]; exact hl, hm, fun e => (by cases e), fun a' e h0 => ?_⟩, fun z hz => ?_, .inr ⟨_, _, rfl, by simp⟩⟩
    · injection e with e
      subst e
      rw [hxl] at h0
      have hcell : ∀ j u, (((List.range len).map g).flatMap f)[j]? = some u → w.cell? (a.add j) = some u := fun j u hu => by
        have hj : j < len * sz := by have := (List.getElem?_eq_some_iff.1 hu).1; rwa [flat_len hf, hxl] at this
        have hq : j / sz < len := (Nat.div_lt_iff_lt_mul hs0).2 hj
        have hr : j % sz < sz := Nat.mod_lt _ hs0
        have he : j / sz * sz + j % sz = j := by rw [Nat.mul_comm]; exact Nat.div_add_mod j sz
        rw [← he, flat_get hf _ _ _ hr, List.getElem?_map, List.getElem?_range hq] at hu
        have := (hg _ hq).1 (j % sz) u hu
        rwa [he] at this
      have hne : 0 < (((List.range len).map g).flatMap f).length := by rw [flat_len hf, hxl]; exact h0
      have hc0 := hcell 0 _ (List.getElem?_eq_getElem hne)
      have hsp : a.spot = none := by have := World.cell?_spot hc0; simpa [Addr.add] using this
      refine ⟨hsp, ?_⟩
      obtain ⟨b, o, sp⟩ := a
      simp only at hsp
      subst hsp
      rw [addr_add] at hc0
      cases hob : w.heap[b]? with
      | none => simp [World.cell?, hob] at hc0
      | some ob =>
        refine ⟨ob, hob, fun j u hu => ?_⟩
        have h1 := hcell j u hu
        rw [addr_add] at h1
        cases ob <;> simp [World.cell?, hob] at h1 hc0
        simpa [objCell] using h1
    · obtain ⟨i, hi, rfl⟩ := List.mem_map.1 hz
      exact (hg i (List.mem_range.1 hi)).2
end Go.Proofs.Ytdgaffcfcgmfnaa
namespace Go.Proofs.Ytdgaffcfcgmfnaa
open Go.ChangeShapes Go.WideShapes Go.ChangeAt Go.RowKit Go.Deep Go.Sl

instance : Inhabited Lab := ⟨⟨0, 0⟩⟩
instance : Inhabited Quo := ⟨⟨0, 0, 0⟩⟩
instance : Inhabited Ent := ⟨⟨0, ⟨#[]⟩, false⟩⟩
instance : Inhabited DoM := ⟨⟨0, 0, 0, 0, [], false, none, 0⟩⟩
theorem c93 : Try.prog.cellsOf 93 = 2 := by kernel_rfl
theorem c98 : Try.prog.cellsOf 98 = 3 := by kernel_rfl
theorem c100 : Try.prog.cellsOf 100 = 3 := by kernel_rfl
theorem c26 : Try.prog.cellsOf 26 = 3 := by kernel_rfl
theorem c3 : Try.prog.cellsOf 3 = 1 := by kernel_rfl
theorem c4 : Try.prog.cellsOf 4 = 1 := by kernel_rfl
theorem c9 : Try.prog.cellsOf 9 = 1 := by kernel_rfl
theorem c91 : Try.prog.cellsOf 91 = 1 := by kernel_rfl
theorem c21 : Try.prog.cellsOf 21 = 1 := by kernel_rfl
theorem c22 : Try.prog.cellsOf 22 = 1 := by kernel_rfl
theorem c23 : Try.prog.cellsOf 23 = 1 := by kernel_rfl
theorem c24 : Try.prog.cellsOf 24 = 1 := by kernel_rfl
theorem c39 : Try.prog.cellsOf 39 = 3 := by kernel_rfl
theorem c46 : Try.prog.cellsOf 46 = 1 := by kernel_rfl
theorem c48 : Try.prog.cellsOf 48 = 6 := by kernel_rfl
section
set_option maxRecDepth 100000
variable {H : Type} {enc : TypeId × Value → H} {w : World} {base : Nat} {spare : Nat → Bool} {held : Bool}
theorem trod_struct6 {P : Program} {t : TypeId} {f0 f1 f2 f3 f4 f5 : Field} {fuel : Nat} {cs : List Value} {x : DataW H × List MemPlace} (ht : P.underlying t = some (.struct #[f0, f1, f2, f3, f4, f5])) (h : DataW.trod enc P w base spare held fuel t cs = some x) :
    ∃ y0 y1 y2 y3 y4 y5 n, cs.length = P.cellsOf t ∧ DataW.trod enc P w base spare held n f0.type ((cs.drop f0.offset).take (P.cellsOf f0.type)) = some y0 ∧
      DataW.trod enc P w base spare held n f1.type ((cs.drop f1.offset).take (P.cellsOf f1.type)) = some y1 ∧ DataW.trod enc P w base spare held n f2.type ((cs.drop f2.offset).take (P.cellsOf f2.type)) = some y2 ∧
      DataW.trod enc P w base spare held n f3.type ((cs.drop f3.offset).take (P.cellsOf f3.type)) = some y3 ∧ DataW.trod enc P w base spare held n f4.type ((cs.drop f4.offset).take (P.cellsOf f4.type)) = some y4 ∧
      DataW.trod enc P w base spare held n f5.type ((cs.drop f5.offset).take (P.cellsOf f5.type)) = some y5 := by
  obtain ⟨xs, n, _, rfl, hl, hlen, hf⟩ := DataW.trod_struct ht h
  match xs, hlen with
  | [y0, y1, y2, y3, y4, y5], _ => exact ⟨y0, y1, y2, y3, y4, y5, n, hl, hf 0 f0 rfl, hf 1 f1 rfl, hf 2 f2 rfl, hf 3 f3 rfl, hf 4 f4 rfl, hf 5 f5 rfl⟩
theorem wf64 {x : Int} (h : (Lit.int .i64 x).wf = true) : I64 x := by
  simp [Lit.wf, IntKind.min, IntKind.max, IntKind.bits, IntKind.signed] at h
  exact ⟨by omega, by omega⟩
theorem lab_of_trod {n' : Nat} {cs' : List Value} {y : DataW H × List MemPlace} (h : DataW.trod enc Try.prog w base spare held n' 93 cs' = some y) : ∃ z : Lab, cs' = labC z ∧ (0 ≤ z.com ∧ z.com ≤ 4294967295) := by
  obtain ⟨y0, y1, n, _, hl, h0, h1⟩ := trod_struct2 Try.underlying93 h
  rw [c93] at hl
  match cs', hl with
  | [a, b], _ =>
    simp only [c3, c91, List.drop_zero, List.drop_succ_cons, List.take_succ_cons, List.take_zero] at h0 h1
    obtain ⟨z0, e0, _, _⟩ := DataW.trod_int Try.underlying3 h0
    obtain ⟨z1, e1, _, hw⟩ := DataW.trod_int Try.underlying91 h1
    injection e0 with e0
    injection e1 with e1
    subst e0 e1
    refine ⟨⟨z0, z1⟩, rfl, ?_⟩
    simp [Lit.wf, IntKind.min, IntKind.max, IntKind.bits, IntKind.signed] at hw
    exact ⟨show 0 ≤ z1 by omega, show z1 ≤ 4294967295 by omega⟩
theorem quo_of_trod {n' : Nat} {cs' : List Value} {y : DataW H × List MemPlace} (h : DataW.trod enc Try.prog w base spare held n' 98 cs' = some y) : ∃ z : Quo, cs' = quoC z ∧ True := by
  obtain ⟨y0, y1, y2, n, _, hl, h0, h1, h2⟩ := trod_struct3 Try.underlying98 h
  rw [c98] at hl
  match cs', hl with
  | [a, b, c], _ =>
    simp only [c3, List.drop_zero, List.drop_succ_cons, List.take_succ_cons, List.take_zero] at h0 h1 h2
    obtain ⟨z0, e0, _, _⟩ := DataW.trod_int Try.underlying3 h0
    obtain ⟨z1, e1, _, _⟩ := DataW.trod_int Try.underlying3 h1
    obtain ⟨z2, e2, _, _⟩ := DataW.trod_int Try.underlying3 h2
    injection e0 with e0
    injection e1 with e1
    injection e2 with e2
    subst e0 e1 e2
    exact ⟨⟨z0, z1, z2⟩, rfl, trivial⟩
theorem ent_of_trod {n' : Nat} {cs' : List Value} {y : DataW H × List MemPlace} (h : DataW.trod enc Try.prog w base spare held n' 100 cs' = some y) : ∃ z : Ent, cs' = entC z ∧ True := by
  obtain ⟨y0, y1, y2, n, _, hl, h0, h1, h2⟩ := trod_struct3 Try.underlying100 h
  rw [c100] at hl
  match cs', hl with
  | [a, b, c], _ =>
    simp only [c3, c9, c4, List.drop_zero, List.drop_succ_cons, List.take_succ_cons, List.take_zero] at h0 h1 h2
    obtain ⟨z0, e0, _, _⟩ := DataW.trod_int Try.underlying3 h0
    obtain ⟨z1, e1, _, _⟩ := DataW.trod_string Try.underlying9 h1
    obtain ⟨z2, e2, _⟩ := DataW.trod_bool Try.underlying4 h2
    injection e0 with e0
    injection e1 with e1
    injection e2 with e2
    subst e0 e1 e2
    exact ⟨⟨z0, z1, z2⟩, rfl, trivial⟩
theorem el_of_trod {n' : Nat} {cs' : List Value} {y : DataW H × List MemPlace} (h : DataW.trod enc Try.prog w base spare held n' 39 cs' = some y) : ∃ z : El, cs' = elC z ∧ True := by
  obtain ⟨y0, y1, y2, n, _, hl, h0, h1, h2⟩ := trod_struct3 Try.underlying39 h
  rw [c39] at hl
  match cs', hl with
  | [a, b, c], _ =>
    simp only [c3, c21, List.drop_zero, List.drop_succ_cons, List.take_succ_cons, List.take_zero] at h0 h1 h2
    obtain ⟨z0, e0, _, _⟩ := DataW.trod_int Try.underlying3 h0
    obtain ⟨z1, e1, _, _⟩ := DataW.trod_int Try.underlying21 h1
    obtain ⟨z2, e2, _, _⟩ := DataW.trod_int Try.underlying3 h2
    injection e0 with e0
    injection e1 with e1
    injection e2 with e2
    subst e0 e1 e2
    exact ⟨⟨z0, z1, z2⟩, rfl, trivial⟩
theorem els_of_trod {fuel : Nat} {cs : List Value} {x : DataW H × List MemPlace} (h : DataW.trod enc Try.prog w base spare held fuel 46 cs = some x) :
    ∃ A c es, cs = [.slice A es.length c] ∧ (rowS 3 (.slice A es.length c) es.length (elsC es)).holds PH.none (heapP w) := by
  obtain ⟨A, c, xs, e, h1, -, -⟩ := rowS_of_trod elC 3 elC_len (by decide) _ Try.underlying46 c39 h (fun n' cs' y h => el_of_trod h)
  exact ⟨A, c, xs, e, h1⟩
/-- What a call is, in a world. -/
def DoIn (w : World) (d : DoM) : Prop := (doS d).holds PH.none (heapP w) ∧ I64 d.i ∧ I64 d.n
theorem do_of_trod {n' : Nat} {cs' : List Value} {y : DataW H × List MemPlace} (h : DataW.trod enc Try.prog w base spare held n' 48 cs' = some y) : ∃ z : DoM, cs' = doC z ∧ DoIn w z := by
  obtain ⟨y0, y1, y2, y3, y4, y5, n, hl, h0, h1, h2, h3, h4, h5⟩ := trod_struct6 Try.underlying48 h
  rw [c48] at hl
  match cs', hl with
  | [a, b, c, d, e, f], _ =>
    simp only [c3, c46, c4, List.drop_zero, List.drop_succ_cons, List.take_succ_cons, List.take_zero] at h0 h1 h2 h3 h4 h5
    obtain ⟨z0, e0, _, w0⟩ := DataW.trod_int Try.underlying3 h0
    obtain ⟨z1, e1, _, w1⟩ := DataW.trod_int Try.underlying3 h1
    obtain ⟨z2, e2, _, w2⟩ := DataW.trod_int Try.underlying3 h2
    obtain ⟨z3, e3, _, w3⟩ := DataW.trod_int Try.underlying3 h3
    obtain ⟨A, cp, es, e4, k4⟩ := els_of_trod h4
    obtain ⟨z5, e5, _⟩ := DataW.trod_bool Try.underlying4 h5
    injection e0 with e0
    injection e1 with e1
    injection e2 with e2
    injection e3 with e3
    injection e4 with e4
    injection e5 with e5
    subst e0 e1 e2 e3 e4 e5
    exact ⟨⟨z0, z1, z2, z3, es, z5, A, cp⟩, rfl, k4, wf64 w1, wf64 w2⟩
theorem open_do {base' : Nat} {v : Value} {d : DataW H} {ps : List MemPlace} (hv : Value.okWide Try.prog w .any base' 48 v) (h : DataW.Trod enc Try.prog w base spare held 48 v d ps) : ∃ z : DoM, v = doV z ∧ DoIn w z := by
  obtain ⟨cs, rfl, hcs⟩ := okWide_struct Try.underlying48 hv
  obtain ⟨fuel, hf⟩ := h
  obtain ⟨z, e, hz⟩ := do_of_trod hf
  refine ⟨z, ?_, hz⟩
  simp only [Value.cells] at e
  rw [show cs = (doC z).toArray by rw [← e]]
  rfl
theorem open_dos {base' : Nat} {v : Value} {d : DataW H} {ps : List MemPlace} (hv : Value.okWide Try.prog w .any base' 27 v) (h : DataW.Trod enc Try.prog w base spare held 27 v d ps) :
    ∃ (ds : List DoM) (A : Option Addr) (cp : Nat), v = .slice A ds.length cp ∧ (dosS A cp ds).holds PH.none (heapP w) ∧ Fits ds ∧ (ds = [] ∨ ∃ el sp, d = .slice el sp ∧ el.length = ds.length) := by
  obtain ⟨A, n, c, rfl⟩ := okWide_slice Try.underlying27 hv
  obtain ⟨fuel, hf⟩ := h
  obtain ⟨A', c', xs, e, h1, h2, h3⟩ := rowS_of_trod doC 6 (fun _ => rfl) (by decide) (DoIn w) Try.underlying27 c48 hf (fun n' cs' y h => do_of_trod h)
  simp [Value.cells] at e
  obtain ⟨rfl, rfl, rfl⟩ := e
  exact ⟨xs, A, c, rfl, ⟨h1, fun d hd => (h2 d hd).1⟩, fun d hd => (h2 d hd).2, h3⟩
theorem open_els {base' : Nat} {v : Value} {d : DataW H} {ps : List MemPlace} (hv : Value.okWide Try.prog w .any base' 46 v) (h : DataW.Trod enc Try.prog w base spare held 46 v d ps) :
    ∃ (es : List El) (A : Option Addr) (cp : Nat), v = .slice A es.length cp ∧ (rowS 3 (.slice A es.length cp) es.length (elsC es)).holds PH.none (heapP w) := by
  obtain ⟨A, n, c, rfl⟩ := okWide_slice Try.underlying46 hv
  obtain ⟨fuel, hf⟩ := h
  obtain ⟨A', c', xs, e, h1⟩ := els_of_trod hf
  simp [Value.cells] at e
  obtain ⟨rfl, rfl, rfl⟩ := e
  exact ⟨xs, A, c, rfl, h1⟩
theorem open_pol {base' : Nat} {v : Value} {d : DataW H} {ps : List MemPlace} (hv : Value.okWide Try.prog w .any base' 26 v) (h : DataW.Trod enc Try.prog w base spare held 26 v d ps) :
    ∃ (p : PV) (A0 A1 A2 : Option Addr) (c0 c1 c2 : Nat), v = polV p A0 A1 A2 c0 c1 c2 ∧ (polS p A0 A1 A2 c0 c1 c2).holds PH.none (heapP w) ∧ ∀ x ∈ p.labels, 0 ≤ x.com ∧ x.com ≤ 4294967295 := by
  obtain ⟨cs, rfl, hcs⟩ := okWide_struct Try.underlying26 hv
  rw [c26] at hcs
  obtain ⟨fuel, hf⟩ := h
  obtain ⟨y0, y1, y2, n, _, hl, h0, h1, h2⟩ := trod_struct3 Try.underlying26 hf
  obtain ⟨l⟩ := cs
  match l, hcs with
  | [a, b, c], _ =>
    simp only [Value.cells, c22, c23, c24, List.drop_zero, List.drop_succ_cons, List.take_succ_cons, List.take_zero] at h0 h1 h2
    obtain ⟨A0, k0, L0, e0, g0, m0, -⟩ := rowS_of_trod labC 2 (fun _ => rfl) (by decide) _ Try.underlying22 c93 h0 (fun n' cs' y h => lab_of_trod h)
    obtain ⟨A1, k1, L1, e1, g1, -, -⟩ := rowS_of_trod quoC 3 (fun _ => rfl) (by decide) _ Try.underlying23 c98 h1 (fun n' cs' y h => quo_of_trod h)
    obtain ⟨A2, k2, L2, e2, g2, -, -⟩ := rowS_of_trod entC 3 (fun _ => rfl) (by decide) _ Try.underlying24 c100 h2 (fun n' cs' y h => ent_of_trod h)
    injection e0 with e0
    injection e1 with e1
    injection e2 with e2
    subst e0 e1 e2
    exact ⟨⟨L0, L1, L2⟩, A0, A1, A2, k0, k1, k2, rfl, ⟨g0, g1, g2⟩, m0⟩
end
end Go.Proofs.Ytdgaffcfcgmfnaa
namespace Go.Proofs.Ytdgaffcfcgmfnaa
open Go.RowKit Go.Sl

theorem eqEl (d : Nat) (w : World) (x0 y0 x1 y1 x2 y2 : Int) :
    (Op.equalIn (d + 2) 39 (.agg #[.int .i64 x0, .int .i32 x1, .int .i64 x2]) (.agg #[.int .i64 y0, .int .i32 y1, .int .i64 y2])).run Try.prog w = .ok (x0 == y0 && (x1 == y1 && (x2 == y2))) w := by
  refine eqA_of Try.underlying39 (by kernel_rfl) ?_
  refine eqf_cons (by rfl) (by go_simp; rfl) (by go_simp; rfl) (by go_simp) ?_
  refine eqf_cons (by rfl) (by go_simp; rfl) (by go_simp; rfl) (by go_simp) ?_
  exact eqf_last (by rfl) (by go_simp; rfl) (by go_simp; rfl) (by go_simp)
theorem el_eq (x y : El) : (x.id == y.id && (x.rune == y.rune && (x.label == y.label))) = decide (x = y) := by
  obtain ⟨a, b, c⟩ := x
  obtain ⟨d, e, f⟩ := y
  rw [Bool.eq_iff_iff]
  simp
section
attribute [local go_sem high] eqEl
variable {k w : World} {L : List Asn} {R : Ending → World → Prop} {X Y : Asn} {A B : Option Addr} {na nb ca cb : Nat} {a b : List El}
set_option maxRecDepth 100000 in
set_option maxHeartbeats 1000000 in
theorem same_any (h : St k w (X :: Y :: L)) (hX : RowLike 3 (.slice A na ca) na (elsC a) X) (hY : RowLike 3 (.slice B nb cb) nb (elsC b) Y) (ha : na = a.length) (hb : nb = b.length)
    (hR : ∀ w', St k w' (X :: Y :: L) → R (.returned (.bool (decide (a = b)))) w') : Calls Try.prog 31 #[.slice A na ca, .slice B nb cb] w R := by
  subst ha hb
  have hmx : (a.length : Int) ≤ 9223372036854775807 := by
    obtain ⟨A', c', hv, h1, h2, -⟩ := (hX _ _ _ h).at_
    have := minLen h2
    omega
  by_cases hl : a.length = b.length
  · have H := Lib.hid h
    have HX := Lib.hid hX
    have HY := Lib.hid hY
    have HR := Lib.hid hR
    obtain ⟨N, hN⟩ : ∃ N, a.length = N := ⟨_, rfl⟩
    have hNb : b.length = N := by rw [← hl, hN]
    have HN := Lib.hid (And.intro hN hNb)
    rw [hN] at hmx
    rw [hN, hNb]
    rw [hN] at HX
    rw [hNb] at HY
    clear h hX hY hR hl hN hNb
    go_enter Try.func31, Try.ntmps31
    go_wp2
    go_loopw [13] (fun i wr => ∃ q : Nat, q ≤ N ∧ i = .int .i64 q ∧ Hid (a.take q = b.take q) ∧ Hid (St k wr (X :: Y :: L))) (fun i _ => N - (intOf i).toNat)
    case atStart => exact ⟨0, by omega, rfl, Lib.hid (by simp), H⟩
    case round =>
      obtain ⟨q, hq, rfl, HE, HS⟩ := hrel
      by_cases hlt : q < N
      · have g1 : (q : Int) < (N : Int) := by omega
        obtain ⟨x, hx⟩ : ∃ x, a[q]? = some x := ⟨_, List.getElem?_eq_getElem (by rw [HN.out.1]; exact hlt)⟩
        obtain ⟨y, hy⟩ : ∃ y, b[q]? = some y := ⟨_, List.getElem?_eq_getElem (by rw [HN.out.2]; exact hlt)⟩
        obtain ⟨ba, oa, hA, hca⟩ := reads_el (by rw [HN.out.1]; exact HX.out _ _ _ HS.out) rfl (by rw [HN.out.1]; omega)
        obtain ⟨bb, ob, hB, hcb⟩ := reads_el (by rw [HN.out.2]; exact HY.out _ _ _ HS.out.swap) rfl (by rw [HN.out.2]; omega)
        have e0 := hca q x 0 _ hx rfl
        have e1 := hca q x 1 _ hx rfl
        have e2 := hca q x 2 _ hx rfl
        have d0 := hcb q y 0 _ hy rfl
        have d1 := hcb q y 1 _ hy rfl
        have d2 := hcb q y 2 _ hy rfl
        rw [Nat.add_zero] at e0 d0
        have hta : a.take (q + 1) = a.take q ++ [x] := by rw [List.take_add_one, hx]; rfl
        have htb : b.take (q + 1) = b.take q ++ [y] := by rw [List.take_add_one, hy]; rfl
        have HT := Lib.hid (And.intro hta htb)
        have HXY := Lib.hid (And.intro hx hy)
        subst hA hB
        clear hca hcb hx hy hta htb
        cases he : (x.id == y.id && (x.rune == y.rune && (x.label == y.label))) with
        | true =>
          have hxy : x = y := of_decide_eq_true ((el_eq x y).symm.trans he)
          have HTN := Lib.hid (show a.take (q + 1) = b.take (q + 1) by rw [HT.out.1, HT.out.2, HE.out, hxy])
          clear hxy
          go_wp2
          go_quiet (fail)
          go_wp2
          go_roundw
          case rel => exact ⟨q + 1, by omega, by go_num, HTN, Lib.hid (HS.out.drewN _)⟩
          case measure => simp [intOf]; omega
        | false =>
          have hxy : x ≠ y := fun e => by
            have := (el_eq x y).symm.trans he
            rw [decide_eq_false_iff_not] at this
            exact this e
          have hne : a ≠ b := fun e => hxy (by
            have h1 := HXY.out.1
            rw [e, HXY.out.2] at h1
            exact (Option.some.inj h1).symm)
          rw [decide_eq_false hne] at HR
          clear hxy hne
          go_wp2
          go_quiet (fail)
          go_wp2
          exact HR.out _ (HS.out.drewN _)
      · obtain rfl : q = N := by omega
        have hab : a = b := by
          have := HE.out
          rw [List.take_of_length_le (by rw [HN.out.1]; exact Nat.le_refl _), List.take_of_length_le (by rw [HN.out.2]; exact Nat.le_refl _)] at this
          exact this
        rw [decide_eq_true hab] at HR
        have HXX := Lib.hid (HR.out _ HS.out)
        clear hab HS HE
        go_wp2
        exact HXX.out
  · have hne : a ≠ b := fun e => hl (by rw [e])
    rw [decide_eq_false hne] at hR
    have HR := Lib.hid (hR _ h)
    have e1 : ((a.length : Int) == (b.length : Int)) = false := by simp; omega
    clear h hX hY hR hne
    go_enter Try.func31, Try.ntmps31
    go_wp2
    exact HR.out
end
end Go.Proofs.Ytdgaffcfcgmfnaa
namespace Go.Proofs.Ytdgaffcfcgmfnaa
open Go.ChangeShapes Go.WideShapes Go.ChangeAt Go.RowKit

theorem own : ownKnob Try.prog.godebug = none := by kernel_rfl
theorem bytes48 : Try.prog.bytesOf 48 = 64 := by kernel_rfl
theorem laidOut : laidOutB Try.prog = true := by kernel_rfl
end Go.Proofs.Ytdgaffcfcgmfnaa
