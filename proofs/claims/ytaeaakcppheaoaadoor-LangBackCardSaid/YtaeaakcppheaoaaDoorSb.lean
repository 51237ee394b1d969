/- A policy and names that a law is given, opened: what lies in memory, as the walks read it. -/
import Derived.Test.YtaeaakcppheaoaaDoorHw
import Derived.Deep.Slices
import Derived.Deep.Strs
import Derived.ChangeSame
import Derived.Carry
import Derived.Lib.LaidTab
namespace Go.Proofs.YtaeaakcppheaoaaDoor
open Go.ChangeShapes Go.WideShapes Go.ChangeAt Go.RowKit Go.Deep Go.Proofs.YtaeaakcppheaoaaDoorW.PrintWords

instance : Inhabited Lab := ⟨⟨0, 0⟩⟩
instance : Inhabited Quo := ⟨⟨0, 0, 0⟩⟩
instance : Inhabited Ent := ⟨⟨0, ⟨#[]⟩, false⟩⟩
theorem C_of_trod {α : Type} [Inhabited α] (d : Kd α) (G : α → Prop) {H : Type} {enc : TypeId × Value → H} {w : World} {base : Nat} {spare : Nat → Bool} {held : Bool} {fuel t e : Nat} {cs : List Value} {x : DataW H × List MemPlace}
    (ht : Tryd.prog.underlying t = some (.slice e)) (hsz : Tryd.prog.cellsOf e = d.sz) (h : DataW.trod enc Tryd.prog w base spare held fuel t cs = some x)
    (hel : ∀ n' cs' (y : DataW H × List MemPlace), DataW.trod enc Tryd.prog w base spare held n' e cs' = some y → ∃ z : α, d.K w z cs' ∧ G z) :
    ∃ A n c xs, cs = [.slice A n c] ∧ Kd.C d w A n xs ∧ (∀ z ∈ xs, G z) ∧ n ≤ c := by
  rcases open_slice ht h with ⟨hcs, _⟩ | ⟨a, len, cap, m, n', D, Pl, hcs, hb, hl, hm, hmm, rfl, hx⟩
  · exact ⟨none, 0, 0, [], hcs, ⟨rfl, by omega, fun h => absurd h (Nat.lt_irrefl 0)⟩, fun z hz => by simp at hz, Nat.le_refl _⟩
  · have hlm : len ≤ m := by rw [hmm]; split <;> omega
    have each : ∀ i, i < len → ∃ z : α, (∃ cs', cs'.length = d.sz ∧ d.K w z cs' ∧ ∀ j u, cs'[j]? = some u → w.cell? (a.add (i * d.sz + j)) = some u) ∧ G z := fun i hi => by
      obtain ⟨cs', h1, h2⟩ := hx i (by omega)
      obtain ⟨z, hz, hg⟩ := hel _ _ _ h2
      obtain ⟨_, h3, h4⟩ := World.cells?_some h1
      rw [hsz] at h3
      refine ⟨z, ⟨cs', h3, hz, fun j u hu => ?_⟩, hg⟩
      have hj : j < cs'.length := (List.getElem?_eq_some_iff.1 hu).1
      have := h4 j (by omega)
      rw [Go.Deep.add_add, hsz] at this
      rw [this, hu]
    obtain ⟨f, hf⟩ := choose_lt each
    refine ⟨some a, len, cap, (List.range len).map f, hcs, ⟨by simp, by unfold maxLen at hm; omega, fun _ => ⟨a, rfl, fun j p hp => ?_⟩⟩, fun z hz => ?_, hl⟩
    · obtain ⟨hj, hjp⟩ := List.getElem?_eq_some_iff.1 hp
      have hjl : j < len := by simpa using hj
      have : p = f j := by rw [← hjp]; simp
      subst this
      exact (hf j hjl).1
    · obtain ⟨i, hi, rfl⟩ := List.mem_map.1 hz
      exact (hf i (List.mem_range.1 hi)).2
theorem c66 : Tryd.prog.cellsOf 66 = 2 := by kernel_rfl
theorem c49 : Tryd.prog.cellsOf 49 = 3 := by kernel_rfl
theorem c51 : Tryd.prog.cellsOf 51 = 3 := by kernel_rfl
theorem c27 : Tryd.prog.cellsOf 27 = 3 := by kernel_rfl
theorem c3 : Tryd.prog.cellsOf 3 = 1 := by kernel_rfl
theorem c4 : Tryd.prog.cellsOf 4 = 1 := by kernel_rfl
theorem c9 : Tryd.prog.cellsOf 9 = 1 := by kernel_rfl
theorem c64 : Tryd.prog.cellsOf 64 = 1 := by kernel_rfl
theorem c23 : Tryd.prog.cellsOf 23 = 1 := by kernel_rfl
theorem c24 : Tryd.prog.cellsOf 24 = 1 := by kernel_rfl
theorem c25 : Tryd.prog.cellsOf 25 = 1 := by kernel_rfl
section
set_option maxRecDepth 100000
variable {H : Type} {enc : TypeId × Value → H} {w : World} {base : Nat} {spare : Nat → Bool} {held : Bool}
theorem lab_of_trod {n' : Nat} {cs' : List Value} {y : DataW H × List MemPlace} (h : DataW.trod enc Tryd.prog w base spare held n' 66 cs' = some y) : ∃ z : Lab, kLab.K w z cs' ∧ (0 ≤ z.com ∧ z.com ≤ 4294967295) := by
  obtain ⟨y0, y1, n, _, hl, h0, h1⟩ := trod_struct2 Tryd.underlying66 h
  rw [c66] at hl
  match cs', hl with
  | [a, b], _ =>
    simp only [c3, c64, List.drop_zero, List.drop_succ_cons, List.take_succ_cons, List.take_zero] at h0 h1
    obtain ⟨z0, e0, _, _⟩ := DataW.trod_int Tryd.underlying3 h0
    obtain ⟨z1, e1, _, hw⟩ := DataW.trod_int Tryd.underlying64 h1
    injection e0 with e0
    injection e1 with e1
    subst e0 e1
    refine ⟨⟨z0, z1⟩, ⟨[.int .i64 z0], [.int .u32 z1], rfl, rfl, rfl⟩, ?_⟩
    simp [Lit.wf, IntKind.min, IntKind.max, IntKind.bits, IntKind.signed] at hw
    exact ⟨show 0 ≤ z1 by omega, show z1 ≤ 4294967295 by omega⟩
theorem quo_of_trod {n' : Nat} {cs' : List Value} {y : DataW H × List MemPlace} (h : DataW.trod enc Tryd.prog w base spare held n' 49 cs' = some y) : ∃ z : Quo, kQuo.K w z cs' ∧ True := by
  obtain ⟨y0, y1, y2, n, _, hl, h0, h1, h2⟩ := trod_struct3 Tryd.underlying49 h
  rw [c49] at hl
  match cs', hl with
  | [a, b, c], _ =>
    simp only [c3, List.drop_zero, List.drop_succ_cons, List.take_succ_cons, List.take_zero] at h0 h1 h2
    obtain ⟨z0, e0, _, _⟩ := DataW.trod_int Tryd.underlying3 h0
    obtain ⟨z1, e1, _, _⟩ := DataW.trod_int Tryd.underlying3 h1
    obtain ⟨z2, e2, _, _⟩ := DataW.trod_int Tryd.underlying3 h2
    injection e0 with e0
    injection e1 with e1
    injection e2 with e2
    subst e0 e1 e2
    exact ⟨⟨z0, z1, z2⟩, ⟨[.int .i64 z0], _, rfl, rfl, [.int .i64 z1], [.int .i64 z2], rfl, rfl, rfl⟩, trivial⟩
theorem ent_of_trod {n' : Nat} {cs' : List Value} {y : DataW H × List MemPlace} (h : DataW.trod enc Tryd.prog w base spare held n' 51 cs' = some y) : ∃ z : Ent, kEnt.K w z cs' ∧ True := by
  obtain ⟨y0, y1, y2, n, _, hl, h0, h1, h2⟩ := trod_struct3 Tryd.underlying51 h
  rw [c51] at hl
  match cs', hl with
  | [a, b, c], _ =>
    simp only [c3, c9, c4, List.drop_zero, List.drop_succ_cons, List.take_succ_cons, List.take_zero] at h0 h1 h2
    obtain ⟨z0, e0, _, _⟩ := DataW.trod_int Tryd.underlying3 h0
    obtain ⟨z1, e1, _, _⟩ := DataW.trod_string Tryd.underlying9 h1
    obtain ⟨z2, e2, _⟩ := DataW.trod_bool Tryd.underlying4 h2
    injection e0 with e0
    injection e1 with e1
    injection e2 with e2
    subst e0 e1 e2
    exact ⟨⟨z0, z1, z2⟩, ⟨[.int .i64 z0], _, rfl, rfl, [.string z1], [.bool z2], rfl, rfl, rfl⟩, trivial⟩
theorem str_of_trod {n' : Nat} {cs' : List Value} {y : DataW H × List MemPlace} (h : DataW.trod enc Tryd.prog w base spare held n' 9 cs' = some y) : ∃ z : ByteArray, Kd.string.K w z cs' ∧ True := by
  obtain ⟨z1, e1, _, _⟩ := DataW.trod_string Tryd.underlying9 h
  subst e1
  exact ⟨z1, rfl, trivial⟩
/-- A policy that a law is given. -/
theorem open_pol {base' : Nat} {v : Value} {d : DataW H} {ps : List MemPlace} (hv : Value.okWide Tryd.prog w .any base' 27 v) (h : DataW.Trod enc Tryd.prog w base spare held 27 v d ps) :
    ∃ (p : Pol) (A0 A1 A2 : Option Addr) (c0 c1 c2 : Nat), v = .agg #[.slice A0 p.labels.length c0, .slice A1 p.quotas.length c1, .slice A2 p.entries.length c2] ∧ Kd.C kLab w A0 p.labels.length p.labels ∧ Kd.C kQuo w A1 p.quotas.length p.quotas ∧ Kd.C kEnt w A2 p.entries.length p.entries ∧
      p.labels.length ≤ c0 ∧ ∀ x ∈ p.labels, 0 ≤ x.com ∧ x.com ≤ 4294967295 := by
  obtain ⟨cs, rfl, hcs⟩ := okWide_struct Tryd.underlying27 hv
  rw [c27] at hcs
  obtain ⟨fuel, hf⟩ := h
  obtain ⟨y0, y1, y2, n, _, hl, h0, h1, h2⟩ := trod_struct3 Tryd.underlying27 hf
  obtain ⟨l⟩ := cs
  match l, hcs with
  | [a, b, c], _ =>
    simp only [Value.cells, c23, c24, c25, List.drop_zero, List.drop_succ_cons, List.take_succ_cons, List.take_zero] at h0 h1 h2
    obtain ⟨A0, n0, c0, L0, e0, k0, g0, m0⟩ := C_of_trod kLab _ Tryd.underlying23 (by kernel_rfl) h0 (fun n' cs' y h => lab_of_trod h)
    obtain ⟨A1, n1, c1, L1, e1, k1, g1, m1⟩ := C_of_trod kQuo _ Tryd.underlying24 (by kernel_rfl) h1 (fun n' cs' y h => quo_of_trod h)
    obtain ⟨A2, n2, c2, L2, e2, k2, g2, m2⟩ := C_of_trod kEnt _ Tryd.underlying25 (by kernel_rfl) h2 (fun n' cs' y h => ent_of_trod h)
    injection e0 with e0
    injection e1 with e1
    injection e2 with e2
    subst e0 e1 e2
    obtain rfl := k0.1
    obtain rfl := k1.1
    obtain rfl := k2.1
    exact ⟨⟨L0, L1, L2⟩, A0, A1, A2, c0, c1, c2, rfl, k0, k1, k2, m0, g0⟩
/-- Names that a law is given. -/
theorem open_names {base' : Nat} {v : Value} {d : DataW H} {ps : List MemPlace} (hv : Value.okWide Tryd.prog w .any base' 28 v) (h : DataW.Trod enc Tryd.prog w base spare held 28 v d ps) :
    ∃ (l : List ByteArray) (A : Option Addr) (c : Nat), v = .slice A l.length c ∧ Kd.C Kd.string w A l.length l := by
  obtain ⟨A, n, c, rfl⟩ := okWide_slice Tryd.underlying28 hv
  obtain ⟨fuel, hf⟩ := h
  obtain ⟨A', n', c', L, e, k, -, -⟩ := C_of_trod Kd.string _ Tryd.underlying28 (by kernel_rfl) hf (fun n' cs' y h => str_of_trod h)
  simp [Value.cells] at e
  obtain ⟨rfl, rfl, rfl⟩ := e
  obtain rfl := k.1
  exact ⟨L, A, c, rfl, k⟩
end
end Go.Proofs.YtaeaakcppheaoaaDoor
