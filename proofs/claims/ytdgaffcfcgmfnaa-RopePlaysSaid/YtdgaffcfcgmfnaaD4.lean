/- does. -/
import Derived.Test.YtdgaffcfcgmfnaaD3
import Derived.Test.YtdgaffcfcgmfnaaM5
import Derived.Test.YtdgaffcfcgmfnaaZn
namespace Go.Proofs.Ytdgaffcfcgmfnaa
open Go.RowKit Go.Sl
/-- What is answered: what was taken out, the error, what there is then. -/
def doP (P : Pol) (es : List El) (d : DoM) : List El × Int × List El :=
  if bits .and .i64 d.op 7 = 4 ∨ bits .and .i64 d.op 7 = 5 then removeP es d.i (callN d)
  else if bits .and .i64 d.op 7 = 6 then ([], (relabelP P es d.i (callN d) d.label).1, (relabelP P es d.i (callN d) d.label).2)
  else ([], (insertP P es d.i (callL d)).1, (insertP P es d.i (callL d)).2)
theorem callN_64 {d : DoM} (h : I64 d.n) : I64 (callN d) := by
  unfold callN
  split
  · have h1 := Int.tmod_lt_of_pos d.n (show (0 : Int) < 100 by decide)
    have h2 := Int.lt_tmod_of_pos d.n (show (0 : Int) < 100 by decide)
    have h3 := Int.tmod_lt_of_pos d.n (show (0 : Int) < 3 by decide)
    have h4 := Int.lt_tmod_of_pos d.n (show (0 : Int) < 3 by decide)
    exact ⟨by omega, by omega⟩
  · exact h
section
variable {k w : World} {L : List Asn} {g c : Nat} {P : Pol} {es : List El} {R : Ending → World → Prop}
theorem Rope_mono {c' : Nat} (h : St k w (Rope g P es c :: L)) (hc : c ≤ c') : St k w (Rope g P es c' :: L) := by
  obtain ⟨r, h1, ho⟩ := Rope.out h
  refine Rope.mk h1 ⟨?_, ?_, ho.fit, ho.labels, ho.l32, ho.sees, ho.slen, ho.len⟩
  · obtain ⟨hh, h2, h3⟩ := ho.ar
    exact ⟨hh, by omega, h3⟩
  · exact Nat.le_trans ho.few (Nat.mul_le_mul (by omega) (by omega))
set_option maxRecDepth 100000 in
set_option maxHeartbeats 1000000 in
theorem does_any {d : DoM} (h : St k w (Rope g P es c :: doS d :: L)) (hi : I64 d.i) (hn : I64 d.n) (hc : c + (callL d).length ≤ 90000)
    (hR : ∀ v w', St k w' (rowA 39 3 v (doP P es d).1.length (elsC (doP P es d).1) :: Rope g P (doP P es d).2.2 (c + (callL d).length) :: doS d :: L) → R (.returned (.tuple #[v, .int .i64 (doP P es d).2.1])) w') :
    Calls Try.prog 25 #[.pointer (some ⟨g, 0, none⟩), doV d] w R := by
  have h1 := (h.alloc (.cells (doC d).toArray 48)).pull 2
  have HC := Lib.hid (fun (Q : Ending → World → Prop) => call_any (R := Q) h1 hn)
  have HR := Lib.hid hR
  have HI := Lib.hid hi
  have HN := Lib.hid hn
  obtain ⟨B, hB⟩ : ∃ B, w.heap.size = B := ⟨_, rfl⟩
  rw [hB] at HC
  clear h h1 hR hi hn
  go_enter Try.func25, Try.ntmps25
  go_wp2_with fail
  refine HC.out _ ?_
  clear HC
  intro d' w1 hE h2
  have hlen : (callL d).length ≤ maxLen := by unfold maxLen; omega
  obtain ⟨op', i', n', label', L', wide', A', cp'⟩ := d'
  obtain ⟨e1, e2, e3, e4, e5⟩ := hE
  simp only at e1 e2 e3 e4 e5
  subst e1 e2 e3 e4 e5
  have hb := h2.pull 2
  have f0 := fun j => blk_frozen hb.lies j
  have l0 := blk_lt hb.lies
  have x0 : _ = some (Value.int .i64 d.op) := blk_cell hb.lies 0
  have x1 : _ = some (Value.int .i64 d.i) := blk_cell hb.lies 1
  have x2 : _ = some (Value.int .i64 d.n) := blk_cell hb.lies 2
  have x3 : _ = some (Value.int .i64 d.label) := blk_cell hb.lies 3
  have x4 : _ = some (Value.slice d.A d.L.length d.cp) := blk_cell hb.lies 4
  have x5 : _ = some (Value.bool d.wide) := blk_cell hb.lies 5
  have h3 := (((((hb.set 0 (.int .i64 d.op)).set 1 (.int .i64 d.i)).set 2 (.int .i64 (callN d))).set 3 (.int .i64 d.label)).set 4 (.slice A' (callL d).length cp')).set 5 (.bool wide')
  obtain ⟨M, hM⟩ : ∃ M, callL d = M := ⟨_, rfl⟩
  obtain ⟨n', hn'⟩ : ∃ n', callN d = n' := ⟨_, rfl⟩
  have hrow : RowLike 3 (.slice A' M.length cp') M.length (elsC M) (doS { op := d.op, i := d.i, n := n', label := d.label, L := M, wide := wide', A := A', cp := cp' }) := fun _ _ _ h => St.readsS h
  rw [hM, hn'] at h3
  rw [hM] at hlen hc
  have hn64 := callN_64 HN.out
  rw [hn'] at hn64
  have HM := Lib.hid (And.intro hM hn')
  have H3 := Lib.hid (h3.drop.pull 2)
  have HRW := Lib.hid hrow
  have HLN := Lib.hid (And.intro hc (And.intro hlen hn64))
  obtain ⟨o, ho⟩ : ∃ o, bits .and .i64 d.op 7 = o := ⟨_, rfl⟩
  have HO := Lib.hid ho
  unfold doV
  rw [hM, hn']
  clear hb h2 h3 hrow hlen hc hn64 hM hn'
  by_cases h45 : o = 4 ∨ o = 5
  · have HD := Lib.hid (show doP P es d = removeP es d.i n' by unfold doP; rw [ho, if_pos h45, HM.out.2])
    rw [HD.out, HM.out.1] at HR
    rcases h45 with rfl | rfl
    all_goals
      go_wp2_with fail
      refine remove_any H3.out HI.out HLN.out.2.2 (by have := HLN.out.1; omega) ?_
      intro v w2 h4
      have h5 := (Rope_mono (h4.pull 2).drop.swap (show c ≤ c + M.length by omega)).swap
      have HX := Lib.hid (HR.out _ _ h5)
      clear h4 h5 H3
      go_wp2
      exact HX.out
  · have h4 : (o == 4) = false := by simp; omega
    have h5 : (o == 5) = false := by simp; omega
    by_cases h6 : o = 6
    · have HD := Lib.hid (show doP P es d = ([], (relabelP P es d.i n' d.label).1, (relabelP P es d.i n' d.label).2) by unfold doP; rw [ho, if_neg h45, if_pos h6, HM.out.2])
      rw [HD.out, HM.out.1] at HR
      subst h6
      clear h45
      go_wp2_with fail
      refine relabel_any H3.out HI.out HLN.out.2.2 (by have := HLN.out.1; omega) ?_
      intro w2 h4
      have h5 := (Rope_mono h4.swap.drop.swap.swap (show c ≤ c + M.length by omega))
      have HX := Lib.hid (HR.out _ _ (h5.nilA 39 3))
      clear h4 h5 H3
      go_wp2
      exact HX.out
    · have HD := Lib.hid (show doP P es d = ([], (insertP P es d.i M).1, (insertP P es d.i M).2) by unfold doP; rw [ho, if_neg h45, if_neg h6, HM.out.1])
      rw [HD.out, HM.out.1] at HR
      have h6 : (o == 6) = false := by simp; omega
      clear h45
      go_wp2_with fail
      refine insert_any H3.out HRW.out rfl HLN.out.2.1 HI.out (fun _ => HLN.out.1) ?_
      intro w2 h4
      have h5 := (Rope_mono h4.swap.drop.swap.swap (show _ ≤ c + M.length by split <;> omega))
      have HX := Lib.hid (HR.out _ _ (h5.nilA 39 3))
      clear h4 h5 H3
      go_wp2
      exact HX.out
end
end Go.Proofs.Ytdgaffcfcgmfnaa
