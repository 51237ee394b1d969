/- does, and Text, of a sequence that no call made. -/
import Derived.Test.YtdgaffcfcgmfnaaV1
namespace Go.Proofs.Ytdgaffcfcgmfnaa
open Go.RowKit Go.Sl

/-- A nil sequence, or a zero one, that nobody writes. -/
def deadS (v : Value) : Asn :=
  ⟨fun _ p => v = .pointer none ∨ ∃ g c t, v = .pointer (some ⟨g, 0, none⟩) ∧ p g = some (.cells c t (0, 0)) ∧ c[1028]? = some (.bool false),
   fun _ hp h => h.imp id fun ⟨g, c, t, e, h1, h2⟩ => ⟨g, c, t, e, hp _ _ h1, h2⟩⟩
theorem deadS_shared (v : Value) : Shared (deadS v) := ⟨fun h => h⟩
section
variable {k w : World} {L : List Asn} {R : Ending → World → Prop} {v : Value} {d : DoM}
theorem dead_of (h : St k w (deadS v :: L)) : Dead w v := h.of fun _ p hA _ hp => by
  rcases hA with rfl | ⟨g, c, t, rfl, h1, h2⟩
  · exact .inl rfl
  · exact .inr ⟨g, rfl, by rw [blk_cell (hp _ _ h1)]; exact h2⟩
set_option maxRecDepth 100000 in
set_option maxHeartbeats 1000000 in
theorem text_dead {a : Int} (h : St k w (deadS v :: L)) (hR : ∀ w', St k w' (deadS v :: L) → R (.returned (.string ⟨#[]⟩)) w') : Calls Try.prog 28 #[v, .int .i64 a] w R := by
  have H := Lib.hid h
  have HR := Lib.hid hR
  clear h hR
  go_enter Try.func28, Try.ntmps28
  go_wp2_with (go_at_call 42; refine seen_dead (dead_of H.out) ?_; intro w1 hb1 _; have HX := Lib.hid (HR.out _ (st_later H.out hb1)); have hcv := run_convert_runes_nil (P := Try.prog) w1 53 9 21 0 0 Try.underlying53 Try.underlying21 Try.underlying9; clear hb1)
  go_loopw [5, 12] (fun s i wr => s = .slice none 0 0 ∧ i = .int .i64 0 ∧ wr = w1) (fun _ _ _ => 0)
  case atStart => exact ⟨rfl, rfl, rfl⟩
  case round =>
    obtain ⟨rfl, rfl, rfl⟩ := hrel
    go_wp2
    exact HX.out
set_option maxRecDepth 100000 in
set_option maxHeartbeats 1000000 in
theorem does_dead (h : St k w (deadS v :: doS d :: L)) (hn : I64 d.n) (hR : ∀ w', St k w' (deadS v :: doS d :: L) → R (.returned (.tuple #[.slice none 0 0, .int .i64 6])) w') : Calls Try.prog 25 #[v, doV d] w R := by
  have h1 := (h.alloc (.cells (doC d).toArray 48)).pull 2
  have HC := Lib.hid (fun (Q : Ending → World → Prop) => call_any (R := Q) h1 hn)
  have HR := Lib.hid hR
  obtain ⟨B, hB⟩ : ∃ B, w.heap.size = B := ⟨_, rfl⟩
  rw [hB] at HC
  clear h h1 hR hn
  go_enter Try.func25, Try.ntmps25
  go_wp2_with fail
  refine HC.out _ ?_
  clear HC
  intro d' w1 hE h2
  obtain ⟨op', i', n', label', L', wide', A', cp'⟩ := d'
  obtain ⟨e1, e2, e3, e4, e5⟩ := hE
  simp only at e1 e2 e3 e4 e5
  subst e1 e2 e3 e4 e5
  have hb := h2.pull 2
  have f0 := fun j => blk_frozen hb.lies j
  have l0 := blk_lt hb.lies
  have x0 : _ = some (Value.int .i64 d.op) := blk_cell hb.lies 0
  have x1 : _ = some (Value.int .i64 d.i) := blk_cell hb.lies 1
  have x2 : _ = some (Value.int .i64 d.n) := blk_cell hb.lies 2
  have x3 : _ = some (Value.int .i64 d.label) := blk_cell hb.lies 3
  have x4 : _ = some (Value.slice d.A d.L.length d.cp) := blk_cell hb.lies 4
  have x5 : _ = some (Value.bool d.wide) := blk_cell hb.lies 5
  have h3 := (((((hb.set 0 (.int .i64 d.op)).set 1 (.int .i64 d.i)).set 2 (.int .i64 (callN d))).set 3 (.int .i64 d.label)).set 4 (.slice A' (callL d).length cp')).set 5 (.bool wide')
  obtain ⟨M, hM⟩ : ∃ M, callL d = M := ⟨_, rfl⟩
  obtain ⟨n', hn'⟩ : ∃ n', callN d = n' := ⟨_, rfl⟩
  rw [hM, hn'] at h3
  have HX := Lib.hid (HR.out _ (h3.drop.drop.swap))
  have HD := Lib.hid (dead_of (h3.drop.drop.swap))
  unfold doV
  rw [hM, hn']
  clear hb h2 h3 hM hn'
  obtain ⟨o, ho⟩ : ∃ o, bits .and .i64 d.op 7 = o := ⟨_, rfl⟩
  by_cases h4 : o = 4
  · subst h4
    go_wp2_with fail
    refine remove_dead HD.out ?_
    go_wp2
    exact HX.out
  · have g4 : (o == 4) = false := by simpa using h4
    by_cases h5 : o = 5
    · subst h5
      clear h4 g4
      go_wp2_with fail
      refine remove_dead HD.out ?_
      go_wp2
      exact HX.out
    · have g5 : (o == 5) = false := by simpa using h5
      by_cases h6 : o = 6
      · subst h6
        clear h4 g4 h5 g5
        go_wp2_with fail
        refine relabel_dead HD.out ?_
        go_wp2
        exact HX.out
      · have g6 : (o == 6) = false := by simpa using h6
        clear h4 h5 h6
        go_wp2_with fail
        refine insert_dead HD.out ?_
        go_wp2
        exact HX.out
end
end Go.Proofs.Ytdgaffcfcgmfnaa
