/- short, small. made. -/
import Derived.Test.YtdgaffcfcgmfnaaD4
namespace Go.Proofs.Ytdgaffcfcgmfnaa
open Go.RowKit Go.Sl
/-- Calls that are shared. -/
def dosS (A : Option Addr) (cp : Nat) (ds : List DoM) : Asn :=
  ⟨fun _ p => (rowS 6 (.slice A ds.length cp) ds.length (ds.flatMap doC)).holds PH.none p ∧ ∀ d ∈ ds, (doS d).holds PH.none p,
   fun _ hp ⟨h1, h2⟩ => ⟨Asg.mono _ (PH.le.refl _) hp h1, fun d hd => Asg.mono _ (PH.le.refl _) hp (h2 d hd)⟩⟩
theorem dosS_shared (A : Option Addr) (cp : Nat) (ds : List DoM) : Shared (dosS A cp ds) := ⟨fun h => h⟩
def totL (ds : List DoM) : Nat := (ds.map fun d => min d.L.length 601).sum
def shortB (ds : List DoM) : Bool := decide (ds.length ≤ 100) && decide (totL ds ≤ 600)
theorem totL_snoc (ds : List DoM) (q : Nat) {d : DoM} (h : ds[q]? = some d) : totL (ds.take (q + 1)) = totL (ds.take q) + min d.L.length 601 := by
  unfold totL
  rw [List.take_add_one, h]
  simp
theorem totL_le (ds : List DoM) (q : Nat) : totL (ds.take q) ≤ totL ds := by
  unfold totL
  conv => rhs; rw [← List.take_append_drop q ds]
  rw [List.map_append, List.sum_append]
  omega
section
variable {k w : World} {L : List Asn} {A : Option Addr} {cp : Nat} {ds : List DoM} {R : Ending → World → Prop}
theorem dos_row (h : St k w (dosS A cp ds :: L)) : Row doC 6 w A ds :=
  Row.of (n := ds.length) (c := cp) (fun _ => rfl) (by decide) (St.readsS (h.head (B := rowS 6 (.slice A ds.length cp) ds.length (ds.flatMap doC)) fun _ _ hA => Asg.mono _ (PH.none_le _) (PH.le.refl _) hA.1))
theorem dos_one (h : St k w (dosS A cp ds :: L)) {d : DoM} (hd : d ∈ ds) : St k w (doS d :: dosS A cp ds :: L) :=
  (h.again (dosS_shared _ _ _)).head fun _ _ hA => Asg.mono _ (PH.none_le _) (PH.le.refl _) (hA.2 d hd)
theorem dos_at (h : St k w (dosS A cp ds :: L)) {q : Nat} {d : DoM} (hq : ds[q]? = some d) : ∃ b o, A = some ⟨b, o, none⟩ ∧ w.cell? ⟨b, o + q * 6, none⟩ = some (.int .i64 d.op) ∧ w.cell? ⟨b, o + q * 6 + 1, none⟩ = some (.int .i64 d.i) ∧ w.cell? ⟨b, o + q * 6 + 2, none⟩ = some (.int .i64 d.n) ∧ w.cell? ⟨b, o + q * 6 + 3, none⟩ = some (.int .i64 d.label) ∧ w.cell? ⟨b, o + q * 6 + 4, none⟩ = some (.slice d.A d.L.length d.cp) ∧ w.cell? ⟨b, o + q * 6 + 5, none⟩ = some (.bool d.wide) := by
  obtain ⟨b, o, e, hc⟩ := (dos_row h).at_ q d hq
  exact ⟨b, o, e, hc 0 _ rfl, hc 1 _ rfl, hc 2 _ rfl, hc 3 _ rfl, hc 4 _ rfl, hc 5 _ rfl⟩
set_option maxRecDepth 100000 in
set_option maxHeartbeats 1000000 in
theorem short_any (h : St k w (dosS A cp ds :: L)) (hR : R (.returned (.bool (shortB ds))) w) : Calls Try.prog 13 #[.slice A ds.length cp] w R := by
  have hat := fun q d (hq : ds[q]? = some d) => dos_at h hq
  have hmax := (dos_row h).max
  have HA := Lib.hid hat
  have HR := Lib.hid hR
  clear h hR hat
  obtain ⟨N, hN⟩ : ∃ N, ds.length = N := ⟨_, rfl⟩
  have HN := Lib.hid hN
  rw [hN] at hmax ⊢
  have hNmax : (N : Int) ≤ 9223372036854775807 := by omega
  clear hN
  go_enter Try.func13, Try.ntmps13
  go_wp2
  go_loop [3, 4] (fun n i => ∃ q t : Nat, q ≤ N ∧ q ≤ 101 ∧ i = .int .i64 q ∧ n = .int .i64 t ∧ t ≤ 1201 ∧ Hid (t = totL (ds.take q))) (fun _ i => N - (intOf i).toNat)
  case atStart => exact ⟨0, 0, by omega, by omega, rfl, rfl, by omega, Lib.hid rfl⟩
  case round =>
    obtain ⟨q, t, hq, hq1, rfl, rfl, ht, HT⟩ := hrel
    have hq2 : (q : Int) ≤ 101 := by omega
    have ht2 : (t : Int) ≤ 1201 := by omega
    by_cases hlt : q < N
    · have g1 : (q : Int) < (N : Int) := by omega
      by_cases h100 : q ≤ 100
      · have g2 : (q : Int) ≤ 100 := by omega
        by_cases h600 : t ≤ 600
        · have g3 : (t : Int) ≤ 600 := by omega
          obtain ⟨d, hd⟩ : ∃ d, ds[q]? = some d := ⟨_, List.getElem?_eq_getElem (by rw [HN.out]; exact hlt)⟩
          obtain ⟨b, o, rfl, -, -, -, -, e4, -⟩ := HA.out q d hd
          have hs := totL_snoc ds q hd
          rw [← HT.out] at hs
          have HS := Lib.hid hs
          have hdl : d.L.length ≤ 601 ∨ 601 < d.L.length := by omega
          obtain ⟨M, hM⟩ : ∃ M, d.L.length = M := ⟨_, rfl⟩
          rw [hM] at e4 hdl HS
          clear hs hd hM
          rcases hdl with hdl | hdl
          · have g4 : (M : Int) ≤ 601 := by omega
            have e : min M 601 = M := by omega
            rw [e] at HS
            clear e hdl
            go_wp2
            go_round
            case rel => exact ⟨q + 1, t + M, by omega, by omega, by go_num, by go_num, by omega, Lib.hid HS.out.symm⟩
            case measure => simp [intOf]; omega
          · have g4 : 601 < (M : Int) := by omega
            have e : min M 601 = 601 := by omega
            rw [e] at HS
            clear e hdl
            go_wp2
            go_round
            case rel => exact ⟨q + 1, t + 601, by omega, by omega, by go_num, by go_num, by omega, Lib.hid HS.out.symm⟩
            case measure => simp [intOf]; omega
        · have g3 : decide ((t : Int) ≤ 600) = false := decide_eq_false (by omega)
          have hx : shortB ds = false := by
            unfold shortB
            have := totL_le ds q
            have := HT.out
            rw [decide_eq_false (show ¬ totL ds ≤ 600 by omega), Bool.and_false]
          rw [hx] at HR
          clear hx h600
          by_cases hN1 : N ≤ 100
          · have g4 : (N : Int) ≤ 100 := by omega
            go_wp2
            exact HR.out
          · have g4 : 100 < (N : Int) := by omega
            go_wp2
            exact HR.out
      · have g2 : 100 < (q : Int) := by omega
        have g4 : 100 < (N : Int) := by omega
        have hx : shortB ds = false := by
          unfold shortB
          rw [HN.out, decide_eq_false (show ¬ N ≤ 100 by omega), Bool.false_and]
        rw [hx] at HR
        clear hx h100
        go_wp2
        exact HR.out
    · obtain rfl : q = N := by omega
      have htt := HT.out
      rw [← HN.out, List.take_length] at htt
      by_cases hN1 : q ≤ 100
      · have g4 : (q : Int) ≤ 100 := by omega
        by_cases h600 : t ≤ 600
        · have g3 : (t : Int) ≤ 600 := by omega
          have hx : shortB ds = true := by
            unfold shortB
            rw [HN.out, ← htt, decide_eq_true hN1, decide_eq_true h600]; rfl
          rw [hx] at HR
          clear hx htt h600 hN1
          go_wp2
          exact HR.out
        · have g3 : decide ((t : Int) ≤ 600) = false := decide_eq_false (by omega)
          have hx : shortB ds = false := by
            unfold shortB
            rw [← htt, decide_eq_false h600, Bool.and_false]
          rw [hx] at HR
          clear hx htt h600 hN1
          go_wp2
          exact HR.out
      · have g4 : 100 < (q : Int) := by omega
        have hx : shortB ds = false := by
          unfold shortB
          rw [HN.out, decide_eq_false hN1, Bool.false_and]
        rw [hx] at HR
        clear hx htt hN1
        go_wp2
        exact HR.out
set_option maxHeartbeats 1000000 in
theorem small_any {p : PV} {A0 A1 A2 : Option Addr} {c0 c1 c2 : Nat} (hR : ∀ w', Below w.heap.size w w' → R (.returned (.bool (decide (p.labels.length ≤ 100) && decide (p.quotas.length ≤ 100) && decide (p.entries.length ≤ 100)))) w') : Calls Try.prog 14 #[polV p A0 A1 A2 c0 c1 c2] w R := by
  have HR := Lib.hid (hR _ ((Below.refl _ _).alloc (Nat.le_refl _) (.cells #[.slice A0 p.labels.length c0, .slice A1 p.quotas.length c1, .slice A2 p.entries.length c2] 26)))
  clear hR
  unfold polV
  obtain ⟨N0, h0⟩ : ∃ N, p.labels.length = N := ⟨_, rfl⟩
  obtain ⟨N1, h1⟩ : ∃ N, p.quotas.length = N := ⟨_, rfl⟩
  obtain ⟨N2, h2⟩ : ∃ N, p.entries.length = N := ⟨_, rfl⟩
  rw [h0, h1, h2] at HR ⊢
  clear h0 h1 h2
  by_cases g0 : N0 ≤ 100
  · have e0 : (N0 : Int) ≤ 100 := by omega
    rw [decide_eq_true g0] at HR
    by_cases g1 : N1 ≤ 100
    · have e1 : (N1 : Int) ≤ 100 := by omega
      rw [decide_eq_true g1] at HR
      by_cases g2 : N2 ≤ 100
      · have e2 : (N2 : Int) ≤ 100 := by omega
        rw [decide_eq_true g2] at HR
        clear g0 g1 g2
        go_enter Try.func14, Try.ntmps14
        go_wp2
        exact HR.out
      · have e2 : decide ((N2 : Int) ≤ 100) = false := decide_eq_false (by omega)
        rw [decide_eq_false g2] at HR
        clear g0 g1 g2
        go_enter Try.func14, Try.ntmps14
        go_wp2
        exact HR.out
    · have e1 : 100 < (N1 : Int) := by omega
      rw [decide_eq_false g1] at HR
      clear g0 g1
      go_enter Try.func14, Try.ntmps14
      go_wp2
      exact HR.out
  · have e0 : 100 < (N0 : Int) := by omega
    rw [decide_eq_false g0] at HR
    clear g0
    go_enter Try.func14, Try.ntmps14
    go_wp2
    exact HR.out
end
end Go.Proofs.Ytdgaffcfcgmfnaa
namespace Go.Proofs.Ytdgaffcfcgmfnaa
open Go.RowKit Go.Sl
/-- What there is behind calls. -/
def madeP (P : Pol) (es : List El) (ds : List DoM) : List El := ds.foldl (fun es d => (doP P es d).2.2) es
def cntL (ds : List DoM) : Nat := (ds.map fun d => (callL d).length).sum
def Fits (ds : List DoM) : Prop := ∀ d ∈ ds, I64 d.i ∧ I64 d.n
theorem madeP_snoc (P : Pol) (es : List El) (ds : List DoM) (q : Nat) {d : DoM} (h : ds[q]? = some d) : madeP P es (ds.take (q + 1)) = (doP P (madeP P es (ds.take q)) d).2.2 := by
  unfold madeP
  rw [List.take_add_one, h]
  simp
theorem cntL_snoc (ds : List DoM) (q : Nat) {d : DoM} (h : ds[q]? = some d) : cntL (ds.take (q + 1)) = cntL (ds.take q) + (callL d).length := by
  unfold cntL
  rw [List.take_add_one, h]
  simp
theorem cntL_take (ds : List DoM) (q : Nat) : cntL (ds.take q) ≤ cntL ds := by
  unfold cntL
  conv => rhs; rw [← List.take_append_drop q ds]
  rw [List.map_append, List.sum_append]
  omega
theorem callL_le (d : DoM) (h : min d.L.length 601 ≤ 600) : (callL d).length ≤ 80 + min d.L.length 601 := by
  unfold callL
  split
  · rw [repL_len, List.length_take]; omega
  · omega
theorem cntL_le : ∀ ds : List DoM, totL ds ≤ 600 → cntL ds ≤ 80 * ds.length + totL ds
  | [], _ => by simp [cntL]
  | d :: ds, h => by
    have e1 : totL (d :: ds) = min d.L.length 601 + totL ds := rfl
    have e2 : cntL (d :: ds) = (callL d).length + cntL ds := rfl
    rw [e1] at h ⊢
    have := cntL_le ds (by omega)
    have := callL_le d (by omega)
    rw [e2, List.length_cons]; omega
theorem cntL_short {ds : List DoM} (h : shortB ds = true) : cntL ds ≤ 8600 := by
  unfold shortB at h
  simp only [Bool.and_eq_true, decide_eq_true_eq] at h
  have := cntL_le ds h.2
  omega
section
variable {k w : World} {L : List Asn} {A A0 A1 A2 : Option Addr} {cp c0 c1 c2 : Nat} {ds : List DoM} {p : PV} {R : Ending → World → Prop}
set_option maxRecDepth 100000 in
set_option maxHeartbeats 1000000 in
theorem made_any (h : St k w (polS p A0 A1 A2 c0 c1 c2 :: dosS A cp ds :: L)) (hr : rightN p = 0) (hf : Fits ds) (hc : cntL ds ≤ 80000) (hR : ∀ g w', St k w' (Rope g (polOf p) (madeP (polOf p) [] ds) (cntL ds) :: polS p A0 A1 A2 c0 c1 c2 :: dosS A cp ds :: L) → R (.returned (.pointer (some ⟨g, 0, none⟩))) w') :
    Calls Try.prog 17 #[polV p A0 A1 A2 c0 c1 c2, .slice A ds.length cp] w R := by
  have h1 := (h.alloc (.cells #[.slice A0 p.labels.length c0, .slice A1 p.quotas.length c1, .slice A2 p.entries.length c2] 26)).drop
  have HN := Lib.hid (fun (Q : Ending → World → Prop) => new_any (R := Q) h1 hr)
  have hmax := (dos_row h.swap).max
  have HR := Lib.hid hR
  have HF := Lib.hid hf
  have HC := Lib.hid hc
  obtain ⟨N, hN⟩ : ∃ N, ds.length = N := ⟨_, rfl⟩
  have hNN := Lib.hid hN
  rw [hN] at hmax ⊢
  have hNmax : (N : Int) ≤ 9223372036854775807 := by omega
  unfold polV at HN ⊢
  clear h hR h1 hf hc hN hr
  go_enter Try.func17, Try.ntmps17
  go_wp2_with fail
  refine HN.out _ ?_
  clear HN
  intro g w1 h2
  have H2 := Lib.hid h2
  clear h2
  go_wp2_with fail
  go_loopw [16] (fun i wr => ∃ q : Nat, q ≤ N ∧ i = .int .i64 q ∧ Hid (St k wr (Rope g (polOf p) (madeP (polOf p) [] (ds.take q)) (cntL (ds.take q)) :: polS p A0 A1 A2 c0 c1 c2 :: dosS A cp ds :: L))) (fun i _ => N - (intOf i).toNat)
  case atStart => exact ⟨0, by omega, rfl, H2⟩
  case round =>
    obtain ⟨q, hq, rfl, HS⟩ := hrel
    by_cases hlt : q < N
    · have g1 : (q : Int) < (N : Int) := by omega
      obtain ⟨d, hd⟩ : ∃ d, ds[q]? = some d := ⟨_, List.getElem?_eq_getElem (by rw [hNN.out]; exact hlt)⟩
      have hmem := List.mem_of_getElem? hd
      obtain ⟨f1, f2⟩ := HF.out d hmem
      have h3 := dos_one (HS.out.pull 2) hmem
      obtain ⟨b, o, rfl, e0, e1, e2, e3, e4, e5⟩ := dos_at (HS.out.pull 2) hd
      have h4 := ((h3.pull 2).alloc (.cells (doC d).toArray 48)).drop
      have hcn := cntL_snoc ds q hd
      have hmd := madeP_snoc (polOf p) [] ds q hd
      have hct := cntL_take ds (q + 1)
      have hcc := HC.out
      have HDO := Lib.hid (fun (Q : Ending → World → Prop) => does_any (R := Q) h4 f1 f2 (by omega))
      have HT := Lib.hid (And.intro hcn hmd)
      clear h3 h4 hcn hmd hct hcc hd hmem f1 f2 HS
      go_wp2_with fail
      refine HDO.out _ ?_
      clear HDO
      intro v w2 h5
      rw [← HT.out.1, ← HT.out.2] at h5
      have h6 := h5.drop.swap.drop
      have H6 := Lib.hid (h6.pull 2 |>.swap)
      clear h5 h6 e0 e1 e2 e3 e4 e5
      go_wp2
      go_roundw
      case rel => exact ⟨q + 1, by omega, by go_num, H6⟩
      case measure => simp [intOf]; omega
    · obtain rfl : q = N := by omega
      have h3 := HS.out
      rw [← hNN.out, List.take_length] at h3
      have HX := Lib.hid (HR.out _ _ h3)
      clear h3 HS
      go_wp2
      exact HX.out
end
end Go.Proofs.Ytdgaffcfcgmfnaa
