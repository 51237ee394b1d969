/- A call in earnest. -/
import Derived.Test.YtdgaffcfcgmfnaaZd
namespace Go.Proofs.Ytdgaffcfcgmfnaa
open Go.RowKit Go.Sl
structure DoM where
  op : Int
  i : Int
  n : Int
  label : Int
  L : List El
  wide : Bool
  A : Option Addr
  cp : Nat
def doC (d : DoM) : List Value := [.int .i64 d.op, .int .i64 d.i, .int .i64 d.n, .int .i64 d.label, .slice d.A d.L.length d.cp, .bool d.wide]
abbrev doV (d : DoM) : Value := .agg #[.int .i64 d.op, .int .i64 d.i, .int .i64 d.n, .int .i64 d.label, .slice d.A d.L.length d.cp, .bool d.wide]
def doS (d : DoM) : Asn := rowS 3 (.slice d.A d.L.length d.cp) d.L.length (elsC d.L)
theorem doS_shared (d : DoM) : Shared (doS d) := ⟨fun h => h⟩
def I64 (x : Int) : Prop := -9223372036854775808 ≤ x ∧ x ≤ 9223372036854775807
/-- What a call is in earnest. -/
def callL (d : DoM) : List El := if d.wide = true then repL 20 (d.L.take 4) else d.L
def callN (d : DoM) : Int := if d.wide = true then d.n.tmod 100 * 2 + d.n.tmod 3 else d.n
structure Earnest (d d' : DoM) : Prop where
  op : d'.op = d.op
  i : d'.i = d.i
  n : d'.n = callN d
  label : d'.label = d.label
  L : d'.L = callL d
theorem call_num {d : DoM} (hw : d.wide = true) (_ : DoM) : wrap64 (wrap64 (d.n.tmod 100 * 2) + d.n.tmod 3) = callN d := by
  unfold callN
  rw [if_pos hw]
  have h1 := Int.tmod_lt_of_pos d.n (show (0 : Int) < 100 by decide)
  have h2 := Int.lt_tmod_of_pos d.n (show (0 : Int) < 100 by decide)
  have h3 := Int.tmod_lt_of_pos d.n (show (0 : Int) < 3 by decide)
  have h4 := Int.lt_tmod_of_pos d.n (show (0 : Int) < 3 by decide)
  have e : ∀ x : Int, -1000 ≤ x → x ≤ 1000 → wrap64 x = x := fun x a b => by
    have := IntKind.wrap_i64 x
    unfold wrap64
    omega
  rw [e (d.n.tmod 100 * 2) (by omega) (by omega), e _ (by omega) (by omega)]
section
variable {k w : World} {L : List Asn} {R : Ending → World → Prop}
set_option maxRecDepth 100000 in
set_option maxHeartbeats 1000000 in
theorem call_any {d : DoM} (h : St k w (doS d :: L)) (hn : I64 d.n) (hR : ∀ d' w', Earnest d d' → St k w' (doS d' :: doS d :: L) → R (.returned (doV d')) w') : Calls Try.prog 36 #[doV d] w R := by
  cases hw : d.wide
  · have h1 := (((h.again (doS_shared d)).alloc (.cells (doC d).toArray 48)).alloc (.cells (doC d).toArray 48)).drop.drop
    have hE : Earnest d d := ⟨rfl, rfl, by unfold callN; rw [hw]; rfl, rfl, by unfold callL; rw [hw]; rfl⟩
    have h2 := ((h.again (doS_shared d)).alloc (.cells (doC d).toArray 48)).alloc (.cells (doC d).toArray 48)
    rw [World.size_alloc] at h2
    have z0 : _ = some (Value.int .i64 d.op) := blk_cell h2.lies 0
    have z1 : _ = some (Value.int .i64 d.i) := blk_cell h2.lies 1
    have z2 : _ = some (Value.int .i64 d.n) := blk_cell h2.lies 2
    have z3 : _ = some (Value.int .i64 d.label) := blk_cell h2.lies 3
    have z4 : _ = some (Value.slice d.A d.L.length d.cp) := blk_cell h2.lies 4
    have z5 : _ = some (Value.bool d.wide) := blk_cell h2.lies 5
    have HX := Lib.hid (hR d _ hE h1)
    unfold doV doC at *
    rw [hw] at HX z0 z1 z2 z3 z4 z5 ⊢
    clear h h1 h2 hR hE
    go_enter Try.func36, Try.ntmps36
    go_wp2
    exact bodyPost_ret (v := .agg #[.int .i64 d.op, .int .i64 d.i, .int .i64 d.n, .int .i64 d.label, .slice d.A d.L.length d.cp, .bool false]) (by simp [results, Try.results36, go_sem, z0, z1, z2, z3, z4, z5]) rfl HX.out
  · obtain ⟨m, hm⟩ : ∃ m, min d.L.length 4 = m := ⟨_, rfl⟩
    have htk : (d.L.take 4).length = m := by rw [List.length_take]; omega
    have htk2 : d.L.take m = d.L.take 4 := by
      rw [← hm]
      by_cases h4 : 4 ≤ d.L.length
      · rw [Nat.min_eq_right h4]
      · rw [List.take_of_length_le (by omega), List.take_of_length_le (by omega)]
    have hrd := Reads.take (St.readsS h) (i := m) (by omega)
    rw [elsC_take, htk2] at hrd
    have hcs : d.L.length ≤ d.cp ∧ d.cp ≤ maxLen := by
      obtain ⟨A0, c0, hv0, hc0, hc1, -⟩ := h.readsS.at_
      injection hv0 with _ _ e0
      rw [e0]
      exact ⟨hc0, hc1⟩
    obtain ⟨hc0, hc1⟩ := hcs
    have h1 := (h.alloc (.cells (doC d).toArray 48)).alloc (.cells #[.int .i64 0, .int .i64 0, .int .i64 0, .int .i64 0, .slice none 0 0, .bool false] 48)
    rw [World.size_alloc] at h1
    have hrd2 := (hrd.alloc (.cells (doC d).toArray 48)).alloc (.cells #[.int .i64 0, .int .i64 0, .int .i64 0, .int .i64 0, .slice none 0 0, .bool false] 48)
    obtain ⟨B, hB⟩ : ∃ B, w.heap.size = B := ⟨_, rfl⟩
    rw [hB] at h1
    have HCL := Lib.hid (fun (Q : Ending → World → Prop) => cloneE (R := Q) h1 hrd2 (elsC_one _) (by omega))
    have hw' : d.wide = true := hw
    obtain ⟨hn1, hn2⟩ := hn
    have hd : (d.L.length : Int) ≤ 4 ∧ m = d.L.length ∨ 4 < (d.L.length : Int) ∧ m = 4 := by omega
    have hmi : m ≤ 4 := by omega
    have hmc : m ≤ d.cp := by omega
    have HTK := Lib.hid htk
    have HR := Lib.hid hR
    have hcp : (d.cp : Int) ≤ 9223372036854775807 := by have := minLen hc1; omega
    have hl2 : (d.L.length : Int) ≤ (d.cp : Int) := by omega
    clear h hrd hrd2 h1 hm htk htk2 hw hR hc0 hc1
    unfold doC doV at *
    rw [hw'] at HCL ⊢
    obtain ⟨M, hM⟩ : ∃ M, 20 * m = M := ⟨_, rfl⟩
    have HM := Lib.hid hM
    clear hM
    rcases hd with ⟨hd1, rfl⟩ | ⟨hd1, rfl⟩
    all_goals
      go_enter Try.func36, Try.ntmps36
      go_wp2_with fail
      refine HCL.out _ ?_
      clear HCL
      intro v1 w1 h2 _
      obtain ⟨A1, c1, rfl, -⟩ := h2.readsA.at_
      have HRP := Lib.hid (fun (Q : Ending → World → Prop) => repeat_any (R := Q) h2 HTK.out hmi)
      clear h2
    all_goals
      go_wp2_with fail
      refine HRP.out _ ?_
      intro v2 w2 h3
      rw [HM.out] at h3
      obtain ⟨A2, c2, rfl, -⟩ := h3.readsA.at_
      have hb := h3.pull 2
      have y0 : _ = some (Value.int .i64 d.op) := blk_cell hb.lies 0
      have y1 : _ = some (Value.int .i64 d.i) := blk_cell hb.lies 1
      have y2 : _ = some (Value.int .i64 d.n) := blk_cell hb.lies 2
      have y3 : _ = some (Value.int .i64 d.label) := blk_cell hb.lies 3
      have y4 : _ = some (Value.slice d.A d.L.length d.cp) := blk_cell hb.lies 4
      have y5 : _ = some (Value.bool true) := blk_cell hb.lies 5
      have f0 := fun j => blk_frozen hb.lies j
      have f1 := fun j => blk_frozen h3.swap.lies j
      have l0 := blk_lt hb.lies
      have l1 := blk_lt h3.swap.lies
      have x0 : _ = some (Value.int .i64 0) := blk_cell h3.swap.lies 0
      have x1 : _ = some (Value.int .i64 0) := blk_cell h3.swap.lies 1
      have x2 : _ = some (Value.int .i64 0) := blk_cell h3.swap.lies 2
      have x3 : _ = some (Value.int .i64 0) := blk_cell h3.swap.lies 3
      have x4 : _ = some (Value.slice none 0 0) := blk_cell h3.swap.lies 4
      have x5 : _ = some (Value.bool false) := blk_cell h3.swap.lies 5
      have hne := (h3.swap.pull 2).ne
      have H3 := Lib.hid h3
      obtain ⟨n', hn'⟩ : ∃ n', wrap64 (wrap64 (d.n.tmod 100 * 2) + d.n.tmod 3) = n' := ⟨_, rfl⟩
      have hN : n' = callN d := by rw [← hn']; exact call_num hw' d
      have hs2 := ((((((((h3.pull 2).set 4 (.slice A2 M c2)).set 2 (.int .i64 n')).pull 2).set 0 (.int .i64 d.op)).set 1 (.int .i64 d.i)).set 2 (.int .i64 n')).set 3 (.int .i64 d.label)).set 4 (.slice A2 M c2) |>.set 5 (.bool true)
      have r0 : _ = some (Value.int .i64 d.op) := blk_cell hs2.lies 0
      have r1 : _ = some (Value.int .i64 d.i) := blk_cell hs2.lies 1
      have r2 : _ = some (Value.int .i64 n') := blk_cell hs2.lies 2
      have r3 : _ = some (Value.int .i64 d.label) := blk_cell hs2.lies 3
      have r4 : _ = some (Value.slice A2 M c2) := blk_cell hs2.lies 4
      have r5 : _ = some (Value.bool true) := blk_cell hs2.lies 5
      have hfin := hs2.drop.drop.freezeA
      have hlen := HTK.out
      have hX := HR.out { d with n := n', L := repL 20 (d.L.take 4), A := A2, cp := c2 } _ ⟨rfl, rfl, hN, rfl, by unfold callL; rw [if_pos hw']⟩ (by
        unfold doS
        rw [repL_len, hlen, HM.out]
        exact hfin)
      simp only [repL_len, hlen, hw', HM.out] at hX
      have HX := Lib.hid hX
      clear HRP hb h3 hs2 hfin hlen hX hN
      go_wp2
      exact bodyPost_ret (v := .agg #[.int .i64 d.op, .int .i64 d.i, .int .i64 n', .int .i64 d.label, .slice A2 M c2, .bool true]) (by simp [results, Try.results36, go_sem, r0, r1, r2, r3, r4, r5, hn']) rfl HX.out
end
end Go.Proofs.Ytdgaffcfcgmfnaa
