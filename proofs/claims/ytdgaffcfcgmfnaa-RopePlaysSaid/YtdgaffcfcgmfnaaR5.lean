/- A sequence's i-th code point, from a node on. -/
import Derived.Test.YtdgaffcfcgmfnaaR4
import Derived.Test.YtdgaffcfcgmfnaaZb
import Derived.Deep.LoopGhost
namespace Go.Proofs.Ytdgaffcfcgmfnaa
open Go.RowKit Go.Sl

attribute [local go_sem ↓ high] load107 store107 load105 store105 slice82
section
variable {k w : World} {L : List Asn} {F : List (Asg MN)} {g : Nat} {r : RM} {R : Ending → World → Prop}
theorem isNone_eq {α : Type} {A : Option α} {p : Prop} (h : A = none ↔ p) (b : Bool) (hb : b = true ↔ p) : A.isNone = b := by
  cases A <;> cases b <;> simp_all
set_option maxRecDepth 100000 in
set_option maxHeartbeats 2000000 in
theorem at_any {bn cap n j i h : Nat} {iI : Int} {es : List El} {e : El} (hs : St k w (ropeA g r :: L)) (hv : r.vn = .slice (some ⟨bn, 0, none⟩) n cap) (ha : Ar r.ms r.free (Tree h j es :: F)) (hI : iI = (i : Int)) (hi : es[i]? = some e) (hlen : es.length ≤ 10000000000)
    (hR : ∀ w', St k w' (ropeA g r :: L) → R (.returned (.agg #[.int .i64 e.id, .int .i32 e.rune, .int .i64 e.label])) w') :
    Calls Try.prog 60 #[.pointer (some ⟨bn, j * 35, none⟩), .pointer (some ⟨g, 0, none⟩), .int .i64 iI] w R := by
  subst hI
  have hnl : n = r.ms.length := by
    obtain ⟨A, c, hv', -⟩ := (rope_open hs).swap.readsA.at_
    rw [hv] at hv'; injection hv'
  subst hnl
  have hil : i < es.length := (List.getElem?_eq_some_iff.1 hi).1
  have HS := Lib.hid (hs.alloc (.cells #[.int .i64 0, .int .i32 0, .int .i64 0] 39))
  have HV := Lib.hid hv
  have HA := Lib.hid ha
  have HI := Lib.hid hi
  have HQ := Lib.hid hR
  have b0 : (i : Int) ≤ 10000000000 := by omega
  have HL := Lib.hid (And.intro hil hlen)
  clear hs hv ha hi hR hil hlen
  go_enter Try.func60, Try.ntmps60
  go_wp2
  refine gen_world HS.out fun w1 h1 => ?_
  have c0 := rope_0 h1.swap
  rw [HV.out] at c0
  have H1 := Lib.hid h1
  have d0 : w1.cell? ⟨w.heap.size, 0, none⟩ = some (.int .i64 0) := blk_cell h1.lies 0
  have d1 : w1.cell? ⟨w.heap.size, 1, none⟩ = some (.int .i32 0) := blk_cell h1.lies 1
  have d2 : w1.cell? ⟨w.heap.size, 2, none⟩ = some (.int .i64 0) := blk_cell h1.lies 2
  clear h1
  go_loopg [0, 2] h (fun hh s0 s2 wx => w1 = wx ∧ ∃ (j' i' : Nat) (es' : List El) (F' : List (Asg MN)), s0 = .pointer (some ⟨bn, j' * 35, none⟩) ∧ s2 = .int .i64 i' ∧ (i' : Int) ≤ 10000000000 ∧ Hid (Ar r.ms r.free (Tree hh j' es' :: F')) ∧ Hid (es'[i']? = some e) ∧ Hid (es'.length ≤ 10000000000))
  case atStart => exact ⟨rfl, j, i, es, F, rfl, rfl, b0, HA, HI, Lib.hid HL.out.2⟩
  case round =>
    obtain ⟨hw, j', i', es', F', rfl, rfl, b1, HA', HE, HLn⟩ := hrel
    subst hw
    cases gk with
    | zero =>
      obtain ⟨m, ha, hk, hm, hg⟩ := tree_leaf HA'.out
      subst hm
      have hj := ha.at_
      obtain ⟨⟨Ae, ce, hve, -⟩, Ak, ck, hvk, -, -, hAk⟩ := rope_heads H1.out.swap hj
      obtain rfl : Ak = none := hAk.2 hk
      have n1 := rope_node H1.out.swap HV.out hj (t := 1) rfl
      rw [hvk] at n1
      have n0 := rope_node H1.out.swap HV.out hj (t := 0) rfl
      rw [hve, Nat.add_zero] at n0
      have hil : i' < m.elems.length := (List.getElem?_eq_some_iff.1 HE.out).1
      obtain ⟨be, oe, rfl, hcell⟩ := rope_elems H1.out.swap hj hve (by omega)
      have e0 := hcell i' e 0 _ HE.out rfl
      have e1 := hcell i' e 1 _ HE.out rfl
      have e2 := hcell i' e 2 _ HE.out rfl
      rw [Nat.add_zero] at e0
      have b2 : (i' : Int) < (m.elems.length : Int) := by omega
      have z0 := blk_lt H1.out.lies
      have f0 := blk_frozen H1.out.lies 0
      have f1 := blk_frozen H1.out.lies 1
      have f2 := blk_frozen H1.out.lies 2
      have hset := ((H1.out.set 0 (.int .i64 e.id)).set 1 (.int .i32 e.rune)).set 2 (.int .i64 e.label)
      have HSET := Lib.hid hset.drop
      clear ha hk hg hj hve hvk hAk hcell hset
      go_wp2_with (go_at_call 58; refine leaf_any n1 ?_)
      exact bodyPost_ret (v := .agg #[.int .i64 e.id, .int .i32 e.rune, .int .i64 e.label]) (by simp [results, Try.results60, go_sem, d0, d1, d2]) rfl (HQ.out _ HSET.out)
    | succ h' =>
      obtain ⟨m, ps, ha, hme, hps, hk, hes, hg⟩ := tree_knot HA'.out
      subst hes
      have hj := ha.at_
      obtain ⟨-, Ak, ck, hvk, -, -, hAk⟩ := rope_heads H1.out.swap hj
      have ekl : m.kids.length = ps.length := by rw [hk]; simp [partsK]
      have hpl : 0 < ps.length := List.length_pos_iff.2 hps
      obtain ⟨bk, ok, rfl, hcell⟩ := rope_kids H1.out.swap hj hvk (by omega)
      have n1 := rope_node H1.out.swap HV.out hj (t := 1) rfl
      rw [hvk, ekl] at n1
      have hkc : ∀ q (hq : q < ps.length), w1.cell? ⟨bk, ok + q, none⟩ = some (.int .i64 ((ps[q]).1 : Nat)) := fun q hq => hcell q _ (by rw [hk]; simp [partsK, hq])
      have hks : ∀ q (hq : q < ps.length), (ps[q]).1 < r.ms.length ∧ w1.cell? ⟨bn, (ps[q]).1 * 35 + 2, none⟩ = some (.int .i64 ((ps[q]).2.length : Nat)) := fun q hq => by
        obtain ⟨x, hx, hgx, -⟩ := kid_node ha q hq
        refine ⟨(List.getElem?_eq_some_iff.1 hx).1, ?_⟩
        rw [← hgx.size]
        exact rope_node H1.out.swap HV.out hx (t := 2) rfl
      have hnext : ∀ q (hq : q < ps.length), ∃ F2, Ar r.ms r.free (Tree h' (ps[q]).1 (ps[q]).2 :: F2) := fun q hq => by
        have h1 := ha.swap
        have hdec := (List.take_append_drop q ps).symm
        rw [List.drop_eq_getElem_cons hq] at hdec
        rw [hdec] at h1
        exact ⟨_, trees_open h1⟩
      have hpl2 : ps.length ≤ 8 := by have := hg.few; omega
      have HKC := Lib.hid hkc
      have HKS := Lib.hid hks
      have HN := Lib.hid hnext
      have b3 : (0 : Int) ≤ (i' : Int) := by omega
      clear ha hme hps hk hg hj hvk hAk ekl hcell hkc hks hnext
      go_wp2_with (go_at_call 58; refine leaf_any n1 ?_)
      go_loopg [2, 18] ps.length (fun gg t x wx => w1 = wx ∧ ∃ q c : Nat, q < ps.length ∧ gg = ps.length - q ∧ x = .int .i64 q ∧ t = .int .i64 c ∧ (c : Int) ≤ 10000000000 ∧ Hid (i' = (partsE (ps.take q)).length + c ∧ (partsE (ps.drop q))[c]? = some e))
      case atStart => exact ⟨rfl, 0, i', by omega, by omega, rfl, rfl, b1, Lib.hid (by simpa [partsE] using HE.out)⟩
      case round =>
        obtain ⟨hw, q, c, hlt, hgg, rfl, rfl, hc, HC⟩ := hrel
        subst hw
        obtain ⟨hl1, s1⟩ := HKS.out q hlt
        have s0 := HKC.out q hlt
        obtain ⟨kd, hkd⟩ : ∃ kd, (ps[q]).1 = kd := ⟨_, rfl⟩
        obtain ⟨N, hN⟩ : ∃ N, (ps[q]).2.length = N := ⟨_, rfl⟩
        rw [hkd] at s0 s1 hl1
        rw [hN] at s1
        have b5 : (kd : Int) < (r.ms.length : Int) := by omega
        have b4 : (0 : Int) ≤ (kd : Int) := by omega
        have hdr : (partsE (ps.drop q)) = (ps[q]).2 ++ partsE (ps.drop (q + 1)) := by rw [List.drop_eq_getElem_cons hlt]; rfl
        have htk := partsE_take ps q hlt
        have HKD := Lib.hid (And.intro hkd (And.intro hN (And.intro hdr htk)))
        have HGG := Lib.hid hgg
        clear hkd hN hdr htk hgg
        by_cases hcN : c < N
        · have hcN2 : (c : Int) < (N : Int) := by omega
          go_wp2
          go_roundg h'
          case measure => omega
          case rel =>
            obtain ⟨h1, h2, h3, h4⟩ := HKD.out
            obtain ⟨F2, hF2⟩ := HN.out q hlt
            rw [h1] at hF2
            refine ⟨rfl, kd, c, (ps[q]).2, F2, rfl, rfl, hc, Lib.hid hF2, Lib.hid ?_, Lib.hid ?_⟩
            · have := HC.out.2
              rw [h3, List.getElem?_append_left (by omega)] at this
              exact this
            · have h5 := partsE_take_le ps (q + 1)
              have h6 := HLn.out
              rw [h4, List.length_append] at h5
              omega
        · have hcN2 : (N : Int) ≤ (c : Int) := by omega
          go_wp2
          go_roundg (ps.length - (q + 1))
          case measure => have := HGG.out; omega
          case rel =>
            obtain ⟨h1, h2, h3, h4⟩ := HKD.out
            have h5 := HC.out.2
            rw [h3, List.getElem?_append_right (by omega), h2] at h5
            have h6 : q + 1 < ps.length := by
              rcases Nat.lt_or_ge (q + 1) ps.length with h7 | h7
              · exact h7
              · rw [List.drop_eq_nil_iff.2 h7] at h5
                simp [partsE] at h5
            refine ⟨rfl, q + 1, c - N, h6, rfl, by go_num, ?_, by omega, Lib.hid ⟨?_, h5⟩⟩
            · rw [Int.ofNat_sub (by omega)]
            · rw [h4, List.length_append, h2]; have := HC.out.1; omega
end
end Go.Proofs.Ytdgaffcfcgmfnaa
