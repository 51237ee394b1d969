/- What lang.Parse answers. -/
import Derived.Test.YtaeaakcppheaoaaDoorHn
import Derived.BigRegion
namespace Go.Proofs.YtaeaakcppheaoaaDoor
open Go.RowKit Go.Proofs.YtaeaakcppheaoaaDoorW.PrintWords Go.Maps

def silentB (x : ByteArray) : Bool := x.data.toList.isEmpty || x.data.toList.head? == some 35
/-- A text's lines, one behind the other: what was read, or which line is none. -/
def linesP (line : St → List ByteArray → Option St) : List ByteArray → Nat → St → Except Nat St
  | [], _, s => .ok s
  | x :: t, i, s => if silentB x then linesP line t (i + 1) s else
    match line s (spl 32 x) with
    | some s' => linesP line t (i + 1) s'
    | none => .error (i + 1)
def St0 : St := ⟨[], [], [], [], []⟩
def Pol0 : Pol := ⟨[], [], []⟩
structure Parsed where
  pol : Pol
  names : List ByteArray
  at_ : Nat
  err : Int
def endP (right : Pol → Int) (r : Except Nat St) : Parsed :=
  match r with
  | .error n => ⟨Pol0, [], n, 90⟩
  | .ok s => if right s.pol = 0 then ⟨s.pol, s.names, 0, 0⟩ else ⟨Pol0, [], 0, right s.pol⟩
def parseP (s : ByteArray) : Parsed := if 32768 < s.size then ⟨Pol0, [], 0, 4⟩ else endP rightN (linesP lineP (spl 10 s) 0 St0)

def ParsePost (w : World) (r : Parsed) (e : Ending) (w' : World) : Prop :=
  ∃ A0 c0 A1 c1 A2 c2 An cn, e = .returned (.tuple #[.agg #[.slice A0 r.pol.labels.length c0, .slice A1 r.pol.quotas.length c1, .slice A2 r.pol.entries.length c2], .slice An r.names.length cn, .int .i64 (r.at_ : Int), .int .i64 r.err]) ∧
    Kd.C kLab w' A0 r.pol.labels.length r.pol.labels ∧ Kd.C kQuo w' A1 r.pol.quotas.length r.pol.quotas ∧ Kd.C kEnt w' A2 r.pol.entries.length r.pol.entries ∧ Kd.C Kd.string w' An r.names.length r.names ∧
    r.pol.labels.length ≤ c0 ∧ r.pol.quotas.length ≤ c1 ∧ r.pol.entries.length ≤ c2 ∧ r.names.length ≤ cn ∧ Below w.heap.size w w'
theorem C_nil {α : Type} (d : Kd α) (w : World) : Kd.C d w none 0 [] := ⟨rfl, by decide, fun h => absurd h (by decide)⟩
theorem parse_none {w w' : World} {n : Nat} {er : Int} {r : Parsed} (hr : r = ⟨Pol0, [], n, er⟩) (hb : Below w.heap.size w w') :
    ParsePost w r (.returned (.tuple #[.agg #[.slice none 0 0, .slice none 0 0, .slice none 0 0], .slice none 0 0, .int .i64 (n : Int), .int .i64 er])) w' := by
  subst hr
  exact ⟨none, 0, none, 0, none, 0, none, 0, rfl, C_nil _ _, C_nil _ _, C_nil _ _, C_nil _ _, Nat.le_refl _, Nat.le_refl _, Nat.le_refl _, Nat.le_refl _, hb⟩

theorem Keep2.toBelow {base g m B : Nat} {w w1 w' : World} (h : Keep2 base g m w1 w') (h0 : Below B w w1) (hB : B ≤ base) (hg : B ≤ g) (hm : B ≤ m) : Below B w w' :=
  ⟨h.os.trans h0.os, h.tape.trans h0.tape, h.output.trans h0.output, Nat.le_trans h0.size h.size, fun b hb => (h.block b (by omega) (by omega) (by omega)).trans (h0.block b hb)⟩
theorem Keep2.blk {base g m b : Nat} {w w' : World} {o : Obj} (h : Keep2 base g m w w') (h1 : b < base) (h2 : b ≠ g) (h3 : b ≠ m) (hb : w.heap[b]? = some o) : w'.heap[b]? = some o := (h.block b h1 h2 h3).trans hb
theorem cutL_sum (c : UInt8) (l : List UInt8) : ∀ y ∈ cutL c l, y.length ≤ l.length := by
  induction l with
  | nil => intro y hy; simp [cutL] at hy; simp [hy]
  | cons b l ih =>
    intro y hy
    unfold cutL at hy
    split at hy
    · rcases List.mem_cons.1 hy with rfl | hy
      · simp
      · have := ih y hy; simp; omega
    · split at hy
      · rename_i h; exact absurd h (cutL_ne c l)
      · rename_i h t heq
        rcases List.mem_cons.1 hy with rfl | hy
        · have := ih h (by rw [heq]; exact List.mem_cons_self); simp; omega
        · have := ih y (by rw [heq]; exact List.mem_cons_of_mem _ hy); simp; omega
theorem spl_size (c : UInt8) (s y : ByteArray) (h : y ∈ spl c s) : y.size ≤ s.size := by
  obtain ⟨l, hl, rfl⟩ := List.mem_map.1 h
  have := cutL_sum c _ l hl
  rw [Lib.size_eq, Lib.size_eq, ofL_data]; exact this
theorem spl_pos (c : UInt8) (s : ByteArray) : 0 < (spl c s).length := by rw [spl_length]; omega

set_option maxRecDepth 100000 in
set_option maxHeartbeats 4000000 in
theorem parse_any (s : ByteArray) (m0 : Int) (w : World) (hm : w.cell? ⟨0, 0, none⟩ = some (.int .i64 m0)) :
    Calls Tryd.prog 11 #[.string s] w (ParsePost w (parseP s)) := by
  have HM := Aside0.mk hm
  clear hm
  by_cases hlong : (32768 : Int) < (s.size : Int)
  · have Hr := Aside0.mk (show parseP s = ⟨Pol0, [], 0, 4⟩ from if_pos (by omega))
    go_enter Tryd.func11, Tryd.ntmps11
    go_wp2
    refine bodyPost_ret (v := .tuple #[.agg #[.slice none 0 0, .slice none 0 0, .slice none 0 0], .slice none 0 0, .int .i64 0, .int .i64 4]) (by simp [results, Tryd.results11, go_sem]) rfl ?_
    exact parse_none Hr.out ((Below.refl _ _).alloc (Nat.le_refl _) _)
  · have hs : s.size ≤ 32768 := by omega
    have hs' : (s.size : Int) ≤ 32768 := by omega
    have hmm := @run_makeMap Tryd.prog
    have HP := Aside0.mk (show parseP s = endP rightN (linesP lineP (spl 10 s) 0 St0) from if_neg (by omega))
    clear hlong
    go_enter Tryd.func11, Tryd.ntmps11
    go_wp2_with fail
    clear hmm
    obtain ⟨W0, hW0⟩ : ∃ W0, W0 = ((w.alloc (.cells #[.slice none 0 0, .slice none 0 0, .slice none 0 0] 27)).alloc (.map #[] 0)).alloc (.cells #[.slice none 0 0, .slice none 0 0, .slice none 0 0, .slice none 0 0, .map (some (w.heap.size + 1))] 56) := ⟨_, rfl⟩
    have hz : W0.heap.size = w.heap.size + 3 := by rw [hW0]; simp
    have HB0 := Aside0.mk (show Below w.heap.size w W0 by rw [hW0]; exact (((Below.refl _ _).alloc (Nat.le_refl _) _).alloc (by simp) _).alloc (by simp; omega) _)
    have Hrb := Aside0.mk (show W0.heap[w.heap.size]? = some (.cells #[.slice none 0 0, .slice none 0 0, .slice none 0 0] 27 (0, 0)) by
      rw [hW0]; exact blk_alloc (blk_alloc (blk_new _ _) _) _)
    have Hg0 := Aside0.mk (show W0.heap[w.heap.size + 2]? = some (.cells #[.slice none 0 0, .slice none 0 0, .slice none 0 0, .slice none 0 0, .map (some (w.heap.size + 1))] 56 (0, 0)) by
      rw [hW0]; exact blk_new_at (by simp) _)
    have Hm0 := Aside0.mk (show W0.ownsMap Tryd.prog 3 (plainElem (H := Unit) Tryd.prog 4) (w.heap.size + 1) 0 (.map []) by
      rw [hW0]
      have := World.ownsMap_made (H := Unit) (w.alloc (.cells #[.slice none 0 0, .slice none 0 0, .slice none 0 0] 27)) Tryd.prog 3 (plainElem Tryd.prog 4)
      have e : (w.alloc (.cells #[.slice none 0 0, .slice none 0 0, .slice none 0 0] 27)).heap.size = w.heap.size + 1 := by simp
      rw [e] at this
      exact this.alloc _)
    rw [← hW0]
    clear hW0
    refine (split_any s 10 m0 W0 hs (pw_cell_below HB0.out HM.out)).mono ?_
    rintro e w1 ⟨rfl, hb1, hC1⟩
    rw [hz] at hC1 ⊢
    have HZ := Aside0.mk hz
    clear hz
    have HC1 := Aside0.mk hC1
    have HB1 := Aside0.mk hb1
    have hLm := C_max hC1
    have hLs : ∀ x ∈ spl 10 s, x.size ≤ s.size := fun x hx => spl_size 10 s x hx
    have hLp := spl_pos 10 s
    obtain ⟨L, hL⟩ : ∃ L, L = spl 10 s := ⟨_, rfl⟩
    rw [← hL] at HP HC1 hLm hLs hLp ⊢
    have HLs := Aside0.mk hLs
    clear hL hC1 hb1 hLs
    have hlb : w.heap.size + 3 < w1.heap.size := by
      obtain ⟨b, o, hA, hc⟩ := str_at HC1.out 0 hLp
      injection hA with hA
      injection hA with hA1 hA2
      subst hA1 hA2
      exact World.block_lt_of_cell? _ _ hc
    go_wp2
    go_loopw [21] (fun i wr => ∃ (k : Nat) (st : St), k ≤ L.length ∧ i = .int .i64 k ∧ Aside0 st.Fits ∧ Aside0 (Rdr wr w1.heap.size (w.heap.size + 2) (w.heap.size + 1) wr.heap.size st) ∧
      Aside0 (Keep2 w1.heap.size (w.heap.size + 2) (w.heap.size + 1) w1 wr) ∧ Aside0 (parseP s = endP rightN (linesP lineP (L.drop k) k st))) (fun i _ => L.length - (intOf i).toNat)
    case atStart =>
      refine ⟨0, St0, Nat.zero_le _, rfl, ⟨⟨rfl, rfl, rfl, by decide, by decide⟩⟩, ⟨?_⟩, ⟨Keep2.refl _ _ _ _⟩, ⟨by rw [List.drop_zero]; exact HP.out⟩⟩
      refine ⟨_, _, _, _, _, 0, blk_below Hg0.out HB1.out, Kd.R_nil _ _ _ _ _, Kd.R_nil _ _ _ _ _, Kd.R_nil _ _ _ _ _, Kd.R_nil _ _ _ _ _, Hm0.out.kept (grown_of_below HB1.out none) (by simp), Nat.le_refl _, ?_⟩
      intro i hi
      rfl
    case round =>
      obtain ⟨k, st, hk, rfl, HF, HR, HK, HE⟩ := hrel
      -- what lay below lies as it lay
      have hsz : w1.heap.size ≤ wr.heap.size := HK.out.size
      have hm0 : w.heap.size ≤ w1.heap.size := by omega
      have h00 : 0 < w.heap.size := World.block_lt_of_cell? _ _ HM.out
      have hcm : wr.cell? ⟨0, 0, none⟩ = some (.int .i64 m0) :=
        (World.cell?_of_block (HK.out.block 0 (by omega) (by omega) (by omega))).trans (pw_cell_below HB1.out (pw_cell_below HB0.out HM.out))
      have HCr : Aside0 (Kd.C Kd.string wr (some ⟨w.heap.size + 3, 0, none⟩) L.length L) := by
        refine ⟨rfl, hLm, fun _ => ⟨⟨w.heap.size + 3, 0, none⟩, rfl, fun j p hp => ?_⟩⟩
        obtain ⟨ad, hadr, hcc⟩ := HC1.out.2.2 hLp
        injection hadr with hadr
        subst hadr
        obtain ⟨cs, h1, h2, h3⟩ := hcc j p hp
        refine ⟨cs, h1, h2, fun i u hu => ?_⟩
        have h4 := h3 i u hu
        rw [add_plain] at h4 ⊢
        exact (World.cell?_of_block (HK.out.block (w.heap.size + 3) hlb (by omega) (by omega))).trans h4
      by_cases hlt : k < L.length
      · obtain ⟨b, o, hA, hc⟩ := str_at HCr.out k hlt
        injection hA with hA
        injection hA with hA1 hA2
        subst hA1 hA2
        rw [Nat.zero_add] at hc
        obtain ⟨x, hx⟩ : ∃ x, x = L[k] := ⟨_, rfl⟩
        have hxs : x.size ≤ s.size := by rw [hx]; exact HLs.out _ (List.getElem_mem _)
        have HE2 := Aside0.mk (show parseP s = endP rightN (if silentB x then linesP lineP (L.drop (k + 1)) (k + 1) st else
            match lineP st (spl 32 x) with
            | some s' => linesP lineP (L.drop (k + 1)) (k + 1) s'
            | none => .error (k + 1)) by
          rw [HE.out, List.drop_eq_getElem_cons hlt, ← hx]; rfl)
        rw [← hx] at hc
        clear hx
        cases hsi : silentB x with
        | true =>
          have HE3 := Aside0.mk (HE2.out.trans (by rw [hsi, if_pos rfl]))
          cases hie : x.toList.isEmpty with
          | true =>
            have hnil : x.toList = [] := List.isEmpty_iff.1 hie
            clear hsi
            go_wp2
            all_goals (first | (exfalso; simp_all; done) | skip)
            go_roundw
            case rel => exact ⟨k + 1, st, by omega, by go_num, HF, HR, HK, HE3⟩
            case measure => simp [intOf]; omega
          | false =>
            have hne : ¬ x.toList = [] := fun h => by rw [h] at hie; cases hie
            have hpos : 0 < x.size := by
              rw [Lib.size_eq]
              cases h : x.data.toList with
              | nil => exact absurd ((Lib.toList_data x).trans h) hne
              | cons _ _ => simp
            have hnum : ((x[0].toNat : Int) == 35) = true := by
              have e : x.data.toList.head? = some x[0] := by
                rw [List.head?_eq_getElem?, List.getElem?_eq_getElem (by rw [← Lib.size_eq]; exact hpos)]; rfl
              rw [silentB, e, ← Lib.toList_data, hie, Bool.false_or] at hsi
              have : x[0] = 35 := by simpa using hsi
              rw [this]; rfl
            clear hsi
            go_wp2
            go_roundw
            case rel => exact ⟨k + 1, st, by omega, by go_num, HF, HR, HK, HE3⟩
            case measure => simp [intOf]; omega
        | false =>
          have HE3 := Aside0.mk (HE2.out.trans (by rw [hsi, if_neg (by decide)]))
          clear HE2
          have hne : ¬ x.toList = [] := by
            intro h
            rw [silentB, toList_nil x h] at hsi; cases hsi
          have hpos : 0 < x.size := by
            rw [Lib.size_eq]
            cases h : x.data.toList with
            | nil => rw [silentB, h] at hsi; cases hsi
            | cons _ _ => simp
          have hnum : ((x[0].toNat : Int) == 35) = false := by
            rw [silentB, Bool.or_eq_false_iff] at hsi
            have e : x.data.toList.head? = some x[0] := by
              rw [List.head?_eq_getElem?, List.getElem?_eq_getElem (by rw [← Lib.size_eq]; exact hpos)]; rfl
            rw [e] at hsi
            rw [beq_eq_false_iff_ne]
            intro h
            have h35 : x[0] = 35 := UInt8.toNat_inj.1 (by have : (35 : UInt8).toNat = 35 := rfl; omega)
            rw [h35] at hsi
            exact absurd hsi.2 (by decide)
          have hie : x.toList.isEmpty = false := by cases h : x.toList with | nil => exact absurd h hne | cons _ _ => rfl
          clear hsi
          go_wp2_with fail
          have hxs2 : x.size ≤ 32768 := by omega
          refine (split_any x 32 m0 wr hxs2 hcm).mono ?_
          rintro e w2 ⟨rfl, hb2, hC2⟩
          have HB2 := Aside0.mk hb2
          have HC2 := Aside0.mk hC2
          have hLp2 := spl_pos 32 x
          have hcm2 := pw_cell_below hb2 hcm
          have HLs2 := Aside0.mk (fun (y : ByteArray) (hy : y ∈ spl 32 x) => Nat.le_trans (spl_size 32 x y hy) hxs2)
          obtain ⟨M, hM⟩ : ∃ M, M = spl 32 x := ⟨_, rfl⟩
          rw [← hM] at HE3 HC2 hLp2 HLs2 ⊢
          clear hM hC2 hb2
          go_wp2_with fail
          refine (line_any w1.heap.size (w.heap.size + 2) (w.heap.size + 1) wr.heap.size st (some ⟨wr.heap.size, 0, none⟩) M.length M m0 w2 (HR.out.keep HB2.out) HF.out HB2.out.size hsz HC2.out (fun b o h => by injection h with h; injection h with h; omega) HLs2.out hcm2 hLp2).mono ?_
          rintro e w3 ⟨rfl, hR3, hK3⟩
          have HR3 := Aside0.mk hR3
          have HK3 := Aside0.mk (HK.out.trans ((Keep2.below HB2.out hsz).trans hK3))
          clear hR3 hK3
          cases ho : lineP st M with
          | some s' =>
            rw [ho] at HR3 HE3
            have HF' := Aside0.mk (lineP_fits ho HF.out)
            clear ho
            have e0 : errOf (some s') = 0 := rfl
            rw [e0]
            clear e0
            go_wp2
            go_roundw
            case rel => exact ⟨k + 1, s', by omega, by go_num, HF', HR3, HK3, HE3⟩
            case measure => simp [intOf]; omega
          | none =>
            rw [ho] at HE3
            clear ho HR3
            have e0 : errOf none = 90 := rfl
            rw [e0]
            clear e0
            have Hrb3 := HK3.out.blk (by omega) (by omega) (by omega) (blk_below Hrb.out HB1.out)
            have r0 := blk_cell Hrb3 0
            have r1 := blk_cell Hrb3 1
            have r2 := blk_cell Hrb3 2
            have f0 := blk_frozen Hrb3 0
            have f1 := blk_frozen Hrb3 1
            have f2 := blk_frozen Hrb3 2
            have HBf := Aside0.mk (HK3.out.toBelow (B := w.heap.size) (w := w) (below_then HB0.out HB0.out.size HB1.out) (by omega) (by omega) (by omega))
            have HRB := Aside0.mk Hrb3
            clear Hrb3
            go_wp2
            obtain ⟨W, hW⟩ : ∃ W, W = ((w3.setCell ⟨w.heap.size, 0, none⟩ (.slice none 0 0)).setCell ⟨w.heap.size, 1, none⟩ (.slice none 0 0)).setCell ⟨w.heap.size, 2, none⟩ (.slice none 0 0) := ⟨_, rfl⟩
            have hWb : W.heap[w.heap.size]? = some (.cells #[.slice none 0 0, .slice none 0 0, .slice none 0 0] 27 (0, 0)) := by rw [hW]; exact blk_put (blk_put (blk_put HRB.out 0 _ rfl) 1 _ rfl) 2 _ rfl
            rw [← hW]
            have q0 := blk_cell hWb 0
            have q1 := blk_cell hWb 1
            have q2 := blk_cell hWb 2
            have ek : ((k + 1 : Nat) : Int) = (k : Int) + 1 := by omega
            refine bodyPost_ret (v := .tuple #[.agg #[.slice none 0 0, .slice none 0 0, .slice none 0 0], .slice none 0 0, .int .i64 ((k + 1 : Nat) : Int), .int .i64 90]) (by rw [ek]; simp [results, Tryd.results11, go_sem, q0, q1, q2]) rfl ?_
            refine parse_none (by rw [HE3.out]; rfl) ?_
            rw [hW]
            exact ((HBf.out.setCell (Nat.le_refl _) _).setCell (Nat.le_refl _) _).setCell (Nat.le_refl _) _
      · have hkn : k = L.length := by omega
        have HE3 := Aside0.mk (show parseP s = endP rightN (.ok st) by rw [HE.out, List.drop_of_length_le (by omega)]; rfl)
        obtain ⟨vn, vl, vq, ve, D, nD, hg, hn, hl, hq, he, hm, hc, hD⟩ := HR.out
        obtain ⟨An, cn, rfl, hcn, hCn⟩ := Kd.R_reads hn
        obtain ⟨Al, cl, rfl, hcl, hCl⟩ := Kd.R_reads hl
        obtain ⟨Aq, cq, rfl, hcq, hCq⟩ := Kd.R_reads hq
        obtain ⟨Ae, ce, rfl, hce, hCe⟩ := Kd.R_reads he
        have Hg := Aside0.mk hg
        have Hn := Aside0.mk hn
        have Hl := Aside0.mk hl
        have Hq := Aside0.mk hq
        have He := Aside0.mk he
        have PR := Aside0.mk (right_any st.pol Al Aq Ae cl cq ce wr hCl hCq hCe hcl)
        have g1 : wr.cell? ⟨w.heap.size + 1 + 1, 1, none⟩ = _ := blk_cell hg 1
        have g2 : wr.cell? ⟨w.heap.size + 1 + 1, 2, none⟩ = _ := blk_cell hg 2
        have g3 : wr.cell? ⟨w.heap.size + 1 + 1, 3, none⟩ = _ := blk_cell hg 3
        clear hg hn hl hq he hm hc hD hCn hCl hCq hCe HR
        go_wp2_with fail
        refine PR.out.mono ?_
        rintro e w2 ⟨rfl, hb2⟩
        have Hg2 := Aside0.mk (blk_below Hg.out hb2)
        have HK2 := Aside0.mk (HK.out.trans (Keep2.below hb2 hsz))
        have Hrb3 := HK2.out.blk (b := w.heap.size) (by omega) (by omega) (by omega) (blk_below Hrb.out HB1.out)
        have r0 := blk_cell Hrb3 0
        have r1 := blk_cell Hrb3 1
        have r2 := blk_cell Hrb3 2
        have f0 := blk_frozen Hrb3 0
        have f1 := blk_frozen Hrb3 1
        have f2 := blk_frozen Hrb3 2
        have HRB := Aside0.mk Hrb3
        clear Hrb3 g1 g2 g3
        cases hri : rightB st.pol with
        | false =>
          have hrn : rightN st.pol = 11 := by unfold rightN; rw [hri]; rfl
          have Hrn := Aside0.mk hrn
          rw [hrn]
          clear hrn hri
          have HBf := Aside0.mk (HK2.out.toBelow (B := w.heap.size) (w := w) (below_then HB0.out HB0.out.size HB1.out) (by omega) (by omega) (by omega))
          go_wp2
          obtain ⟨W, hW⟩ : ∃ W, W = ((w2.setCell ⟨w.heap.size, 0, none⟩ (.slice none 0 0)).setCell ⟨w.heap.size, 1, none⟩ (.slice none 0 0)).setCell ⟨w.heap.size, 2, none⟩ (.slice none 0 0) := ⟨_, rfl⟩
          have hWb : W.heap[w.heap.size]? = some (.cells #[.slice none 0 0, .slice none 0 0, .slice none 0 0] 27 (0, 0)) := by rw [hW]; exact blk_put (blk_put (blk_put HRB.out 0 _ rfl) 1 _ rfl) 2 _ rfl
          rw [← hW]
          have q0 := blk_cell hWb 0
          have q1 := blk_cell hWb 1
          have q2 := blk_cell hWb 2
          refine bodyPost_ret (v := .tuple #[.agg #[.slice none 0 0, .slice none 0 0, .slice none 0 0], .slice none 0 0, .int .i64 ((0 : Nat) : Int), .int .i64 11]) (by simp [results, Tryd.results11, go_sem, q0, q1, q2]) rfl ?_
          refine parse_none (by rw [HE3.out]; unfold endP; simp only; rw [if_neg (by rw [Hrn.out]; decide), Hrn.out]) ?_
          rw [hW]
          exact ((HBf.out.setCell (Nat.le_refl _) _).setCell (Nat.le_refl _) _).setCell (Nat.le_refl _) _
        | true =>
          have hrn : rightN st.pol = 0 := by unfold rightN; rw [hri]; rfl
          have Hrn := Aside0.mk hrn
          rw [hrn]
          clear hrn hri
          have g0 : w2.cell? ⟨w.heap.size + 1 + 1, 0, none⟩ = _ := blk_cell Hg2.out 0
          have g1 : w2.cell? ⟨w.heap.size + 1 + 1, 1, none⟩ = _ := blk_cell Hg2.out 1
          have g2 : w2.cell? ⟨w.heap.size + 1 + 1, 2, none⟩ = _ := blk_cell Hg2.out 2
          have g3 : w2.cell? ⟨w.heap.size + 1 + 1, 3, none⟩ = _ := blk_cell Hg2.out 3
          go_wp2
          go_region
          go_wp2
          obtain ⟨W, hW⟩ : ∃ W, W = (((w2.setCell ⟨w.heap.size, 0, none⟩ (.slice Al st.labels.length cl)).setCell ⟨w.heap.size, 1, none⟩ (.slice Aq st.quotas.length cq)).setCell ⟨w.heap.size, 2, none⟩ (.slice Ae st.entries.length ce)).drew := ⟨_, rfl⟩
          have hWb : W.heap[w.heap.size]? = some (.cells #[.slice Al st.labels.length cl, .slice Aq st.quotas.length cq, .slice Ae st.entries.length ce] 27 (0, 0)) := by
            rw [hW]; exact blk_drew (blk_put (blk_put (blk_put HRB.out 0 _ rfl) 1 _ rfl) 2 _ rfl)
          have HBf := Aside0.mk (HK2.out.toBelow (B := w.heap.size) (w := w) (below_then HB0.out HB0.out.size HB1.out) (by omega) (by omega) (by omega))
          have HWB := Aside0.mk (show Below w.heap.size w W by rw [hW]; exact below_drew (((HBf.out.setCell (Nat.le_refl _) _).setCell (Nat.le_refl _) _).setCell (Nat.le_refl _) _))
          have over : ∀ {α : Type} {d : Kd α} {e : Nat} {v : Value} {xs : List α}, Kd.R d e wr w1.heap.size (fun k => k < wr.heap.size) v xs → (∀ q, q ∈ e :: d.E → q ≠ 27) → Kd.R d e W w1.heap.size (fun k => k < wr.heap.size ∧ k ≠ w.heap.size) v xs := by
            intro α d e v xs h hE
            rw [hW]
            have h1 := Kd.R_types (Kd.R_below h hb2) HRB.out hE
            exact Kd.R_drew (Kd.R_far (Kd.R_far (Kd.R_far h1 (p := ⟨w.heap.size, 0, none⟩) (fun k hk => hk.2) _) (p := ⟨w.heap.size, 1, none⟩) (fun k hk => hk.2) _) (p := ⟨w.heap.size, 2, none⟩) (fun k hk => hk.2) _)
          have on := (Kd.R_reads' (over Hn.out (by decide))).2.2
          have ol := (Kd.R_reads' (over Hl.out (by decide))).2.2
          have oq := (Kd.R_reads' (over Hq.out (by decide))).2.2
          have oe := (Kd.R_reads' (over He.out (by decide))).2.2
          rw [← hW]
          have q0 := blk_cell hWb 0
          have q1 := blk_cell hWb 1
          have q2 := blk_cell hWb 2
          clear hW over
          refine bodyPost_ret (v := .tuple #[.agg #[.slice Al st.labels.length cl, .slice Aq st.quotas.length cq, .slice Ae st.entries.length ce], .slice An st.names.length cn, .int .i64 ((0 : Nat) : Int), .int .i64 0]) (by simp [results, Tryd.results11, go_sem, q0, q1, q2]) rfl ?_
          have hpp : parseP s = ⟨st.pol, st.names, 0, 0⟩ := by rw [HE3.out]; unfold endP; simp only; rw [if_pos Hrn.out]
          rw [hpp]
          exact ⟨Al, cl, Aq, cq, Ae, ce, An, cn, rfl, ol, oq, oe, on, hcl, hcq, hce, hcn, HWB.out⟩
end Go.Proofs.YtaeaakcppheaoaaDoor
