/- The program's Print: a client's line, up to its secret. The program's Print: the clients' lines, and the end. The program's Print: a quota's line. The program's Print: a label's line, up to its level. The program's Print: the quotas' lines. The program's Print: the labels' lines. What the program's Print answers: behind the names. What the program's Print answers. -/
import Derived.Test.YtaeaakcppheaoaaDoorPp1
namespace Go.Proofs.YtaeaakcppheaoaaDoor
open Go.RowKit Go.Proofs.YtaeaakcppheaoaaDoorW.PrintWords Go.Maps

section
attribute [local go_sem high] cat_add
set_option maxRecDepth 1000000 in
set_option maxHeartbeats 4000000 in
theorem ent_write (wL W : World) (b base pb bn on nN cn g m : Nat) (T : List UInt8) (x sec : ByteArray) (down : Bool) (u0 u1 u3 u4 u5 u6 u8 u9 u10 u11 u13 u14 u15 u16 u17 u18 u19 u21 u22 u23 u24 u25 u26 u27 u28 u29 u30 u31 u32 u33 u34 u35 u36 u37 u38 u39 u40 u41 u42 u43 u44 u45 u46 u47 u48 u49 u50 u51 u52 u53 u54 u55 u56 u57 u58 u59 u60 u61 u62 u63 u64 u65 u66 u67 u68 u69 u70 u71 u72 u73 u74 u75 u76 u77 u78 u79 u80 u81 u82 u83 u84 u85 u86 u87 u88 u89 u90 u91 u92 u93 u94 u95 u96 u97 u98 u99 u100 u101 u102 u103 u104 u105 u106 u107 u108 u109 u110 u111 u112 u113 u114 u115 u116 u117 u118 u119 u120 u121 u122 u123 u124 u125 u126 u127 u128 u129 u130 u131 u132 u133 u134 u135 u136 u137 u138 u139 u140 u141 u142 u143 u144 u145 u146 u147 u148 u149 u150 : Value) (Q1 : Exit → Act → World → Prop)
    (hW : Aside0 (PrW wL W b base T)) (hT : T.length ≤ 100000) (hx : x.size ≤ 12) (hs : sec.size ≤ 16) (hm : (m : Int) < nN)
    (cx : W.cell? ⟨bn, on + m, none⟩ = some (.string x)) (hg : Aside0 (W.heap[g]? = some (.cells #[.int .i64 m, .string sec, .bool down] 51 (0, 0))))
    (hgb : g ≠ b) (hbn : bn < b)
    (hK : ∀ (z133 z134 z135 z136 z137 z138 z139 z140 z141 z142 z143 z144 : Value) (wc : World), PrW wL wc b base (T ++ entH x sec) → wc.heap[g]? = some (.cells #[.int .i64 m, .string sec, .bool down] 51 (0, 0)) → Q1 .normal ⟨List.toArray (u0 :: u1 :: (.pointer (some ⟨pb, 0, none⟩)) :: u3 :: u4 :: u5 :: u6 :: (.slice (some ⟨bn, on, none⟩) nN cn) :: u8 :: u9 :: u10 :: u11 :: (.pointer (some ⟨b, 0, none⟩)) :: u13 :: u14 :: u15 :: u16 :: u17 :: u18 :: u19 :: (.pointer (some ⟨g, 0, none⟩)) :: u21 :: u22 :: u23 :: u24 :: u25 :: u26 :: u27 :: u28 :: u29 :: u30 :: u31 :: u32 :: u33 :: u34 :: u35 :: u36 :: u37 :: u38 :: u39 :: u40 :: u41 :: u42 :: u43 :: u44 :: u45 :: u46 :: u47 :: u48 :: u49 :: u50 :: u51 :: u52 :: u53 :: u54 :: u55 :: u56 :: u57 :: u58 :: u59 :: u60 :: u61 :: u62 :: u63 :: u64 :: u65 :: u66 :: u67 :: u68 :: u69 :: u70 :: u71 :: u72 :: u73 :: u74 :: u75 :: u76 :: u77 :: u78 :: u79 :: u80 :: u81 :: u82 :: u83 :: u84 :: u85 :: u86 :: u87 :: u88 :: u89 :: u90 :: u91 :: u92 :: u93 :: u94 :: u95 :: u96 :: u97 :: u98 :: u99 :: u100 :: u101 :: u102 :: u103 :: u104 :: u105 :: u106 :: u107 :: u108 :: u109 :: u110 :: u111 :: u112 :: u113 :: u114 :: u115 :: u116 :: u117 :: u118 :: u119 :: u120 :: u121 :: u122 :: u123 :: u124 :: u125 :: u126 :: u127 :: u128 :: u129 :: u130 :: u131 :: u132 :: z133 :: z134 :: z135 :: z136 :: z137 :: z138 :: z139 :: z140 :: z141 :: z142 :: z143 :: z144 :: u145 :: u146 :: u147 :: u148 :: u149 :: u150 :: []), []⟩ wc) :
    Code.wp Tryd.prog (regP 39) Q1 ⟨List.toArray (u0 :: u1 :: (.pointer (some ⟨pb, 0, none⟩)) :: u3 :: u4 :: u5 :: u6 :: (.slice (some ⟨bn, on, none⟩) nN cn) :: u8 :: u9 :: u10 :: u11 :: (.pointer (some ⟨b, 0, none⟩)) :: u13 :: u14 :: u15 :: u16 :: u17 :: u18 :: u19 :: (.pointer (some ⟨g, 0, none⟩)) :: u21 :: u22 :: u23 :: u24 :: u25 :: u26 :: u27 :: u28 :: u29 :: u30 :: u31 :: u32 :: u33 :: u34 :: u35 :: u36 :: u37 :: u38 :: u39 :: u40 :: u41 :: u42 :: u43 :: u44 :: u45 :: u46 :: u47 :: u48 :: u49 :: u50 :: u51 :: u52 :: u53 :: u54 :: u55 :: u56 :: u57 :: u58 :: u59 :: u60 :: u61 :: u62 :: u63 :: u64 :: u65 :: u66 :: u67 :: u68 :: u69 :: u70 :: u71 :: u72 :: u73 :: u74 :: u75 :: u76 :: u77 :: u78 :: u79 :: u80 :: u81 :: u82 :: u83 :: u84 :: u85 :: u86 :: u87 :: u88 :: u89 :: u90 :: u91 :: u92 :: u93 :: u94 :: u95 :: u96 :: u97 :: u98 :: u99 :: u100 :: u101 :: u102 :: u103 :: u104 :: u105 :: u106 :: u107 :: u108 :: u109 :: u110 :: u111 :: u112 :: u113 :: u114 :: u115 :: u116 :: u117 :: u118 :: u119 :: u120 :: u121 :: u122 :: u123 :: u124 :: u125 :: u126 :: u127 :: u128 :: u129 :: u130 :: u131 :: u132 :: u133 :: u134 :: u135 :: u136 :: u137 :: u138 :: u139 :: u140 :: u141 :: u142 :: u143 :: u144 :: u145 :: u146 :: u147 :: u148 :: u149 :: u150 :: []), []⟩ W := by
  have b0 := blk_cell hg.out 0
  have b1 := blk_cell hg.out 1
  obtain ⟨t, ht⟩ : ∃ t, ofL (secretL sec.data.toList) = t := ⟨_, rfl⟩
  have hts : t.size ≤ 48 := by
    rw [← ht, Lib.size_eq, ofL_data]
    have := secretL_len sec.data.toList
    rw [← Lib.size_eq] at this; omega
  have HT := Aside0.mk ht
  have s1 : Short ⟨#[99, 108, 105, 101, 110, 116, 32]⟩ := by unfold Short; decide
  have s2 : Short ⟨#[32, 115, 101, 99, 114, 101, 116, 32]⟩ := by unfold Short; decide
  have s3 : Short x := by unfold Short; omega
  have s4 : Short t := by unfold Short; omega
  have s5 : Short (cat ⟨#[99, 108, 105, 101, 110, 116, 32]⟩ x) := by unfold Short; rw [cat_size]; show 7 + x.size ≤ 40000; omega
  have s6 : Short (cat (cat ⟨#[99, 108, 105, 101, 110, 116, 32]⟩ x) ⟨#[32, 115, 101, 99, 114, 101, 116, 32]⟩) := by unfold Short; rw [cat_size, cat_size]; show 7 + x.size + 8 ≤ 40000; omega
  have hz : (cat (cat (cat ⟨#[99, 108, 105, 101, 110, 116, 32]⟩ x) ⟨#[32, 115, 101, 99, 114, 101, 116, 32]⟩) t).size ≤ 1000000 := by rw [cat_size, cat_size, cat_size]; show 7 + x.size + 8 + t.size ≤ 1000000; omega
  have HZ := Aside0.mk hz
  have hd : (cat (cat (cat ⟨#[99, 108, 105, 101, 110, 116, 32]⟩ x) ⟨#[32, 115, 101, 99, 114, 101, 116, 32]⟩) t).data.toList = entH x sec := by
    rw [cat_data, cat_data, cat_data, ← ht, ofL_data]; rfl
  have HD := Aside0.mk hd
  have hT2 : T.length ≤ 1000000 := by omega
  have hm0 : (0 : Int) ≤ m := by omega
  clear hd hz ht
  conv => arg 2; whnf
  go_region_held3 (fun w' => w'.cell? ⟨bn, on + m, none⟩ = some (.string x) ∧ w'.cell? ⟨g, 0, none⟩ = some (.int .i64 m) ∧ w'.cell? ⟨g, 1, none⟩ = some (.string sec)) (first | exact ⟨S1, S2, S3⟩ | (simp [go_sem, *]; done) | (simp [go_sem, *])) (first | ((with_reducible refine (secret_is sec _ (by omega) t HT.out).mono ?_); rintro e w2 ⟨rfl, hbs⟩; obtain ⟨q1, q2, q3⟩ := (by assumption : World.cell? _ ⟨bn, on + m, none⟩ = _ ∧ World.cell? _ ⟨g, 0, none⟩ = _ ∧ World.cell? _ ⟨g, 1, none⟩ = _); have S1 := pw_cell_below hbs q1; have S2 := pw_cell_below hbs q2; have S3 := pw_cell_below hbs q3; have HBS := Aside0.mk hbs) | ((with_reducible refine (bld_str b base T _ _ (Bld.below (Bld.drew hW.out.bl) HBS.out) hT2 HZ.out (Nat.le_trans hW.out.sz (le_drew HBS.out))).mono ?_); rintro e w3 ⟨rfl, hB3, hK3, hO3⟩; have HG3 := Aside0.mk (hO3 g _ _ (blk_below (blk_drew hg.out) HBS.out) (by decide) hgb); have S1 := (World.cell?_of_block (hK3.block bn (Nat.lt_trans hbn hW.out.lt) (by omega) (by omega))).trans S1; have S2 := blk_cell HG3.out 0; have S3 := blk_cell HG3.out 1; have HB3 := Aside0.mk hB3; have HK3 := Aside0.mk hK3; clear hB3 hK3 hO3))
  all_goals
    go_wp2
    refine hK _ _ _ _ _ _ _ _ _ _ _ _ _ ?_ HG3.out
    refine PrW.step (PrW.below hW.out (below_of_drew HBS.out)) ?_ HK3.out
    rw [← HD.out]
    exact HB3.out
end
end Go.Proofs.YtaeaakcppheaoaaDoor
namespace Go.Proofs.YtaeaakcppheaoaaDoor
open Go.RowKit Go.Proofs.YtaeaakcppheaoaaDoorW.PrintWords Go.Maps

theorem entsT_step (N : List ByteArray) (l : List Ent) (k : Nat) (h : k < l.length) : entsT N l (k + 1) = entsT N l k ++ entT N l[k] := by
  show entsT N l k ++ entT N (l.getD k ⟨0, ofL [], false⟩) = _
  rw [rd_getElem l _ k h]
set_option maxRecDepth 1000000 in
set_option maxHeartbeats 4000000 in
theorem ents_part (p : Pol) (N : List ByteArray) (wL W : World) (A0 A1 A2 : Option Addr) (c0 c1 c2 cn b base pb bn on : Nat) (T : List UInt8) (u0 u1 u3 u4 u5 u6 u8 u9 u10 u11 u13 u14 u15 u16 u17 u18 u19 u20 u21 u22 u23 u24 u25 u26 u27 u28 u29 u30 u31 u32 u33 u34 u35 u36 u37 u38 u39 u40 u41 u42 u43 u44 u45 u46 u47 u48 u49 u50 u51 u52 u53 u54 u55 u56 u57 u58 u59 u60 u61 u62 u63 u64 u65 u66 u67 u68 u69 u70 u71 u72 u73 u74 u75 u76 u77 u78 u79 u80 u81 u82 u83 u84 u85 u86 u87 u88 u89 u90 u91 u92 u93 u94 u95 u96 u97 u98 u99 u100 u101 u102 u103 u104 u105 u106 u107 u108 u109 u110 u111 u112 u113 u114 u115 u116 u117 u118 u119 u120 u121 u122 u123 u124 u125 u126 u127 u128 u129 u130 u131 u132 u133 u134 u135 u136 u137 u138 u139 u140 u141 u142 u143 u144 u145 u146 u147 u148 u149 u150 : Value) (K : Act → World → Prop) (Q1 : Exit → Act → World → Prop)
    (HL : Aside0 (PrL p N wL pb A0 A1 A2 (some ⟨bn, on, none⟩) c0 c1 c2 cn)) (HW : Aside0 (PrW wL W b base T)) (hT : T.length ≤ 70000)
    (hQ : ∀ (z20 z126 z127 z128 z129 z130 z131 z132 z133 z134 z135 z136 z137 z138 z139 z140 z141 z142 z143 z144 z145 z146 z147 z148 z149 : Value) (w' : World), PrW wL w' b base (T ++ entsT N p.entries p.entries.length) → Q1 .normal ⟨List.toArray (u0 :: u1 :: (.pointer (some ⟨pb, 0, none⟩)) :: u3 :: u4 :: u5 :: u6 :: (.slice (some ⟨bn, on, none⟩) N.length cn) :: u8 :: u9 :: u10 :: u11 :: (.pointer (some ⟨b, 0, none⟩)) :: u13 :: u14 :: u15 :: u16 :: u17 :: u18 :: u19 :: z20 :: u21 :: u22 :: u23 :: u24 :: u25 :: u26 :: u27 :: u28 :: u29 :: u30 :: u31 :: u32 :: u33 :: u34 :: u35 :: u36 :: u37 :: u38 :: u39 :: u40 :: u41 :: u42 :: u43 :: u44 :: u45 :: u46 :: u47 :: u48 :: u49 :: u50 :: u51 :: u52 :: u53 :: u54 :: u55 :: u56 :: u57 :: u58 :: u59 :: u60 :: u61 :: u62 :: u63 :: u64 :: u65 :: u66 :: u67 :: u68 :: u69 :: u70 :: u71 :: u72 :: u73 :: u74 :: u75 :: u76 :: u77 :: u78 :: u79 :: u80 :: u81 :: u82 :: u83 :: u84 :: u85 :: u86 :: u87 :: u88 :: u89 :: u90 :: u91 :: u92 :: u93 :: u94 :: u95 :: u96 :: u97 :: u98 :: u99 :: u100 :: u101 :: u102 :: u103 :: u104 :: u105 :: u106 :: u107 :: u108 :: u109 :: u110 :: u111 :: u112 :: u113 :: u114 :: u115 :: u116 :: u117 :: u118 :: u119 :: u120 :: u121 :: u122 :: u123 :: u124 :: u125 :: z126 :: z127 :: z128 :: z129 :: z130 :: z131 :: z132 :: z133 :: z134 :: z135 :: z136 :: z137 :: z138 :: z139 :: z140 :: z141 :: z142 :: z143 :: z144 :: z145 :: z146 :: z147 :: z148 :: z149 :: u150 :: []), []⟩ w')
    (hK : ∀ a w, Code.wp Tryd.prog (restC (codeP 36)) Q1 a w → K a w) :
    Code.wp Tryd.prog (regP 36) (Exit.then K Q1) ⟨List.toArray (u0 :: u1 :: (.pointer (some ⟨pb, 0, none⟩)) :: u3 :: u4 :: u5 :: u6 :: (.slice (some ⟨bn, on, none⟩) N.length cn) :: u8 :: u9 :: u10 :: u11 :: (.pointer (some ⟨b, 0, none⟩)) :: u13 :: u14 :: u15 :: u16 :: u17 :: u18 :: u19 :: u20 :: u21 :: u22 :: u23 :: u24 :: u25 :: u26 :: u27 :: u28 :: u29 :: u30 :: u31 :: u32 :: u33 :: u34 :: u35 :: u36 :: u37 :: u38 :: u39 :: u40 :: u41 :: u42 :: u43 :: u44 :: u45 :: u46 :: u47 :: u48 :: u49 :: u50 :: u51 :: u52 :: u53 :: u54 :: u55 :: u56 :: u57 :: u58 :: u59 :: u60 :: u61 :: u62 :: u63 :: u64 :: u65 :: u66 :: u67 :: u68 :: u69 :: u70 :: u71 :: u72 :: u73 :: u74 :: u75 :: u76 :: u77 :: u78 :: u79 :: u80 :: u81 :: u82 :: u83 :: u84 :: u85 :: u86 :: u87 :: u88 :: u89 :: u90 :: u91 :: u92 :: u93 :: u94 :: u95 :: u96 :: u97 :: u98 :: u99 :: u100 :: u101 :: u102 :: u103 :: u104 :: u105 :: u106 :: u107 :: u108 :: u109 :: u110 :: u111 :: u112 :: u113 :: u114 :: u115 :: u116 :: u117 :: u118 :: u119 :: u120 :: u121 :: u122 :: u123 :: u124 :: u125 :: u126 :: u127 :: u128 :: u129 :: u130 :: u131 :: u132 :: u133 :: u134 :: u135 :: u136 :: u137 :: u138 :: u139 :: u140 :: u141 :: u142 :: u143 :: u144 :: u145 :: u146 :: u147 :: u148 :: u149 :: u150 :: []), []⟩ W := by
  have HK := Aside0.mk hK
  clear hK
  have hbw := blk_below HL.out.box HW.out.be
  have g2 := blk_cell hbw 2
  have hen := HL.out.fine.e
  have hfine := Aside0.mk HL.out.fine
  have hN := Aside0.mk HL.out.words
  have HLn := Aside0.mk HL.out.len
  have hn32 := HL.out.fine.n
  have hpbw : pb < W.heap.size := blk_lt hbw
  have hnm : p.entries.length ≤ 9223372036854775807 := by omega
  clear hbw
  conv => arg 2; whnf
  go_wp2
  refine HK.out _ _ ?_
  clear g2
  conv => arg 2; whnf
  go_wp2
  go_loopw [129] (fun i wr => ∃ k : Nat, k ≤ p.entries.length ∧ i = .int .i64 k ∧ Aside0 (PrW wL wr b base (T ++ entsT N p.entries k))) (fun i _ => p.entries.length - (intOf i).toNat)
  case atStart => exact ⟨0, Nat.zero_le _, rfl, ⟨by rw [show entsT N p.entries 0 = [] from rfl, List.append_nil]; exact HW.out⟩⟩
  case round =>
    obtain ⟨k, hk, rfl, HWr⟩ := hrel
    have HTl := Aside0.mk (show (T ++ entsT N p.entries k).length ≤ 100000 by
      rw [List.length_append]
      have := entsT_len (l := p.entries) hN.out (fun x hx => (hfine.out.ent x hx).2.2.2) k hk
      omega)
    by_cases hlt : k < p.entries.length
    · obtain ⟨be, oe, rfl, e0, e1, e2⟩ := ent_at (Kd.C_below HL.out.C2 HWr.out.be) k hlt
      have HS := Aside0.mk (entsT_step N p.entries k hlt)
      obtain ⟨en, hen2⟩ : ∃ en, en = p.entries[k] := ⟨_, rfl⟩
      have hfe := hfine.out.ent p.entries[k] (List.getElem_mem hlt)
      rw [← hen2] at e0 e1 e2 HS hfe
      clear hen2
      obtain ⟨lab, sec, down⟩ := en
      simp only at e0 e1 e2 hfe
      obtain ⟨f1, f2, f3, f4⟩ := hfe
      obtain ⟨m, rfl⟩ := Int.eq_ofNat_of_zero_le f1
      have hmN : m < N.length := by rw [HLn.out]; omega
      obtain ⟨bn2, on2, hA, cx⟩ := str_at (Kd.C_below HL.out.CN HWr.out.be) m hmN
      injection hA with hA
      injection hA with q1 q2
      subst q1 q2
      obtain ⟨x, hx⟩ : ∃ x, x = N[m] := ⟨_, rfl⟩
      have hxs : x.size ≤ 12 := by rw [hx]; exact hN.out _ (List.getElem_mem hmN)
      have HS2 := Aside0.mk (show entsT N p.entries (k + 1) = entsT N p.entries k ++ (entH x sec ++ (if down then [32, 100, 111, 119, 110] else []) ++ [10]) by
        rw [HS.out]
        unfold entT
        simp only [Int.toNat_natCast]
        rw [rd_getElem N _ m hmN, ← hx])
      rw [← hx] at cx
      obtain ⟨T2, hT2⟩ : ∃ T2, T2 = T ++ entsT N p.entries k := ⟨_, rfl⟩
      have HT2 := Aside0.mk hT2
      rw [← hT2] at HWr HTl
      have hbn : bn < b := by
        obtain ⟨bq, oq, hq, cq⟩ := str_at HL.out.CN m hmN
        injection hq with hq
        injection hq with q1 q2
        subst q1 q2
        rw [HWr.out.hb]; exact World.block_lt_of_cell? _ _ cq
      have hgb : wr.heap.size ≠ b := by have := HWr.out.lt; have := HWr.out.sz; omega
      have hgsz : base ≤ wr.heap.size := HWr.out.sz
      have hbb := HWr.out.lt
      have hlbe : be < wr.heap.size := World.block_lt_of_cell? _ _ e0
      have hlb : b < wr.heap.size := by omega
      clear hx HS hT2
      go_upto_region 39 with (fail)
      have hBx : Below wr.heap.size wr (wr.alloc (.cells #[.int .i64 m, .string sec, .bool down] 51)) := (Below.refl _ _).alloc (Nat.le_refl _) _
      refine ent_write wL _ b base pb bn on N.length cn wr.heap.size m T2 x sec down _ _ _ _ _ _ _ _ _ _ _ _ _ _ _ _ _ _ _ _ _ _ _ _ _ _ _ _ _ _ _ _ _ _ _ _ _ _ _ _ _ _ _ _ _ _ _ _ _ _ _ _ _ _ _ _ _ _ _ _ _ _ _ _ _ _ _ _ _ _ _ _ _ _ _ _ _ _ _ _ _ _ _ _ _ _ _ _ _ _ _ _ _ _ _ _ _ _ _ _ _ _ _ _ _ _ _ _ _ _ _ _ _ _ _ _ _ _ _ _ _ _ _ _ _ _ _ _ _ _ _ _ _ _ _ _ _ _ _ _ _ _ _ _ _ _ _ _ ⟨HWr.out.below hBx⟩ HTl.out hxs f4 (by omega) (pw_cell_below hBx cx) ⟨blk_new _ _⟩ hgb hbn ?_
      intro z133 z134 z135 z136 z137 z138 z139 z140 z141 z142 z143 z144 wc hWc hgc
      have HWc := Aside0.mk hWc
      have d2 := blk_cell hgc 2
      have hl4 : Aside0 ((T2 ++ entH x sec).length + 5 ≤ 1000000) := ⟨by
        have h1 := HTl.out
        have h2 := secretL_len sec.data.toList
        rw [← Lib.size_eq] at h2
        rw [Lib.size_eq] at hxs
        unfold entH
        simp only [List.length_append, List.length_cons, List.length_nil]
        omega⟩
      have hl3 : (T2 ++ entH x sec).length ≤ 1000000 := by have := hl4.out; omega
      clear hWc hgc hBx e0 e1 e2 cx
      cases down with
      | false =>
        go_wp2_with fail
        refine (bld_str b base _ ⟨#[10]⟩ _ HWc.out.bl hl3 (by decide) HWc.out.sz).mono ?_
        rintro e w3 ⟨rfl, hB3, hK3, -⟩
        have HW3 := Aside0.mk (HWc.out.step hB3 hK3)
        clear hB3 hK3
        go_wp2
        go_roundw
        case rel =>
          have HF := Aside0.mk (show PrW wL w3 b base (T ++ entsT N p.entries (k + 1)) by
            rw [HS2.out, ← List.append_assoc, ← HT2.out]
            have := HW3.out
            simpa using this)
          first
          | exact ⟨k + 1, by omega, by go_num, HF⟩
          | ((repeat apply Exists.intro); exact ⟨⟨k + 1, by omega, by go_num, HF⟩, rfl⟩)
        case measure => simp [intOf]; omega
      | true =>
        go_wp2_with fail
        refine (bld_str b base _ ⟨#[32, 100, 111, 119, 110]⟩ _ HWc.out.bl hl3 (by decide) HWc.out.sz).mono ?_
        rintro e w3 ⟨rfl, hB3, hK3, -⟩
        have HW3 := Aside0.mk (HWc.out.step hB3 hK3)
        clear hB3 hK3
        go_wp2_with fail
        refine (bld_str b base _ ⟨#[10]⟩ _ HW3.out.bl (by have := hl4.out; rw [List.length_append]; exact this) (by decide) HW3.out.sz).mono ?_
        rintro e w4 ⟨rfl, hB4, hK4, -⟩
        have HW4 := Aside0.mk (HW3.out.step hB4 hK4)
        clear hB4 hK4
        go_wp2
        go_roundw
        case rel =>
          have HF := Aside0.mk (show PrW wL w4 b base (T ++ entsT N p.entries (k + 1)) by
            rw [HS2.out, ← List.append_assoc, ← HT2.out]
            have := HW4.out
            simpa using this)
          first
          | exact ⟨k + 1, by omega, by go_num, HF⟩
          | ((repeat apply Exists.intro); exact ⟨⟨k + 1, by omega, by go_num, HF⟩, rfl⟩)
        case measure => simp [intOf]; omega
    · have hkn : k = p.entries.length := by omega
      subst hkn
      have HF := Aside0.mk HWr.out
      go_wp2
      exact HF.out
end Go.Proofs.YtaeaakcppheaoaaDoor
namespace Go.Proofs.YtaeaakcppheaoaaDoor
open Go.RowKit Go.Proofs.YtaeaakcppheaoaaDoorW.PrintWords Go.Maps

section
attribute [local go_sem high] cat_add
set_option maxRecDepth 1000000 in
set_option maxHeartbeats 4000000 in
theorem quo_write (wL W : World) (b base pb bn on nN cn g k : Nat) (a1 a2 a3 : Nat) (T : List UInt8) (x : ByteArray) (u0 u1 u3 u4 u5 u6 u8 u9 u10 u11 u13 u14 u15 u16 u19 u20 u21 u22 u23 u24 u25 u26 u27 u28 u29 u30 u31 u32 u33 u34 u35 u36 u37 u38 u39 u40 u41 u42 u43 u44 u45 u46 u47 u48 u49 u50 u51 u52 u53 u54 u55 u56 u57 u58 u59 u60 u61 u62 u63 u64 u65 u66 u67 u68 u69 u70 u71 u72 u73 u74 u75 u76 u77 u78 u79 u80 u81 u82 u83 u84 u85 u86 u87 u88 u89 u90 u91 u92 u93 u94 u95 u96 u97 u98 u99 u100 u101 u102 u103 u104 u105 u106 u107 u108 u109 u110 u111 u112 u113 u114 u115 u116 u117 u118 u119 u120 u121 u122 u123 u124 u125 u126 u127 u128 u129 u130 u131 u132 u133 u134 u135 u136 u137 u138 u139 u140 u141 u142 u143 u144 u145 u146 u147 u148 u149 u150 : Value) (Q1 : Exit → Act → World → Prop)
    (HQ0 : Aside0 (PrQ wL b base T ⟨bn, on + k, none⟩ x g 49 #[.int .i64 a1, .int .i64 a2, .int .i64 a3] W)) (hT : T.length ≤ 100000) (hx : x.size ≤ 12) (hm : (k : Int) < nN) (h_a1 : a1 ≤ 9999) (h_a2 : a2 ≤ 9999) (h_a3 : a3 ≤ 9999) (hgb : g ≠ b) (hbn : bn < b)
    (hK : ∀ (z103 z104 z105 z106 z107 z108 z109 z110 z111 z112 z113 z114 z115 z116 z117 z118 z119 z120 z121 z122 z123 z124 : Value) (wc : World), PrW wL wc b base (T ++ quoL x a1 a2 a3) → wc.heap[g]? = some (.cells #[.int .i64 a1, .int .i64 a2, .int .i64 a3] 49 (0, 0)) → Q1 .normal ⟨List.toArray (u0 :: u1 :: (.pointer (some ⟨pb, 0, none⟩)) :: u3 :: u4 :: u5 :: u6 :: (.slice (some ⟨bn, on, none⟩) nN cn) :: u8 :: u9 :: u10 :: u11 :: (.pointer (some ⟨b, 0, none⟩)) :: u13 :: u14 :: u15 :: u16 :: (.int .i64 k) :: (.pointer (some ⟨g, 0, none⟩)) :: u19 :: u20 :: u21 :: u22 :: u23 :: u24 :: u25 :: u26 :: u27 :: u28 :: u29 :: u30 :: u31 :: u32 :: u33 :: u34 :: u35 :: u36 :: u37 :: u38 :: u39 :: u40 :: u41 :: u42 :: u43 :: u44 :: u45 :: u46 :: u47 :: u48 :: u49 :: u50 :: u51 :: u52 :: u53 :: u54 :: u55 :: u56 :: u57 :: u58 :: u59 :: u60 :: u61 :: u62 :: u63 :: u64 :: u65 :: u66 :: u67 :: u68 :: u69 :: u70 :: u71 :: u72 :: u73 :: u74 :: u75 :: u76 :: u77 :: u78 :: u79 :: u80 :: u81 :: u82 :: u83 :: u84 :: u85 :: u86 :: u87 :: u88 :: u89 :: u90 :: u91 :: u92 :: u93 :: u94 :: u95 :: u96 :: u97 :: u98 :: u99 :: u100 :: u101 :: u102 :: z103 :: z104 :: z105 :: z106 :: z107 :: z108 :: z109 :: z110 :: z111 :: z112 :: z113 :: z114 :: z115 :: z116 :: z117 :: z118 :: z119 :: z120 :: z121 :: z122 :: z123 :: z124 :: u125 :: u126 :: u127 :: u128 :: u129 :: u130 :: u131 :: u132 :: u133 :: u134 :: u135 :: u136 :: u137 :: u138 :: u139 :: u140 :: u141 :: u142 :: u143 :: u144 :: u145 :: u146 :: u147 :: u148 :: u149 :: u150 :: []), []⟩ wc) :
    Code.wp Tryd.prog (regP 34) Q1 ⟨List.toArray (u0 :: u1 :: (.pointer (some ⟨pb, 0, none⟩)) :: u3 :: u4 :: u5 :: u6 :: (.slice (some ⟨bn, on, none⟩) nN cn) :: u8 :: u9 :: u10 :: u11 :: (.pointer (some ⟨b, 0, none⟩)) :: u13 :: u14 :: u15 :: u16 :: (.int .i64 k) :: (.pointer (some ⟨g, 0, none⟩)) :: u19 :: u20 :: u21 :: u22 :: u23 :: u24 :: u25 :: u26 :: u27 :: u28 :: u29 :: u30 :: u31 :: u32 :: u33 :: u34 :: u35 :: u36 :: u37 :: u38 :: u39 :: u40 :: u41 :: u42 :: u43 :: u44 :: u45 :: u46 :: u47 :: u48 :: u49 :: u50 :: u51 :: u52 :: u53 :: u54 :: u55 :: u56 :: u57 :: u58 :: u59 :: u60 :: u61 :: u62 :: u63 :: u64 :: u65 :: u66 :: u67 :: u68 :: u69 :: u70 :: u71 :: u72 :: u73 :: u74 :: u75 :: u76 :: u77 :: u78 :: u79 :: u80 :: u81 :: u82 :: u83 :: u84 :: u85 :: u86 :: u87 :: u88 :: u89 :: u90 :: u91 :: u92 :: u93 :: u94 :: u95 :: u96 :: u97 :: u98 :: u99 :: u100 :: u101 :: u102 :: u103 :: u104 :: u105 :: u106 :: u107 :: u108 :: u109 :: u110 :: u111 :: u112 :: u113 :: u114 :: u115 :: u116 :: u117 :: u118 :: u119 :: u120 :: u121 :: u122 :: u123 :: u124 :: u125 :: u126 :: u127 :: u128 :: u129 :: u130 :: u131 :: u132 :: u133 :: u134 :: u135 :: u136 :: u137 :: u138 :: u139 :: u140 :: u141 :: u142 :: u143 :: u144 :: u145 :: u146 :: u147 :: u148 :: u149 :: u150 :: []), []⟩ W := by
  obtain ⟨t1, ht1⟩ : ∃ t, decS a1 = t := ⟨_, rfl⟩
  have zt1 : t1.size ≤ 21 := by rw [← ht1]; exact decS_size a1 h_a1
  have dt1 : t1.data.toList = Lib.decDigits a1 := by rw [← ht1]; unfold decS; rw [ofL_data]
  have E_a1 := Aside0.mk ht1
  obtain ⟨t2, ht2⟩ : ∃ t, decS a2 = t := ⟨_, rfl⟩
  have zt2 : t2.size ≤ 21 := by rw [← ht2]; exact decS_size a2 h_a2
  have dt2 : t2.data.toList = Lib.decDigits a2 := by rw [← ht2]; unfold decS; rw [ofL_data]
  have E_a2 := Aside0.mk ht2
  obtain ⟨t3, ht3⟩ : ∃ t, decS a3 = t := ⟨_, rfl⟩
  have zt3 : t3.size ≤ 21 := by rw [← ht3]; exact decS_size a3 h_a3
  have dt3 : t3.data.toList = Lib.decDigits a3 := by rw [← ht3]; unfold decS; rw [ofL_data]
  have E_a3 := Aside0.mk ht3
  have s0 : Short ⟨#[113, 117, 111, 116, 97, 32]⟩ := by unfold Short; decide
  have s1 : Short x := by unfold Short; omega
  have s2 : Short (cat ⟨#[113, 117, 111, 116, 97, 32]⟩ x) := by unfold Short; rw [cat_size]; show 6 + x.size ≤ 40000; omega
  have s3 : Short ⟨#[32, 99, 104, 97, 114, 115, 32]⟩ := by unfold Short; decide
  have s4 : Short (cat (cat ⟨#[113, 117, 111, 116, 97, 32]⟩ x) ⟨#[32, 99, 104, 97, 114, 115, 32]⟩) := by unfold Short; rw [cat_size, cat_size]; show 6 + x.size + 7 ≤ 40000; omega
  have s5 : Short t1 := by unfold Short; omega
  have s6 : Short (cat (cat (cat ⟨#[113, 117, 111, 116, 97, 32]⟩ x) ⟨#[32, 99, 104, 97, 114, 115, 32]⟩) t1) := by unfold Short; rw [cat_size, cat_size, cat_size]; show 6 + x.size + 7 + t1.size ≤ 40000; omega
  have s7 : Short ⟨#[32, 111, 112, 115, 32]⟩ := by unfold Short; decide
  have s8 : Short (cat (cat (cat (cat ⟨#[113, 117, 111, 116, 97, 32]⟩ x) ⟨#[32, 99, 104, 97, 114, 115, 32]⟩) t1) ⟨#[32, 111, 112, 115, 32]⟩) := by unfold Short; rw [cat_size, cat_size, cat_size, cat_size]; show 6 + x.size + 7 + t1.size + 5 ≤ 40000; omega
  have s9 : Short t2 := by unfold Short; omega
  have s10 : Short (cat (cat (cat (cat (cat ⟨#[113, 117, 111, 116, 97, 32]⟩ x) ⟨#[32, 99, 104, 97, 114, 115, 32]⟩) t1) ⟨#[32, 111, 112, 115, 32]⟩) t2) := by unfold Short; rw [cat_size, cat_size, cat_size, cat_size, cat_size]; show 6 + x.size + 7 + t1.size + 5 + t2.size ≤ 40000; omega
  have s11 : Short ⟨#[32, 115, 101, 97, 116, 115, 32]⟩ := by unfold Short; decide
  have s12 : Short (cat (cat (cat (cat (cat (cat ⟨#[113, 117, 111, 116, 97, 32]⟩ x) ⟨#[32, 99, 104, 97, 114, 115, 32]⟩) t1) ⟨#[32, 111, 112, 115, 32]⟩) t2) ⟨#[32, 115, 101, 97, 116, 115, 32]⟩) := by unfold Short; rw [cat_size, cat_size, cat_size, cat_size, cat_size, cat_size]; show 6 + x.size + 7 + t1.size + 5 + t2.size + 7 ≤ 40000; omega
  have s13 : Short t3 := by unfold Short; omega
  have s14 : Short (cat (cat (cat (cat (cat (cat (cat ⟨#[113, 117, 111, 116, 97, 32]⟩ x) ⟨#[32, 99, 104, 97, 114, 115, 32]⟩) t1) ⟨#[32, 111, 112, 115, 32]⟩) t2) ⟨#[32, 115, 101, 97, 116, 115, 32]⟩) t3) := by unfold Short; rw [cat_size, cat_size, cat_size, cat_size, cat_size, cat_size, cat_size]; show 6 + x.size + 7 + t1.size + 5 + t2.size + 7 + t3.size ≤ 40000; omega
  have s15 : Short ⟨#[10]⟩ := by unfold Short; decide
  have HZ := Aside0.mk (show (cat (cat (cat (cat (cat (cat (cat (cat ⟨#[113, 117, 111, 116, 97, 32]⟩ x) ⟨#[32, 99, 104, 97, 114, 115, 32]⟩) t1) ⟨#[32, 111, 112, 115, 32]⟩) t2) ⟨#[32, 115, 101, 97, 116, 115, 32]⟩) t3) ⟨#[10]⟩).size ≤ 1000000 by rw [cat_size, cat_size, cat_size, cat_size, cat_size, cat_size, cat_size, cat_size]; show 6 + x.size + 7 + t1.size + 5 + t2.size + 7 + t3.size + 1 ≤ 1000000; omega)
  have HD := Aside0.mk (show (cat (cat (cat (cat (cat (cat (cat (cat ⟨#[113, 117, 111, 116, 97, 32]⟩ x) ⟨#[32, 99, 104, 97, 114, 115, 32]⟩) t1) ⟨#[32, 111, 112, 115, 32]⟩) t2) ⟨#[32, 115, 101, 97, 116, 115, 32]⟩) t3) ⟨#[10]⟩).data.toList = quoL x a1 a2 a3 by
    rw [cat_data, cat_data, cat_data, cat_data, cat_data, cat_data, cat_data, cat_data, dt1, dt2, dt3]; rfl)
  have hT2 : T.length ≤ 1000000 := by omega
  have hm0 : (0 : Int) ≤ k := by omega
  have cx := HQ0.out.x
  have b0 := blk_cell HQ0.out.box 0
  have b1 := blk_cell HQ0.out.box 1
  have b2 := blk_cell HQ0.out.box 2
  clear ht1 dt1 ht2 dt2 ht3 dt3
  conv => arg 2; whnf
  go_region_held3 (fun w' => w'.cell? ⟨bn, on + k, none⟩ = some (.string x) ∧ w'.cell? ⟨g, 0, none⟩ = some (.int .i64 a1) ∧ w'.cell? ⟨g, 1, none⟩ = some (.int .i64 a2) ∧ w'.cell? ⟨g, 2, none⟩ = some (.int .i64 a3)) (first | exact ⟨C3, blk_cell HG3.out 0, blk_cell HG3.out 1, blk_cell HG3.out 2⟩ | exact ⟨P1.x, blk_cell P1.box 0, blk_cell P1.box 1, blk_cell P1.box 2⟩ | exact ⟨HQ0.out.drew.x, blk_cell HQ0.out.drew.box 0, blk_cell HQ0.out.drew.box 1, blk_cell HQ0.out.drew.box 2⟩ | (simp [go_sem, *]; done)) (first | ((with_reducible refine (itoa_is a1 _ h_a1 P1.t t1 E_a1.out).mono ?_); rintro e w2 ⟨rfl, hbs⟩; have P1 := PrQ.below P1 hbs) | ((with_reducible refine (itoa_is a2 _ h_a2 P1.t t2 E_a2.out).mono ?_); rintro e w2 ⟨rfl, hbs⟩; have P1 := PrQ.below P1 hbs) | ((with_reducible refine (itoa_is a3 _ h_a3 P1.t t3 E_a3.out).mono ?_); rintro e w2 ⟨rfl, hbs⟩; have P1 := PrQ.below P1 hbs) | ((with_reducible refine (itoa_is a1 _ h_a1 HQ0.out.drew.t t1 E_a1.out).mono ?_); rintro e w2 ⟨rfl, hbs⟩; have P1 := PrQ.below HQ0.out.drew hbs) | ((with_reducible refine (itoa_is a2 _ h_a2 HQ0.out.drew.t t2 E_a2.out).mono ?_); rintro e w2 ⟨rfl, hbs⟩; have P1 := PrQ.below HQ0.out.drew hbs) | ((with_reducible refine (itoa_is a3 _ h_a3 HQ0.out.drew.t t3 E_a3.out).mono ?_); rintro e w2 ⟨rfl, hbs⟩; have P1 := PrQ.below HQ0.out.drew hbs) | ((with_reducible refine (bld_str b base T _ _ P1.w.bl hT2 HZ.out P1.w.sz).mono ?_); rintro e w3 ⟨rfl, hB3, hK3, hO3⟩; have HG3 := Aside0.mk (hO3 g _ _ P1.box (by decide) hgb); have C3 := (World.cell?_of_block (hK3.block bn (Nat.lt_trans hbn P1.w.lt) (by omega) (by omega))).trans P1.x; have HW3 := Aside0.mk (P1.w.step hB3 hK3); clear hB3 hK3 hO3))
  all_goals
    go_wp2
    refine hK _ _ _ _ _ _ _ _ _ _ _ _ _ _ _ _ _ _ _ _ _ _ _ ?_ HG3.out
    rw [← HD.out]
    exact HW3.out
end
end Go.Proofs.YtaeaakcppheaoaaDoor
namespace Go.Proofs.YtaeaakcppheaoaaDoor
open Go.RowKit Go.Proofs.YtaeaakcppheaoaaDoorW.PrintWords Go.Maps

section
attribute [local go_sem high] cat_add
set_option maxRecDepth 1000000 in
set_option maxHeartbeats 4000000 in
theorem lab_write (wL W : World) (b base pb bn on nN cn g k : Nat) (a1 : Nat) (T : List UInt8) (x : ByteArray) (com : Int) (u0 u1 u3 u4 u5 u6 u8 u9 u10 u11 u15 u16 u17 u18 u19 u20 u21 u22 u23 u24 u25 u26 u27 u28 u29 u30 u31 u32 u33 u34 u35 u36 u37 u38 u39 u40 u41 u42 u43 u44 u45 u46 u47 u48 u49 u50 u51 u52 u53 u54 u55 u56 u57 u58 u59 u60 u61 u62 u63 u64 u65 u66 u67 u68 u69 u70 u71 u72 u73 u74 u75 u76 u77 u78 u79 u80 u81 u82 u83 u84 u85 u86 u87 u88 u89 u90 u91 u92 u93 u94 u95 u96 u97 u98 u99 u100 u101 u102 u103 u104 u105 u106 u107 u108 u109 u110 u111 u112 u113 u114 u115 u116 u117 u118 u119 u120 u121 u122 u123 u124 u125 u126 u127 u128 u129 u130 u131 u132 u133 u134 u135 u136 u137 u138 u139 u140 u141 u142 u143 u144 u145 u146 u147 u148 u149 u150 : Value) (Q1 : Exit → Act → World → Prop)
    (HQ0 : Aside0 (PrQ wL b base T ⟨bn, on + k, none⟩ x g 66 #[.int .i64 a1, .int .u32 com] W)) (hT : T.length ≤ 100000) (hx : x.size ≤ 12) (hm : (k : Int) < nN) (h_a1 : a1 ≤ 9999) (hgb : g ≠ b) (hbn : bn < b)
    (hK : ∀ (z67 z68 z69 z70 z71 z72 z73 z74 z75 z76 z77 : Value) (wc : World), PrW wL wc b base (T ++ labH x a1) → wc.heap[g]? = some (.cells #[.int .i64 a1, .int .u32 com] 66 (0, 0)) → Q1 .normal ⟨List.toArray (u0 :: u1 :: (.pointer (some ⟨pb, 0, none⟩)) :: u3 :: u4 :: u5 :: u6 :: (.slice (some ⟨bn, on, none⟩) nN cn) :: u8 :: u9 :: u10 :: u11 :: (.pointer (some ⟨b, 0, none⟩)) :: (.int .i64 k) :: (.pointer (some ⟨g, 0, none⟩)) :: u15 :: u16 :: u17 :: u18 :: u19 :: u20 :: u21 :: u22 :: u23 :: u24 :: u25 :: u26 :: u27 :: u28 :: u29 :: u30 :: u31 :: u32 :: u33 :: u34 :: u35 :: u36 :: u37 :: u38 :: u39 :: u40 :: u41 :: u42 :: u43 :: u44 :: u45 :: u46 :: u47 :: u48 :: u49 :: u50 :: u51 :: u52 :: u53 :: u54 :: u55 :: u56 :: u57 :: u58 :: u59 :: u60 :: u61 :: u62 :: u63 :: u64 :: u65 :: u66 :: z67 :: z68 :: z69 :: z70 :: z71 :: z72 :: z73 :: z74 :: z75 :: z76 :: z77 :: u78 :: u79 :: u80 :: u81 :: u82 :: u83 :: u84 :: u85 :: u86 :: u87 :: u88 :: u89 :: u90 :: u91 :: u92 :: u93 :: u94 :: u95 :: u96 :: u97 :: u98 :: u99 :: u100 :: u101 :: u102 :: u103 :: u104 :: u105 :: u106 :: u107 :: u108 :: u109 :: u110 :: u111 :: u112 :: u113 :: u114 :: u115 :: u116 :: u117 :: u118 :: u119 :: u120 :: u121 :: u122 :: u123 :: u124 :: u125 :: u126 :: u127 :: u128 :: u129 :: u130 :: u131 :: u132 :: u133 :: u134 :: u135 :: u136 :: u137 :: u138 :: u139 :: u140 :: u141 :: u142 :: u143 :: u144 :: u145 :: u146 :: u147 :: u148 :: u149 :: u150 :: []), []⟩ wc) :
    Code.wp Tryd.prog (regP 20) Q1 ⟨List.toArray (u0 :: u1 :: (.pointer (some ⟨pb, 0, none⟩)) :: u3 :: u4 :: u5 :: u6 :: (.slice (some ⟨bn, on, none⟩) nN cn) :: u8 :: u9 :: u10 :: u11 :: (.pointer (some ⟨b, 0, none⟩)) :: (.int .i64 k) :: (.pointer (some ⟨g, 0, none⟩)) :: u15 :: u16 :: u17 :: u18 :: u19 :: u20 :: u21 :: u22 :: u23 :: u24 :: u25 :: u26 :: u27 :: u28 :: u29 :: u30 :: u31 :: u32 :: u33 :: u34 :: u35 :: u36 :: u37 :: u38 :: u39 :: u40 :: u41 :: u42 :: u43 :: u44 :: u45 :: u46 :: u47 :: u48 :: u49 :: u50 :: u51 :: u52 :: u53 :: u54 :: u55 :: u56 :: u57 :: u58 :: u59 :: u60 :: u61 :: u62 :: u63 :: u64 :: u65 :: u66 :: u67 :: u68 :: u69 :: u70 :: u71 :: u72 :: u73 :: u74 :: u75 :: u76 :: u77 :: u78 :: u79 :: u80 :: u81 :: u82 :: u83 :: u84 :: u85 :: u86 :: u87 :: u88 :: u89 :: u90 :: u91 :: u92 :: u93 :: u94 :: u95 :: u96 :: u97 :: u98 :: u99 :: u100 :: u101 :: u102 :: u103 :: u104 :: u105 :: u106 :: u107 :: u108 :: u109 :: u110 :: u111 :: u112 :: u113 :: u114 :: u115 :: u116 :: u117 :: u118 :: u119 :: u120 :: u121 :: u122 :: u123 :: u124 :: u125 :: u126 :: u127 :: u128 :: u129 :: u130 :: u131 :: u132 :: u133 :: u134 :: u135 :: u136 :: u137 :: u138 :: u139 :: u140 :: u141 :: u142 :: u143 :: u144 :: u145 :: u146 :: u147 :: u148 :: u149 :: u150 :: []), []⟩ W := by
  obtain ⟨t1, ht1⟩ : ∃ t, decS a1 = t := ⟨_, rfl⟩
  have zt1 : t1.size ≤ 21 := by rw [← ht1]; exact decS_size a1 h_a1
  have dt1 : t1.data.toList = Lib.decDigits a1 := by rw [← ht1]; unfold decS; rw [ofL_data]
  have E_a1 := Aside0.mk ht1
  have s0 : Short ⟨#[108, 97, 98, 101, 108, 32]⟩ := by unfold Short; decide
  have s1 : Short x := by unfold Short; omega
  have s2 : Short (cat ⟨#[108, 97, 98, 101, 108, 32]⟩ x) := by unfold Short; rw [cat_size]; show 6 + x.size ≤ 40000; omega
  have s3 : Short ⟨#[32, 108, 101, 118, 101, 108, 32]⟩ := by unfold Short; decide
  have s4 : Short (cat (cat ⟨#[108, 97, 98, 101, 108, 32]⟩ x) ⟨#[32, 108, 101, 118, 101, 108, 32]⟩) := by unfold Short; rw [cat_size, cat_size]; show 6 + x.size + 7 ≤ 40000; omega
  have s5 : Short t1 := by unfold Short; omega
  have HZ := Aside0.mk (show (cat (cat (cat ⟨#[108, 97, 98, 101, 108, 32]⟩ x) ⟨#[32, 108, 101, 118, 101, 108, 32]⟩) t1).size ≤ 1000000 by rw [cat_size, cat_size, cat_size]; show 6 + x.size + 7 + t1.size ≤ 1000000; omega)
  have HD := Aside0.mk (show (cat (cat (cat ⟨#[108, 97, 98, 101, 108, 32]⟩ x) ⟨#[32, 108, 101, 118, 101, 108, 32]⟩) t1).data.toList = labH x a1 by
    rw [cat_data, cat_data, cat_data, dt1]; rfl)
  have hT2 : T.length ≤ 1000000 := by omega
  have hm0 : (0 : Int) ≤ k := by omega
  have cx := HQ0.out.x
  have b0 := blk_cell HQ0.out.box 0
  have b1 := blk_cell HQ0.out.box 1
  clear ht1 dt1
  conv => arg 2; whnf
  go_region_held3 (fun w' => w'.cell? ⟨bn, on + k, none⟩ = some (.string x) ∧ w'.cell? ⟨g, 0, none⟩ = some (.int .i64 a1)) (first | exact ⟨C3, blk_cell HG3.out 0⟩ | exact ⟨P1.x, blk_cell P1.box 0⟩ | exact ⟨HQ0.out.drew.x, blk_cell HQ0.out.drew.box 0⟩ | (simp [go_sem, *]; done)) (first | ((with_reducible refine (itoa_is a1 _ h_a1 P1.t t1 E_a1.out).mono ?_); rintro e w2 ⟨rfl, hbs⟩; have P1 := PrQ.below P1 hbs) | ((with_reducible refine (itoa_is a1 _ h_a1 HQ0.out.drew.t t1 E_a1.out).mono ?_); rintro e w2 ⟨rfl, hbs⟩; have P1 := PrQ.below HQ0.out.drew hbs) | ((with_reducible refine (bld_str b base T _ _ P1.w.bl hT2 HZ.out P1.w.sz).mono ?_); rintro e w3 ⟨rfl, hB3, hK3, hO3⟩; have HG3 := Aside0.mk (hO3 g _ _ P1.box (by decide) hgb); have C3 := (World.cell?_of_block (hK3.block bn (Nat.lt_trans hbn P1.w.lt) (by omega) (by omega))).trans P1.x; have HW3 := Aside0.mk (P1.w.step hB3 hK3); clear hB3 hK3 hO3))
  all_goals
    go_wp2
    refine hK _ _ _ _ _ _ _ _ _ _ _ _ ?_ HG3.out
    rw [← HD.out]
    exact HW3.out
end
end Go.Proofs.YtaeaakcppheaoaaDoor
namespace Go.Proofs.YtaeaakcppheaoaaDoor
open Go.RowKit Go.Proofs.YtaeaakcppheaoaaDoorW.PrintWords Go.Maps

theorem quosT_step (N : List ByteArray) (l : List Quo) (k : Nat) (h : k < l.length) : quosT N l (k + 1) = quosT N l k ++ quoT N k l[k] := by
  show quosT N l k ++ quoT N k (l.getD k ⟨0, 0, 0⟩) = _
  rw [rd_getElem l _ k h]
set_option maxRecDepth 1000000 in
set_option maxHeartbeats 4000000 in
theorem quos_part (p : Pol) (N : List ByteArray) (wL W : World) (A0 A1 A2 : Option Addr) (c0 c1 c2 cn b base pb bn on : Nat) (T : List UInt8) (u0 u1 u3 u4 u5 u6 u8 u9 u10 u11 u13 u14 u15 u16 u17 u18 u19 u20 u21 u22 u23 u24 u25 u26 u27 u28 u29 u30 u31 u32 u33 u34 u35 u36 u37 u38 u39 u40 u41 u42 u43 u44 u45 u46 u47 u48 u49 u50 u51 u52 u53 u54 u55 u56 u57 u58 u59 u60 u61 u62 u63 u64 u65 u66 u67 u68 u69 u70 u71 u72 u73 u74 u75 u76 u77 u78 u79 u80 u81 u82 u83 u84 u85 u86 u87 u88 u89 u90 u91 u92 u93 u94 u95 u96 u97 u98 u99 u100 u101 u102 u103 u104 u105 u106 u107 u108 u109 u110 u111 u112 u113 u114 u115 u116 u117 u118 u119 u120 u121 u122 u123 u124 u125 u126 u127 u128 u129 u130 u131 u132 u133 u134 u135 u136 u137 u138 u139 u140 u141 u142 u143 u144 u145 u146 u147 u148 u149 u150 : Value) (K : Act → World → Prop) (Q1 : Exit → Act → World → Prop)
    (HL : Aside0 (PrL p N wL pb A0 A1 A2 (some ⟨bn, on, none⟩) c0 c1 c2 cn)) (HW : Aside0 (PrW wL W b base T)) (hT : T.length ≤ 35000)
    (hQ : ∀ (z17 z18 z95 z96 z97 z98 z99 z100 z101 z102 z103 z104 z105 z106 z107 z108 z109 z110 z111 z112 z113 z114 z115 z116 z117 z118 z119 z120 z121 z122 z123 z124 z125 : Value) (w' : World), PrW wL w' b base (T ++ quosT N p.quotas p.quotas.length) → Q1 .normal ⟨List.toArray (u0 :: u1 :: (.pointer (some ⟨pb, 0, none⟩)) :: u3 :: u4 :: u5 :: u6 :: (.slice (some ⟨bn, on, none⟩) N.length cn) :: u8 :: u9 :: u10 :: u11 :: (.pointer (some ⟨b, 0, none⟩)) :: u13 :: u14 :: u15 :: u16 :: z17 :: z18 :: u19 :: u20 :: u21 :: u22 :: u23 :: u24 :: u25 :: u26 :: u27 :: u28 :: u29 :: u30 :: u31 :: u32 :: u33 :: u34 :: u35 :: u36 :: u37 :: u38 :: u39 :: u40 :: u41 :: u42 :: u43 :: u44 :: u45 :: u46 :: u47 :: u48 :: u49 :: u50 :: u51 :: u52 :: u53 :: u54 :: u55 :: u56 :: u57 :: u58 :: u59 :: u60 :: u61 :: u62 :: u63 :: u64 :: u65 :: u66 :: u67 :: u68 :: u69 :: u70 :: u71 :: u72 :: u73 :: u74 :: u75 :: u76 :: u77 :: u78 :: u79 :: u80 :: u81 :: u82 :: u83 :: u84 :: u85 :: u86 :: u87 :: u88 :: u89 :: u90 :: u91 :: u92 :: u93 :: u94 :: z95 :: z96 :: z97 :: z98 :: z99 :: z100 :: z101 :: z102 :: z103 :: z104 :: z105 :: z106 :: z107 :: z108 :: z109 :: z110 :: z111 :: z112 :: z113 :: z114 :: z115 :: z116 :: z117 :: z118 :: z119 :: z120 :: z121 :: z122 :: z123 :: z124 :: z125 :: u126 :: u127 :: u128 :: u129 :: u130 :: u131 :: u132 :: u133 :: u134 :: u135 :: u136 :: u137 :: u138 :: u139 :: u140 :: u141 :: u142 :: u143 :: u144 :: u145 :: u146 :: u147 :: u148 :: u149 :: u150 :: []), []⟩ w')
    (hK : ∀ a w, Code.wp Tryd.prog (restC (codeP 31)) Q1 a w → K a w) :
    Code.wp Tryd.prog (regP 31) (Exit.then K Q1) ⟨List.toArray (u0 :: u1 :: (.pointer (some ⟨pb, 0, none⟩)) :: u3 :: u4 :: u5 :: u6 :: (.slice (some ⟨bn, on, none⟩) N.length cn) :: u8 :: u9 :: u10 :: u11 :: (.pointer (some ⟨b, 0, none⟩)) :: u13 :: u14 :: u15 :: u16 :: u17 :: u18 :: u19 :: u20 :: u21 :: u22 :: u23 :: u24 :: u25 :: u26 :: u27 :: u28 :: u29 :: u30 :: u31 :: u32 :: u33 :: u34 :: u35 :: u36 :: u37 :: u38 :: u39 :: u40 :: u41 :: u42 :: u43 :: u44 :: u45 :: u46 :: u47 :: u48 :: u49 :: u50 :: u51 :: u52 :: u53 :: u54 :: u55 :: u56 :: u57 :: u58 :: u59 :: u60 :: u61 :: u62 :: u63 :: u64 :: u65 :: u66 :: u67 :: u68 :: u69 :: u70 :: u71 :: u72 :: u73 :: u74 :: u75 :: u76 :: u77 :: u78 :: u79 :: u80 :: u81 :: u82 :: u83 :: u84 :: u85 :: u86 :: u87 :: u88 :: u89 :: u90 :: u91 :: u92 :: u93 :: u94 :: u95 :: u96 :: u97 :: u98 :: u99 :: u100 :: u101 :: u102 :: u103 :: u104 :: u105 :: u106 :: u107 :: u108 :: u109 :: u110 :: u111 :: u112 :: u113 :: u114 :: u115 :: u116 :: u117 :: u118 :: u119 :: u120 :: u121 :: u122 :: u123 :: u124 :: u125 :: u126 :: u127 :: u128 :: u129 :: u130 :: u131 :: u132 :: u133 :: u134 :: u135 :: u136 :: u137 :: u138 :: u139 :: u140 :: u141 :: u142 :: u143 :: u144 :: u145 :: u146 :: u147 :: u148 :: u149 :: u150 :: []), []⟩ W := by
  have HK := Aside0.mk hK
  clear hK
  have hbw := blk_below HL.out.box HW.out.be
  have g1 := blk_cell hbw 1
  have hqn : p.quotas.length ≤ 32 := by rw [HL.out.fine.q]; exact HL.out.fine.n
  have hfine := Aside0.mk HL.out.fine
  have hN := Aside0.mk HL.out.words
  have HLn := Aside0.mk (show N.length = p.quotas.length by rw [HL.out.len, HL.out.fine.q])
  have hpbw : pb < W.heap.size := blk_lt hbw
  have hnm : p.quotas.length ≤ 9223372036854775807 := by omega
  clear hbw
  conv => arg 2; whnf
  go_wp2
  refine HK.out _ _ ?_
  clear g1
  conv => arg 2; whnf
  go_wp2
  go_loopw [98] (fun i wr => ∃ k : Nat, k ≤ p.quotas.length ∧ i = .int .i64 k ∧ Aside0 (PrW wL wr b base (T ++ quosT N p.quotas k))) (fun i _ => p.quotas.length - (intOf i).toNat)
  case atStart => exact ⟨0, Nat.zero_le _, rfl, ⟨by rw [show quosT N p.quotas 0 = [] from rfl, List.append_nil]; exact HW.out⟩⟩
  case round =>
    obtain ⟨k, hk, rfl, HWr⟩ := hrel
    have HTl := Aside0.mk (show (T ++ quosT N p.quotas k).length ≤ 100000 by
      rw [List.length_append]
      have := quosT_len (l := p.quotas) hN.out hfine.out.quo k hk
      omega)
    by_cases hlt : k < p.quotas.length
    · obtain ⟨be, oe, rfl, e0, e1, e2⟩ := quo_at (Kd.C_below HL.out.C1 HWr.out.be) k hlt
      have HS := Aside0.mk (quosT_step N p.quotas k hlt)
      obtain ⟨qn, hqn2⟩ : ∃ qn, qn = p.quotas[k] := ⟨_, rfl⟩
      have hfe := quotaB_yes _ (hfine.out.quo p.quotas[k] (List.getElem_mem hlt))
      rw [← hqn2] at e0 e1 e2 HS hfe
      clear hqn2
      obtain ⟨ch, op, se⟩ := qn
      simp only at e0 e1 e2 hfe
      obtain ⟨f1, f2, f3, f4, f5, f6⟩ := hfe
      obtain ⟨a1, rfl⟩ := Int.eq_ofNat_of_zero_le f1
      obtain ⟨a2, rfl⟩ := Int.eq_ofNat_of_zero_le f3
      obtain ⟨a3, rfl⟩ := Int.eq_ofNat_of_zero_le f5
      have hmN : k < N.length := by rw [HLn.out]; exact hlt
      obtain ⟨bn2, on2, hA, cx⟩ := str_at (Kd.C_below HL.out.CN HWr.out.be) k hmN
      injection hA with hA
      injection hA with q1 q2
      subst q1 q2
      obtain ⟨x, hx⟩ : ∃ x, x = N[k] := ⟨_, rfl⟩
      have hxs : x.size ≤ 12 := by rw [hx]; exact hN.out _ (List.getElem_mem hmN)
      have HS2 := Aside0.mk (show quosT N p.quotas (k + 1) = quosT N p.quotas k ++ quoL x a1 a2 a3 by
        rw [HS.out]
        unfold quoT
        simp only [Int.toNat_natCast]
        rw [rd_getElem N _ k hmN, ← hx]
        rfl)
      rw [← hx] at cx
      obtain ⟨T2, hT2⟩ : ∃ T2, T2 = T ++ quosT N p.quotas k := ⟨_, rfl⟩
      have HT2 := Aside0.mk hT2
      rw [← hT2] at HWr HTl
      have hbn : bn < b := by
        obtain ⟨bq, oq, hq, cq⟩ := str_at HL.out.CN k hmN
        injection hq with hq
        injection hq with q1 q2
        subst q1 q2
        rw [HWr.out.hb]; exact World.block_lt_of_cell? _ _ cq
      have hgb : wr.heap.size ≠ b := by have := HWr.out.lt; have := HWr.out.sz; omega
      have hgsz : base ≤ wr.heap.size := HWr.out.sz
      have hbb := HWr.out.lt
      have hlbe : be < wr.heap.size := World.block_lt_of_cell? _ _ e0
      have hlb : b < wr.heap.size := by omega
      have HTab := Aside0.mk (tab_below HL.out.tab HWr.out.be)
      clear hx HS hT2
      go_upto_region 34 with (fail)
      have hBx : Below wr.heap.size wr (wr.alloc (.cells #[.int .i64 a1, .int .i64 a2, .int .i64 a3] 49)) := (Below.refl _ _).alloc (Nat.le_refl _) _
      refine quo_write wL _ b base pb bn on N.length cn wr.heap.size k a1 a2 a3 T2 x _ _ _ _ _ _ _ _ _ _ _ _ _ _ _ _ _ _ _ _ _ _ _ _ _ _ _ _ _ _ _ _ _ _ _ _ _ _ _ _ _ _ _ _ _ _ _ _ _ _ _ _ _ _ _ _ _ _ _ _ _ _ _ _ _ _ _ _ _ _ _ _ _ _ _ _ _ _ _ _ _ _ _ _ _ _ _ _ _ _ _ _ _ _ _ _ _ _ _ _ _ _ _ _ _ _ _ _ _ _ _ _ _ _ _ _ _ _ _ _ _ _ _ _ _ _ _ _ _ _ _ _ _ _ _ _ _ _ _ _ _ _ _ _ _ _ _ ⟨⟨HWr.out.below hBx, tab_below HTab.out hBx, pw_cell_below hBx cx, blk_new _ _⟩⟩ HTl.out hxs (by omega) (by omega) (by omega) (by omega) hgb hbn ?_
      intro z103 z104 z105 z106 z107 z108 z109 z110 z111 z112 z113 z114 z115 z116 z117 z118 z119 z120 z121 z122 z123 z124 wc hWc hgc
      have HWc := Aside0.mk hWc
      clear hWc hgc hBx e0 e1 e2 cx
      go_wp2
      go_roundw
      case rel =>
        have HF := Aside0.mk (show PrW wL wc b base (T ++ quosT N p.quotas (k + 1)) by
          rw [HS2.out, ← List.append_assoc, ← HT2.out]
          exact HWc.out)
        first
        | exact ⟨k + 1, by omega, by go_num, HF⟩
        | ((repeat apply Exists.intro); exact ⟨⟨k + 1, by omega, by go_num, HF⟩, rfl⟩)
      case measure => simp [intOf]; omega
    · have hkn : k = p.quotas.length := by omega
      subst hkn
      have HF := Aside0.mk HWr.out
      go_wp2
      exact HF.out
end Go.Proofs.YtaeaakcppheaoaaDoor
namespace Go.Proofs.YtaeaakcppheaoaaDoor
open Go.RowKit Go.Proofs.YtaeaakcppheaoaaDoorW.PrintWords Go.Maps

theorem bit_is (cm j : Nat) (h : cm ≤ 4294967295) : bits BinOp.and IntKind.u32 ((cm : Int) / 2 ^ j) 1 = ((cm / 2 ^ j % 2 : Nat) : Int) := by
  have e : (cm : Int) / 2 ^ j = ((cm / 2 ^ j : Nat) : Int) := by
    rw [Int.natCast_ediv]
    simp
  rw [e]
  have h2 : cm / 2 ^ j ≤ cm := Nat.div_le_self _ _
  have := u32_and_nat (cm / 2 ^ j) 1 (by omega) (by decide)
  rw [Nat.and_one_is_mod] at this
  exact this
theorem compT_yes {c j : Nat} (h : c / 2 ^ j % 2 = 1) : compT c (j + 1) = ((compT c j).1 ++ ((if (compT c j).2 then [44] else [32, 99, 111, 109, 112, 115, 32]) ++ Lib.decDigits j), true) := if_pos h
theorem compT_no {c j : Nat} (h : ¬ c / 2 ^ j % 2 = 1) : compT c (j + 1) = compT c j := if_neg h
theorem sepS_data (a : Bool) : (sepS a).data.toList = if a then [44] else [32, 99, 111, 109, 112, 115, 32] := by cases a <;> rfl
theorem sepS_short (a : Bool) : Short (sepS a) ∧ (sepS a).size ≤ 7 := by cases a <;> (unfold Short sepS; decide)
theorem labsT_step (N : List ByteArray) (l : List Lab) (k : Nat) (h : k < l.length) : labsT N l (k + 1) = labsT N l k ++ labT N k l[k] := by
  show labsT N l k ++ labT N k (l.getD k ⟨0, 0⟩) = _
  rw [rd_getElem l _ k h]
section
attribute [local go_sem high] cat_add
set_option maxRecDepth 1000000 in
set_option maxHeartbeats 8000000 in
theorem labs_part (p : Pol) (N : List ByteArray) (wL W : World) (A0 A1 A2 : Option Addr) (c0 c1 c2 cn b base pb bn on : Nat) (u0 u1 u3 u4 u5 u6 u8 u9 u10 u11 u13 u14 u15 u16 u17 u18 u19 u20 u21 u22 u23 u24 u25 u26 u27 u28 u29 u30 u31 u32 u33 u34 u35 u36 u37 u38 u39 u40 u41 u42 u43 u44 u45 u46 u47 u48 u49 u50 u51 u52 u53 u54 u55 u56 u57 u58 u59 u60 u61 u62 u63 u64 u65 u66 u67 u68 u69 u70 u71 u72 u73 u74 u75 u76 u77 u78 u79 u80 u81 u82 u83 u84 u85 u86 u87 u88 u89 u90 u91 u92 u93 u94 u95 u96 u97 u98 u99 u100 u101 u102 u103 u104 u105 u106 u107 u108 u109 u110 u111 u112 u113 u114 u115 u116 u117 u118 u119 u120 u121 u122 u123 u124 u125 u126 u127 u128 u129 u130 u131 u132 u133 u134 u135 u136 u137 u138 u139 u140 u141 u142 u143 u144 u145 u146 u147 u148 u149 u150 : Value) (K : Act → World → Prop) (Q1 : Exit → Act → World → Prop)
    (HL : Aside0 (PrL p N wL pb A0 A1 A2 (some ⟨bn, on, none⟩) c0 c1 c2 cn)) (HW : Aside0 (PrW wL W b base []))
    (hQ : ∀ (z13 z14 z15 z16 z59 z60 z61 z62 z63 z64 z65 z66 z67 z68 z69 z70 z71 z72 z73 z74 z75 z76 z77 z78 z79 z80 z81 z82 z83 z84 z85 z86 z87 z88 z89 z90 z91 z92 z93 z94 : Value) (w' : World), PrW wL w' b base (labsT N p.labels p.labels.length) → Q1 .normal ⟨List.toArray (u0 :: u1 :: (.pointer (some ⟨pb, 0, none⟩)) :: u3 :: u4 :: u5 :: u6 :: (.slice (some ⟨bn, on, none⟩) N.length cn) :: u8 :: u9 :: u10 :: u11 :: (.pointer (some ⟨b, 0, none⟩)) :: z13 :: z14 :: z15 :: z16 :: u17 :: u18 :: u19 :: u20 :: u21 :: u22 :: u23 :: u24 :: u25 :: u26 :: u27 :: u28 :: u29 :: u30 :: u31 :: u32 :: u33 :: u34 :: u35 :: u36 :: u37 :: u38 :: u39 :: u40 :: u41 :: u42 :: u43 :: u44 :: u45 :: u46 :: u47 :: u48 :: u49 :: u50 :: u51 :: u52 :: u53 :: u54 :: u55 :: u56 :: u57 :: u58 :: z59 :: z60 :: z61 :: z62 :: z63 :: z64 :: z65 :: z66 :: z67 :: z68 :: z69 :: z70 :: z71 :: z72 :: z73 :: z74 :: z75 :: z76 :: z77 :: z78 :: z79 :: z80 :: z81 :: z82 :: z83 :: z84 :: z85 :: z86 :: z87 :: z88 :: z89 :: z90 :: z91 :: z92 :: z93 :: z94 :: u95 :: u96 :: u97 :: u98 :: u99 :: u100 :: u101 :: u102 :: u103 :: u104 :: u105 :: u106 :: u107 :: u108 :: u109 :: u110 :: u111 :: u112 :: u113 :: u114 :: u115 :: u116 :: u117 :: u118 :: u119 :: u120 :: u121 :: u122 :: u123 :: u124 :: u125 :: u126 :: u127 :: u128 :: u129 :: u130 :: u131 :: u132 :: u133 :: u134 :: u135 :: u136 :: u137 :: u138 :: u139 :: u140 :: u141 :: u142 :: u143 :: u144 :: u145 :: u146 :: u147 :: u148 :: u149 :: u150 :: []), []⟩ w')
    (hK : ∀ a w, Code.wp Tryd.prog (restC (codeP 17)) Q1 a w → K a w) :
    Code.wp Tryd.prog (regP 17) (Exit.then K Q1) ⟨List.toArray (u0 :: u1 :: (.pointer (some ⟨pb, 0, none⟩)) :: u3 :: u4 :: u5 :: u6 :: (.slice (some ⟨bn, on, none⟩) N.length cn) :: u8 :: u9 :: u10 :: u11 :: (.pointer (some ⟨b, 0, none⟩)) :: u13 :: u14 :: u15 :: u16 :: u17 :: u18 :: u19 :: u20 :: u21 :: u22 :: u23 :: u24 :: u25 :: u26 :: u27 :: u28 :: u29 :: u30 :: u31 :: u32 :: u33 :: u34 :: u35 :: u36 :: u37 :: u38 :: u39 :: u40 :: u41 :: u42 :: u43 :: u44 :: u45 :: u46 :: u47 :: u48 :: u49 :: u50 :: u51 :: u52 :: u53 :: u54 :: u55 :: u56 :: u57 :: u58 :: u59 :: u60 :: u61 :: u62 :: u63 :: u64 :: u65 :: u66 :: u67 :: u68 :: u69 :: u70 :: u71 :: u72 :: u73 :: u74 :: u75 :: u76 :: u77 :: u78 :: u79 :: u80 :: u81 :: u82 :: u83 :: u84 :: u85 :: u86 :: u87 :: u88 :: u89 :: u90 :: u91 :: u92 :: u93 :: u94 :: u95 :: u96 :: u97 :: u98 :: u99 :: u100 :: u101 :: u102 :: u103 :: u104 :: u105 :: u106 :: u107 :: u108 :: u109 :: u110 :: u111 :: u112 :: u113 :: u114 :: u115 :: u116 :: u117 :: u118 :: u119 :: u120 :: u121 :: u122 :: u123 :: u124 :: u125 :: u126 :: u127 :: u128 :: u129 :: u130 :: u131 :: u132 :: u133 :: u134 :: u135 :: u136 :: u137 :: u138 :: u139 :: u140 :: u141 :: u142 :: u143 :: u144 :: u145 :: u146 :: u147 :: u148 :: u149 :: u150 :: []), []⟩ W := by
  have HK := Aside0.mk hK
  clear hK
  have hbw := blk_below HL.out.box HW.out.be
  have g1 := blk_cell hbw 0
  have hqn : p.labels.length ≤ 32 := HL.out.fine.n
  have hfine := Aside0.mk HL.out.fine
  have hN := Aside0.mk HL.out.words
  have HLn := Aside0.mk (show N.length = p.labels.length from HL.out.len)
  have hpbw : pb < W.heap.size := blk_lt hbw
  have hnm : p.labels.length ≤ 9223372036854775807 := by omega
  clear hbw
  conv => arg 2; whnf
  go_wp2
  refine HK.out _ _ ?_
  clear g1
  conv => arg 2; whnf
  go_wp2
  go_loopw [62] (fun i wr => ∃ k : Nat, k ≤ p.labels.length ∧ i = .int .i64 k ∧ Aside0 (PrW wL wr b base (labsT N p.labels k))) (fun i _ => p.labels.length - (intOf i).toNat)
  case atStart => exact ⟨0, Nat.zero_le _, rfl, HW⟩
  case round =>
    obtain ⟨k, hk, rfl, HWr⟩ := hrel
    have HTl := Aside0.mk (show (labsT N p.labels k).length ≤ 32000 by
      have := labsT_len (l := p.labels) hN.out hfine.out.lev k hk
      omega)
    by_cases hlt : k < p.labels.length
    · obtain ⟨be, oe, rfl, e0, e1⟩ := lab_at (Kd.C_below HL.out.C0 HWr.out.be) k hlt
      have HS := Aside0.mk (labsT_step N p.labels k hlt)
      obtain ⟨qn, hqn2⟩ : ∃ qn, qn = p.labels[k] := ⟨_, rfl⟩
      have hfe := hfine.out.lev p.labels[k] (List.getElem_mem hlt)
      have hco := HL.out.com p.labels[k] (List.getElem_mem hlt)
      rw [← hqn2] at e0 e1 HS hfe hco
      clear hqn2
      obtain ⟨lev, com⟩ := qn
      simp only at e0 e1 hfe hco
      obtain ⟨f1, f2⟩ := hfe
      obtain ⟨f3, f4⟩ := hco
      obtain ⟨a1, rfl⟩ := Int.eq_ofNat_of_zero_le f1
      obtain ⟨cm, rfl⟩ := Int.eq_ofNat_of_zero_le f3
      have hmN : k < N.length := by rw [HLn.out]; exact hlt
      obtain ⟨bn2, on2, hA, cx⟩ := str_at (Kd.C_below HL.out.CN HWr.out.be) k hmN
      injection hA with hA
      injection hA with q1 q2
      subst q1 q2
      obtain ⟨x, hx⟩ : ∃ x, x = N[k] := ⟨_, rfl⟩
      have hxs : x.size ≤ 12 := by rw [hx]; exact hN.out _ (List.getElem_mem hmN)
      have HS2 := Aside0.mk (show labsT N p.labels (k + 1) = labsT N p.labels k ++ (labH x a1 ++ (compT cm 32).1 ++ [10]) by
        rw [HS.out]
        unfold labT
        simp only [Int.toNat_natCast]
        rw [rd_getElem N _ k hmN, ← hx])
      rw [← hx] at cx
      obtain ⟨T2, hT2⟩ : ∃ T2, T2 = labsT N p.labels k := ⟨_, rfl⟩
      have HT2 := Aside0.mk hT2
      rw [← hT2] at HWr HTl
      have hbn : bn < b := by
        obtain ⟨bq, oq, hq, cq⟩ := str_at HL.out.CN k hmN
        injection hq with hq
        injection hq with q1 q2
        subst q1 q2
        rw [HWr.out.hb]; exact World.block_lt_of_cell? _ _ cq
      have hgb : wr.heap.size ≠ b := by have := HWr.out.lt; have := HWr.out.sz; omega
      have hgsz : base ≤ wr.heap.size := HWr.out.sz
      have hbb := HWr.out.lt
      have hlbe : be < wr.heap.size := World.block_lt_of_cell? _ _ e0
      have hlb : b < wr.heap.size := by omega
      have HTab := Aside0.mk (tab_below HL.out.tab HWr.out.be)
      have hT2l := HTl.out
      clear hx HS hT2
      go_upto_region 20 with (fail)
      have hBx : Below wr.heap.size wr (wr.alloc (.cells #[.int .i64 a1, .int .u32 cm] 66)) := (Below.refl _ _).alloc (Nat.le_refl _) _
      refine lab_write wL _ b base pb bn on N.length cn wr.heap.size k a1 T2 x (cm : Int) _ _ _ _ _ _ _ _ _ _ _ _ _ _ _ _ _ _ _ _ _ _ _ _ _ _ _ _ _ _ _ _ _ _ _ _ _ _ _ _ _ _ _ _ _ _ _ _ _ _ _ _ _ _ _ _ _ _ _ _ _ _ _ _ _ _ _ _ _ _ _ _ _ _ _ _ _ _ _ _ _ _ _ _ _ _ _ _ _ _ _ _ _ _ _ _ _ _ _ _ _ _ _ _ _ _ _ _ _ _ _ _ _ _ _ _ _ _ _ _ _ _ _ _ _ _ _ _ _ _ _ _ _ _ _ _ _ _ _ _ _ _ _ _ _ _ _ ⟨⟨HWr.out.below hBx, tab_below HTab.out hBx, pw_cell_below hBx cx, blk_new _ _⟩⟩ (by omega) hxs (by omega) (by omega) hgb hbn ?_
      intro z67 z68 z69 z70 z71 z72 z73 z74 z75 z76 z77 wc hWc hgc
      have HWc := Aside0.mk hWc
      have HGc := Aside0.mk hgc
      have hTh : (labH x a1).length ≤ 50 := by
        have := dec_len a1 (by omega)
        rw [Lib.size_eq] at hxs
        unfold labH
        simp only [List.length_append, List.length_cons, List.length_nil]
        omega
      obtain ⟨T3, hT3⟩ : ∃ T3, T3 = T2 ++ labH x a1 := ⟨_, rfl⟩
      have HT3 := Aside0.mk hT3
      have hT3l : T3.length ≤ 33000 := by rw [hT3, List.length_append]; omega
      rw [← hT3] at HWc
      generalize wr.heap.size = g at HGc hgb ⊢
      clear hWc hgc hBx e0 e1 cx hT3 hTh
      go_wp2
      obtain ⟨wo, hwo⟩ : ∃ wo : World, wo = wc := ⟨_, rfl⟩
      subst hwo
      go_loopw [78, 15] (fun i sp wi => ∃ j : Nat, j ≤ 32 ∧ i = .int .i64 j ∧ sp = .string (sepS (compT cm j).2) ∧ Aside0 (PrW wL wi b base (T3 ++ (compT cm j).1)) ∧ Aside0 (wi.heap[g]? = some (.cells #[.int .i64 a1, .int .u32 cm] 66 (0, 0)))) (fun i _ _ => 32 - (intOf i).toNat)
      case atStart => exact ⟨0, by omega, rfl, rfl, ⟨by rw [show (compT cm 0).1 = [] from rfl, List.append_nil]; exact HWc.out⟩, HGc⟩
      case round =>
        obtain ⟨j, hj, rfl, rfl, HWi, HGi⟩ := hrel
        have i1 := blk_cell HGi.out 1
        by_cases hlj : j < 32
        · have hlji : (j : Int) < 32 := by omega
          have hcl := compT_len cm j (by omega)
          by_cases hb : cm / 2 ^ j % 2 = 1
          · have hbit : (bits BinOp.and IntKind.u32 ((cm : Int) / 2 ^ j) 1 == 1) = true := by rw [bit_is cm j (by omega), hb]; rfl
            have HC := Aside0.mk (compT_yes hb)
            obtain ⟨ct, hct⟩ : ∃ ct, ct = (compT cm j).1 := ⟨_, rfl⟩
            obtain ⟨bb, hbb2⟩ : ∃ bb, bb = (compT cm j).2 := ⟨_, rfl⟩
            rw [← hct, ← hbb2] at HC
            rw [← hct] at HWi hcl
            rw [← hbb2]
            clear hb hct hbb2
            obtain ⟨t, ht⟩ : ∃ t, decS j = t := ⟨_, rfl⟩
            have zt : t.size ≤ 21 := by rw [← ht]; exact decS_size j (by omega)
            have dt := Aside0.mk (show t.data.toList = Lib.decDigits j by rw [← ht]; unfold decS; rw [ofL_data])
            have E := Aside0.mk ht
            have s1 : Short t := by unfold Short; omega
            have s2 := (sepS_short bb).1
            have HZ := Aside0.mk (show (cat (sepS bb) t).size ≤ 1000000 by rw [cat_size]; have := (sepS_short bb).2; omega)
            have hTL : (T3 ++ ct).length ≤ 1000000 := by rw [List.length_append]; omega
            have HTL := Aside0.mk hTL
            clear ht hcl hTL
            go_wp2_with fail
            refine (itoa_is j wr (by omega) (tab_below HL.out.tab HWi.out.be) t E.out).mono ?_
            rintro e w2 ⟨rfl, hb2⟩
            have HW2 := Aside0.mk (HWi.out.below hb2)
            have HG2 := Aside0.mk (blk_below HGi.out hb2)
            clear hb2 i1
            go_wp2_with fail
            refine (bld_str b base (T3 ++ ct) (cat (sepS bb) t) w2 HW2.out.bl HTL.out HZ.out HW2.out.sz).mono ?_
            rintro e w3 ⟨rfl, hB3, hK3, hO3⟩
            have HW3 := Aside0.mk (HW2.out.step hB3 hK3)
            have HG3 := Aside0.mk (hO3 g _ _ HG2.out (by decide) hgb)
            clear hB3 hK3 hO3
            go_wp2
            go_roundw
            case rel =>
              have HF := Aside0.mk (show PrW wL w3 b base (T3 ++ (compT cm (j + 1)).1) by
                rw [HC.out]
                have := HW3.out
                rw [cat_data, sepS_data, dt.out] at this
                simpa using this)
              have HS3 : Value.string ⟨#[44]⟩ = .string (sepS (compT cm (j + 1)).2) := by rw [HC.out]; rfl
              first
              | exact ⟨j + 1, by omega, by go_num, HS3, HF, HG3⟩
              | ((repeat apply Exists.intro); exact ⟨⟨j + 1, by omega, by go_num, HS3, HF, HG3⟩, rfl⟩)
            case measure => simp [intOf]; omega
          · have hbit : (bits BinOp.and IntKind.u32 ((cm : Int) / 2 ^ j) 1 == 1) = false := by rw [bit_is cm j (by omega), beq_eq_false_iff_ne]; omega
            have HC := Aside0.mk (compT_no hb)
            clear hb hcl
            go_wp2
            go_roundw
            case rel =>
              have HF := Aside0.mk (show PrW wL wr b base (T3 ++ (compT cm (j + 1)).1) by rw [HC.out]; exact HWi.out)
              have HS3 : Value.string (sepS (compT cm j).2) = .string (sepS (compT cm (j + 1)).2) := by rw [HC.out]
              first
              | exact ⟨j + 1, by omega, by go_num, HS3, HF, HGi⟩
              | ((repeat apply Exists.intro); exact ⟨⟨j + 1, by omega, by go_num, HS3, HF, HGi⟩, rfl⟩)
            case measure => simp [intOf]; omega
        · have hj32 : j = 32 := by omega
          subst hj32
          have hcl := compT_len cm 32 (by omega)
          have HTL := Aside0.mk (show (T3 ++ (compT cm 32).1).length ≤ 1000000 by rw [List.length_append]; omega)
          clear hcl i1
          go_wp2_with fail
          refine (bld_str b base (T3 ++ (compT cm 32).1) ⟨#[10]⟩ wr HWi.out.bl HTL.out (by decide) HWi.out.sz).mono ?_
          rintro e w3 ⟨rfl, hB3, hK3, -⟩
          have HW3 := Aside0.mk (HWi.out.step hB3 hK3)
          clear hB3 hK3
          go_wp2
          go_roundw
          case rel =>
            have HF := Aside0.mk (show PrW wL w3 b base (labsT N p.labels (k + 1)) by
              rw [HS2.out, ← HT2.out]
              have := HW3.out
              rw [HT3.out] at this
              simpa using this)
            first
            | exact ⟨k + 1, by omega, by go_num, HF⟩
            | ((repeat apply Exists.intro); exact ⟨⟨k + 1, by omega, by go_num, HF⟩, rfl⟩)
          case measure => simp [intOf]; omega
    · have hkn : k = p.labels.length := by omega
      subst hkn
      have HF := Aside0.mk HWr.out
      go_wp2
      exact HF.out
end
end Go.Proofs.YtaeaakcppheaoaaDoor
namespace Go.Proofs.YtaeaakcppheaoaaDoor
open Go.RowKit Go.Proofs.YtaeaakcppheaoaaDoorW.PrintWords Go.Maps

set_option maxRecDepth 1000000 in
set_option maxHeartbeats 4000000 in
theorem print_tail (p : Pol) (N : List ByteArray) (wL : World) (A0 A1 A2 : Option Addr) (c0 c1 c2 cn pb bn on : Nat) (u0 u1 u3 u4 u5 u6 u8 u9 u10 u11 u12 u13 u14 u15 u16 u17 u18 u19 u20 u21 u22 u23 u24 u25 u26 u27 u28 u29 u30 u31 u32 u33 u34 u35 u36 u37 u38 u39 u40 u41 u42 u43 u44 u45 u46 u47 u48 u49 u50 u51 u52 u53 u54 u55 u56 u57 u58 u59 u60 u61 u62 u63 u64 u65 u66 u67 u68 u69 u70 u71 u72 u73 u74 u75 u76 u77 u78 u79 u80 u81 u82 u83 u84 u85 u86 u87 u88 u89 u90 u91 u92 u93 u94 u95 u96 u97 u98 u99 u100 u101 u102 u103 u104 u105 u106 u107 u108 u109 u110 u111 u112 u113 u114 u115 u116 u117 u118 u119 u120 u121 u122 u123 u124 u125 u126 u127 u128 u129 u130 u131 u132 u133 u134 u135 u136 u137 u138 u139 u140 u141 u142 u143 u144 u145 u146 u147 u148 u149 u150 : Value) (K : Act → World → Prop) (Post : Ending → World → Prop)
    (HL : Aside0 (PrL p N wL pb A0 A1 A2 (some ⟨bn, on, none⟩) c0 c1 c2 cn))
    (hpost : ∀ w', Below wL.heap.size wL w' → Post (.returned (.tuple #[.string (ofL (textT N p)), .int .i64 0])) w')
    (hK : ∀ a w, Code.wp Tryd.prog (restC (codeP 16)) (bodyPost Tryd.prog Tryd.f22 Post) a w → K a w) :
    Code.wp Tryd.prog (regP 16) (Exit.then K (bodyPost Tryd.prog Tryd.f22 Post)) ⟨List.toArray (u0 :: u1 :: (.pointer (some ⟨pb, 0, none⟩)) :: u3 :: u4 :: u5 :: u6 :: (.slice (some ⟨bn, on, none⟩) N.length cn) :: u8 :: u9 :: u10 :: u11 :: u12 :: u13 :: u14 :: u15 :: u16 :: u17 :: u18 :: u19 :: u20 :: u21 :: u22 :: u23 :: u24 :: u25 :: u26 :: u27 :: u28 :: u29 :: u30 :: u31 :: u32 :: u33 :: u34 :: u35 :: u36 :: u37 :: u38 :: u39 :: u40 :: u41 :: u42 :: u43 :: u44 :: u45 :: u46 :: u47 :: u48 :: u49 :: u50 :: u51 :: u52 :: u53 :: u54 :: u55 :: u56 :: u57 :: u58 :: u59 :: u60 :: u61 :: u62 :: u63 :: u64 :: u65 :: u66 :: u67 :: u68 :: u69 :: u70 :: u71 :: u72 :: u73 :: u74 :: u75 :: u76 :: u77 :: u78 :: u79 :: u80 :: u81 :: u82 :: u83 :: u84 :: u85 :: u86 :: u87 :: u88 :: u89 :: u90 :: u91 :: u92 :: u93 :: u94 :: u95 :: u96 :: u97 :: u98 :: u99 :: u100 :: u101 :: u102 :: u103 :: u104 :: u105 :: u106 :: u107 :: u108 :: u109 :: u110 :: u111 :: u112 :: u113 :: u114 :: u115 :: u116 :: u117 :: u118 :: u119 :: u120 :: u121 :: u122 :: u123 :: u124 :: u125 :: u126 :: u127 :: u128 :: u129 :: u130 :: u131 :: u132 :: u133 :: u134 :: u135 :: u136 :: u137 :: u138 :: u139 :: u140 :: u141 :: u142 :: u143 :: u144 :: u145 :: u146 :: u147 :: u148 :: u149 :: u150 :: []), []⟩ wL := by
  have HK := Aside0.mk hK
  have HP := Aside0.mk hpost
  clear hK hpost
  conv => arg 2; whnf
  go_wp2
  refine HK.out _ _ ?_
  conv => arg 2; whnf
  have hB0 : Below wL.heap.size wL (wL.alloc (.cells #[.pointer none, .slice none 0 0] 71)) := (Below.refl _ _).alloc (Nat.le_refl _) _
  have HW0 := Aside0.mk (show PrW wL (wL.alloc (.cells #[.pointer none, .slice none 0 0] 71)) wL.heap.size (wL.heap.size + 1) [] from
    ⟨Bld.nil _ _ _ (blk_new _ _), hB0, rfl, Nat.lt_succ_self _, by simp⟩)
  have hN := HL.out.words
  have hf := HL.out.fine
  have h1 := labsT_len (l := p.labels) hN hf.lev p.labels.length (Nat.le_refl _)
  have h2 := quosT_len (l := p.quotas) hN hf.quo p.quotas.length (Nat.le_refl _)
  have hn := hf.n
  have hq := hf.q
  have H1 := Aside0.mk (show (labsT N p.labels p.labels.length).length ≤ 35000 by omega)
  have H2 := Aside0.mk (show (labsT N p.labels p.labels.length ++ quosT N p.quotas p.quotas.length).length ≤ 70000 by rw [List.length_append]; omega)
  clear hB0 hN hf h1 h2 hn hq
  go_upto_region 17 with (fail)
  refine labs_part p N wL _ A0 A1 A2 c0 c1 c2 cn wL.heap.size (wL.heap.size + 1) pb bn on _ _ _ _ _ _ _ _ _ _ _ _ _ _ _ _ _ _ _ _ _ _ _ _ _ _ _ _ _ _ _ _ _ _ _ _ _ _ _ _ _ _ _ _ _ _ _ _ _ _ _ _ _ _ _ _ _ _ _ _ _ _ _ _ _ _ _ _ _ _ _ _ _ _ _ _ _ _ _ _ _ _ _ _ _ _ _ _ _ _ _ _ _ _ _ _ _ _ _ _ _ _ _ _ _ _ _ _ _ _ _ _ _ _ _ _ _ _ _ _ _ _ _ _ _ _ _ _ _ _ _ _ _ _ _ _ _ _ _ _ _ _ _ _ _ _ _ _ _ _ HL HW0 ?_ (by assumption)
  intro x_13 x_14 x_15 x_16 x_59 x_60 x_61 x_62 x_63 x_64 x_65 x_66 x_67 x_68 x_69 x_70 x_71 x_72 x_73 x_74 x_75 x_76 x_77 x_78 x_79 x_80 x_81 x_82 x_83 x_84 x_85 x_86 x_87 x_88 x_89 x_90 x_91 x_92 x_93 x_94 w1 hW1
  have HW1 := Aside0.mk hW1
  clear hW1 HW0
  go_upto_region 31 with (fail)
  refine quos_part p N wL _ A0 A1 A2 c0 c1 c2 cn wL.heap.size (wL.heap.size + 1) pb bn on _ _ _ _ _ _ _ _ _ _ _ _ _ _ _ _ _ _ _ _ _ _ _ _ _ _ _ _ _ _ _ _ _ _ _ _ _ _ _ _ _ _ _ _ _ _ _ _ _ _ _ _ _ _ _ _ _ _ _ _ _ _ _ _ _ _ _ _ _ _ _ _ _ _ _ _ _ _ _ _ _ _ _ _ _ _ _ _ _ _ _ _ _ _ _ _ _ _ _ _ _ _ _ _ _ _ _ _ _ _ _ _ _ _ _ _ _ _ _ _ _ _ _ _ _ _ _ _ _ _ _ _ _ _ _ _ _ _ _ _ _ _ _ _ _ _ _ _ _ _ _ HL HW1 H1.out ?_ (by assumption)
  intro y_17 y_18 y_95 y_96 y_97 y_98 y_99 y_100 y_101 y_102 y_103 y_104 y_105 y_106 y_107 y_108 y_109 y_110 y_111 y_112 y_113 y_114 y_115 y_116 y_117 y_118 y_119 y_120 y_121 y_122 y_123 y_124 y_125 w2 hW2
  have HW2 := Aside0.mk hW2
  clear hW2 HW1
  go_upto_region 36 with (fail)
  refine ents_part p N wL _ A0 A1 A2 c0 c1 c2 cn wL.heap.size (wL.heap.size + 1) pb bn on _ _ _ _ _ _ _ _ _ _ _ _ _ _ _ _ _ _ _ _ _ _ _ _ _ _ _ _ _ _ _ _ _ _ _ _ _ _ _ _ _ _ _ _ _ _ _ _ _ _ _ _ _ _ _ _ _ _ _ _ _ _ _ _ _ _ _ _ _ _ _ _ _ _ _ _ _ _ _ _ _ _ _ _ _ _ _ _ _ _ _ _ _ _ _ _ _ _ _ _ _ _ _ _ _ _ _ _ _ _ _ _ _ _ _ _ _ _ _ _ _ _ _ _ _ _ _ _ _ _ _ _ _ _ _ _ _ _ _ _ _ _ _ _ _ _ _ _ _ _ _ HL HW2 H2.out ?_ (by assumption)
  intro z_20 z_126 z_127 z_128 z_129 z_130 z_131 z_132 z_133 z_134 z_135 z_136 z_137 z_138 z_139 z_140 z_141 z_142 z_143 z_144 z_145 z_146 z_147 z_148 z_149 w3 hW3
  have HW3 := Aside0.mk hW3
  clear hW3 HW2
  go_wp2_with fail
  refine (bld_string wL.heap.size (wL.heap.size + 1) _ w3 HW3.out.bl (Nat.le_succ _)).mono ?_
  rintro e w4 ⟨rfl, hb4⟩
  have HB4 := Aside0.mk (HW3.out.be.trans hb4)
  clear hb4
  go_wp2
  have hp := HP.out w4 HB4.out
  rw [show textT N p = labsT N p.labels p.labels.length ++ (quosT N p.quotas p.quotas.length ++ entsT N p.entries p.entries.length) by unfold textT; rw [List.append_assoc]] at hp
  exact hp
end Go.Proofs.YtaeaakcppheaoaaDoor
namespace Go.Proofs.YtaeaakcppheaoaaDoor
open Go.RowKit Go.Proofs.YtaeaakcppheaoaaDoorW.PrintWords Go.Maps

theorem name_is (i : Int) (w : World) (s : ByteArray) (h : nameS i = s) :
    Calls Tryd.prog 15 #[.int .i64 i] w fun e w' => e = .returned (.string s) ∧ Below w.heap.size w w' := by
  rw [← h]; exact name_any i w
theorem namesO_step (given : List ByteArray) (k : Nat) (N : List ByteArray) (x : ByteArray) (h : namesO given k = some N) (hx : nameAt given k = x) :
    namesO given (k + 1) = if 0 ≤ idxI N x ∨ wordB x.data.toList = false then none else some (N ++ [x]) := by
  subst hx
  show (namesO given k).bind _ = _
  rw [h]; rfl
theorem namesO_none {given : List ByteArray} {k n : Nat} (h : namesO given k = none) (hkn : k ≤ n) : namesO given n = none := by
  induction n with
  | zero => rw [Nat.le_zero.1 hkn] at h; exact h
  | succ n ih =>
    by_cases hk : k ≤ n
    · show (namesO given n).bind _ = none
      rw [ih hk]; rfl
    · have : k = n + 1 := by omega
      rw [← this]; exact h
def PrintPost (w : World) (r : ByteArray × Int) (e : Ending) (w' : World) : Prop := e = .returned (.tuple #[.string r.1, .int .i64 r.2]) ∧ Below w.heap.size w w'
set_option maxRecDepth 1000000 in
set_option maxHeartbeats 8000000 in
theorem print_any (p : Pol) (given : List ByteArray) (A0 A1 A2 G : Option Addr) (c0 c1 c2 cg : Nat) (w : World) (h0 : Kd.C kLab w A0 p.labels.length p.labels) (h1 : Kd.C kQuo w A1 p.quotas.length p.quotas) (h2 : Kd.C kEnt w A2 p.entries.length p.entries)
    (hc0 : p.labels.length ≤ c0) (hG : Kd.C Kd.string w G given.length given) (hcom : ∀ x ∈ p.labels, 0 ≤ x.com ∧ x.com ≤ 4294967295) (ht : Tab w) :
    Calls Tryd.prog 22 #[.agg #[.slice A0 p.labels.length c0, .slice A1 p.quotas.length c1, .slice A2 p.entries.length c2], .slice G given.length cg] w (PrintPost w (printP p given)) := by
  have H0 := Aside0.mk h0
  have H1 := Aside0.mk h1
  have H2 := Aside0.mk h2
  have HG := Aside0.mk hG
  have HT := Aside0.mk ht
  have HC := Aside0.mk hcom
  have hgm := C_max hG
  have hbx : Below w.heap.size w (w.alloc (.cells #[.slice A0 p.labels.length c0, .slice A1 p.quotas.length c1, .slice A2 p.entries.length c2] 27)) := (Below.refl _ _).alloc (Nat.le_refl _) _
  have HBX := Aside0.mk hbx
  have PR := Aside0.mk (right_any p A0 A1 A2 c0 c1 c2 _ (Kd.C_below h0 hbx) (Kd.C_below h1 hbx) (Kd.C_below h2 hbx) hc0)
  clear h0 h1 h2 hG ht hcom hbx
  obtain ⟨pb, hpb⟩ : ∃ pb, pb = w.heap.size := ⟨_, rfl⟩
  go_enter Tryd.func22, Tryd.ntmps22
  go_wp2_with fail
  refine PR.out.mono ?_
  rintro e w1 ⟨rfl, hb1⟩
  have HB1 := Aside0.mk (below_step HBX.out hb1)
  have Hbx1 := Aside0.mk (blk_below (blk_new w (.cells #[.slice A0 p.labels.length c0, .slice A1 p.quotas.length c1, .slice A2 p.entries.length c2] 27)) hb1)
  clear hb1 HBX PR
  cases hr : rightB p with
  | false =>
    have hrn : rightN p = 11 := by unfold rightN; rw [hr]; rfl
    have Hq := Aside0.mk (show printP p given = (ofL [], 11) by unfold printP; rw [hr]; rfl)
    rw [hrn]
    clear hrn hr
    go_wp2
    go_ret2
    exact ⟨by rw [Hq.out]; rfl, HB1.out⟩
  | true =>
    have hrn : rightN p = 0 := by unfold rightN; rw [hr]; rfl
    have hfine := fine_of hr
    have Hpp := Aside0.mk (show printP p given = (match namesO given p.labels.length with | some N => (ofL (textT N p), 0) | none => (ofL [], 90)) by unfold printP; rw [hr]; rfl)
    have hl1 : 1 ≤ p.labels.length := by
      unfold rightB sizesB at hr
      simp only [Bool.and_eq_true, decide_eq_true_eq] at hr
      exact hr.1.1.1.1.1.1
    rw [hrn]
    have hln := hfine.n
    have HF := Aside0.mk hfine
    have g0 := blk_cell Hbx1.out 0
    clear hrn hr hfine
    go_wp2
    go_loopw [29, 7] (fun i v wr => ∃ (k : Nat) (N : List ByteArray), k ≤ p.labels.length ∧ i = .int .i64 k ∧ Aside0 (namesO given k = some N) ∧ Aside0 (Kd.R Kd.string 9 wr w.heap.size (fun _ => True) v N) ∧ Aside0 (Below w.heap.size w wr) ∧ Aside0 (wr.heap[w.heap.size]? = some (.cells #[.slice A0 p.labels.length c0, .slice A1 p.quotas.length c1, .slice A2 p.entries.length c2] 27 (0, 0)))) (fun i _ _ => p.labels.length - (intOf i).toNat)
    case atStart => exact ⟨0, [], Nat.zero_le _, rfl, ⟨rfl⟩, ⟨Kd.R_nil _ _ _ _ _⟩, HB1, Hbx1⟩
    case round =>
      obtain ⟨k, N, hk, rfl, HN, HR, HB, Hbx⟩ := hrel
      have hNl := (namesO_len HN.out).1
      have HNL := Aside0.mk hNl
      obtain ⟨An, cn, rfl, hcn, hCN⟩ := Kd.R_reads HR.out
      have hnn : N.length ≤ 32 := by omega
      clear hNl hCN
      by_cases hlt : k < p.labels.length
      · obtain ⟨x, hx⟩ : ∃ x, nameAt given k = x := ⟨_, rfl⟩
        have HS := Aside0.mk (namesO_step given k N x HN.out hx)
        have hki : (k : Int) < p.labels.length := by omega
        obtain ⟨y, hy⟩ : ∃ y, nameS (k : Int) = y := ⟨_, rfl⟩
        have HY := Aside0.mk hy
        have HX := Aside0.mk (show ∀ wz : World, Below w.heap.size w wz → (k < given.length → ∃ bg og, G = some ⟨bg, og, none⟩ ∧ wz.cell? ⟨bg, og + k, none⟩ = some (.string x)) ∧ (¬ k < given.length → y = x) from fun wz hz => ⟨fun hkg => by
            obtain ⟨bg, og, hA, hc⟩ := str_at (Kd.C_below HG.out hz) k hkg
            refine ⟨bg, og, hA, ?_⟩
            rw [hc, ← hx]
            unfold nameAt
            rw [if_pos hkg, rd_getElem given _ k hkg], fun hkg => by
            rw [← hx, ← hy]
            unfold nameAt
            rw [if_neg hkg]⟩)
        obtain ⟨fi, hfi⟩ : ∃ fi, decide (0 ≤ idxI N x) = fi := ⟨_, rfl⟩
        obtain ⟨wb, hwb⟩ : ∃ wb, wordB x.data.toList = wb := ⟨_, rfl⟩
        have HFI := Aside0.mk hfi
        have HWB := Aside0.mk hwb
        have HS2 := Aside0.mk (show namesO given (k + 1) = if fi = true ∨ wb = false then none else some (N ++ [x]) by
          rw [HS.out, hwb, ← hfi]
          simp only [decide_eq_true_eq])
        clear hx hy HS hfi hwb
        go_wp2_with fail
        refine (name_is (k : Int) wr y HY.out).mono ?_
        rintro e w2 ⟨rfl, hb2⟩
        have HB2 := Aside0.mk (below_step HB.out hb2)
        have Hbx2 := Aside0.mk (blk_below Hbx.out hb2)
        have HR2 := Aside0.mk (Kd.R_below HR.out hb2)
        have HCN := Aside0.mk (Kd.C_below (Kd.R_reads' HR.out).2.2 hb2)
        clear hb2 HB Hbx HR
        have hX := HX.out w2 HB2.out
        clear HX
        go_upto_if 37 with (fail)
        go_cut [9] (fun v wc => v = .string x ∧ wc = w2)
        case first =>
          by_cases hkg : k < given.length
          · obtain ⟨bg, og, rfl, hcx⟩ := hX.1 hkg
            have hkgi : (k : Int) < given.length := by omega
            have hk0 : (0 : Int) ≤ k := by omega
            clear hX hkg
            go_wp2
            go_meet
            case rel => exact ⟨rfl, rfl⟩
          · have hyx := hX.2 hkg
            have hkgi : (given.length : Int) ≤ k := by omega
            clear hX hkg
            subst hyx
            go_wp2
            go_meet
            case rel => exact ⟨rfl, rfl⟩
        case rest =>
          obtain ⟨rfl, hwc⟩ := hcut
          rw [hwc]
          clear hwc wc hX
          go_wp2_with fail
          refine (find_is _ _ N x w2 HCN.out fi HFI.out).mono ?_
          rintro e w3 ⟨rfl, hb3⟩
          have HB3 := Aside0.mk (below_step HB2.out hb3)
          have Hbx3 := Aside0.mk (blk_below Hbx2.out hb3)
          have HR3 := Aside0.mk (Kd.R_below HR2.out hb3)
          clear hb3 HB2 Hbx2 HR2 HCN
          cases fi with
          | true =>
            have Hq := Aside0.mk (show printP p given = (ofL [], 90) by
              have hn : namesO given p.labels.length = none := namesO_none (k := k + 1) (by rw [HS2.out, if_pos (.inl rfl)]) (by omega)
              rw [Hpp.out, hn])
            go_wp2
            go_ret2
            exact ⟨by rw [Hq.out]; rfl, HB3.out⟩
          | false =>
            go_wp2_with fail
            refine (word_is x w3 wb HWB.out).mono ?_
            rintro e w4 ⟨rfl, hb4⟩
            have HB4 := Aside0.mk (below_step HB3.out hb4)
            have Hbx4 := Aside0.mk (blk_below Hbx3.out hb4)
            have HR4 := Aside0.mk (Kd.R_below HR3.out hb4)
            clear hb4 HB3 Hbx3 HR3
            cases wb with
            | false =>
              have Hq := Aside0.mk (show printP p given = (ofL [], 90) by
                have hn : namesO given p.labels.length = none := namesO_none (k := k + 1) (by rw [HS2.out, if_pos (.inr rfl)]) (by omega)
                rw [Hpp.out, hn])
              go_wp2
              go_ret2
              exact ⟨by rw [Hq.out]; rfl, HB4.out⟩
            | true =>
              have HS3 := Aside0.mk (show namesO given (k + 1) = some (N ++ [x]) by rw [HS2.out, if_neg (by simp)])
              have hsz4 : w.heap.size ≤ w4.heap.size := HB4.out.size
              clear HS2
              go_wp2_with ((at_builtin; refine R_lies_plain Kd.string (by rfl) _ _ 54 9 (.string ⟨#[]⟩) 16 (by rfl) Tryd.underlying54 info9 rfl (by decide) w.heap.size (.slice An N.length cn) N x [.string x] w4.heap.size _ (by rfl) (by rfl) (blk_new _ _) rfl (Kd.R_alloc HR4.out _) (by simp; omega) (by omega) (by unfold maxLen; omega) (w4.heap.size + 1) (by simp) ?_; intro gn capn w5 hR5 hgrow hat hlt5; have HR5 := Aside0.mk hR5; have HB5 := Aside0.mk (pw_below_grown (HB4.out.alloc hsz4 (.cells #[.string x] 9)) _ (by simp; omega) hgrow (Kd.R_base HR4.out)); have Hbx5 := Aside0.mk (blk_grown (blk_alloc Hbx4.out (.cells #[.string x] 9)) hgrow (Kd.R_ne HR4.out Hbx4.out (by decide))); clear hR5 hgrow hat hlt5))
              go_roundw
              case rel =>
                first
                | exact ⟨k + 1, N ++ [x], by omega, by go_num, HS3, HR5, HB5, Hbx5⟩
                | ((repeat apply Exists.intro); exact ⟨⟨k + 1, N ++ [x], by omega, by go_num, HS3, HR5, HB5, Hbx5⟩, rfl⟩)
              case measure => simp [intOf]; omega
      · have hkn : k = p.labels.length := by omega
        subst hkn
        have hN0 : 0 < N.length := by rw [HNL.out]; omega
        have Hq := Aside0.mk (show printP p given = (ofL (textT N p), 0) by rw [Hpp.out, HN.out])
        obtain ⟨gN, cN, hvN, -, -, -⟩ := Kd.R_form HR.out hN0
        injection hvN with e1 e2 e3
        subst e1
        have HL := Aside0.mk (show PrL p N wr w.heap.size A0 A1 A2 (some ⟨gN, 0, none⟩) c0 c1 c2 cn from
          ⟨Hbx.out, Kd.C_below H0.out HB.out, Kd.C_below H1.out HB.out, Kd.C_below H2.out HB.out, (Kd.R_reads' HR.out).2.2, HF.out, HC.out, HNL.out, fun x hx => word_len ((namesO_len HN.out).2 x hx), tab_below HT.out HB.out⟩)
        clear e2 e3 HR HN
        go_upto_region 16 with (fail)
        exact print_tail p N wr A0 A1 A2 c0 c1 c2 cn w.heap.size gN 0 _ _ _ _ _ _ _ _ _ _ _ _ _ _ _ _ _ _ _ _ _ _ _ _ _ _ _ _ _ _ _ _ _ _ _ _ _ _ _ _ _ _ _ _ _ _ _ _ _ _ _ _ _ _ _ _ _ _ _ _ _ _ _ _ _ _ _ _ _ _ _ _ _ _ _ _ _ _ _ _ _ _ _ _ _ _ _ _ _ _ _ _ _ _ _ _ _ _ _ _ _ _ _ _ _ _ _ _ _ _ _ _ _ _ _ _ _ _ _ _ _ _ _ _ _ _ _ _ _ _ _ _ _ _ _ _ _ _ _ _ _ _ _ _ _ _ _ _ _ _ _ HL (fun w' hb => ⟨by rw [Hq.out], below_step HB.out hb⟩) (by assumption)
end Go.Proofs.YtaeaakcppheaoaaDoor
