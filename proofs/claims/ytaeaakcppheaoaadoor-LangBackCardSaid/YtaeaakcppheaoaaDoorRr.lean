/- The reference's Print: what its parts hold. The reference's Print: a label's line, up to its level. The reference's Print: a quota's line. The reference's Print: a client's line, up to its secret. The reference's Print: the quotas' lines. The reference's Print: the clients' lines. The reference's Print: the labels' lines. What the reference's Print answers: behind the names. What the reference's Print answers: what the program's does. What the laws' light tells: where it holds, no given name is long. -/
import Derived.Test.YtaeaakcppheaoaaDoorPp1
import Derived.Test.YtaeaakcppheaoaaDoorK2
import Derived.Test.YtaeaakcppheaoaaDoorPp2
import Derived.Test.YtaeaakcppheaoaaDoorKh
namespace Go.Proofs.YtaeaakcppheaoaaDoor
open Go.RowKit Go.Proofs.YtaeaakcppheaoaaDoorW.PrintWords Go.Maps

noncomputable def codeR (n : Nat) : Code := (Tryd.f23.body.bind (fromR n)).getD .skip
noncomputable def regR (n : Nat) : Code := (Tryd.f23.body.bind (findR n)).getD .skip
def ShortR (a : ByteArray) : Prop := a.size ≤ 200000
theorem catr_add (w : World) (a b : ByteArray) (ha : ShortR a) (hb : ShortR b) : (Op.stringOp .add a b).run Tryd.prog w = .ok (.string (cat a b)) w :=
  run_string_add_sum w _ _ (by unfold ShortR at ha hb; omega)
theorem digits_is (n : Nat) (w : World) (hn : n ≤ 9999) (t : ByteArray) (h : decS n = t) :
    Calls Tryd.prog 41 #[.int .i64 (n : Int)] w fun e w' => e = .returned (.string t) ∧ Below w.heap.size w w' := by
  rw [← h]; exact (digits_any (n + 1) n w (Nat.lt_succ_self _) hn).mono fun e w' ⟨he, hw⟩ => ⟨he, hw ▸ Below.refl _ _⟩
theorem refsecret_is (s : ByteArray) (w : World) (hs : s.size ≤ 4096) (t : ByteArray) (ht : ofL (secretL s.data.toList) = t) :
    Calls Tryd.prog 42 #[.string s] w fun e w' => e = .returned (.string t) ∧ Below w.heap.size w w' := by
  rw [← ht]; exact refsecret_any s w hs
end Go.Proofs.YtaeaakcppheaoaaDoor
namespace Go.Proofs.YtaeaakcppheaoaaDoor
open Go.RowKit Go.Proofs.YtaeaakcppheaoaaDoorW.PrintWords Go.Maps

section
attribute [local go_sem high] catr_add
set_option maxRecDepth 1000000 in
set_option maxHeartbeats 4000000 in
theorem rlab_write (W : World) (pb gr bn on nN cn g k : Nat) (a1 : Nat) (S x : ByteArray) (com : Int) (u0 u1 u3 u4 u5 u6 u8 u9 u13 u14 u15 u16 u17 u18 u19 u20 u21 u22 u23 u24 u25 u26 u27 u28 u29 u30 u31 u32 u33 u34 u35 u36 u37 u38 u39 u40 u41 u42 u43 u44 u45 u46 u47 u48 u49 u50 u51 u52 u53 u54 u55 u56 u57 u58 u59 u60 u61 u62 u63 u64 u65 u66 u67 u68 u69 u70 u71 u72 u73 u74 u75 u76 u77 u78 u79 u80 u81 u82 u83 u84 u85 u86 u87 u88 u89 u90 u91 u92 u93 u94 u95 u96 u97 u98 u99 u100 u101 u102 u103 u104 u105 u106 u107 u108 u109 u110 u111 u112 u113 u114 u115 u116 u117 u118 u119 u120 u121 u122 u123 u124 u125 u126 u127 u128 u129 u130 u131 u132 u133 u134 u135 u136 u137 u138 u139 u140 u141 u142 u143 u144 u145 u146 u147 u148 u149 u150 u151 u152 u153 u154 u155 u156 u157 u158 u159 u160 u161 u162 u163 u164 u165 u166 u167 u168 u169 u170 u171 : Value) (Q : Exit → Act → World → Prop)
    (hS : S.size ≤ 100000) (hx : x.size ≤ 12) (hm : (k : Int) < nN) (h_a1 : a1 ≤ 9999)
    (cn' : W.cell? ⟨gr, 3, none⟩ = some (.slice (some ⟨bn, on, none⟩) nN cn)) (cx : W.cell? ⟨bn, on + k, none⟩ = some (.string x)) (hg : Aside0 (W.heap[g]? = some (.cells #[.int .i64 a1, .int .u32 com] 66 (0, 0))))
    (hQ : ∀ (z71 z72 z73 z74 z75 z76 z77 z78 z79 z80 z81 z82 z83 z84 z85 : Value) (S2 : ByteArray) (w' : World), S2.data.toList = S.data.toList ++ (labH x a1) → Below W.heap.size W w' → Q .normal ⟨List.toArray (u0 :: u1 :: (.pointer (some ⟨pb, 0, none⟩)) :: u3 :: u4 :: u5 :: u6 :: (.pointer (some ⟨gr, 0, none⟩)) :: u8 :: u9 :: (.string S2) :: (.int .i64 k) :: (.pointer (some ⟨g, 0, none⟩)) :: u13 :: u14 :: u15 :: u16 :: u17 :: u18 :: u19 :: u20 :: u21 :: u22 :: u23 :: u24 :: u25 :: u26 :: u27 :: u28 :: u29 :: u30 :: u31 :: u32 :: u33 :: u34 :: u35 :: u36 :: u37 :: u38 :: u39 :: u40 :: u41 :: u42 :: u43 :: u44 :: u45 :: u46 :: u47 :: u48 :: u49 :: u50 :: u51 :: u52 :: u53 :: u54 :: u55 :: u56 :: u57 :: u58 :: u59 :: u60 :: u61 :: u62 :: u63 :: u64 :: u65 :: u66 :: u67 :: u68 :: u69 :: u70 :: z71 :: z72 :: z73 :: z74 :: z75 :: z76 :: z77 :: z78 :: z79 :: z80 :: z81 :: z82 :: z83 :: z84 :: z85 :: u86 :: u87 :: u88 :: u89 :: u90 :: u91 :: u92 :: u93 :: u94 :: u95 :: u96 :: u97 :: u98 :: u99 :: u100 :: u101 :: u102 :: u103 :: u104 :: u105 :: u106 :: u107 :: u108 :: u109 :: u110 :: u111 :: u112 :: u113 :: u114 :: u115 :: u116 :: u117 :: u118 :: u119 :: u120 :: u121 :: u122 :: u123 :: u124 :: u125 :: u126 :: u127 :: u128 :: u129 :: u130 :: u131 :: u132 :: u133 :: u134 :: u135 :: u136 :: u137 :: u138 :: u139 :: u140 :: u141 :: u142 :: u143 :: u144 :: u145 :: u146 :: u147 :: u148 :: u149 :: u150 :: u151 :: u152 :: u153 :: u154 :: u155 :: u156 :: u157 :: u158 :: u159 :: u160 :: u161 :: u162 :: u163 :: u164 :: u165 :: u166 :: u167 :: u168 :: u169 :: u170 :: u171 :: []), []⟩ w') :
    Code.wp Tryd.prog (regR 19) Q ⟨List.toArray (u0 :: u1 :: (.pointer (some ⟨pb, 0, none⟩)) :: u3 :: u4 :: u5 :: u6 :: (.pointer (some ⟨gr, 0, none⟩)) :: u8 :: u9 :: (.string S) :: (.int .i64 k) :: (.pointer (some ⟨g, 0, none⟩)) :: u13 :: u14 :: u15 :: u16 :: u17 :: u18 :: u19 :: u20 :: u21 :: u22 :: u23 :: u24 :: u25 :: u26 :: u27 :: u28 :: u29 :: u30 :: u31 :: u32 :: u33 :: u34 :: u35 :: u36 :: u37 :: u38 :: u39 :: u40 :: u41 :: u42 :: u43 :: u44 :: u45 :: u46 :: u47 :: u48 :: u49 :: u50 :: u51 :: u52 :: u53 :: u54 :: u55 :: u56 :: u57 :: u58 :: u59 :: u60 :: u61 :: u62 :: u63 :: u64 :: u65 :: u66 :: u67 :: u68 :: u69 :: u70 :: u71 :: u72 :: u73 :: u74 :: u75 :: u76 :: u77 :: u78 :: u79 :: u80 :: u81 :: u82 :: u83 :: u84 :: u85 :: u86 :: u87 :: u88 :: u89 :: u90 :: u91 :: u92 :: u93 :: u94 :: u95 :: u96 :: u97 :: u98 :: u99 :: u100 :: u101 :: u102 :: u103 :: u104 :: u105 :: u106 :: u107 :: u108 :: u109 :: u110 :: u111 :: u112 :: u113 :: u114 :: u115 :: u116 :: u117 :: u118 :: u119 :: u120 :: u121 :: u122 :: u123 :: u124 :: u125 :: u126 :: u127 :: u128 :: u129 :: u130 :: u131 :: u132 :: u133 :: u134 :: u135 :: u136 :: u137 :: u138 :: u139 :: u140 :: u141 :: u142 :: u143 :: u144 :: u145 :: u146 :: u147 :: u148 :: u149 :: u150 :: u151 :: u152 :: u153 :: u154 :: u155 :: u156 :: u157 :: u158 :: u159 :: u160 :: u161 :: u162 :: u163 :: u164 :: u165 :: u166 :: u167 :: u168 :: u169 :: u170 :: u171 :: []), []⟩ W := by
  obtain ⟨t1, ht1⟩ : ∃ t, decS a1 = t := ⟨_, rfl⟩
  have zt1 : t1.size ≤ 21 := by rw [← ht1]; exact decS_size a1 h_a1
  have dt1 : t1.data.toList = Lib.decDigits a1 := by rw [← ht1]; unfold decS; rw [ofL_data]
  have E_a1 := Aside0.mk ht1
  have s0 : ShortR S := by unfold ShortR; omega
  have s1 : ShortR ⟨#[108, 97, 98, 101, 108, 32]⟩ := by unfold ShortR; decide
  have s2 : ShortR (cat S ⟨#[108, 97, 98, 101, 108, 32]⟩) := by unfold ShortR; rw [cat_size]; show S.size + 6 ≤ 200000; omega
  have s3 : ShortR x := by unfold ShortR; omega
  have s4 : ShortR (cat (cat S ⟨#[108, 97, 98, 101, 108, 32]⟩) x) := by unfold ShortR; rw [cat_size, cat_size]; show S.size + 6 + x.size ≤ 200000; omega
  have s5 : ShortR ⟨#[32, 108, 101, 118, 101, 108, 32]⟩ := by unfold ShortR; decide
  have s6 : ShortR (cat (cat (cat S ⟨#[108, 97, 98, 101, 108, 32]⟩) x) ⟨#[32, 108, 101, 118, 101, 108, 32]⟩) := by unfold ShortR; rw [cat_size, cat_size, cat_size]; show S.size + 6 + x.size + 7 ≤ 200000; omega
  have s7 : ShortR t1 := by unfold ShortR; omega
  have HD := Aside0.mk (show (cat (cat (cat (cat S ⟨#[108, 97, 98, 101, 108, 32]⟩) x) ⟨#[32, 108, 101, 118, 101, 108, 32]⟩) t1).data.toList = S.data.toList ++ (labH x a1) by
    rw [cat_data, cat_data, cat_data, cat_data, dt1]
    unfold labH
    simp)
  have hm0 : (0 : Int) ≤ k := by omega
  have HQ := Aside0.mk hQ
  have l0 : ∀ n : Later W, n.w.cell? ⟨gr, 3, none⟩ = _ := later_cell cn'
  have l1 : ∀ n : Later W, n.w.cell? ⟨bn, on + k, none⟩ = _ := later_cell cx
  have b0 : ∀ n : Later W, n.w.cell? ⟨g, 0, none⟩ = some (.int .i64 a1) := later_cell (blk_cell hg.out 0)
  have b1 : ∀ n : Later W, n.w.cell? ⟨g, 1, none⟩ = some (.int .u32 com) := later_cell (blk_cell hg.out 1)
  clear hQ cn' cx ht1 dt1
  conv => arg 2; whnf
  refine wp_region_later (by kernel_rfl) (by kernel_rfl) ?_
  repeat (go_big_quiet_step (first | (with_reducible exact calls_later (digits_is a1 _ h_a1 t1 E_a1.out)) | fail))
  refine wpQuiet_nil (later_elim fun w2 hb2 => ?_)
  exact HQ.out _ _ _ _ _ _ _ _ _ _ _ _ _ _ _ _ w2 HD.out hb2
end
end Go.Proofs.YtaeaakcppheaoaaDoor
namespace Go.Proofs.YtaeaakcppheaoaaDoor
open Go.RowKit Go.Proofs.YtaeaakcppheaoaaDoorW.PrintWords Go.Maps

section
attribute [local go_sem high] catr_add
set_option maxRecDepth 1000000 in
set_option maxHeartbeats 4000000 in
theorem rquo_write (W : World) (pb gr bn on nN cn g k : Nat) (a1 a2 a3 : Nat) (S x : ByteArray) (u0 u1 u3 u4 u5 u6 u8 u9 u11 u12 u13 u14 u15 u18 u19 u20 u21 u22 u23 u24 u25 u26 u27 u28 u29 u30 u31 u32 u33 u34 u35 u36 u37 u38 u39 u40 u41 u42 u43 u44 u45 u46 u47 u48 u49 u50 u51 u52 u53 u54 u55 u56 u57 u58 u59 u60 u61 u62 u63 u64 u65 u66 u67 u68 u69 u70 u71 u72 u73 u74 u75 u76 u77 u78 u79 u80 u81 u82 u83 u84 u85 u86 u87 u88 u89 u90 u91 u92 u93 u94 u95 u96 u97 u98 u99 u100 u101 u102 u103 u104 u105 u106 u107 u108 u109 u110 u111 u112 u113 u114 u115 u116 u117 u118 u119 u120 u121 u122 u123 u124 u125 u126 u127 u128 u129 u130 u131 u132 u133 u134 u135 u136 u137 u138 u139 u140 u141 u142 u143 u144 u145 u146 u147 u148 u149 u150 u151 u152 u153 u154 u155 u156 u157 u158 u159 u160 u161 u162 u163 u164 u165 u166 u167 u168 u169 u170 u171 : Value) (Q : Exit → Act → World → Prop)
    (hS : S.size ≤ 100000) (hx : x.size ≤ 12) (hm : (k : Int) < nN) (h_a1 : a1 ≤ 9999) (h_a2 : a2 ≤ 9999) (h_a3 : a3 ≤ 9999)
    (cn' : W.cell? ⟨gr, 3, none⟩ = some (.slice (some ⟨bn, on, none⟩) nN cn)) (cx : W.cell? ⟨bn, on + k, none⟩ = some (.string x)) (hg : Aside0 (W.heap[g]? = some (.cells #[.int .i64 a1, .int .i64 a2, .int .i64 a3] 49 (0, 0))))
    (hQ : ∀ (z114 z115 z116 z117 z118 z119 z120 z121 z122 z123 z124 z125 z126 z127 z128 z129 z130 z131 z132 z133 z134 z135 z136 z137 z138 z139 : Value) (S2 : ByteArray) (w' : World), S2.data.toList = S.data.toList ++ (quoL x a1 a2 a3) → Below W.heap.size W w' → Q .normal ⟨List.toArray (u0 :: u1 :: (.pointer (some ⟨pb, 0, none⟩)) :: u3 :: u4 :: u5 :: u6 :: (.pointer (some ⟨gr, 0, none⟩)) :: u8 :: u9 :: (.string S2) :: u11 :: u12 :: u13 :: u14 :: u15 :: (.int .i64 k) :: (.pointer (some ⟨g, 0, none⟩)) :: u18 :: u19 :: u20 :: u21 :: u22 :: u23 :: u24 :: u25 :: u26 :: u27 :: u28 :: u29 :: u30 :: u31 :: u32 :: u33 :: u34 :: u35 :: u36 :: u37 :: u38 :: u39 :: u40 :: u41 :: u42 :: u43 :: u44 :: u45 :: u46 :: u47 :: u48 :: u49 :: u50 :: u51 :: u52 :: u53 :: u54 :: u55 :: u56 :: u57 :: u58 :: u59 :: u60 :: u61 :: u62 :: u63 :: u64 :: u65 :: u66 :: u67 :: u68 :: u69 :: u70 :: u71 :: u72 :: u73 :: u74 :: u75 :: u76 :: u77 :: u78 :: u79 :: u80 :: u81 :: u82 :: u83 :: u84 :: u85 :: u86 :: u87 :: u88 :: u89 :: u90 :: u91 :: u92 :: u93 :: u94 :: u95 :: u96 :: u97 :: u98 :: u99 :: u100 :: u101 :: u102 :: u103 :: u104 :: u105 :: u106 :: u107 :: u108 :: u109 :: u110 :: u111 :: u112 :: u113 :: z114 :: z115 :: z116 :: z117 :: z118 :: z119 :: z120 :: z121 :: z122 :: z123 :: z124 :: z125 :: z126 :: z127 :: z128 :: z129 :: z130 :: z131 :: z132 :: z133 :: z134 :: z135 :: z136 :: z137 :: z138 :: z139 :: u140 :: u141 :: u142 :: u143 :: u144 :: u145 :: u146 :: u147 :: u148 :: u149 :: u150 :: u151 :: u152 :: u153 :: u154 :: u155 :: u156 :: u157 :: u158 :: u159 :: u160 :: u161 :: u162 :: u163 :: u164 :: u165 :: u166 :: u167 :: u168 :: u169 :: u170 :: u171 :: []), []⟩ w') :
    Code.wp Tryd.prog (regR 35) Q ⟨List.toArray (u0 :: u1 :: (.pointer (some ⟨pb, 0, none⟩)) :: u3 :: u4 :: u5 :: u6 :: (.pointer (some ⟨gr, 0, none⟩)) :: u8 :: u9 :: (.string S) :: u11 :: u12 :: u13 :: u14 :: u15 :: (.int .i64 k) :: (.pointer (some ⟨g, 0, none⟩)) :: u18 :: u19 :: u20 :: u21 :: u22 :: u23 :: u24 :: u25 :: u26 :: u27 :: u28 :: u29 :: u30 :: u31 :: u32 :: u33 :: u34 :: u35 :: u36 :: u37 :: u38 :: u39 :: u40 :: u41 :: u42 :: u43 :: u44 :: u45 :: u46 :: u47 :: u48 :: u49 :: u50 :: u51 :: u52 :: u53 :: u54 :: u55 :: u56 :: u57 :: u58 :: u59 :: u60 :: u61 :: u62 :: u63 :: u64 :: u65 :: u66 :: u67 :: u68 :: u69 :: u70 :: u71 :: u72 :: u73 :: u74 :: u75 :: u76 :: u77 :: u78 :: u79 :: u80 :: u81 :: u82 :: u83 :: u84 :: u85 :: u86 :: u87 :: u88 :: u89 :: u90 :: u91 :: u92 :: u93 :: u94 :: u95 :: u96 :: u97 :: u98 :: u99 :: u100 :: u101 :: u102 :: u103 :: u104 :: u105 :: u106 :: u107 :: u108 :: u109 :: u110 :: u111 :: u112 :: u113 :: u114 :: u115 :: u116 :: u117 :: u118 :: u119 :: u120 :: u121 :: u122 :: u123 :: u124 :: u125 :: u126 :: u127 :: u128 :: u129 :: u130 :: u131 :: u132 :: u133 :: u134 :: u135 :: u136 :: u137 :: u138 :: u139 :: u140 :: u141 :: u142 :: u143 :: u144 :: u145 :: u146 :: u147 :: u148 :: u149 :: u150 :: u151 :: u152 :: u153 :: u154 :: u155 :: u156 :: u157 :: u158 :: u159 :: u160 :: u161 :: u162 :: u163 :: u164 :: u165 :: u166 :: u167 :: u168 :: u169 :: u170 :: u171 :: []), []⟩ W := by
  obtain ⟨t1, ht1⟩ : ∃ t, decS a1 = t := ⟨_, rfl⟩
  have zt1 : t1.size ≤ 21 := by rw [← ht1]; exact decS_size a1 h_a1
  have dt1 : t1.data.toList = Lib.decDigits a1 := by rw [← ht1]; unfold decS; rw [ofL_data]
  have E_a1 := Aside0.mk ht1
  obtain ⟨t2, ht2⟩ : ∃ t, decS a2 = t := ⟨_, rfl⟩
  have zt2 : t2.size ≤ 21 := by rw [← ht2]; exact decS_size a2 h_a2
  have dt2 : t2.data.toList = Lib.decDigits a2 := by rw [← ht2]; unfold decS; rw [ofL_data]
  have E_a2 := Aside0.mk ht2
  obtain ⟨t3, ht3⟩ : ∃ t, decS a3 = t := ⟨_, rfl⟩
  have zt3 : t3.size ≤ 21 := by rw [← ht3]; exact decS_size a3 h_a3
  have dt3 : t3.data.toList = Lib.decDigits a3 := by rw [← ht3]; unfold decS; rw [ofL_data]
  have E_a3 := Aside0.mk ht3
  have s0 : ShortR S := by unfold ShortR; omega
  have s1 : ShortR ⟨#[113, 117, 111, 116, 97, 32]⟩ := by unfold ShortR; decide
  have s2 : ShortR (cat S ⟨#[113, 117, 111, 116, 97, 32]⟩) := by unfold ShortR; rw [cat_size]; show S.size + 6 ≤ 200000; omega
  have s3 : ShortR x := by unfold ShortR; omega
  have s4 : ShortR (cat (cat S ⟨#[113, 117, 111, 116, 97, 32]⟩) x) := by unfold ShortR; rw [cat_size, cat_size]; show S.size + 6 + x.size ≤ 200000; omega
  have s5 : ShortR ⟨#[32, 99, 104, 97, 114, 115, 32]⟩ := by unfold ShortR; decide
  have s6 : ShortR (cat (cat (cat S ⟨#[113, 117, 111, 116, 97, 32]⟩) x) ⟨#[32, 99, 104, 97, 114, 115, 32]⟩) := by unfold ShortR; rw [cat_size, cat_size, cat_size]; show S.size + 6 + x.size + 7 ≤ 200000; omega
  have s7 : ShortR t1 := by unfold ShortR; omega
  have s8 : ShortR (cat (cat (cat (cat S ⟨#[113, 117, 111, 116, 97, 32]⟩) x) ⟨#[32, 99, 104, 97, 114, 115, 32]⟩) t1) := by unfold ShortR; rw [cat_size, cat_size, cat_size, cat_size]; show S.size + 6 + x.size + 7 + t1.size ≤ 200000; omega
  have s9 : ShortR ⟨#[32, 111, 112, 115, 32]⟩ := by unfold ShortR; decide
  have s10 : ShortR (cat (cat (cat (cat (cat S ⟨#[113, 117, 111, 116, 97, 32]⟩) x) ⟨#[32, 99, 104, 97, 114, 115, 32]⟩) t1) ⟨#[32, 111, 112, 115, 32]⟩) := by unfold ShortR; rw [cat_size, cat_size, cat_size, cat_size, cat_size]; show S.size + 6 + x.size + 7 + t1.size + 5 ≤ 200000; omega
  have s11 : ShortR t2 := by unfold ShortR; omega
  have s12 : ShortR (cat (cat (cat (cat (cat (cat S ⟨#[113, 117, 111, 116, 97, 32]⟩) x) ⟨#[32, 99, 104, 97, 114, 115, 32]⟩) t1) ⟨#[32, 111, 112, 115, 32]⟩) t2) := by unfold ShortR; rw [cat_size, cat_size, cat_size, cat_size, cat_size, cat_size]; show S.size + 6 + x.size + 7 + t1.size + 5 + t2.size ≤ 200000; omega
  have s13 : ShortR ⟨#[32, 115, 101, 97, 116, 115, 32]⟩ := by unfold ShortR; decide
  have s14 : ShortR (cat (cat (cat (cat (cat (cat (cat S ⟨#[113, 117, 111, 116, 97, 32]⟩) x) ⟨#[32, 99, 104, 97, 114, 115, 32]⟩) t1) ⟨#[32, 111, 112, 115, 32]⟩) t2) ⟨#[32, 115, 101, 97, 116, 115, 32]⟩) := by unfold ShortR; rw [cat_size, cat_size, cat_size, cat_size, cat_size, cat_size, cat_size]; show S.size + 6 + x.size + 7 + t1.size + 5 + t2.size + 7 ≤ 200000; omega
  have s15 : ShortR t3 := by unfold ShortR; omega
  have s16 : ShortR (cat (cat (cat (cat (cat (cat (cat (cat S ⟨#[113, 117, 111, 116, 97, 32]⟩) x) ⟨#[32, 99, 104, 97, 114, 115, 32]⟩) t1) ⟨#[32, 111, 112, 115, 32]⟩) t2) ⟨#[32, 115, 101, 97, 116, 115, 32]⟩) t3) := by unfold ShortR; rw [cat_size, cat_size, cat_size, cat_size, cat_size, cat_size, cat_size, cat_size]; show S.size + 6 + x.size + 7 + t1.size + 5 + t2.size + 7 + t3.size ≤ 200000; omega
  have s17 : ShortR ⟨#[10]⟩ := by unfold ShortR; decide
  have HD := Aside0.mk (show (cat (cat (cat (cat (cat (cat (cat (cat (cat S ⟨#[113, 117, 111, 116, 97, 32]⟩) x) ⟨#[32, 99, 104, 97, 114, 115, 32]⟩) t1) ⟨#[32, 111, 112, 115, 32]⟩) t2) ⟨#[32, 115, 101, 97, 116, 115, 32]⟩) t3) ⟨#[10]⟩).data.toList = S.data.toList ++ (quoL x a1 a2 a3) by
    rw [cat_data, cat_data, cat_data, cat_data, cat_data, cat_data, cat_data, cat_data, cat_data, dt1, dt2, dt3]
    unfold quoL
    simp)
  have hm0 : (0 : Int) ≤ k := by omega
  have HQ := Aside0.mk hQ
  have l0 : ∀ n : Later W, n.w.cell? ⟨gr, 3, none⟩ = _ := later_cell cn'
  have l1 : ∀ n : Later W, n.w.cell? ⟨bn, on + k, none⟩ = _ := later_cell cx
  have b0 : ∀ n : Later W, n.w.cell? ⟨g, 0, none⟩ = some (.int .i64 a1) := later_cell (blk_cell hg.out 0)
  have b1 : ∀ n : Later W, n.w.cell? ⟨g, 1, none⟩ = some (.int .i64 a2) := later_cell (blk_cell hg.out 1)
  have b2 : ∀ n : Later W, n.w.cell? ⟨g, 2, none⟩ = some (.int .i64 a3) := later_cell (blk_cell hg.out 2)
  clear hQ cn' cx ht1 dt1 ht2 dt2 ht3 dt3
  conv => arg 2; whnf
  refine wp_region_later (by kernel_rfl) (by kernel_rfl) ?_
  repeat (go_big_quiet_step (first | (with_reducible exact calls_later (digits_is a1 _ h_a1 t1 E_a1.out)) | (with_reducible exact calls_later (digits_is a2 _ h_a2 t2 E_a2.out)) | (with_reducible exact calls_later (digits_is a3 _ h_a3 t3 E_a3.out)) | fail))
  refine wpQuiet_nil (later_elim fun w2 hb2 => ?_)
  exact HQ.out _ _ _ _ _ _ _ _ _ _ _ _ _ _ _ _ _ _ _ _ _ _ _ _ _ _ _ w2 HD.out hb2
end
end Go.Proofs.YtaeaakcppheaoaaDoor
namespace Go.Proofs.YtaeaakcppheaoaaDoor
open Go.RowKit Go.Proofs.YtaeaakcppheaoaaDoorW.PrintWords Go.Maps

section
attribute [local go_sem high] catr_add
set_option maxRecDepth 1000000 in
set_option maxHeartbeats 4000000 in
theorem rent_write (W : World) (pb gr bn on nN cn g k : Nat) (S x : ByteArray) (sec : ByteArray) (down : Bool) (u0 u1 u3 u4 u5 u6 u8 u9 u11 u12 u13 u14 u15 u16 u17 u18 u20 u21 u22 u23 u24 u25 u26 u27 u28 u29 u30 u31 u32 u33 u34 u35 u36 u37 u38 u39 u40 u41 u42 u43 u44 u45 u46 u47 u48 u49 u50 u51 u52 u53 u54 u55 u56 u57 u58 u59 u60 u61 u62 u63 u64 u65 u66 u67 u68 u69 u70 u71 u72 u73 u74 u75 u76 u77 u78 u79 u80 u81 u82 u83 u84 u85 u86 u87 u88 u89 u90 u91 u92 u93 u94 u95 u96 u97 u98 u99 u100 u101 u102 u103 u104 u105 u106 u107 u108 u109 u110 u111 u112 u113 u114 u115 u116 u117 u118 u119 u120 u121 u122 u123 u124 u125 u126 u127 u128 u129 u130 u131 u132 u133 u134 u135 u136 u137 u138 u139 u140 u141 u142 u143 u144 u145 u146 u147 u148 u149 u150 u151 u152 u153 u154 u155 u156 u157 u158 u159 u160 u161 u162 u163 u164 u165 u166 u167 u168 u169 u170 u171 : Value) (Q : Exit → Act → World → Prop)
    (hS : S.size ≤ 100000) (hx : x.size ≤ 12) (hm : (k : Int) < nN) (hs : sec.size ≤ 16)
    (cn' : W.cell? ⟨gr, 3, none⟩ = some (.slice (some ⟨bn, on, none⟩) nN cn)) (cx : W.cell? ⟨bn, on + k, none⟩ = some (.string x)) (hg : Aside0 (W.heap[g]? = some (.cells #[.int .i64 k, .string sec, .bool down] 51 (0, 0))))
    (hQ : ∀ (z148 z149 z150 z151 z152 z153 z154 z155 z156 z157 z158 z159 z160 z161 z162 z163 : Value) (S2 : ByteArray) (w' : World), S2.data.toList = S.data.toList ++ (entH x sec) → Below W.heap.size W w' → Q .normal ⟨List.toArray (u0 :: u1 :: (.pointer (some ⟨pb, 0, none⟩)) :: u3 :: u4 :: u5 :: u6 :: (.pointer (some ⟨gr, 0, none⟩)) :: u8 :: u9 :: (.string S2) :: u11 :: u12 :: u13 :: u14 :: u15 :: u16 :: u17 :: u18 :: (.pointer (some ⟨g, 0, none⟩)) :: u20 :: u21 :: u22 :: u23 :: u24 :: u25 :: u26 :: u27 :: u28 :: u29 :: u30 :: u31 :: u32 :: u33 :: u34 :: u35 :: u36 :: u37 :: u38 :: u39 :: u40 :: u41 :: u42 :: u43 :: u44 :: u45 :: u46 :: u47 :: u48 :: u49 :: u50 :: u51 :: u52 :: u53 :: u54 :: u55 :: u56 :: u57 :: u58 :: u59 :: u60 :: u61 :: u62 :: u63 :: u64 :: u65 :: u66 :: u67 :: u68 :: u69 :: u70 :: u71 :: u72 :: u73 :: u74 :: u75 :: u76 :: u77 :: u78 :: u79 :: u80 :: u81 :: u82 :: u83 :: u84 :: u85 :: u86 :: u87 :: u88 :: u89 :: u90 :: u91 :: u92 :: u93 :: u94 :: u95 :: u96 :: u97 :: u98 :: u99 :: u100 :: u101 :: u102 :: u103 :: u104 :: u105 :: u106 :: u107 :: u108 :: u109 :: u110 :: u111 :: u112 :: u113 :: u114 :: u115 :: u116 :: u117 :: u118 :: u119 :: u120 :: u121 :: u122 :: u123 :: u124 :: u125 :: u126 :: u127 :: u128 :: u129 :: u130 :: u131 :: u132 :: u133 :: u134 :: u135 :: u136 :: u137 :: u138 :: u139 :: u140 :: u141 :: u142 :: u143 :: u144 :: u145 :: u146 :: u147 :: z148 :: z149 :: z150 :: z151 :: z152 :: z153 :: z154 :: z155 :: z156 :: z157 :: z158 :: z159 :: z160 :: z161 :: z162 :: z163 :: u164 :: u165 :: u166 :: u167 :: u168 :: u169 :: u170 :: u171 :: []), []⟩ w') :
    Code.wp Tryd.prog (regR 40) Q ⟨List.toArray (u0 :: u1 :: (.pointer (some ⟨pb, 0, none⟩)) :: u3 :: u4 :: u5 :: u6 :: (.pointer (some ⟨gr, 0, none⟩)) :: u8 :: u9 :: (.string S) :: u11 :: u12 :: u13 :: u14 :: u15 :: u16 :: u17 :: u18 :: (.pointer (some ⟨g, 0, none⟩)) :: u20 :: u21 :: u22 :: u23 :: u24 :: u25 :: u26 :: u27 :: u28 :: u29 :: u30 :: u31 :: u32 :: u33 :: u34 :: u35 :: u36 :: u37 :: u38 :: u39 :: u40 :: u41 :: u42 :: u43 :: u44 :: u45 :: u46 :: u47 :: u48 :: u49 :: u50 :: u51 :: u52 :: u53 :: u54 :: u55 :: u56 :: u57 :: u58 :: u59 :: u60 :: u61 :: u62 :: u63 :: u64 :: u65 :: u66 :: u67 :: u68 :: u69 :: u70 :: u71 :: u72 :: u73 :: u74 :: u75 :: u76 :: u77 :: u78 :: u79 :: u80 :: u81 :: u82 :: u83 :: u84 :: u85 :: u86 :: u87 :: u88 :: u89 :: u90 :: u91 :: u92 :: u93 :: u94 :: u95 :: u96 :: u97 :: u98 :: u99 :: u100 :: u101 :: u102 :: u103 :: u104 :: u105 :: u106 :: u107 :: u108 :: u109 :: u110 :: u111 :: u112 :: u113 :: u114 :: u115 :: u116 :: u117 :: u118 :: u119 :: u120 :: u121 :: u122 :: u123 :: u124 :: u125 :: u126 :: u127 :: u128 :: u129 :: u130 :: u131 :: u132 :: u133 :: u134 :: u135 :: u136 :: u137 :: u138 :: u139 :: u140 :: u141 :: u142 :: u143 :: u144 :: u145 :: u146 :: u147 :: u148 :: u149 :: u150 :: u151 :: u152 :: u153 :: u154 :: u155 :: u156 :: u157 :: u158 :: u159 :: u160 :: u161 :: u162 :: u163 :: u164 :: u165 :: u166 :: u167 :: u168 :: u169 :: u170 :: u171 :: []), []⟩ W := by
  obtain ⟨t, ht⟩ : ∃ t, ofL (secretL sec.data.toList) = t := ⟨_, rfl⟩
  have zt : t.size ≤ 48 := by
    rw [← ht, Lib.size_eq, ofL_data]
    have := secretL_len sec.data.toList
    rw [← Lib.size_eq] at this; omega
  have dt : t.data.toList = secretL sec.data.toList := by rw [← ht, ofL_data]
  have HT := Aside0.mk ht
  have s0 : ShortR S := by unfold ShortR; omega
  have s1 : ShortR ⟨#[99, 108, 105, 101, 110, 116, 32]⟩ := by unfold ShortR; decide
  have s2 : ShortR (cat S ⟨#[99, 108, 105, 101, 110, 116, 32]⟩) := by unfold ShortR; rw [cat_size]; show S.size + 7 ≤ 200000; omega
  have s3 : ShortR x := by unfold ShortR; omega
  have s4 : ShortR (cat (cat S ⟨#[99, 108, 105, 101, 110, 116, 32]⟩) x) := by unfold ShortR; rw [cat_size, cat_size]; show S.size + 7 + x.size ≤ 200000; omega
  have s5 : ShortR ⟨#[32, 115, 101, 99, 114, 101, 116, 32]⟩ := by unfold ShortR; decide
  have s6 : ShortR (cat (cat (cat S ⟨#[99, 108, 105, 101, 110, 116, 32]⟩) x) ⟨#[32, 115, 101, 99, 114, 101, 116, 32]⟩) := by unfold ShortR; rw [cat_size, cat_size, cat_size]; show S.size + 7 + x.size + 8 ≤ 200000; omega
  have s7 : ShortR t := by unfold ShortR; omega
  have HD := Aside0.mk (show (cat (cat (cat (cat S ⟨#[99, 108, 105, 101, 110, 116, 32]⟩) x) ⟨#[32, 115, 101, 99, 114, 101, 116, 32]⟩) t).data.toList = S.data.toList ++ (entH x sec) by
    rw [cat_data, cat_data, cat_data, cat_data, dt]
    unfold entH
    simp)
  have hm0 : (0 : Int) ≤ k := by omega
  have HQ := Aside0.mk hQ
  have l0 : ∀ n : Later W, n.w.cell? ⟨gr, 3, none⟩ = _ := later_cell cn'
  have l1 : ∀ n : Later W, n.w.cell? ⟨bn, on + k, none⟩ = _ := later_cell cx
  have b0 : ∀ n : Later W, n.w.cell? ⟨g, 0, none⟩ = some (.int .i64 k) := later_cell (blk_cell hg.out 0)
  have b1 : ∀ n : Later W, n.w.cell? ⟨g, 1, none⟩ = some (.string sec) := later_cell (blk_cell hg.out 1)
  have b2 : ∀ n : Later W, n.w.cell? ⟨g, 2, none⟩ = some (.bool down) := later_cell (blk_cell hg.out 2)
  clear hQ cn' cx 
  conv => arg 2; whnf
  refine wp_region_later (by kernel_rfl) (by kernel_rfl) ?_
  repeat (go_big_quiet_step (first | (with_reducible exact calls_later (refsecret_is sec _ (by omega) t HT.out)) | fail))
  refine wpQuiet_nil (later_elim fun w2 hb2 => ?_)
  exact HQ.out _ _ _ _ _ _ _ _ _ _ _ _ _ _ _ _ _ w2 HD.out hb2
end
end Go.Proofs.YtaeaakcppheaoaaDoor
namespace Go.Proofs.YtaeaakcppheaoaaDoor
open Go.RowKit Go.Proofs.YtaeaakcppheaoaaDoorW.PrintWords Go.Maps

section
attribute [local go_sem high] catr_add
set_option maxRecDepth 1000000 in
set_option maxHeartbeats 8000000 in
theorem rquos_part (p : Pol) (N : List ByteArray) (wL W : World) (A0 A1 A2 : Option Addr) (c0 c1 c2 cn pb gr bn on : Nat) (T : List UInt8) (S : ByteArray) (u0 u1 u3 u4 u5 u6 u8 u9 u11 u12 u13 u14 u15 u16 u17 u18 u19 u20 u21 u22 u23 u24 u25 u26 u27 u28 u29 u30 u31 u32 u33 u34 u35 u36 u37 u38 u39 u40 u41 u42 u43 u44 u45 u46 u47 u48 u49 u50 u51 u52 u53 u54 u55 u56 u57 u58 u59 u60 u61 u62 u63 u64 u65 u66 u67 u68 u69 u70 u71 u72 u73 u74 u75 u76 u77 u78 u79 u80 u81 u82 u83 u84 u85 u86 u87 u88 u89 u90 u91 u92 u93 u94 u95 u96 u97 u98 u99 u100 u101 u102 u103 u104 u105 u106 u107 u108 u109 u110 u111 u112 u113 u114 u115 u116 u117 u118 u119 u120 u121 u122 u123 u124 u125 u126 u127 u128 u129 u130 u131 u132 u133 u134 u135 u136 u137 u138 u139 u140 u141 u142 u143 u144 u145 u146 u147 u148 u149 u150 u151 u152 u153 u154 u155 u156 u157 u158 u159 u160 u161 u162 u163 u164 u165 u166 u167 u168 u169 u170 u171 : Value) (K : Act → World → Prop) (Q1 : Exit → Act → World → Prop)
    (HL : Aside0 (PrL p N wL pb A0 A1 A2 (some ⟨bn, on, none⟩) c0 c1 c2 cn)) (HNC : Aside0 (wL.cell? ⟨gr, 3, none⟩ = some (.slice (some ⟨bn, on, none⟩) N.length cn))) (HB : Aside0 (Below wL.heap.size wL W)) (HS : Aside0 (S.data.toList = T)) (hT : T.length ≤ 40000)
    (hQ : ∀ (z16 z17 z106 z107 z108 z109 z110 z111 z112 z113 z114 z115 z116 z117 z118 z119 z120 z121 z122 z123 z124 z125 z126 z127 z128 z129 z130 z131 z132 z133 z134 z135 z136 z137 z138 z139 z140 : Value) (S2 : ByteArray) (w' : World), S2.data.toList = T ++ quosT N p.quotas p.quotas.length → Below wL.heap.size wL w' → Q1 .normal ⟨List.toArray (u0 :: u1 :: (.pointer (some ⟨pb, 0, none⟩)) :: u3 :: u4 :: u5 :: u6 :: (.pointer (some ⟨gr, 0, none⟩)) :: u8 :: u9 :: (.string S2) :: u11 :: u12 :: u13 :: u14 :: u15 :: z16 :: z17 :: u18 :: u19 :: u20 :: u21 :: u22 :: u23 :: u24 :: u25 :: u26 :: u27 :: u28 :: u29 :: u30 :: u31 :: u32 :: u33 :: u34 :: u35 :: u36 :: u37 :: u38 :: u39 :: u40 :: u41 :: u42 :: u43 :: u44 :: u45 :: u46 :: u47 :: u48 :: u49 :: u50 :: u51 :: u52 :: u53 :: u54 :: u55 :: u56 :: u57 :: u58 :: u59 :: u60 :: u61 :: u62 :: u63 :: u64 :: u65 :: u66 :: u67 :: u68 :: u69 :: u70 :: u71 :: u72 :: u73 :: u74 :: u75 :: u76 :: u77 :: u78 :: u79 :: u80 :: u81 :: u82 :: u83 :: u84 :: u85 :: u86 :: u87 :: u88 :: u89 :: u90 :: u91 :: u92 :: u93 :: u94 :: u95 :: u96 :: u97 :: u98 :: u99 :: u100 :: u101 :: u102 :: u103 :: u104 :: u105 :: z106 :: z107 :: z108 :: z109 :: z110 :: z111 :: z112 :: z113 :: z114 :: z115 :: z116 :: z117 :: z118 :: z119 :: z120 :: z121 :: z122 :: z123 :: z124 :: z125 :: z126 :: z127 :: z128 :: z129 :: z130 :: z131 :: z132 :: z133 :: z134 :: z135 :: z136 :: z137 :: z138 :: z139 :: z140 :: u141 :: u142 :: u143 :: u144 :: u145 :: u146 :: u147 :: u148 :: u149 :: u150 :: u151 :: u152 :: u153 :: u154 :: u155 :: u156 :: u157 :: u158 :: u159 :: u160 :: u161 :: u162 :: u163 :: u164 :: u165 :: u166 :: u167 :: u168 :: u169 :: u170 :: u171 :: []), []⟩ w')
    (hK : ∀ a w, Code.wp Tryd.prog (restC (codeR 32)) Q1 a w → K a w) :
    Code.wp Tryd.prog (regR 32) (Exit.then K Q1) ⟨List.toArray (u0 :: u1 :: (.pointer (some ⟨pb, 0, none⟩)) :: u3 :: u4 :: u5 :: u6 :: (.pointer (some ⟨gr, 0, none⟩)) :: u8 :: u9 :: (.string S) :: u11 :: u12 :: u13 :: u14 :: u15 :: u16 :: u17 :: u18 :: u19 :: u20 :: u21 :: u22 :: u23 :: u24 :: u25 :: u26 :: u27 :: u28 :: u29 :: u30 :: u31 :: u32 :: u33 :: u34 :: u35 :: u36 :: u37 :: u38 :: u39 :: u40 :: u41 :: u42 :: u43 :: u44 :: u45 :: u46 :: u47 :: u48 :: u49 :: u50 :: u51 :: u52 :: u53 :: u54 :: u55 :: u56 :: u57 :: u58 :: u59 :: u60 :: u61 :: u62 :: u63 :: u64 :: u65 :: u66 :: u67 :: u68 :: u69 :: u70 :: u71 :: u72 :: u73 :: u74 :: u75 :: u76 :: u77 :: u78 :: u79 :: u80 :: u81 :: u82 :: u83 :: u84 :: u85 :: u86 :: u87 :: u88 :: u89 :: u90 :: u91 :: u92 :: u93 :: u94 :: u95 :: u96 :: u97 :: u98 :: u99 :: u100 :: u101 :: u102 :: u103 :: u104 :: u105 :: u106 :: u107 :: u108 :: u109 :: u110 :: u111 :: u112 :: u113 :: u114 :: u115 :: u116 :: u117 :: u118 :: u119 :: u120 :: u121 :: u122 :: u123 :: u124 :: u125 :: u126 :: u127 :: u128 :: u129 :: u130 :: u131 :: u132 :: u133 :: u134 :: u135 :: u136 :: u137 :: u138 :: u139 :: u140 :: u141 :: u142 :: u143 :: u144 :: u145 :: u146 :: u147 :: u148 :: u149 :: u150 :: u151 :: u152 :: u153 :: u154 :: u155 :: u156 :: u157 :: u158 :: u159 :: u160 :: u161 :: u162 :: u163 :: u164 :: u165 :: u166 :: u167 :: u168 :: u169 :: u170 :: u171 :: []), []⟩ W := by
  have HK := Aside0.mk hK
  have HQ := Aside0.mk hQ
  clear hK hQ
  have hbw := blk_below HL.out.box HB.out
  have g1 := blk_cell hbw 1
  have hqn : p.quotas.length ≤ 32 := by rw [HL.out.fine.q]; exact HL.out.fine.n
  have hfine := Aside0.mk HL.out.fine
  have hN := Aside0.mk HL.out.words
  have HLn := Aside0.mk HL.out.len
  have HLq := Aside0.mk HL.out.fine.q
  have hpbw : pb < W.heap.size := blk_lt hbw
  have hnm : p.quotas.length ≤ 9223372036854775807 := by omega
  clear hbw
  conv => arg 2; whnf
  go_wp2
  refine HK.out _ _ ?_
  clear g1
  conv => arg 2; whnf
  go_wp2
  go_loopw [109, 10] (fun i v wr => ∃ (k : Nat) (S1 : ByteArray), k ≤ p.quotas.length ∧ i = .int .i64 k ∧ v = .string S1 ∧ Aside0 (S1.data.toList = T ++ quosT N p.quotas k) ∧ Aside0 (Below wL.heap.size wL wr)) (fun i _ _ => p.quotas.length - (intOf i).toNat)
  case atStart => exact ⟨0, S, Nat.zero_le _, rfl, rfl, ⟨by rw [HS.out, show quosT N p.quotas 0 = [] from rfl, List.append_nil]⟩, HB⟩
  case round =>
    obtain ⟨k, S1, hk, rfl, rfl, HS1, HBr⟩ := hrel
    have hS1 : S1.size ≤ 99000 := by
      rw [Lib.size_eq, HS1.out, List.length_append]
      have := quosT_len (l := p.quotas) hN.out hfine.out.quo k hk
      omega
    by_cases hlt : k < p.quotas.length
    · obtain ⟨be, oe, rfl, e0, e1, e2⟩ := quo_at (Kd.C_below HL.out.C1 HBr.out) k hlt
      have HST := Aside0.mk (quosT_step N p.quotas k hlt)
      obtain ⟨qn, hqn2⟩ : ∃ qn, qn = p.quotas[k] := ⟨_, rfl⟩
      have hfe := quotaB_yes _ (hfine.out.quo p.quotas[k] (List.getElem_mem hlt))
      rw [← hqn2] at e0 e1 e2 HST hfe
      clear hqn2
      obtain ⟨ch, op, se⟩ := qn
      simp only at e0 e1 e2 hfe
      obtain ⟨f1, f2, f3, f4, f5, f6⟩ := hfe
      obtain ⟨a1, rfl⟩ := Int.eq_ofNat_of_zero_le f1
      obtain ⟨a2, rfl⟩ := Int.eq_ofNat_of_zero_le f3
      obtain ⟨a3, rfl⟩ := Int.eq_ofNat_of_zero_le f5
      have hmN : k < N.length := by rw [HLn.out]; rw [← HLq.out]; exact hlt
      obtain ⟨bn2, on2, hA, cx⟩ := str_at (Kd.C_below HL.out.CN HBr.out) k hmN
      injection hA with hA
      injection hA with q1 q2
      subst q1 q2
      have cnm := pw_cell_below HBr.out HNC.out
      obtain ⟨x, hx⟩ : ∃ x, x = N[k] := ⟨_, rfl⟩
      have hxs : x.size ≤ 12 := by rw [hx]; exact hN.out _ (List.getElem_mem hmN)
      have HS2 := Aside0.mk (show quosT N p.quotas (k + 1) = quosT N p.quotas k ++ quoL x a1 a2 a3 by
        rw [HST.out]
        unfold quoT
        simp only [Int.toNat_natCast]
        rw [rd_getElem N _ k hmN, ← hx]
        rfl)
      rw [← hx] at cx
      have hlbe : be < wr.heap.size := World.block_lt_of_cell? _ _ e0
      have hlr : gr < wr.heap.size := World.block_lt_of_cell? _ _ cnm
      clear hx HST
      go_upto_region 35 with (fail)
      have hBx : Below wr.heap.size wr (wr.alloc (.cells #[.int .i64 a1, .int .i64 a2, .int .i64 a3] 49)) := (Below.refl _ _).alloc (Nat.le_refl _) _
      refine rquo_write _ pb gr bn on N.length cn wr.heap.size k a1 a2 a3 S1 x _ _ _ _ _ _ _ _ _ _ _ _ _ _ _ _ _ _ _ _ _ _ _ _ _ _ _ _ _ _ _ _ _ _ _ _ _ _ _ _ _ _ _ _ _ _ _ _ _ _ _ _ _ _ _ _ _ _ _ _ _ _ _ _ _ _ _ _ _ _ _ _ _ _ _ _ _ _ _ _ _ _ _ _ _ _ _ _ _ _ _ _ _ _ _ _ _ _ _ _ _ _ _ _ _ _ _ _ _ _ _ _ _ _ _ _ _ _ _ _ _ _ _ _ _ _ _ _ _ _ _ _ _ _ _ _ _ _ _ _ _ _ _ _ _ _ _ _ _ _ _ _ _ _ _ _ _ _ _ _ _ _ _ _ _ _ _ _ (by omega) hxs (by omega) (by omega) (by omega) (by omega) (pw_cell_below hBx cnm) (pw_cell_below hBx cx) ⟨blk_new _ _⟩ ?_
      intro z114 z115 z116 z117 z118 z119 z120 z121 z122 z123 z124 z125 z126 z127 z128 z129 z130 z131 z132 z133 z134 z135 z136 z137 z138 z139 S2 wc hSd hbc
      have HBc := Aside0.mk (below_step HBr.out (below_step hBx hbc))
      have HSd := Aside0.mk hSd
      clear hSd hbc hBx e0 e1 e2 cx cnm
      go_wp2
      go_roundw
      case rel =>
        have HF := Aside0.mk (show S2.data.toList = T ++ quosT N p.quotas (k + 1) by
          rw [HSd.out, HS1.out, HS2.out]
          simp)
        first
        | exact ⟨k + 1, _, by omega, by go_num, rfl, HF, HBc⟩
        | ((repeat apply Exists.intro); exact ⟨⟨k + 1, _, by omega, by go_num, rfl, HF, HBc⟩, rfl⟩)
      case measure => simp [intOf]; omega
    · have hkn : k = p.quotas.length := by omega
      subst hkn
      have HF := Aside0.mk HS1.out
      go_wp2
      exact HQ.out _ _ _ _ _ _ _ _ _ _ _ _ _ _ _ _ _ _ _ _ _ _ _ _ _ _ _ _ _ _ _ _ _ _ _ _ _ S1 _ HF.out HBr.out
end
end Go.Proofs.YtaeaakcppheaoaaDoor
namespace Go.Proofs.YtaeaakcppheaoaaDoor
open Go.RowKit Go.Proofs.YtaeaakcppheaoaaDoorW.PrintWords Go.Maps

section
attribute [local go_sem high] catr_add
set_option maxRecDepth 1000000 in
set_option maxHeartbeats 8000000 in
theorem rents_part (p : Pol) (N : List ByteArray) (wL W : World) (A0 A1 A2 : Option Addr) (c0 c1 c2 cn pb gr bn on : Nat) (T : List UInt8) (S : ByteArray) (u0 u1 u3 u4 u5 u6 u8 u9 u11 u12 u13 u14 u15 u16 u17 u18 u19 u20 u21 u22 u23 u24 u25 u26 u27 u28 u29 u30 u31 u32 u33 u34 u35 u36 u37 u38 u39 u40 u41 u42 u43 u44 u45 u46 u47 u48 u49 u50 u51 u52 u53 u54 u55 u56 u57 u58 u59 u60 u61 u62 u63 u64 u65 u66 u67 u68 u69 u70 u71 u72 u73 u74 u75 u76 u77 u78 u79 u80 u81 u82 u83 u84 u85 u86 u87 u88 u89 u90 u91 u92 u93 u94 u95 u96 u97 u98 u99 u100 u101 u102 u103 u104 u105 u106 u107 u108 u109 u110 u111 u112 u113 u114 u115 u116 u117 u118 u119 u120 u121 u122 u123 u124 u125 u126 u127 u128 u129 u130 u131 u132 u133 u134 u135 u136 u137 u138 u139 u140 u141 u142 u143 u144 u145 u146 u147 u148 u149 u150 u151 u152 u153 u154 u155 u156 u157 u158 u159 u160 u161 u162 u163 u164 u165 u166 u167 u168 u169 u170 u171 : Value) (K : Act → World → Prop) (Q1 : Exit → Act → World → Prop)
    (HL : Aside0 (PrL p N wL pb A0 A1 A2 (some ⟨bn, on, none⟩) c0 c1 c2 cn)) (HNC : Aside0 (wL.cell? ⟨gr, 3, none⟩ = some (.slice (some ⟨bn, on, none⟩) N.length cn))) (HB : Aside0 (Below wL.heap.size wL W)) (HS : Aside0 (S.data.toList = T)) (hT : T.length ≤ 90000)
    (hQ : ∀ (z19 z141 z142 z143 z144 z145 z146 z147 z148 z149 z150 z151 z152 z153 z154 z155 z156 z157 z158 z159 z160 z161 z162 z163 z164 z165 z166 z167 z168 z169 z170 : Value) (S2 : ByteArray) (w' : World), S2.data.toList = T ++ entsT N p.entries p.entries.length → Below wL.heap.size wL w' → Q1 .normal ⟨List.toArray (u0 :: u1 :: (.pointer (some ⟨pb, 0, none⟩)) :: u3 :: u4 :: u5 :: u6 :: (.pointer (some ⟨gr, 0, none⟩)) :: u8 :: u9 :: (.string S2) :: u11 :: u12 :: u13 :: u14 :: u15 :: u16 :: u17 :: u18 :: z19 :: u20 :: u21 :: u22 :: u23 :: u24 :: u25 :: u26 :: u27 :: u28 :: u29 :: u30 :: u31 :: u32 :: u33 :: u34 :: u35 :: u36 :: u37 :: u38 :: u39 :: u40 :: u41 :: u42 :: u43 :: u44 :: u45 :: u46 :: u47 :: u48 :: u49 :: u50 :: u51 :: u52 :: u53 :: u54 :: u55 :: u56 :: u57 :: u58 :: u59 :: u60 :: u61 :: u62 :: u63 :: u64 :: u65 :: u66 :: u67 :: u68 :: u69 :: u70 :: u71 :: u72 :: u73 :: u74 :: u75 :: u76 :: u77 :: u78 :: u79 :: u80 :: u81 :: u82 :: u83 :: u84 :: u85 :: u86 :: u87 :: u88 :: u89 :: u90 :: u91 :: u92 :: u93 :: u94 :: u95 :: u96 :: u97 :: u98 :: u99 :: u100 :: u101 :: u102 :: u103 :: u104 :: u105 :: u106 :: u107 :: u108 :: u109 :: u110 :: u111 :: u112 :: u113 :: u114 :: u115 :: u116 :: u117 :: u118 :: u119 :: u120 :: u121 :: u122 :: u123 :: u124 :: u125 :: u126 :: u127 :: u128 :: u129 :: u130 :: u131 :: u132 :: u133 :: u134 :: u135 :: u136 :: u137 :: u138 :: u139 :: u140 :: z141 :: z142 :: z143 :: z144 :: z145 :: z146 :: z147 :: z148 :: z149 :: z150 :: z151 :: z152 :: z153 :: z154 :: z155 :: z156 :: z157 :: z158 :: z159 :: z160 :: z161 :: z162 :: z163 :: z164 :: z165 :: z166 :: z167 :: z168 :: z169 :: z170 :: u171 :: []), []⟩ w')
    (hK : ∀ a w, Code.wp Tryd.prog (restC (codeR 37)) Q1 a w → K a w) :
    Code.wp Tryd.prog (regR 37) (Exit.then K Q1) ⟨List.toArray (u0 :: u1 :: (.pointer (some ⟨pb, 0, none⟩)) :: u3 :: u4 :: u5 :: u6 :: (.pointer (some ⟨gr, 0, none⟩)) :: u8 :: u9 :: (.string S) :: u11 :: u12 :: u13 :: u14 :: u15 :: u16 :: u17 :: u18 :: u19 :: u20 :: u21 :: u22 :: u23 :: u24 :: u25 :: u26 :: u27 :: u28 :: u29 :: u30 :: u31 :: u32 :: u33 :: u34 :: u35 :: u36 :: u37 :: u38 :: u39 :: u40 :: u41 :: u42 :: u43 :: u44 :: u45 :: u46 :: u47 :: u48 :: u49 :: u50 :: u51 :: u52 :: u53 :: u54 :: u55 :: u56 :: u57 :: u58 :: u59 :: u60 :: u61 :: u62 :: u63 :: u64 :: u65 :: u66 :: u67 :: u68 :: u69 :: u70 :: u71 :: u72 :: u73 :: u74 :: u75 :: u76 :: u77 :: u78 :: u79 :: u80 :: u81 :: u82 :: u83 :: u84 :: u85 :: u86 :: u87 :: u88 :: u89 :: u90 :: u91 :: u92 :: u93 :: u94 :: u95 :: u96 :: u97 :: u98 :: u99 :: u100 :: u101 :: u102 :: u103 :: u104 :: u105 :: u106 :: u107 :: u108 :: u109 :: u110 :: u111 :: u112 :: u113 :: u114 :: u115 :: u116 :: u117 :: u118 :: u119 :: u120 :: u121 :: u122 :: u123 :: u124 :: u125 :: u126 :: u127 :: u128 :: u129 :: u130 :: u131 :: u132 :: u133 :: u134 :: u135 :: u136 :: u137 :: u138 :: u139 :: u140 :: u141 :: u142 :: u143 :: u144 :: u145 :: u146 :: u147 :: u148 :: u149 :: u150 :: u151 :: u152 :: u153 :: u154 :: u155 :: u156 :: u157 :: u158 :: u159 :: u160 :: u161 :: u162 :: u163 :: u164 :: u165 :: u166 :: u167 :: u168 :: u169 :: u170 :: u171 :: []), []⟩ W := by
  have HK := Aside0.mk hK
  have HQ := Aside0.mk hQ
  clear hK hQ
  have hbw := blk_below HL.out.box HB.out
  have g1 := blk_cell hbw 2
  have hqn : p.entries.length ≤ 8 := HL.out.fine.e
  have hfine := Aside0.mk HL.out.fine
  have hN := Aside0.mk HL.out.words
  have HLn := Aside0.mk HL.out.len
  have HLq := Aside0.mk HL.out.fine.q
  have hpbw : pb < W.heap.size := blk_lt hbw
  have hnm : p.entries.length ≤ 9223372036854775807 := by omega
  clear hbw
  conv => arg 2; whnf
  go_wp2
  refine HK.out _ _ ?_
  clear g1
  conv => arg 2; whnf
  go_wp2
  go_loopw [144, 10] (fun i v wr => ∃ (k : Nat) (S1 : ByteArray), k ≤ p.entries.length ∧ i = .int .i64 k ∧ v = .string S1 ∧ Aside0 (S1.data.toList = T ++ entsT N p.entries k) ∧ Aside0 (Below wL.heap.size wL wr)) (fun i _ _ => p.entries.length - (intOf i).toNat)
  case atStart => exact ⟨0, S, Nat.zero_le _, rfl, rfl, ⟨by rw [HS.out, show entsT N p.entries 0 = [] from rfl, List.append_nil]⟩, HB⟩
  case round =>
    obtain ⟨k, S1, hk, rfl, rfl, HS1, HBr⟩ := hrel
    have hS1 : S1.size ≤ 99000 := by
      rw [Lib.size_eq, HS1.out, List.length_append]
      have := entsT_len (l := p.entries) hN.out (fun x hx => (hfine.out.ent x hx).2.2.2) k hk
      omega
    by_cases hlt : k < p.entries.length
    · obtain ⟨be, oe, rfl, e0, e1, e2⟩ := ent_at (Kd.C_below HL.out.C2 HBr.out) k hlt
      have HST := Aside0.mk (entsT_step N p.entries k hlt)
      obtain ⟨en, hen2⟩ : ∃ en, en = p.entries[k] := ⟨_, rfl⟩
      have hfe := hfine.out.ent p.entries[k] (List.getElem_mem hlt)
      rw [← hen2] at e0 e1 e2 HST hfe
      clear hen2
      obtain ⟨lab, sec, down⟩ := en
      simp only at e0 e1 e2 hfe
      obtain ⟨f1, f2, f3, f4⟩ := hfe
      obtain ⟨m, rfl⟩ := Int.eq_ofNat_of_zero_le f1
      have hmN : m < N.length := by rw [HLn.out]; omega
      obtain ⟨bn2, on2, hA, cx⟩ := str_at (Kd.C_below HL.out.CN HBr.out) m hmN
      injection hA with hA
      injection hA with q1 q2
      subst q1 q2
      have cnm := pw_cell_below HBr.out HNC.out
      obtain ⟨x, hx⟩ : ∃ x, x = N[m] := ⟨_, rfl⟩
      have hxs : x.size ≤ 12 := by rw [hx]; exact hN.out _ (List.getElem_mem hmN)
      have HS2 := Aside0.mk (show entsT N p.entries (k + 1) = entsT N p.entries k ++ (entH x sec ++ (if down then [32, 100, 111, 119, 110] else []) ++ [10]) by
        rw [HST.out]
        unfold entT
        simp only [Int.toNat_natCast]
        rw [rd_getElem N _ m hmN, ← hx])
      rw [← hx] at cx
      have hlbe : be < wr.heap.size := World.block_lt_of_cell? _ _ e0
      have hlr : gr < wr.heap.size := World.block_lt_of_cell? _ _ cnm
      clear hx HST
      go_upto_region 40 with (fail)
      have hBx : Below wr.heap.size wr (wr.alloc (.cells #[.int .i64 m, .string sec, .bool down] 51)) := (Below.refl _ _).alloc (Nat.le_refl _) _
      refine rent_write _ pb gr bn on N.length cn wr.heap.size m S1 x sec down _ _ _ _ _ _ _ _ _ _ _ _ _ _ _ _ _ _ _ _ _ _ _ _ _ _ _ _ _ _ _ _ _ _ _ _ _ _ _ _ _ _ _ _ _ _ _ _ _ _ _ _ _ _ _ _ _ _ _ _ _ _ _ _ _ _ _ _ _ _ _ _ _ _ _ _ _ _ _ _ _ _ _ _ _ _ _ _ _ _ _ _ _ _ _ _ _ _ _ _ _ _ _ _ _ _ _ _ _ _ _ _ _ _ _ _ _ _ _ _ _ _ _ _ _ _ _ _ _ _ _ _ _ _ _ _ _ _ _ _ _ _ _ _ _ _ _ _ _ _ _ _ _ _ _ _ _ _ _ _ _ _ _ _ _ _ _ _ _ (by omega) hxs (by omega) f4 (pw_cell_below hBx cnm) (pw_cell_below hBx cx) ⟨blk_new _ _⟩ ?_
      intro z148 z149 z150 z151 z152 z153 z154 z155 z156 z157 z158 z159 z160 z161 z162 z163 S2 wc hSd hbc
      have HBc := Aside0.mk (below_step HBr.out (below_step hBx hbc))
      have d2 : wc.cell? ⟨wr.heap.size, 2, none⟩ = some (.bool down) := blk_cell (blk_below (blk_new wr (.cells #[.int .i64 m, .string sec, .bool down] 51)) hbc) 2
      have HSd := Aside0.mk hSd
      have hs2 : S2.size ≤ 99500 := by
        rw [Lib.size_eq] at hS1 hxs
        have h2 := secretL_len sec.data.toList
        rw [← Lib.size_eq sec] at h2
        rw [Lib.size_eq, hSd]
        unfold entH
        simp only [List.length_append, List.length_cons, List.length_nil]
        omega
      have z1 : ShortR S2 := by unfold ShortR; omega
      have z2 : ShortR ⟨#[32, 100, 111, 119, 110]⟩ := by unfold ShortR; decide
      have z3 : ShortR ⟨#[10]⟩ := by unfold ShortR; decide
      have z4 : ShortR (cat S2 ⟨#[32, 100, 111, 119, 110]⟩) := by unfold ShortR; rw [cat_size]; show S2.size + 5 ≤ 200000; omega
      clear hSd hbc hBx e0 e1 e2 cx cnm
      cases down with
      | false =>
        go_wp2
        go_roundw
        case rel =>
          have HF := Aside0.mk (show (cat S2 ⟨#[10]⟩).data.toList = T ++ entsT N p.entries (k + 1) by
            rw [cat_data, HSd.out, HS1.out, HS2.out]
            simp)
          first
          | exact ⟨k + 1, _, by omega, by go_num, rfl, HF, HBc⟩
          | ((repeat apply Exists.intro); exact ⟨⟨k + 1, _, by omega, by go_num, rfl, HF, HBc⟩, rfl⟩)
        case measure => simp [intOf]; omega
      | true =>
        go_wp2
        go_roundw
        case rel =>
          have HF := Aside0.mk (show (cat (cat S2 ⟨#[32, 100, 111, 119, 110]⟩) ⟨#[10]⟩).data.toList = T ++ entsT N p.entries (k + 1) by
            rw [cat_data, cat_data, HSd.out, HS1.out, HS2.out]
            simp)
          first
          | exact ⟨k + 1, _, by omega, by go_num, rfl, HF, HBc⟩
          | ((repeat apply Exists.intro); exact ⟨⟨k + 1, _, by omega, by go_num, rfl, HF, HBc⟩, rfl⟩)
        case measure => simp [intOf]; omega
    · have hkn : k = p.entries.length := by omega
      subst hkn
      have HF := Aside0.mk HS1.out
      go_wp2
      exact HQ.out _ _ _ _ _ _ _ _ _ _ _ _ _ _ _ _ _ _ _ _ _ _ _ _ _ _ _ _ _ _ _ S1 _ HF.out HBr.out
end
end Go.Proofs.YtaeaakcppheaoaaDoor
namespace Go.Proofs.YtaeaakcppheaoaaDoor
open Go.RowKit Go.Proofs.YtaeaakcppheaoaaDoorW.PrintWords Go.Maps

theorem wrap_u32 (n : Nat) (h : n ≤ 4294967295) : IntKind.u32.wrap (n : Int) = (n : Int) := by
  rw [IntKind.wrap_u32]; omega
section
attribute [local go_sem high] catr_add
set_option maxRecDepth 1000000 in
set_option maxHeartbeats 8000000 in
theorem rlabs_part (p : Pol) (N : List ByteArray) (wL W : World) (A0 A1 A2 : Option Addr) (c0 c1 c2 cn pb gr bn on : Nat) (T : List UInt8) (S : ByteArray) (u0 u1 u3 u4 u5 u6 u8 u9 u11 u12 u13 u14 u15 u16 u17 u18 u19 u20 u21 u22 u23 u24 u25 u26 u27 u28 u29 u30 u31 u32 u33 u34 u35 u36 u37 u38 u39 u40 u41 u42 u43 u44 u45 u46 u47 u48 u49 u50 u51 u52 u53 u54 u55 u56 u57 u58 u59 u60 u61 u62 u63 u64 u65 u66 u67 u68 u69 u70 u71 u72 u73 u74 u75 u76 u77 u78 u79 u80 u81 u82 u83 u84 u85 u86 u87 u88 u89 u90 u91 u92 u93 u94 u95 u96 u97 u98 u99 u100 u101 u102 u103 u104 u105 u106 u107 u108 u109 u110 u111 u112 u113 u114 u115 u116 u117 u118 u119 u120 u121 u122 u123 u124 u125 u126 u127 u128 u129 u130 u131 u132 u133 u134 u135 u136 u137 u138 u139 u140 u141 u142 u143 u144 u145 u146 u147 u148 u149 u150 u151 u152 u153 u154 u155 u156 u157 u158 u159 u160 u161 u162 u163 u164 u165 u166 u167 u168 u169 u170 u171 : Value) (K : Act → World → Prop) (Q1 : Exit → Act → World → Prop)
    (HL : Aside0 (PrL p N wL pb A0 A1 A2 (some ⟨bn, on, none⟩) c0 c1 c2 cn)) (HNC : Aside0 (wL.cell? ⟨gr, 3, none⟩ = some (.slice (some ⟨bn, on, none⟩) N.length cn))) (HB : Aside0 (Below wL.heap.size wL W)) (HS : Aside0 (S.data.toList = T)) (hT : T.length ≤ 100)
    (hQ : ∀ (z11 z12 z13 z14 z15 z63 z64 z65 z66 z67 z68 z69 z70 z71 z72 z73 z74 z75 z76 z77 z78 z79 z80 z81 z82 z83 z84 z85 z86 z87 z88 z89 z90 z91 z92 z93 z94 z95 z96 z97 z98 z99 z100 z101 z102 z103 z104 z105 : Value) (S2 : ByteArray) (w' : World), S2.data.toList = T ++ labsT N p.labels p.labels.length → Below wL.heap.size wL w' → Q1 .normal ⟨List.toArray (u0 :: u1 :: (.pointer (some ⟨pb, 0, none⟩)) :: u3 :: u4 :: u5 :: u6 :: (.pointer (some ⟨gr, 0, none⟩)) :: u8 :: u9 :: (.string S2) :: z11 :: z12 :: z13 :: z14 :: z15 :: u16 :: u17 :: u18 :: u19 :: u20 :: u21 :: u22 :: u23 :: u24 :: u25 :: u26 :: u27 :: u28 :: u29 :: u30 :: u31 :: u32 :: u33 :: u34 :: u35 :: u36 :: u37 :: u38 :: u39 :: u40 :: u41 :: u42 :: u43 :: u44 :: u45 :: u46 :: u47 :: u48 :: u49 :: u50 :: u51 :: u52 :: u53 :: u54 :: u55 :: u56 :: u57 :: u58 :: u59 :: u60 :: u61 :: u62 :: z63 :: z64 :: z65 :: z66 :: z67 :: z68 :: z69 :: z70 :: z71 :: z72 :: z73 :: z74 :: z75 :: z76 :: z77 :: z78 :: z79 :: z80 :: z81 :: z82 :: z83 :: z84 :: z85 :: z86 :: z87 :: z88 :: z89 :: z90 :: z91 :: z92 :: z93 :: z94 :: z95 :: z96 :: z97 :: z98 :: z99 :: z100 :: z101 :: z102 :: z103 :: z104 :: z105 :: u106 :: u107 :: u108 :: u109 :: u110 :: u111 :: u112 :: u113 :: u114 :: u115 :: u116 :: u117 :: u118 :: u119 :: u120 :: u121 :: u122 :: u123 :: u124 :: u125 :: u126 :: u127 :: u128 :: u129 :: u130 :: u131 :: u132 :: u133 :: u134 :: u135 :: u136 :: u137 :: u138 :: u139 :: u140 :: u141 :: u142 :: u143 :: u144 :: u145 :: u146 :: u147 :: u148 :: u149 :: u150 :: u151 :: u152 :: u153 :: u154 :: u155 :: u156 :: u157 :: u158 :: u159 :: u160 :: u161 :: u162 :: u163 :: u164 :: u165 :: u166 :: u167 :: u168 :: u169 :: u170 :: u171 :: []), []⟩ w')
    (hK : ∀ a w, Code.wp Tryd.prog (restC (codeR 16)) Q1 a w → K a w) :
    Code.wp Tryd.prog (regR 16) (Exit.then K Q1) ⟨List.toArray (u0 :: u1 :: (.pointer (some ⟨pb, 0, none⟩)) :: u3 :: u4 :: u5 :: u6 :: (.pointer (some ⟨gr, 0, none⟩)) :: u8 :: u9 :: (.string S) :: u11 :: u12 :: u13 :: u14 :: u15 :: u16 :: u17 :: u18 :: u19 :: u20 :: u21 :: u22 :: u23 :: u24 :: u25 :: u26 :: u27 :: u28 :: u29 :: u30 :: u31 :: u32 :: u33 :: u34 :: u35 :: u36 :: u37 :: u38 :: u39 :: u40 :: u41 :: u42 :: u43 :: u44 :: u45 :: u46 :: u47 :: u48 :: u49 :: u50 :: u51 :: u52 :: u53 :: u54 :: u55 :: u56 :: u57 :: u58 :: u59 :: u60 :: u61 :: u62 :: u63 :: u64 :: u65 :: u66 :: u67 :: u68 :: u69 :: u70 :: u71 :: u72 :: u73 :: u74 :: u75 :: u76 :: u77 :: u78 :: u79 :: u80 :: u81 :: u82 :: u83 :: u84 :: u85 :: u86 :: u87 :: u88 :: u89 :: u90 :: u91 :: u92 :: u93 :: u94 :: u95 :: u96 :: u97 :: u98 :: u99 :: u100 :: u101 :: u102 :: u103 :: u104 :: u105 :: u106 :: u107 :: u108 :: u109 :: u110 :: u111 :: u112 :: u113 :: u114 :: u115 :: u116 :: u117 :: u118 :: u119 :: u120 :: u121 :: u122 :: u123 :: u124 :: u125 :: u126 :: u127 :: u128 :: u129 :: u130 :: u131 :: u132 :: u133 :: u134 :: u135 :: u136 :: u137 :: u138 :: u139 :: u140 :: u141 :: u142 :: u143 :: u144 :: u145 :: u146 :: u147 :: u148 :: u149 :: u150 :: u151 :: u152 :: u153 :: u154 :: u155 :: u156 :: u157 :: u158 :: u159 :: u160 :: u161 :: u162 :: u163 :: u164 :: u165 :: u166 :: u167 :: u168 :: u169 :: u170 :: u171 :: []), []⟩ W := by
  have HK := Aside0.mk hK
  have HQ := Aside0.mk hQ
  clear hK hQ
  have hbw := blk_below HL.out.box HB.out
  have g1 := blk_cell hbw 0
  have hqn : p.labels.length ≤ 32 := by exact HL.out.fine.n
  have hfine := Aside0.mk HL.out.fine
  have hN := Aside0.mk HL.out.words
  have HLn := Aside0.mk HL.out.len
  have HLq := Aside0.mk HL.out.fine.q
  have hpbw : pb < W.heap.size := blk_lt hbw
  have hnm : p.labels.length ≤ 9223372036854775807 := by omega
  clear hbw
  conv => arg 2; whnf
  go_wp2
  refine HK.out _ _ ?_
  clear g1
  conv => arg 2; whnf
  go_wp2
  go_loopw [66, 10] (fun i v wr => ∃ (k : Nat) (S1 : ByteArray), k ≤ p.labels.length ∧ i = .int .i64 k ∧ v = .string S1 ∧ Aside0 (S1.data.toList = T ++ labsT N p.labels k) ∧ Aside0 (Below wL.heap.size wL wr)) (fun i _ _ => p.labels.length - (intOf i).toNat)
  case atStart => exact ⟨0, S, Nat.zero_le _, rfl, rfl, ⟨by rw [HS.out, show labsT N p.labels 0 = [] from rfl, List.append_nil]⟩, HB⟩
  case round =>
    obtain ⟨k, S1, hk, rfl, rfl, HS1, HBr⟩ := hrel
    have hS1 : S1.size ≤ 99000 := by
      rw [Lib.size_eq, HS1.out, List.length_append]
      have := labsT_len (l := p.labels) hN.out hfine.out.lev k hk
      omega
    by_cases hlt : k < p.labels.length
    · obtain ⟨be, oe, rfl, e0, e1⟩ := lab_at (Kd.C_below HL.out.C0 HBr.out) k hlt
      have HST := Aside0.mk (labsT_step N p.labels k hlt)
      obtain ⟨qn, hqn2⟩ : ∃ qn, qn = p.labels[k] := ⟨_, rfl⟩
      have hfe := hfine.out.lev p.labels[k] (List.getElem_mem hlt)
      have hco := HL.out.com p.labels[k] (List.getElem_mem hlt)
      rw [← hqn2] at e0 e1 HST hfe hco
      clear hqn2
      obtain ⟨lev, com⟩ := qn
      simp only at e0 e1 hfe hco
      obtain ⟨f1, f2⟩ := hfe
      obtain ⟨f3, f4⟩ := hco
      obtain ⟨a1, rfl⟩ := Int.eq_ofNat_of_zero_le f1
      obtain ⟨cm, rfl⟩ := Int.eq_ofNat_of_zero_le f3
      have hmN : k < N.length := by rw [HLn.out]; exact hlt
      obtain ⟨bn2, on2, hA, cx⟩ := str_at (Kd.C_below HL.out.CN HBr.out) k hmN
      injection hA with hA
      injection hA with q1 q2
      subst q1 q2
      have cnm := pw_cell_below HBr.out HNC.out
      obtain ⟨x, hx⟩ : ∃ x, x = N[k] := ⟨_, rfl⟩
      have hxs : x.size ≤ 12 := by rw [hx]; exact hN.out _ (List.getElem_mem hmN)
      have HS2 := Aside0.mk (show labsT N p.labels (k + 1) = labsT N p.labels k ++ (labH x a1 ++ (compT cm 32).1 ++ [10]) by
        rw [HST.out]
        unfold labT
        simp only [Int.toNat_natCast]
        rw [rd_getElem N _ k hmN, ← hx])
      rw [← hx] at cx
      have hlbe : be < wr.heap.size := World.block_lt_of_cell? _ _ e0
      have hlr : gr < wr.heap.size := World.block_lt_of_cell? _ _ cnm
      clear hx HST
      go_upto_region 19 with (fail)
      have hBx : Below wr.heap.size wr (wr.alloc (.cells #[.int .i64 a1, .int .u32 cm] 66)) := (Below.refl _ _).alloc (Nat.le_refl _) _
      refine rlab_write _ pb gr bn on N.length cn wr.heap.size k a1 S1 x (cm : Int) _ _ _ _ _ _ _ _ _ _ _ _ _ _ _ _ _ _ _ _ _ _ _ _ _ _ _ _ _ _ _ _ _ _ _ _ _ _ _ _ _ _ _ _ _ _ _ _ _ _ _ _ _ _ _ _ _ _ _ _ _ _ _ _ _ _ _ _ _ _ _ _ _ _ _ _ _ _ _ _ _ _ _ _ _ _ _ _ _ _ _ _ _ _ _ _ _ _ _ _ _ _ _ _ _ _ _ _ _ _ _ _ _ _ _ _ _ _ _ _ _ _ _ _ _ _ _ _ _ _ _ _ _ _ _ _ _ _ _ _ _ _ _ _ _ _ _ _ _ _ _ _ _ _ _ _ _ _ _ _ _ _ _ _ _ _ _ _ (by omega) hxs (by omega) (by omega) (pw_cell_below hBx cnm) (pw_cell_below hBx cx) ⟨blk_new _ _⟩ ?_
      intro z71 z72 z73 z74 z75 z76 z77 z78 z79 z80 z81 z82 z83 z84 z85 S2 wc hSd hbc
      have HBc := Aside0.mk (below_step HBr.out (below_step hBx hbc))
      have d1 : wc.cell? ⟨wr.heap.size, 1, none⟩ = some (.int .u32 cm) := blk_cell (blk_below (blk_new wr (.cells #[.int .i64 a1, .int .u32 cm] 66)) hbc) 1
      have HSd := Aside0.mk hSd
      have hs2 : S2.size ≤ 99500 := by
        rw [Lib.size_eq] at hS1 hxs
        have := dec_len a1 (by omega)
        rw [Lib.size_eq, hSd]
        unfold labH
        simp only [List.length_append, List.length_cons, List.length_nil]
        omega
      clear hSd hbc hBx e0 e1 cx cnm
      go_wp2
      obtain ⟨wo, hwo⟩ : ∃ wo : World, wo = wc := ⟨_, rfl⟩
      subst hwo
      go_loop [88, 14, 13, 10] (fun i sp rs so => ∃ (j r : Nat) (S3 : ByteArray), j ≤ 32 ∧ i = .int .i64 j ∧ sp = .string (sepS (compT cm j).2) ∧ rs = .int .u32 r ∧ r ≤ 4294967295 ∧ so = .string S3 ∧ Aside0 (r = cm / 2 ^ j) ∧ Aside0 (S3.data.toList = S2.data.toList ++ (compT cm j).1)) (fun i _ _ _ => 32 - (intOf i).toNat)
      case atStart => exact ⟨0, cm, S2, by omega, rfl, rfl, rfl, by omega, rfl, ⟨by simp⟩, ⟨by rw [show (compT cm 0).1 = [] from rfl, List.append_nil]⟩⟩
      case round =>
        obtain ⟨j, r, S3, hj, rfl, rfl, rfl, hr4, rfl, HR, HS3⟩ := hrel
        have hS3 : S3.size ≤ 101000 := by
          rw [Lib.size_eq] at hs2
          rw [Lib.size_eq, HS3.out, List.length_append]
          have := compT_len cm j (by omega)
          omega
        by_cases hlj : j < 32
        · have hlji : (j : Int) < 32 := by omega
          have HR2 := Aside0.mk (show r / 2 = cm / 2 ^ (j + 1) by rw [HR.out, Nat.pow_succ, Nat.div_div_eq_div_mul])
          have hri : IntKind.u32.wrap ((r : Int).tdiv 2) = ((r / 2 : Nat) : Int) := by
            rw [show (r : Int).tdiv 2 = ((r / 2 : Nat) : Int) from by rw [Int.tdiv_eq_ediv_of_nonneg (by omega)]; rfl]
            have : r / 2 ≤ 4294967295 := by omega
            exact wrap_u32 (r / 2) this
          by_cases hb : r % 2 = 1
          · have hbit : (((r : Int) % 2) == 1) = true := by rw [beq_iff_eq]; omega
            have HC := Aside0.mk (compT_yes (c := cm) (j := j) (by rw [← HR.out]; exact hb))
            obtain ⟨ct, hct⟩ : ∃ ct, ct = (compT cm j).1 := ⟨_, rfl⟩
            obtain ⟨bb, hbb2⟩ : ∃ bb, bb = (compT cm j).2 := ⟨_, rfl⟩
            rw [← hct, ← hbb2] at HC
            rw [← hct] at HS3
            rw [← hbb2]
            clear hb hct hbb2
            obtain ⟨t, ht⟩ : ∃ t, decS j = t := ⟨_, rfl⟩
            have zt : t.size ≤ 21 := by rw [← ht]; exact decS_size j (by omega)
            have dt := Aside0.mk (show t.data.toList = Lib.decDigits j by rw [← ht]; unfold decS; rw [ofL_data])
            have E := Aside0.mk ht
            have hsp := (sepS_short bb).2
            have s1 : ShortR t := by unfold ShortR; omega
            have s2 : ShortR (sepS bb) := by unfold ShortR; omega
            have s3 : ShortR S3 := by unfold ShortR; omega
            have s4 : ShortR (cat S3 (sepS bb)) := by unfold ShortR; rw [cat_size]; omega
            clear ht hsp
            go_wp2_with fail
            refine ((digits_any (j + 1) j wo (Nat.lt_succ_self _) (by omega)).mono ?_)
            rintro e w' ⟨rfl, rfl⟩
            rw [E.out]
            go_wp2
            go_round
            case rel =>
              have HF := Aside0.mk (show (cat (cat S3 (sepS bb)) t).data.toList = S2.data.toList ++ (compT cm (j + 1)).1 by
                rw [cat_data, cat_data, sepS_data, dt.out, HS3.out, HC.out]
                simp)
              have HS4 : Value.string ⟨#[44]⟩ = .string (sepS (compT cm (j + 1)).2) := by rw [HC.out]; rfl
              first
              | exact ⟨j + 1, r / 2, _, by omega, by go_num, HS4, by go_num, by omega, rfl, HR2, HF⟩
              | ((repeat apply Exists.intro); exact ⟨⟨j + 1, r / 2, _, by omega, by go_num, HS4, by go_num, by omega, rfl, HR2, HF⟩, rfl⟩)
            case measure => simp [intOf]; omega
          · have hbit : (((r : Int) % 2) == 1) = false := by rw [beq_eq_false_iff_ne]; omega
            have HC := Aside0.mk (compT_no (c := cm) (j := j) (by rw [← HR.out]; exact hb))
            clear hb
            go_wp2
            go_round
            case rel =>
              have HF := Aside0.mk (show S3.data.toList = S2.data.toList ++ (compT cm (j + 1)).1 by rw [HC.out]; exact HS3.out)
              have HS4 : Value.string (sepS (compT cm j).2) = .string (sepS (compT cm (j + 1)).2) := by rw [HC.out]
              first
              | exact ⟨j + 1, r / 2, _, by omega, by go_num, HS4, by go_num, by omega, rfl, HR2, HF⟩
              | ((repeat apply Exists.intro); exact ⟨⟨j + 1, r / 2, _, by omega, by go_num, HS4, by go_num, by omega, rfl, HR2, HF⟩, rfl⟩)
            case measure => simp [intOf]; omega
        · have hj32 : j = 32 := by omega
          subst hj32
          have z1 : ShortR S3 := by unfold ShortR; omega
          have z3 : ShortR ⟨#[10]⟩ := by unfold ShortR; decide
          go_wp2
          go_roundw
          case rel =>
            have HF := Aside0.mk (show (cat S3 ⟨#[10]⟩).data.toList = T ++ labsT N p.labels (k + 1) by
              rw [cat_data, HS3.out, HSd.out, HS1.out, HS2.out]
              simp)
            first
            | exact ⟨k + 1, _, by omega, by go_num, rfl, HF, HBc⟩
            | ((repeat apply Exists.intro); exact ⟨⟨k + 1, _, by omega, by go_num, rfl, HF, HBc⟩, rfl⟩)
          case measure => simp [intOf]; omega
    · have hkn : k = p.labels.length := by omega
      subst hkn
      have HF := Aside0.mk HS1.out
      go_wp2
      exact HQ.out _ _ _ _ _ _ _ _ _ _ _ _ _ _ _ _ _ _ _ _ _ _ _ _ _ _ _ _ _ _ _ _ _ _ _ _ _ _ _ _ _ _ _ _ _ _ _ _ S1 _ HF.out HBr.out
end
end Go.Proofs.YtaeaakcppheaoaaDoor
namespace Go.Proofs.YtaeaakcppheaoaaDoor
open Go.RowKit Go.Proofs.YtaeaakcppheaoaaDoorW.PrintWords Go.Maps

set_option maxRecDepth 1000000 in
set_option maxHeartbeats 4000000 in
theorem rprint_tail (p : Pol) (N : List ByteArray) (wL : World) (A0 A1 A2 : Option Addr) (c0 c1 c2 cn pb gr bn on : Nat) (u0 u1 u3 u4 u5 u6 u8 u9 u10 u11 u12 u13 u14 u15 u16 u17 u18 u19 u20 u21 u22 u23 u24 u25 u26 u27 u28 u29 u30 u31 u32 u33 u34 u35 u36 u37 u38 u39 u40 u41 u42 u43 u44 u45 u46 u47 u48 u49 u50 u51 u52 u53 u54 u55 u56 u57 u58 u59 u60 u61 u62 u63 u64 u65 u66 u67 u68 u69 u70 u71 u72 u73 u74 u75 u76 u77 u78 u79 u80 u81 u82 u83 u84 u85 u86 u87 u88 u89 u90 u91 u92 u93 u94 u95 u96 u97 u98 u99 u100 u101 u102 u103 u104 u105 u106 u107 u108 u109 u110 u111 u112 u113 u114 u115 u116 u117 u118 u119 u120 u121 u122 u123 u124 u125 u126 u127 u128 u129 u130 u131 u132 u133 u134 u135 u136 u137 u138 u139 u140 u141 u142 u143 u144 u145 u146 u147 u148 u149 u150 u151 u152 u153 u154 u155 u156 u157 u158 u159 u160 u161 u162 u163 u164 u165 u166 u167 u168 u169 u170 u171 : Value) (K : Act → World → Prop) (Post : Ending → World → Prop)
    (HL : Aside0 (PrL p N wL pb A0 A1 A2 (some ⟨bn, on, none⟩) c0 c1 c2 cn)) (HNC : Aside0 (wL.cell? ⟨gr, 3, none⟩ = some (.slice (some ⟨bn, on, none⟩) N.length cn)))
    (hpost : ∀ w', Below wL.heap.size wL w' → Post (.returned (.tuple #[.string (ofL (textT N p)), .int .i64 0])) w')
    (hK : ∀ a w, Code.wp Tryd.prog (restC (codeR 15)) (bodyPost Tryd.prog Tryd.f23 Post) a w → K a w) :
    Code.wp Tryd.prog (regR 15) (Exit.then K (bodyPost Tryd.prog Tryd.f23 Post)) ⟨List.toArray (u0 :: u1 :: (.pointer (some ⟨pb, 0, none⟩)) :: u3 :: u4 :: u5 :: u6 :: (.pointer (some ⟨gr, 0, none⟩)) :: u8 :: u9 :: u10 :: u11 :: u12 :: u13 :: u14 :: u15 :: u16 :: u17 :: u18 :: u19 :: u20 :: u21 :: u22 :: u23 :: u24 :: u25 :: u26 :: u27 :: u28 :: u29 :: u30 :: u31 :: u32 :: u33 :: u34 :: u35 :: u36 :: u37 :: u38 :: u39 :: u40 :: u41 :: u42 :: u43 :: u44 :: u45 :: u46 :: u47 :: u48 :: u49 :: u50 :: u51 :: u52 :: u53 :: u54 :: u55 :: u56 :: u57 :: u58 :: u59 :: u60 :: u61 :: u62 :: u63 :: u64 :: u65 :: u66 :: u67 :: u68 :: u69 :: u70 :: u71 :: u72 :: u73 :: u74 :: u75 :: u76 :: u77 :: u78 :: u79 :: u80 :: u81 :: u82 :: u83 :: u84 :: u85 :: u86 :: u87 :: u88 :: u89 :: u90 :: u91 :: u92 :: u93 :: u94 :: u95 :: u96 :: u97 :: u98 :: u99 :: u100 :: u101 :: u102 :: u103 :: u104 :: u105 :: u106 :: u107 :: u108 :: u109 :: u110 :: u111 :: u112 :: u113 :: u114 :: u115 :: u116 :: u117 :: u118 :: u119 :: u120 :: u121 :: u122 :: u123 :: u124 :: u125 :: u126 :: u127 :: u128 :: u129 :: u130 :: u131 :: u132 :: u133 :: u134 :: u135 :: u136 :: u137 :: u138 :: u139 :: u140 :: u141 :: u142 :: u143 :: u144 :: u145 :: u146 :: u147 :: u148 :: u149 :: u150 :: u151 :: u152 :: u153 :: u154 :: u155 :: u156 :: u157 :: u158 :: u159 :: u160 :: u161 :: u162 :: u163 :: u164 :: u165 :: u166 :: u167 :: u168 :: u169 :: u170 :: u171 :: []), []⟩ wL := by
  have HP := Aside0.mk hpost
  have HK := Aside0.mk hK
  clear hpost hK
  conv => arg 2; whnf
  go_wp2
  refine HK.out _ _ ?_
  clear HK
  conv => arg 2; whnf
  have hN := HL.out.words
  have hf := HL.out.fine
  have h1 := labsT_len (l := p.labels) hN hf.lev p.labels.length (Nat.le_refl _)
  have h2 := quosT_len (l := p.quotas) hN hf.quo p.quotas.length (Nat.le_refl _)
  have hn := hf.n
  have hq := hf.q
  have H1 := Aside0.mk (show ([] ++ labsT N p.labels p.labels.length).length ≤ 40000 by rw [List.nil_append]; omega)
  have H2 := Aside0.mk (show ([] ++ labsT N p.labels p.labels.length ++ quosT N p.quotas p.quotas.length).length ≤ 90000 by rw [List.nil_append, List.length_append]; omega)
  clear hN hf h1 h2 hn hq
  go_upto_region 16 with (fail)
  refine rlabs_part p N wL wL A0 A1 A2 c0 c1 c2 cn pb gr bn on [] ⟨#[]⟩ _ _ _ _ _ _ _ _ _ _ _ _ _ _ _ _ _ _ _ _ _ _ _ _ _ _ _ _ _ _ _ _ _ _ _ _ _ _ _ _ _ _ _ _ _ _ _ _ _ _ _ _ _ _ _ _ _ _ _ _ _ _ _ _ _ _ _ _ _ _ _ _ _ _ _ _ _ _ _ _ _ _ _ _ _ _ _ _ _ _ _ _ _ _ _ _ _ _ _ _ _ _ _ _ _ _ _ _ _ _ _ _ _ _ _ _ _ _ _ _ _ _ _ _ _ _ _ _ _ _ _ _ _ _ _ _ _ _ _ _ _ _ _ _ _ _ _ _ _ _ _ _ _ _ _ _ _ _ _ _ _ _ _ _ _ _ _ _ _ _ _ HL HNC ⟨Below.refl _ _⟩ ⟨rfl⟩ (by simp) ?_ (by assumption)
  intro x_11 x_12 x_13 x_14 x_15 x_63 x_64 x_65 x_66 x_67 x_68 x_69 x_70 x_71 x_72 x_73 x_74 x_75 x_76 x_77 x_78 x_79 x_80 x_81 x_82 x_83 x_84 x_85 x_86 x_87 x_88 x_89 x_90 x_91 x_92 x_93 x_94 x_95 x_96 x_97 x_98 x_99 x_100 x_101 x_102 x_103 x_104 x_105 S1 w1 hS1 hB1
  have HS1 := Aside0.mk hS1
  have HB1 := Aside0.mk hB1
  clear hS1 hB1
  go_upto_region 32 with (fail)
  refine rquos_part p N wL _ A0 A1 A2 c0 c1 c2 cn pb gr bn on _ S1 _ _ _ _ _ _ _ _ _ _ _ _ _ _ _ _ _ _ _ _ _ _ _ _ _ _ _ _ _ _ _ _ _ _ _ _ _ _ _ _ _ _ _ _ _ _ _ _ _ _ _ _ _ _ _ _ _ _ _ _ _ _ _ _ _ _ _ _ _ _ _ _ _ _ _ _ _ _ _ _ _ _ _ _ _ _ _ _ _ _ _ _ _ _ _ _ _ _ _ _ _ _ _ _ _ _ _ _ _ _ _ _ _ _ _ _ _ _ _ _ _ _ _ _ _ _ _ _ _ _ _ _ _ _ _ _ _ _ _ _ _ _ _ _ _ _ _ _ _ _ _ _ _ _ _ _ _ _ _ _ _ _ _ _ _ _ _ _ _ _ _ HL HNC HB1 HS1 H1.out ?_ (by assumption)
  intro y_16 y_17 y_106 y_107 y_108 y_109 y_110 y_111 y_112 y_113 y_114 y_115 y_116 y_117 y_118 y_119 y_120 y_121 y_122 y_123 y_124 y_125 y_126 y_127 y_128 y_129 y_130 y_131 y_132 y_133 y_134 y_135 y_136 y_137 y_138 y_139 y_140 S2 w2 hS2 hB2
  have HS2 := Aside0.mk hS2
  have HB2 := Aside0.mk hB2
  clear hS2 hB2 HS1 HB1
  go_upto_region 37 with (fail)
  refine rents_part p N wL _ A0 A1 A2 c0 c1 c2 cn pb gr bn on _ S2 _ _ _ _ _ _ _ _ _ _ _ _ _ _ _ _ _ _ _ _ _ _ _ _ _ _ _ _ _ _ _ _ _ _ _ _ _ _ _ _ _ _ _ _ _ _ _ _ _ _ _ _ _ _ _ _ _ _ _ _ _ _ _ _ _ _ _ _ _ _ _ _ _ _ _ _ _ _ _ _ _ _ _ _ _ _ _ _ _ _ _ _ _ _ _ _ _ _ _ _ _ _ _ _ _ _ _ _ _ _ _ _ _ _ _ _ _ _ _ _ _ _ _ _ _ _ _ _ _ _ _ _ _ _ _ _ _ _ _ _ _ _ _ _ _ _ _ _ _ _ _ _ _ _ _ _ _ _ _ _ _ _ _ _ _ _ _ _ _ _ _ HL HNC HB2 HS2 H2.out ?_ (by assumption)
  intro z_19 z_141 z_142 z_143 z_144 z_145 z_146 z_147 z_148 z_149 z_150 z_151 z_152 z_153 z_154 z_155 z_156 z_157 z_158 z_159 z_160 z_161 z_162 z_163 z_164 z_165 z_166 z_167 z_168 z_169 z_170 S3 w3 hS3 hB3
  have HS3 := Aside0.mk hS3
  have HB3 := Aside0.mk hB3
  clear hS3 hB3 HS2 HB2
  go_wp2
  have hp := HP.out w3 HB3.out
  rw [show ofL (textT N p) = S3 by rw [← data_ofL S3, HS3.out]; unfold textT; rw [List.nil_append]] at hp
  exact hp
end Go.Proofs.YtaeaakcppheaoaaDoor
namespace Go.Proofs.YtaeaakcppheaoaaDoor
open Go.RowKit Go.Proofs.YtaeaakcppheaoaaDoorW.PrintWords Go.Maps

theorem nameS_size (i : Int) : (nameS i).size ≤ 32768 := by
  unfold nameS
  split
  · rw [Lib.size_eq, ofL_data]
    unfold nameN
    split <;> simp
  · decide
theorem refword_tells (s : ByteArray) (w : World) (hs : s.size ≤ 32768) (b : Bool) (h : wordB s.data.toList = b) :
    Calls Tryd.prog 39 #[.string s] w fun e w' => e = .returned (.bool b) ∧ Below w.heap.size w w' := by
  rw [← h]; exact refword_any s w hs
theorem refname_is (i : Int) (w : World) (s : ByteArray) (h : nameS i = s) :
    Calls Tryd.prog 16 #[.int .i64 i] w fun e w' => e = .returned (.string s) ∧ Below w.heap.size w w' := by
  rw [← h]; exact refname_any i w
set_option maxRecDepth 1000000 in
set_option maxHeartbeats 8000000 in
theorem refprint_any (p : Pol) (given : List ByteArray) (A0 A1 A2 G : Option Addr) (c0 c1 c2 cg : Nat) (w : World) (h0 : Kd.C kLab w A0 p.labels.length p.labels) (h1 : Kd.C kQuo w A1 p.quotas.length p.quotas) (h2 : Kd.C kEnt w A2 p.entries.length p.entries)
    (hc0 : p.labels.length ≤ c0) (hG : Kd.C Kd.string w G given.length given) (hcom : ∀ x ∈ p.labels, 0 ≤ x.com ∧ x.com ≤ 4294967295) (ht : Tab w) (hgs : ∀ x ∈ given, x.size ≤ 32768) :
    Calls Tryd.prog 23 #[.agg #[.slice A0 p.labels.length c0, .slice A1 p.quotas.length c1, .slice A2 p.entries.length c2], .slice G given.length cg] w (PrintPost w (printP p given)) := by
  have H0 := Aside0.mk h0
  have H1 := Aside0.mk h1
  have H2 := Aside0.mk h2
  have HG := Aside0.mk hG
  have HT := Aside0.mk ht
  have HC := Aside0.mk hcom
  have HGS := Aside0.mk hgs
  have hgm := C_max hG
  have hbx : Below w.heap.size w (w.alloc (.cells #[.slice A0 p.labels.length c0, .slice A1 p.quotas.length c1, .slice A2 p.entries.length c2] 27)) := (Below.refl _ _).alloc (Nat.le_refl _) _
  have HBX := Aside0.mk hbx
  have PR := Aside0.mk (refright_any p A0 A1 A2 c0 c1 c2 _ (Kd.C_below h0 hbx) (Kd.C_below h1 hbx) (Kd.C_below h2 hbx) hc0)
  clear h0 h1 h2 hG ht hcom hbx hgs
  go_enter Tryd.func23, Tryd.ntmps23
  go_wp2_with fail
  refine PR.out.mono ?_
  rintro e w1 ⟨rfl, hb1⟩
  have HB1 := Aside0.mk (below_step HBX.out hb1)
  have Hbx1 := Aside0.mk (blk_below (blk_new w (.cells #[.slice A0 p.labels.length c0, .slice A1 p.quotas.length c1, .slice A2 p.entries.length c2] 27)) hb1)
  have hlt1 : w.heap.size < w1.heap.size := blk_lt Hbx1.out
  clear hb1 HBX PR
  cases hr : rightB p with
  | false =>
    have hrn : rightN p = 11 := by unfold rightN; rw [hr]; rfl
    have Hq := Aside0.mk (show printP p given = (ofL [], 11) by unfold printP; rw [hr]; rfl)
    rw [hrn]
    clear hrn hr
    go_wp2
    go_ret2
    exact ⟨by rw [Hq.out]; rfl, HB1.out⟩
  | true =>
    have hrn : rightN p = 0 := by unfold rightN; rw [hr]; rfl
    have hfine := fine_of hr
    have Hpp := Aside0.mk (show printP p given = (match namesO given p.labels.length with | some N => (ofL (textT N p), 0) | none => (ofL [], 90)) by unfold printP; rw [hr]; rfl)
    have hl1 : 1 ≤ p.labels.length := by
      unfold rightB sizesB at hr
      simp only [Bool.and_eq_true, decide_eq_true_eq] at hr
      exact hr.1.1.1.1.1.1
    rw [hrn]
    have hln := hfine.n
    have HF := Aside0.mk hfine
    have g0 := blk_cell Hbx1.out 0
    clear hrn hr hfine
    go_wp2
    obtain ⟨W0, hW0⟩ : ∃ W0, W0 = w1.alloc (.cells #[.slice none 0 0, .slice none 0 0, .slice none 0 0, .slice none 0 0, .slice none 0 0] 61) := ⟨_, rfl⟩
    obtain ⟨gr, hgr⟩ : ∃ gr, gr = w1.heap.size := ⟨_, rfl⟩
    have hz : W0.heap.size = gr + 1 := by rw [hW0, hgr]; simp
    have HBW := Aside0.mk (show Below w.heap.size w W0 by rw [hW0]; exact HB1.out.alloc (by omega) _)
    have HpW := Aside0.mk (show W0.heap[w.heap.size]? = some (.cells #[.slice A0 p.labels.length c0, .slice A1 p.quotas.length c1, .slice A2 p.entries.length c2] 27 (0, 0)) by rw [hW0]; exact blk_alloc Hbx1.out _)
    have HgW := Aside0.mk (show W0.heap[gr]? = some (.cells #[.slice none 0 0, .slice none 0 0, .slice none 0 0, .slice none 0 0, .slice none 0 0] 61 (0, 0)) by rw [hW0, hgr]; exact blk_new _ _)
    rw [← hW0, ← hgr]
    rw [← hgr] at hlt1
    clear hW0 hgr HB1 Hbx1 g0
    go_loopw [30] (fun i wr => ∃ (k : Nat) (N : List ByteArray), k ≤ p.labels.length ∧ i = .int .i64 k ∧ Aside0 (namesO given k = some N) ∧ Aside0 (RRd wr (gr + 1) gr wr.heap.size ⟨N, [], [], [], []⟩) ∧ Aside0 (Keep2 (gr + 1) gr gr W0 wr)) (fun i _ => p.labels.length - (intOf i).toNat)
    case atStart => exact ⟨0, [], Nat.zero_le _, rfl, ⟨rfl⟩, ⟨⟨_, _, _, _, _, HgW.out, Kd.R_nil _ _ _ _ _, Kd.R_nil _ _ _ _ _, Kd.R_nil _ _ _ _ _, Kd.R_nil _ _ _ _ _, Kd.R_nil _ _ _ _ _⟩⟩, ⟨Keep2.refl _ _ _ _⟩⟩
    case round =>
      obtain ⟨k, N, hk, rfl, HN, HR, HK⟩ := hrel
      have HB := Aside0.mk (HK.out.toBelow (B := w.heap.size) HBW.out (by omega) (by omega) (by omega))
      have Hbx := Aside0.mk (HK.out.blk (b := w.heap.size) (by omega) (by omega) (by omega) HpW.out)
      have hsz : gr + 1 ≤ wr.heap.size := by rw [← hz]; exact HK.out.size
      have hNl := (namesO_len HN.out).1
      have HNL := Aside0.mk hNl
      have hnn : N.length ≤ 32 := by omega
      clear hNl
      by_cases hlt : k < p.labels.length
      · obtain ⟨x, hx⟩ : ∃ x, nameAt given k = x := ⟨_, rfl⟩
        have HS := Aside0.mk (namesO_step given k N x HN.out hx)
        have hki : (k : Int) < p.labels.length := by omega
        obtain ⟨y, hy⟩ : ∃ y, nameS (k : Int) = y := ⟨_, rfl⟩
        have HY := Aside0.mk hy
        have hxz : x.size ≤ 32768 := by
          rw [← hx]
          unfold nameAt
          by_cases hkg : k < given.length
          · rw [if_pos hkg, rd_getElem given _ k hkg]; exact HGS.out _ (List.getElem_mem hkg)
          · rw [if_neg hkg]; exact nameS_size _
        have HX := Aside0.mk (show ∀ wz : World, Below w.heap.size w wz → (k < given.length → ∃ bg og, G = some ⟨bg, og, none⟩ ∧ wz.cell? ⟨bg, og + k, none⟩ = some (.string x)) ∧ (¬ k < given.length → y = x) from fun wz hz => ⟨fun hkg => by
            obtain ⟨bg, og, hA, hc⟩ := str_at (Kd.C_below HG.out hz) k hkg
            refine ⟨bg, og, hA, ?_⟩
            rw [hc, ← hx]
            unfold nameAt
            rw [if_pos hkg, rd_getElem given _ k hkg], fun hkg => by
            rw [← hx, ← hy]
            unfold nameAt
            rw [if_neg hkg]⟩)
        obtain ⟨fi, hfi⟩ : ∃ fi, idxI N x = fi := ⟨_, rfl⟩
        obtain ⟨wb, hwb⟩ : ∃ wb, wordB x.data.toList = wb := ⟨_, rfl⟩
        have HFI := Aside0.mk hfi
        have HWB := Aside0.mk hwb
        have HS2 := Aside0.mk (show namesO given (k + 1) = if 0 ≤ fi ∨ wb = false then none else some (N ++ [x]) by
          rw [HS.out, hwb, hfi])
        clear hx hy HS hfi hwb
        go_wp2_with fail
        refine (refname_is (k : Int) wr y HY.out).mono ?_
        rintro e w2 ⟨rfl, hb2⟩
        have HB2 := Aside0.mk (below_step HB.out hb2)
        have Hb2 := Aside0.mk hb2
        clear hb2 HB Hbx
        have hX := HX.out w2 HB2.out
        clear HX
        go_upto_if 38 with (fail)
        go_cut [9] (fun v wc => v = .string x ∧ wc = w2)
        case first =>
          by_cases hkg : k < given.length
          · obtain ⟨bg, og, rfl, hcx⟩ := hX.1 hkg
            have hkgi : (k : Int) < given.length := by omega
            have hk0 : (0 : Int) ≤ k := by omega
            clear hX hkg
            go_wp2
            go_meet
            case rel => exact ⟨rfl, rfl⟩
          · have hyx := hX.2 hkg
            have hkgi : (given.length : Int) ≤ k := by omega
            clear hX hkg
            subst hyx
            go_wp2
            go_meet
            case rel => exact ⟨rfl, rfl⟩
        case rest =>
          obtain ⟨rfl, hwc⟩ := hcut
          rw [hwc]
          clear hwc wc hX
          go_wp2_with fail
          refine (refword_tells x w2 hxz wb HWB.out).mono ?_
          rintro e w3 ⟨rfl, hb3⟩
          have HB3 := Aside0.mk (below_step HB2.out hb3)
          have HR3 := Aside0.mk (HR.out.keep (below_step Hb2.out hb3))
          have HK3 := Aside0.mk (HK.out.trans ((Keep2.below (g := gr) (m := gr) (below_step Hb2.out hb3) hsz)))
          have hsz3 : gr + 1 ≤ w3.heap.size := Nat.le_trans hsz (below_step Hb2.out hb3).size
          clear hb3 HB2 Hb2 HR HK
          cases wb with
          | false =>
            have Hq := Aside0.mk (show printP p given = (ofL [], 90) by
              have hn : namesO given p.labels.length = none := namesO_none (k := k + 1) (by rw [HS2.out, if_pos (.inr rfl)]) (by omega)
              rw [Hpp.out, hn])
            go_wp2
            go_ret2
            exact ⟨by rw [Hq.out]; rfl, HB3.out⟩
          | true =>
            obtain ⟨vl, vq, ve, vn, vt, hg4, hl4, hq4, he4, hn4, ht4⟩ := HR3.out
            obtain ⟨An, cn, rfl, hcn, hCn⟩ := Kd.R_reads hn4
            have g3 : w3.cell? ⟨gr, 3, none⟩ = some (.slice An N.length cn) := blk_cell hg4 3
            have g3f := blk_frozen hg4 3
            have hlg : gr < w3.heap.size := blk_lt hg4
            have HP3 := Aside0.mk (place_is gr cn An N x w3 fi HFI.out g3 hCn)
            have Hn4 := Aside0.mk (Kd.R_mono hn4 (ok' := fun _ => True) (fun _ _ => trivial))
            have ng1 : (Value.slice An N.length cn).ownBlock ≠ some gr := fun e => Kd.R_ne hn4 hg4 (by decide) e.symm
            have NG := Aside0.mk ng1
            have PP := Aside0.mk (fun (o : Obj) (w1 : World) (v1 : Value) => ref_put_names (s := ⟨N, [], [], [], []⟩) (x := x) (o := o) (w1 := w1) (v1 := v1) hg4 hl4 hq4 he4 hn4 ht4)
            clear hg4 hl4 hq4 he4 hn4 ht4 hCn ng1 HR3
            go_wp2_with fail
            refine HP3.out.mono ?_
            rintro e w4 ⟨rfl, hw4⟩
            subst hw4
            by_cases hf0 : 0 ≤ fi
            · have Hq := Aside0.mk (show printP p given = (ofL [], 90) by
                have hn : namesO given p.labels.length = none := namesO_none (k := k + 1) (by rw [HS2.out, if_pos (.inl hf0)]) (by omega)
                rw [Hpp.out, hn])
              go_wp2
              go_ret2
              exact ⟨by rw [Hq.out]; rfl, HB3.out⟩
            · have HS3 := Aside0.mk (show namesO given (k + 1) = some (N ++ [x]) by rw [HS2.out, if_neg (by simp; omega)])
              have hf1 : fi < 0 := by omega
              clear HS2 hf0 HP3
              go_wp2_with ((at_builtin; refine R_lies_plain Kd.string (by rfl) _ _ 28 9 (.string ⟨#[]⟩) 16 (by rfl) Tryd.underlying28 info9 rfl (by decide) (gr + 1) (.slice An N.length cn) N x [.string x] w3.heap.size _ (by rfl) (by rfl) (blk_new _ _) rfl (Kd.R_alloc Hn4.out _) (by simp; omega) (by omega) (by unfold maxLen; omega) (w3.heap.size + 1) (by simp) ?_; intro gn capn w5 hR5 hgrow hat hlt5; have k0 := (hgrow.cell_far ⟨gr, 3, none⟩ (by simp; omega) (Ne.symm NG.out)); have k0f := (hgrow.frozen_far ⟨gr, 3, none⟩ (by simp; omega) (Ne.symm NG.out)); have HR5 := Aside0.mk hR5; have HG5 := Aside0.mk hgrow; clear hR5 hgrow hat hlt5))
              go_roundw
              case rel =>
                have hgrow := HG5.out
                have hgrow2 : (w3.alloc (.cells #[.string x] 9)).grownBy w5 (Value.slice An N.length cn).ownBlock := ⟨hgrow.os, hgrow.tape, hgrow.output, hgrow.size, hgrow.block⟩
                obtain ⟨q1, q2, q3⟩ := PP.out _ _ _ HR5.out hgrow2 (by omega)
                have Q1 := Aside0.mk q1
                have Q2 := Aside0.mk (HK3.out.trans q2)
                first
                | exact ⟨k + 1, N ++ [x], by omega, by go_num, HS3, Q1, Q2⟩
                | ((repeat apply Exists.intro); exact ⟨⟨k + 1, N ++ [x], by omega, by go_num, HS3, Q1, Q2⟩, rfl⟩)
              case measure => simp [intOf]; omega
      · have hkn : k = p.labels.length := by omega
        subst hkn
        have hN0 : 0 < N.length := by rw [HNL.out]; omega
        have Hq := Aside0.mk (show printP p given = (ofL (textT N p), 0) by rw [Hpp.out, HN.out])
        obtain ⟨vl, vq, ve, vn, vt, hg4, hl4, hq4, he4, hn4, ht4⟩ := HR.out
        obtain ⟨gN, cN, hvN, -, -, -⟩ := Kd.R_form hn4 hN0
        subst hvN
        have HNC := Aside0.mk (show wr.cell? ⟨gr, 3, none⟩ = some (.slice (some ⟨gN, 0, none⟩) N.length cN) from blk_cell hg4 3)
        have HL := Aside0.mk (show PrL p N wr w.heap.size A0 A1 A2 (some ⟨gN, 0, none⟩) c0 c1 c2 cN from
          ⟨Hbx.out, Kd.C_below H0.out HB.out, Kd.C_below H1.out HB.out, Kd.C_below H2.out HB.out, (Kd.R_reads' hn4).2.2, HF.out, HC.out, HNL.out, fun x hx => word_len ((namesO_len HN.out).2 x hx), tab_below HT.out HB.out⟩)
        clear hg4 hl4 hq4 he4 hn4 ht4 HR HN
        go_upto_region 15 with (fail)
        exact rprint_tail p N wr A0 A1 A2 c0 c1 c2 cN w.heap.size gr gN 0 _ _ _ _ _ _ _ _ _ _ _ _ _ _ _ _ _ _ _ _ _ _ _ _ _ _ _ _ _ _ _ _ _ _ _ _ _ _ _ _ _ _ _ _ _ _ _ _ _ _ _ _ _ _ _ _ _ _ _ _ _ _ _ _ _ _ _ _ _ _ _ _ _ _ _ _ _ _ _ _ _ _ _ _ _ _ _ _ _ _ _ _ _ _ _ _ _ _ _ _ _ _ _ _ _ _ _ _ _ _ _ _ _ _ _ _ _ _ _ _ _ _ _ _ _ _ _ _ _ _ _ _ _ _ _ _ _ _ _ _ _ _ _ _ _ _ _ _ _ _ _ _ _ _ _ _ _ _ _ _ _ _ _ _ _ _ _ _ _ _ _ _ HL HNC (fun w' hb => ⟨by rw [Hq.out], below_step HB.out hb⟩) (by assumption)
end Go.Proofs.YtaeaakcppheaoaaDoor
namespace Go.Proofs.YtaeaakcppheaoaaDoor
open Go.RowKit Go.Proofs.YtaeaakcppheaoaaDoorW.PrintWords Go.Maps

theorem mem_take_step {l : List ByteArray} {k : Nat} (h : k < l.length) {P : ByteArray → Prop} (h1 : ∀ x ∈ l.take k, P x) (h2 : P l[k]) : ∀ x ∈ l.take (k + 1), P x := by
  intro x hx
  rw [List.take_succ_eq_append_getElem h, List.mem_append] at hx
  rcases hx with hx | hx
  · exact h1 x hx
  · rw [List.mem_singleton.1 hx]; exact h2
def LightPost (w : World) (given : List ByteArray) (e : Ending) (w' : World) : Prop := ∃ b : Bool, e = .returned (.bool b) ∧ (b = true → ∀ x ∈ given, x.size ≤ 32768) ∧ Below w.heap.size w w'
set_option maxRecDepth 1000000 in
set_option maxHeartbeats 8000000 in
theorem light_any (p : Pol) (given : List ByteArray) (A0 A1 A2 G : Option Addr) (n0 n1 c0 c1 c2 cg : Nat) (w : World) (h2 : Kd.C kEnt w A2 p.entries.length p.entries) (hG : Kd.C Kd.string w G given.length given) :
    Calls Tryd.prog 21 #[.agg #[.slice A0 n0 c0, .slice A1 n1 c1, .slice A2 p.entries.length c2], .slice G given.length cg] w (LightPost w given) := by
  have hgm := C_max hG
  have hem := C_max h2
  have hbx : Below w.heap.size w (w.alloc (.cells #[.slice A0 n0 c0, .slice A1 n1 c1, .slice A2 p.entries.length c2] 27)) := (Below.refl _ _).alloc (Nat.le_refl _) _
  have H2 := Aside0.mk (Kd.C_below h2 hbx)
  have HG := Aside0.mk (Kd.C_below hG hbx)
  have HB := Aside0.mk hbx
  have HX := Aside0.mk (blk_new w (.cells #[.slice A0 n0 c0, .slice A1 n1 c1, .slice A2 p.entries.length c2] 27))
  clear h2 hG hbx
  go_enter Tryd.func21, Tryd.ntmps21
  go_wp2
  obtain ⟨W, hW⟩ : ∃ W, W = w.alloc (.cells #[.slice A0 n0 c0, .slice A1 n1 c1, .slice A2 p.entries.length c2] 27) := ⟨_, rfl⟩
  rw [← hW] at H2 HG HB HX ⊢
  clear hW
  have g0 := blk_cell HX.out 0
  have g1 := blk_cell HX.out 1
  have g2 := blk_cell HX.out 2
  go_loop [6, 5] (fun i v => ∃ (k : Nat) (t : Int), k ≤ given.length ∧ i = .int .i64 k ∧ v = .int .i64 t ∧ 0 ≤ t ∧ t ≤ 8193 ∧ Aside0 (t ≤ 4096 → ∀ x ∈ given.take k, x.size ≤ 4096)) (fun i _ => given.length - (intOf i).toNat)
  case atStart => exact ⟨0, 0, Nat.zero_le _, rfl, rfl, by omega, by omega, ⟨fun _ x hx => by simp at hx⟩⟩
  case round =>
    obtain ⟨k, t, hk, rfl, rfl, ht0, ht1, HN⟩ := hrel
    by_cases hgo : k < given.length ∧ t ≤ 4096
    · obtain ⟨hlt, ht⟩ := hgo
      obtain ⟨bg, og, rfl, hcx⟩ := str_at HG.out k hlt
      have HS := Aside0.mk (fun P => mem_take_step (P := P) hlt)
      obtain ⟨x, hx⟩ : ∃ x, x = given[k] := ⟨_, rfl⟩
      rw [← hx] at hcx HS
      clear hx
      have hki : (k : Int) < given.length := by omega
      have hk0 : (0 : Int) ≤ k := by omega
      by_cases hxs : (x.size : Int) ≤ 4096
      · have HN2 := Aside0.mk (show t + (1 + (x.size : Int)) ≤ 4096 → ∀ y ∈ given.take (k + 1), y.size ≤ 4096 from fun h => HS.out _ (HN.out ht) (by omega))
        go_wp2
        go_round
        case rel => exact ⟨k + 1, t + (1 + (x.size : Int)), by omega, by go_num, by go_num, by omega, by omega, HN2⟩
        case measure => simp [intOf]; omega
      · have HN2 := Aside0.mk (show t + 4097 ≤ 4096 → ∀ y ∈ given.take (k + 1), y.size ≤ 4096 from fun h => by omega)
        have hxs2 : (4096 : Int) < x.size := by omega
        clear hxs
        go_wp2
        go_round
        case rel => exact ⟨k + 1, t + 4097, by omega, by go_num, by go_num, by omega, by omega, HN2⟩
        case measure => simp [intOf]; omega
    · have HN2 := Aside0.mk (show t ≤ 4096 → ∀ x ∈ given, x.size ≤ 4096 from fun h x hx => HN.out h x (by rw [List.take_of_length_le (by omega)]; exact hx))
      have hstop : (given.length : Int) ≤ k ∨ ((k : Int) < given.length ∧ 4096 < t) := by omega
      clear hgo HN
      rcases hstop with hs | ⟨hs, hs'⟩
      all_goals
        go_wp2
        go_loop [7, 5] (fun i v => ∃ (k2 : Nat) (t2 : Int), k2 ≤ p.entries.length ∧ i = .int .i64 k2 ∧ v = .int .i64 t2 ∧ 0 ≤ t2 ∧ t2 ≤ 12289 ∧ Aside0 (t2 ≤ 4096 → ∀ x ∈ given, x.size ≤ 4096)) (fun i _ => p.entries.length - (intOf i).toNat)
        case atStart => exact ⟨0, t, Nat.zero_le _, rfl, rfl, by omega, by omega, HN2⟩
        case round =>
          obtain ⟨k2, t2, hk2, rfl, rfl, hu0, hu1, HM⟩ := hrel
          by_cases hgo : k2 < p.entries.length ∧ k2 < 100 ∧ t2 ≤ 4096
          · obtain ⟨hlt, h100, htt⟩ := hgo
            obtain ⟨be, oe, rfl, e0, e1, e2⟩ := ent_at H2.out k2 hlt
            obtain ⟨z, hz⟩ : ∃ z, z = p.entries[k2].sec := ⟨_, rfl⟩
            rw [← hz] at e1
            clear hz e0 e2
            have hki : (k2 : Int) < p.entries.length := by omega
            have hkh : (k2 : Int) < 100 := by omega
            have hk0 : (0 : Int) ≤ k2 := by omega
            by_cases hzs : (z.size : Int) ≤ 4096
            · have HM2 := Aside0.mk (show t2 + (z.size : Int) ≤ 4096 → ∀ x ∈ given, x.size ≤ 4096 from fun h => HM.out htt)
              go_wp2
              go_round
              case rel => exact ⟨k2 + 1, t2 + (z.size : Int), by omega, by go_num, by go_num, by omega, by omega, HM2⟩
              case measure => simp [intOf]; omega
            · have HM2 := Aside0.mk (show t2 + 4096 ≤ 4096 → ∀ x ∈ given, x.size ≤ 4096 from fun h => HM.out htt)
              have hzs2 : (4096 : Int) < z.size := by omega
              clear hzs
              go_wp2
              go_round
              case rel => exact ⟨k2 + 1, t2 + 4096, by omega, by go_num, by go_num, by omega, by omega, HM2⟩
              case measure => simp [intOf]; omega
          · have hstop : (p.entries.length : Int) ≤ k2 ∨ ((k2 : Int) < p.entries.length ∧ (100 : Int) ≤ k2) ∨ ((k2 : Int) < p.entries.length ∧ (k2 : Int) < 100 ∧ 4096 < t2) := by omega
            have hend : (4096 : Int) < t2 ∨ (t2 ≤ 4096 ∧ (100 : Int) < n0) ∨ (t2 ≤ 4096 ∧ (n0 : Int) ≤ 100 ∧ (100 : Int) < n1) ∨ (t2 ≤ 4096 ∧ (n0 : Int) ≤ 100 ∧ (n1 : Int) ≤ 100 ∧ (100 : Int) < p.entries.length) ∨ (t2 ≤ 4096 ∧ (n0 : Int) ≤ 100 ∧ (n1 : Int) ≤ 100 ∧ (p.entries.length : Int) ≤ 100) := by omega
            have HP := Aside0.mk (show ∀ b : Bool, (b = true → t2 ≤ 4096) → LightPost w given (.returned (.bool b)) W from fun b h => ⟨b, rfl, fun hb x hx => Nat.le_trans (HM.out (h hb) x hx) (by omega), HB.out⟩)
            clear hgo HM HN2
            rcases hstop with hp | ⟨hp, hp2⟩ | ⟨hp, hp2, hp3⟩ <;> rcases hend with hq | ⟨hq, hq1⟩ | ⟨hq, hq1, hq2⟩ | ⟨hq, hq1, hq2, hq3⟩ | ⟨hq, hq1, hq2, hq3⟩
            all_goals first
              | (exfalso; omega)
              | (go_wp2
                 go_ret
                 exact HP.out _ (by first | (intro h; cases h; done) | (intro _; omega)))
end Go.Proofs.YtaeaakcppheaoaaDoor
