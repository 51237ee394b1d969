/- Remove: the walk. -/
import Derived.Test.YtdgaffcfcgmfnaaM4
namespace Go.Proofs.Ytdgaffcfcgmfnaa
open Go.RowKit Go.Sl

attribute [local go_sem ↓ high] load107 store107 load105 store105 slice82
section
variable {k w : World} {L : List Asn} {F : List (Asg MN)} {g c : Nat} {P : Pol} {es : List El} {r : RM} {R : Ending → World → Prop}
set_option maxRecDepth 100000 in
set_option maxHeartbeats 4000000 in
theorem remove_main {i n : Nat} (h : St k w (Rope g P es c :: L)) (hin : i + n ≤ es.length) (hc : c ≤ 90000)
    (hR : ∀ v w', St k w' (rowA 39 3 v n (elsC ((es.drop i).take n)) :: Rope g P (es.take i ++ es.drop (i + n)) c :: L) → R (.returned (.tuple #[v, .int .i64 0])) w') : Calls Try.prog 32 #[.pointer (some ⟨g, 0, none⟩), .int .i64 i, .int .i64 n] w R := by
  obtain ⟨r, h1, ho⟩ := Rope.out h
  have d0 := rope_dead h1 ho
  have hel : (es.length : Int) ≤ 1048576 := by have := ho.len; omega
  obtain ⟨N, hN⟩ : ∃ N, es.length = N := ⟨_, rfl⟩
  rw [hN] at hin hel
  have HNN := Lib.hid hN
  have H := Lib.hid h
  have HR := Lib.hid hR
  have b0 : (0 : Int) ≤ (i : Int) := by omega
  have b1 : (0 : Int) ≤ (n : Int) := by omega
  have b2 : (i : Int) ≤ (N : Int) := by omega
  have b3 : (n : Int) ≤ (N : Int) - (i : Int) := by omega
  have g1 : decide ((i : Int) < 0) = false := by simp
  have g2 : decide ((n : Int) < 0) = false := by simp
  have g3 : decide (N < i) = false := by simp; omega
  have g4 : decide ((N : Int) - (i : Int) < (n : Int)) = false := by simp; omega
  clear h hR h1 ho hN
  go_enter Try.func32, Try.ntmps32
  go_wp2_with (go_at_call 55; refine dead_any d0 ?_)
  refine len_any H.out fun w1 h2 => ?_
  rw [HNN.out]
  have H2 := Lib.hid h2
  clear h2
  go_wp2_with fail
  refine len_any H2.out fun w2 h3 => ?_
  rw [HNN.out]
  have H3 := Lib.hid h3
  clear h3
  go_wp2_with fail
  go_loopg [8, 36] n (fun gg s8 s36 wx => ∃ q : Nat, q ≤ n ∧ gg = n - q ∧ s36 = .int .i64 q ∧ Hid (St k wx (rowA 39 3 s8 q (elsC ((es.drop i).take q)) :: Rope g P (es.take i ++ es.drop (i + q)) c :: L)))
  case atStart => exact ⟨0, by omega, by omega, rfl, Lib.hid (by simpa [elsC] using H3.out.nilA 39 3)⟩
  case round =>
    obtain ⟨q, hq, hgg, rfl, HS⟩ := hrel
    by_cases hlt : q < n
    · obtain ⟨r1, h4, ho⟩ := Rope.out HS.out.swap
      obtain ⟨e, he⟩ : ∃ e, es[i + q]? = some e := ⟨_, List.getElem?_eq_getElem (by have := HNN.out; omega)⟩
      have c2 := rope_2 h4
      have H4 := Lib.hid h4
      have HO := Lib.hid ho
      have HE := Lib.hid he
      have HGG := Lib.hid hgg
      clear h4 ho he hgg
      go_wp2_with fail
      obtain ⟨hh, hhc, hA⟩ := HO.out.ar
      have hget : (es.take i ++ es.drop (i + q))[i]? = some e := by
        have hl : (es.take i).length = i := by rw [List.length_take]; have := HNN.out; omega
        rw [List.getElem?_append_right (by omega), hl, Nat.sub_self, List.getElem?_drop, Nat.add_zero]; exact HE.out
      have hdel : delAt (es.take i ++ es.drop (i + q)) i = es.take i ++ es.drop (i + (q + 1)) := by
        have hl : (es.take i).length = i := by rw [List.length_take]; have := HNN.out; omega
        unfold delAt
        rw [List.take_left' hl, List.drop_append, hl, List.drop_eq_nil_iff.2 (by omega), List.nil_append, List.drop_drop, show i + 1 - i = 1 by omega]
        rfl
      have hmsb : r1.ms.length ≤ 10000000000 := by
        have h9 : (c + 2) * (c + 2) ≤ 90002 * 90002 := Nat.mul_le_mul (by omega) (by omega)
        have := HO.out.few; omega
      have hsnoc : (es.drop i).take (q + 1) = (es.drop i).take q ++ [e] := by
        have h1 : (es.drop i)[q]? = some e := by rw [List.getElem?_drop]; exact HE.out
        obtain ⟨h2, h3⟩ := List.getElem?_eq_some_iff.1 h1
        rw [List.take_succ_eq_append_getElem h2, h3]
      have HA := Lib.hid (And.intro hhc hA)
      have HF := Lib.hid (And.intro hget (And.intro hdel (And.intro hmsb hsnoc)))
      clear hhc hA hget hdel hmsb hsnoc
      refine cut_all hh H4.out rfl rfl HA.out.2 HF.out.1 HO.out.labs (by have := HO.out.len; omega) HF.out.2.2.1 ?_
      intro r2 w4 h5 hm5 hl5 ha5
      rw [HF.out.2.1] at ha5
      have hb5 := (h5.swap.alloc (elO e))
      obtain ⟨A8, c8, rfl, -⟩ := h5.swap.readsA.at_
      have H5 := Lib.hid hb5
      have HM5 := Lib.hid (And.intro hm5 hl5)
      have HA5 := Lib.hid ha5
      clear h5 hm5 hl5 ha5 hb5
      go_upto_region 9 with ((at_builtin; refine wpList_append rfl _ _ rfl Try.underlying46 info39 rfl (by decide) (n := q) (cs := elsC ((es.drop i).take q)) H5.out.swap (H5.out.readsP (sz := 3) (n := 1) (cap := 1) rfl (Nat.le_refl _) (by decide)) rfl rfl (fun u hu => by simp at hu; rcases hu with rfl | rfl | rfl <;> rfl) (by unfold maxLen; omega) (by omega) ?_; intro v' w5 h6 h7))
      have h8 : St k w5 (ropeA g r2 :: rowA 39 3 v' (q + 1) (elsC ((es.drop i).take (q + 1))) :: L) := by
        have e1 : elsC ((es.drop i).take (q + 1)) = elsC ((es.drop i).take q) ++ elC e := by rw [HF.out.2.2.2]; simp [elsC]
        rw [e1]
        exact h6.swap.drop.swap
      obtain ⟨A9, c9, rfl, -⟩ := h6.readsA.at_
      have ha6 := HA5.out
      rw [← HM5.out.1.root] at ha6
      obtain ⟨x0, hx0, -⟩ := tree_node ha6
      obtain ⟨bn, cap, hv, -, -, -⟩ := rope_nodes h8 (List.getElem?_eq_some_iff.1 hx0).1
      have k0 := rope_0 h8
      have k2 := rope_2 h8
      rw [hv] at k0
      have b5 : (r2.root : Int) < (r2.ms.length : Int) := by have := (List.getElem?_eq_some_iff.1 hx0).1; omega
      have H8 := Lib.hid h8
      have HV := Lib.hid (And.intro hv ha6)
      clear h6 h7 h8 ha6 hx0 hv
      go_quiet (fail)
      have H9 := Lib.hid (H8.out.drewN nq)
      go_wp2_with fail
      go_loopg [9] hh (fun hg s9 wx => ∃ (r3 : RM) (bn cap : Nat), s9 = .pointer (some ⟨bn, r3.root * 35, none⟩) ∧ Hid (r3.vn = .slice (some ⟨bn, 0, none⟩) r3.ms.length cap ∧ Ar r3.ms r3.free [Tree hg r3.root (es.take i ++ es.drop (i + (q + 1)))] ∧ hg ≤ hh ∧ (r3.labels = r1.labels ∧ r3.sees = r1.sees ∧ r3.ms.length = r1.ms.length)) ∧ Hid (St k wx (ropeA g r3 :: rowA 39 3 (.slice A9 (q + 1) c9) (q + 1) (elsC ((es.drop i).take (q + 1))) :: L)))
      case atStart => exact ⟨r2, bn, cap, rfl, Lib.hid ⟨HV.out.1, HV.out.2, Nat.le_refl _, HM5.out.1.labels, HM5.out.1.sees, HM5.out.2⟩, H9⟩
      case round =>
        obtain ⟨r3, bn, cap, rfl, HR3, HS3⟩ := hrel
        obtain ⟨x, hx, hgx, hkx, -⟩ := tree_node HR3.out.2.1
        obtain ⟨-, Ak, ck, hvk, -, -, hAk⟩ := rope_heads HS3.out hx
        have n1 := rope_node HS3.out HR3.out.1 hx (t := 1) rfl
        rw [hvk] at n1
        by_cases h1 : x.kids.length = 1
        · cases gk with
          | zero => rw [hkx.2 rfl] at h1; simp at h1
          | succ hg =>
            obtain ⟨m, ps, ha1, hme, hne, hk, hes, hgm⟩ := tree_knot HR3.out.2.1
            have hmx : m = x := by have := ha1.at_; rw [hx] at this; exact (Option.some.inj this).symm
            subst hmx
            obtain ⟨bk, ok, rfl, hcell⟩ := rope_kids HS3.out hx hvk (by omega)
            rw [h1] at n1
            obtain ⟨⟨kd, ek⟩, rfl⟩ : ∃ p, ps = [p] := by
              rw [hk] at h1
              simp only [partsK, List.length_map] at h1
              exact List.length_eq_one_iff.1 h1
            have k9 := hcell 0 kd (by rw [hk]; rfl)
            rw [Nat.add_zero] at k9
            have q2 := rope_2 HS3.out
            have q2f := rope_f HS3.out 2
            have q2l := World.block_lt_of_cell? _ _ q2
            have hset := rope_root kd HS3.out
            have ha2 := (trees_one.1 ha1.swap).swap
            have hek : ek = es.take i ++ es.drop (i + (q + 1)) := by rw [hes]; simp [partsE]
            simp only at ha2
            rw [hek] at ha2
            have HSET := Lib.hid hset
            have HA2 := Lib.hid ha2
            clear hx hgx hkx hvk hAk h1 ha1 hme hk hes hgm hcell hset ha2 hek hne
            go_wp2_with fail
            refine give_any (r := { r3 with root := kd }) HSET.out rfl HA2.out (by have := HR3.out.2.2.2.2.2; have := HF.out.2.2.1; show r3.ms.length ≤ _; omega) ?_
            intro r4 w6 h9 ha9 hm9 hl9
            have hrt : r4.root = kd := hm9.root
            rw [← hrt] at ha9
            obtain ⟨x0, hx0, -⟩ := tree_node ha9
            obtain ⟨bn4, cap4, hv4, -, -, -⟩ := rope_nodes h9 (List.getElem?_eq_some_iff.1 hx0).1
            have k0' := rope_0 h9
            have k2' := rope_2 h9
            rw [hv4] at k0'
            have b6 : (r4.root : Int) < (r4.ms.length : Int) := by have := (List.getElem?_eq_some_iff.1 hx0).1; omega
            have H10 := Lib.hid h9
            have HR4 := Lib.hid (show r4.vn = .slice (some ⟨bn4, 0, none⟩) r4.ms.length cap4 ∧ Ar r4.ms r4.free [Tree hg r4.root (es.take i ++ es.drop (i + (q + 1)))] ∧ hg ≤ hh ∧ (r4.labels = r1.labels ∧ r4.sees = r1.sees ∧ r4.ms.length = r1.ms.length) from
              ⟨hv4, ha9, by have := HR3.out.2.2.1; omega, hm9.labels.trans HR3.out.2.2.2.1, hm9.sees.trans HR3.out.2.2.2.2.1, hl9.trans HR3.out.2.2.2.2.2⟩)
            clear h9 ha9 hm9 hl9 hx0 hv4 hrt k0 k2 n1 k9 q2 q2f q2l
            go_upto_region 11 with fail
            go_quiet (fail)
            go_wp2_with fail
            go_roundg hg
            case measure => omega
            case rel => exact ⟨r4, bn4, cap4, rfl, HR4, Lib.hid (H10.out.drewN _)⟩
        · have e1 : ((x.kids.length : Int) == 1) = false := by simp; omega
          have e2 : ((x.kids.length : Nat) == 1) = false := by simp; omega
          clear hx hgx hkx hvk hAk h1
          go_wp2_with fail
          go_roundg (n - (q + 1))
          case measure => have := HGG.out; omega
          case rel =>
            have hsub : ∀ x ∈ es.take i ++ es.drop (i + (q + 1)), x ∈ es.take i ++ es.drop (i + q) := by rw [← HF.out.2.1]; exact delAt_sub
            have hle : (es.take i ++ es.drop (i + (q + 1))).length ≤ 1048576 := by
              have := HO.out.len
              simp only [List.length_append, List.length_drop] at this ⊢
              omega
            exact ⟨q + 1, by omega, rfl, by go_num, Lib.hid ((Rope.mk HS3.out (HO.out.cut HR3.out.2.2.2.1 HR3.out.2.2.2.2.1 ⟨_, Nat.le_trans HR3.out.2.2.1 HA.out.1, HR3.out.2.1⟩ HR3.out.2.2.2.2.2 (HO.out.fit.sub hsub) hle)).swap)⟩
    · obtain rfl : q = n := by omega
      obtain ⟨A8, c8, rfl, -⟩ := HS.out.readsA.at_
      have HX := Lib.hid (HR.out _ _ HS.out)
      clear HS
      go_wp2
      exact HX.out
theorem remove_any {i n : Int} (h : St k w (Rope g P es c :: L)) (hi : -9223372036854775808 ≤ i ∧ i ≤ 9223372036854775807) (hn : -9223372036854775808 ≤ n ∧ n ≤ 9223372036854775807) (hc : c ≤ 90000)
    (hR : ∀ v w', St k w' (rowA 39 3 v (removeP es i n).1.length (elsC (removeP es i n).1) :: Rope g P (removeP es i n).2.2 c :: L) → R (.returned (.tuple #[v, .int .i64 (removeP es i n).2.1])) w') :
    Calls Try.prog 32 #[.pointer (some ⟨g, 0, none⟩), .int .i64 i, .int .i64 n] w R := by
  by_cases hb : badR es i n
  · have e : removeP es i n = ([], 1, es) := by rw [removeP, if_pos hb]
    rw [e] at hR
    exact remove_bad h hi hn hb fun w' h' => hR _ w' (h'.nilA 39 3)
  · have e : removeP es i n = ((es.drop i.toNat).take n.toNat, 0, es.take i.toNat ++ es.drop (i.toNat + n.toNat)) := by rw [removeP, if_neg hb]
    rw [e] at hR
    unfold badR at hb
    obtain ⟨i', rfl⟩ : ∃ j : Nat, i = j := ⟨i.toNat, by omega⟩
    obtain ⟨n', rfl⟩ : ∃ j : Nat, n = j := ⟨n.toNat, by omega⟩
    simp only [Int.toNat_natCast] at hR
    refine remove_main h (by omega) hc fun v w' h' => hR v w' ?_
    have e2 : ((es.drop i').take n').length = n' := by rw [List.length_take, List.length_drop]; omega
    rw [e2]
    exact h'
end
end Go.Proofs.Ytdgaffcfcgmfnaa
