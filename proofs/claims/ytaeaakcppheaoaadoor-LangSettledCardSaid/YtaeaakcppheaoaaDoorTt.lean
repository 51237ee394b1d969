/- Of texts, in plain Lean: cuts, digits, secrets. Of a label's compartments: their text is read as they are. Of a policy's text: each line is read as what it says. Of a policy's text: the quotas' and the clients' lines are read as what they say. A policy's text is read as the policy, and its names. -/
import Derived.Test.YtaeaakcppheaoaaDoorPp1
import Derived.Test.YtaeaakcppheaoaaDoorPp2
namespace Go.Proofs.YtaeaakcppheaoaaDoor
open Go.RowKit Go.Proofs.YtaeaakcppheaoaaDoorW.PrintWords Go.Maps

theorem cutL_app (c : UInt8) (b : List UInt8) : ∀ (a : List UInt8), c ∉ a → cutL c (a ++ c :: b) = a :: cutL c b
  | [], _ => by
    show cutL c (c :: b) = _
    rw [cutL, if_pos rfl]
  | x :: a, h => by
    have hx : ¬ x = c := fun e => h (e ▸ List.mem_cons_self)
    have ih := cutL_app c b a (fun hm => h (List.mem_cons_of_mem _ hm))
    show cutL c (x :: (a ++ c :: b)) = _
    rw [cutL, if_neg hx, ih]
theorem dec_step (n : Nat) (h : ¬ n < 10) : Lib.decDigits n = Lib.decDigits (n / 10) ++ [UInt8.ofNat (48 + n % 10)] := by
  rw [Lib.decDigits, dif_neg h]
theorem digB_of (k : Nat) (h : k < 10) : digB (UInt8.ofNat (48 + k)) = true := by
  unfold digB
  rw [UInt8.toNat_ofNat_of_lt' (show 48 + k < UInt8.size by show 48 + k < 256; omega)]
  simp; omega
theorem dig_val (k : Nat) (h : k < 10) : (UInt8.ofNat (48 + k)).toNat - 48 = k := by
  rw [UInt8.toNat_ofNat_of_lt' (show 48 + k < UInt8.size by show 48 + k < 256; omega)]
  omega
theorem dec_all (n : Nat) : (Lib.decDigits n).all digB = true := by
  induction n using Nat.strongRecOn with
  | _ n ih =>
    by_cases h : n < 10
    · rw [Lib.decDigits_one h]
      simp only [List.all_cons, List.all_nil, Bool.and_true]
      exact digB_of n h
    · rw [dec_step n h, List.all_append, ih (n / 10) (by omega)]
      simp only [List.all_cons, List.all_nil, Bool.and_true, Bool.true_and]
      exact digB_of _ (by omega)
theorem dec_val (n : Nat) : valB (Lib.decDigits n) = n := by
  induction n using Nat.strongRecOn with
  | _ n ih =>
    by_cases h : n < 10
    · rw [Lib.decDigits_one h]
      show 10 * 0 + ((UInt8.ofNat (48 + n)).toNat - 48) = n
      rw [dig_val n h]; omega
    · rw [dec_step n h, valB_snoc, ih (n / 10) (by omega), dig_val _ (by omega)]
      omega
theorem dec_head (n : Nat) (hn : 1 ≤ n) : ∃ c l, Lib.decDigits n = c :: l ∧ c ≠ 48 := by
  induction n using Nat.strongRecOn with
  | _ n ih =>
    by_cases h : n < 10
    · refine ⟨_, [], Lib.decDigits_one h, fun e => ?_⟩
      have := congrArg UInt8.toNat e
      rw [UInt8.toNat_ofNat_of_lt' (show 48 + n < UInt8.size by show 48 + n < 256; omega)] at this
      have h48 : (48 : UInt8).toNat = 48 := rfl
      omega
    · obtain ⟨c, l, e, hc⟩ := ih (n / 10) (by omega) (by omega)
      exact ⟨c, l ++ [UInt8.ofNat (48 + n % 10)], by rw [dec_step n h, e]; rfl, hc⟩
theorem dec_length (n k : Nat) (h : n < 10 ^ (k + 1)) : (Lib.decDigits n).length ≤ k + 1 := by
  induction k generalizing n with
  | zero => rw [Lib.decDigits_one (by simpa using h)]; simp
  | succ k ih =>
    by_cases h1 : n < 10
    · rw [Lib.decDigits_one h1]; simp
    · rw [dec_step n h1, List.length_append]
      have := ih (n / 10) (by rw [Nat.pow_succ] at h; omega)
      simp; omega
theorem dec_num (n : Nat) (h : n ≤ 9999) : numB (Lib.decDigits n) = true ∧ numV (Lib.decDigits n) = n := by
  have hl := dec_length n 3 (by show n < 10000; omega)
  have hf : formB (Lib.decDigits n) = true := by
    by_cases h1 : n < 10
    · rw [Lib.decDigits_one h1]; rfl
    · obtain ⟨c, l, e, hc⟩ := dec_head n (by omega)
      rw [e] at hl ⊢
      unfold formB
      simp only [List.head?_cons, List.isEmpty_cons, Bool.not_false, Bool.true_and, Bool.and_eq_true, decide_eq_true_eq]
      refine ⟨hl, ?_⟩
      have : ((some c : Option UInt8) == some 48) = false := by simpa using hc
      rw [this]; simp
  have hb : numB (Lib.decDigits n) = true := by unfold numB; rw [hf, dec_all]; rfl
  exact ⟨hb, by unfold numV; rw [if_pos hb, dec_val]⟩
/-- No end of a line, and no space. -/
def Tight (l : List UInt8) : Prop := ∀ c ∈ l, c ≠ 10 ∧ c ≠ 32
theorem Tight.app {a b : List UInt8} (ha : Tight a) (hb : Tight b) : Tight (a ++ b) := fun c hc => (List.mem_append.1 hc).elim (ha c) (hb c)
theorem word_tight {l : List UInt8} (h : wordB l = true) : Tight l := by
  intro c hc
  unfold wordB at h
  simp only [Bool.and_eq_true] at h
  have := List.all_eq_true.1 h.1.1 c hc
  unfold lowB at this
  simp only [Bool.and_eq_true, decide_eq_true_eq] at this
  constructor <;> (intro e; subst e; revert this; decide)
theorem dec_mem {n : Nat} {c : UInt8} (hc : c ∈ Lib.decDigits n) : 48 ≤ c.toNat ∧ c.toNat ≤ 57 := by
  have := List.all_eq_true.1 (dec_all n) c hc
  unfold digB at this
  simpa using this
theorem dec_tight (n : Nat) : Tight (Lib.decDigits n) := by
  intro c hc
  have := dec_mem hc
  constructor <;> (intro e; subst e; revert this; decide)
theorem hexC_of : ∀ k : Fin 16, hexO (hexC k.val).toNat = some k.val ∧ plainB (hexC k.val).toNat = true := by decide
theorem encB_tight (c : UInt8) : Tight (encB c) := by
  intro d hd
  unfold encB at hd
  split at hd
  · rename_i hp
    rw [List.mem_singleton.1 hd]
    constructor <;> (intro e; subst e; revert hp; decide)
  · rcases List.mem_cons.1 hd with rfl | hd
    · decide
    · rcases List.mem_cons.1 hd with rfl | hd
      · have := (hexC_of ⟨c.toNat / 16, by have := c.toNat_lt; omega⟩).2
        constructor <;> (intro e; simp only at this; rw [e] at this; revert this; decide)
      · rw [List.mem_singleton.1 hd]
        have := (hexC_of ⟨c.toNat % 16, by omega⟩).2
        constructor <;> (intro e; simp only at this; rw [e] at this; revert this; decide)
theorem secretL_tight (l : List UInt8) : Tight (secretL l) := by
  intro d hd
  obtain ⟨c, _, hc⟩ := List.mem_flatMap.1 hd
  exact encB_tight c d hc
theorem meantP_secret (s : ByteArray) (h1 : 1 ≤ s.size) (h2 : s.size ≤ 16) : meantP (secretL s.data.toList) = (s, true) := by
  unfold meantP
  rw [meantG_secret, List.nil_append, data_ofL]
  rw [Lib.size_eq] at h1 h2
  unfold lenB
  rw [decide_eq_true h1, decide_eq_true h2]; rfl
end Go.Proofs.YtaeaakcppheaoaaDoor
namespace Go.Proofs.YtaeaakcppheaoaaDoor
open Go.RowKit Go.Proofs.YtaeaakcppheaoaaDoorW.PrintWords Go.Maps

/-- The bits that are set among the first. -/
def bitsL (c : Nat) : Nat → List Nat
  | 0 => []
  | b + 1 => if c / 2 ^ b % 2 = 1 then bitsL c b ++ [b] else bitsL c b
theorem bitsL_lt (c : Nat) : ∀ b, ∀ x ∈ bitsL c b, x < b
  | 0, x, h => by cases h
  | b + 1, x, h => by
    unfold bitsL at h
    split at h
    · rcases List.mem_append.1 h with h | h
      · have := bitsL_lt c b x h; omega
      · rw [List.mem_singleton.1 h]; omega
    · have := bitsL_lt c b x h; omega
theorem bitsL_up (c : Nat) : ∀ b, (bitsL c b).Pairwise (· < ·)
  | 0 => List.Pairwise.nil
  | b + 1 => by
    unfold bitsL
    split
    · rw [List.pairwise_append]
      exact ⟨bitsL_up c b, List.pairwise_singleton _ _, fun x hx y hy => by rw [List.mem_singleton.1 hy]; exact bitsL_lt c b x hx⟩
    · exact bitsL_up c b
theorem join_snoc (l : List (List UInt8)) (x : List UInt8) (h : l ≠ []) : Lib.join (l ++ [x]) [44] = Lib.join l [44] ++ [44] ++ x := by
  cases l with
  | nil => exact absurd rfl h
  | cons y l =>
    rw [List.cons_append, Lib.join_cons, Lib.join_cons]
    unfold Lib.joinTail
    simp
theorem compT_bits (c : Nat) : ∀ b, compT c b = if bitsL c b = [] then ([], false) else ([32, 99, 111, 109, 112, 115, 32] ++ Lib.join ((bitsL c b).map Lib.decDigits) [44], true)
  | 0 => rfl
  | b + 1 => by
    have ih := compT_bits c b
    unfold compT bitsL
    by_cases hb : c / 2 ^ b % 2 = 1
    · rw [if_pos hb, if_pos hb, if_neg (show bitsL c b ++ [b] ≠ [] by simp), ih]
      by_cases h0 : bitsL c b = []
      · rw [if_pos h0, h0]
        simp [Lib.join_one]
      · rw [if_neg h0, List.map_append, List.map_singleton, join_snoc _ _ (by simpa using h0)]
        simp
    · rw [if_neg hb, if_neg hb, ih]
theorem or_plus (out n : Nat) (h : out < 2 ^ n) : out ||| 2 ^ n = out + 2 ^ n := by
  have := Nat.two_pow_add_eq_or_of_lt h 1
  rw [Nat.mul_one] at this
  rw [Nat.or_comm, ← this, Nat.add_comm]
theorem bits_sum (c : Nat) : ∀ b, (bitsL c b).foldl (fun o d => o ||| 2 ^ d) 0 = c % 2 ^ b
  | 0 => by simp [bitsL, Nat.mod_one]
  | b + 1 => by
    have ih := bits_sum c b
    have hp : 0 < 2 ^ b := Nat.two_pow_pos b
    have hm : c % 2 ^ (b + 1) = c % 2 ^ b + 2 ^ b * (c / 2 ^ b % 2) := by rw [Nat.pow_succ, Nat.mod_mul]
    unfold bitsL
    by_cases hb : c / 2 ^ b % 2 = 1
    · rw [if_pos hb, List.foldl_append, ih, hm, hb]
      show c % 2 ^ b ||| 2 ^ b = _
      rw [or_plus _ _ (Nat.mod_lt _ hp), Nat.mul_one]
    · rw [if_neg hb, ih, hm, show c / 2 ^ b % 2 = 0 by omega, Nat.mul_zero, Nat.add_zero]
theorem compsF_bits : ∀ (ds : List Nat) (last : Int) (out : Nat), (∀ d ∈ ds, last < (d : Int) ∧ d ≤ 31) → ds.Pairwise (· < ·) → compsF (ds.map Lib.decDigits) last out = some (ds.foldl (fun o d => o ||| 2 ^ d) out)
  | [], _, _, _, _ => rfl
  | d :: ds, last, out, h, hp => by
    obtain ⟨h1, h2⟩ := h d List.mem_cons_self
    obtain ⟨n1, n2⟩ := dec_num d (by omega)
    rw [List.map_cons, compsF, n2, if_pos ⟨n1, h1, h2⟩, List.foldl_cons]
    rw [List.pairwise_cons] at hp
    exact compsF_bits ds d _ (fun x hx => ⟨by have := hp.1 x hx; omega, (h x (List.mem_cons_of_mem _ hx)).2⟩) hp.2
theorem comps_back (c : Nat) (hc : c < 4294967296) (h0 : bitsL c 32 ≠ []) : compsO (Lib.join ((bitsL c 32).map Lib.decDigits) [44]) = some c := by
  unfold compsO
  rw [cutL_join 44 _ (by simpa using h0) (fun y hy hm => by
    obtain ⟨d, _, rfl⟩ := List.mem_map.1 hy
    have := dec_mem hm
    have h44 : (44 : UInt8).toNat = 44 := rfl
    omega)]
  rw [compsF_bits _ _ _ (fun d hd => ⟨by omega, by have := bitsL_lt c 32 d hd; omega⟩) (bitsL_up c 32), bits_sum, Nat.mod_eq_of_lt (by simpa using hc)]
theorem bits_none (c : Nat) (hc : c < 4294967296) (h0 : bitsL c 32 = []) : c = 0 := by
  have := bits_sum c 32
  rw [h0, Nat.mod_eq_of_lt (by simpa using hc)] at this
  exact this.symm
theorem join_tight (ds : List Nat) : Tight (Lib.join (ds.map Lib.decDigits) [44]) := by
  cases ds with
  | nil => intro c hc; cases hc
  | cons d ds =>
    rw [List.map_cons, Lib.join_cons]
    refine (dec_tight d).app fun c hc => ?_
    unfold Lib.joinTail at hc
    obtain ⟨l, hl, hc⟩ := List.mem_flatten.1 hc
    obtain ⟨m, hm, rfl⟩ := List.mem_map.1 hl
    obtain ⟨e, _, rfl⟩ := List.mem_map.1 hm
    rcases List.mem_append.1 hc with h | h
    · rw [List.mem_singleton.1 h]; decide
    · exact dec_tight e c h
end Go.Proofs.YtaeaakcppheaoaaDoor
namespace Go.Proofs.YtaeaakcppheaoaaDoor
open Go.RowKit Go.Proofs.YtaeaakcppheaoaaDoorW.PrintWords Go.Maps

/-- A text's lines are read. -/
def runT (T : List UInt8) (i : Nat) (s : St) : Except Nat St := linesP lineP ((cutL 10 T).map ofL) i s
theorem runT_nil (i : Nat) (s : St) : runT [] i s = .ok s := rfl
theorem runT_line {ws : List (List UInt8)} {rest : List UInt8} {i : Nat} {s s' : St} (h0 : ws ≠ []) (hw : ∀ w ∈ ws, Tight w) (hs : silentB (ofL (Lib.join ws [32])) = false) (h : lineP s (ws.map ofL) = some s') :
    runT (Lib.join ws [32] ++ 10 :: rest) i s = runT rest (i + 1) s' := by
  have h10 : (10 : UInt8) ∉ Lib.join ws [32] := by
    cases ws with
    | nil => exact absurd rfl h0
    | cons x ws =>
      rw [Lib.join_cons]
      intro hm
      rcases List.mem_append.1 hm with hm | hm
      · exact (hw x List.mem_cons_self 10 hm).1 rfl
      · unfold Lib.joinTail at hm
        obtain ⟨l, hl, hc⟩ := List.mem_flatten.1 hm
        obtain ⟨m, hm, rfl⟩ := List.mem_map.1 hl
        rcases List.mem_append.1 hc with hc | hc
        · revert hc; decide
        · exact (hw m (List.mem_cons_of_mem _ hm) 10 hc).1 rfl
  have hsp : spl 32 (ofL (Lib.join ws [32])) = ws.map ofL := by
    unfold spl
    rw [ofL_data, cutL_join 32 ws h0 (fun y hy hm => (hw y hy 32 hm).2 rfl)]
  unfold runT
  rw [cutL_append 10 _ rest h10, List.map_cons, linesP, hs, hsp, h]
  rfl
theorem silent_no {x : List UInt8} {t : List (List UInt8)} {c : UInt8} {l : List UInt8} (hx : x = c :: l) (hc : c ≠ 35) : silentB (ofL (Lib.join (x :: t) [32])) = false := by
  unfold silentB
  rw [ofL_data, Lib.join_cons, hx]
  simp [hc]
/-- Names that may be. -/
def NamesOk (N : List ByteArray) : Prop := ∀ k (h : k < N.length), wordB N[k].data.toList = true ∧ idxI (N.take k) N[k] < 0
theorem namesOk_of {given : List ByteArray} : ∀ {k : Nat} {N : List ByteArray}, namesO given k = some N → NamesOk N := by
  intro k
  induction k with
  | zero => intro N h; injection h with h; subst h; intro k hk; cases hk
  | succ k ih =>
    intro N h
    obtain ⟨M, hM, h⟩ := Option.bind_eq_some_iff.1 h
    have h1 := ih hM
    split at h
    · cases h
    · rename_i hc
      injection h with h
      subst h
      intro j hj
      by_cases hjM : j < M.length
      · rw [List.getElem_append_left hjM, List.take_append_of_le_length (by omega)]
        exact h1 j hjM
      · have hje : j = M.length := by rw [List.length_append, List.length_singleton] at hj; omega
        subst hje
        rw [List.getElem_append_right (Nat.le_refl _), List.take_append_of_le_length (Nat.le_refl _), List.take_length]
        simp only [Nat.sub_self, List.getElem_cons_zero]
        refine ⟨?_, ?_⟩
        · cases hb : wordB (nameAt given k).data.toList with
          | true => rfl
          | false => exact absurd (.inr hb) hc
        · by_cases hi : 0 ≤ idxI M (nameAt given k)
          · exact absurd (.inl hi) hc
          · omega
theorem idxI_neg {α : Type} [DecidableEq α] {l : List α} {x : α} (h : idxI l x < 0) : x ∉ l := by
  intro hm
  have h1 := List.idxOf_lt_length_of_mem hm
  unfold idxI at h
  rw [if_pos h1] at h
  omega
theorem idxI_self {N : List ByteArray} (hN : NamesOk N) (k : Nat) (hk : k < N.length) : idxI N N[k] = k :=
  idxI_hit N _ k hk rfl (fun j hj e => idxI_neg (hN k hk).2 (by
    rw [← e]
    exact List.mem_iff_getElem.2 ⟨j, by rw [List.length_take]; omega, by rw [List.getElem_take]⟩))
theorem t_comps : Tight [99, 111, 109, 112, 115] := by intro c hc; revert c; decide
theorem t_label : Tight [108, 97, 98, 101, 108] := by intro c hc; revert c; decide
theorem t_level : Tight [108, 101, 118, 101, 108] := by intro c hc; revert c; decide
/-- The reader behind k labels. -/
def stL (N : List ByteArray) (p : Pol) (k : Nat) : St := ⟨N.take k, p.labels.take k, List.replicate k ⟨4096, 4096, 4096⟩, [], List.replicate k false⟩
theorem take_snoc {α : Type} (l : List α) (k : Nat) (h : k < l.length) : l.take (k + 1) = l.take k ++ [l[k]] := List.take_succ_eq_append_getElem h
theorem lab_words (x : ByteArray) (lev c : Nat) (hc : c < 4294967296) :
    ∃ ws : List (List UInt8), ws ≠ [] ∧ labH x lev ++ (compT c 32).1 = Lib.join ([108, 97, 98, 101, 108] :: x.data.toList :: [108, 101, 118, 101, 108] :: ws) [32] ∧ (∀ w ∈ ws, Tight w) ∧
      ws.head? = some (Lib.decDigits lev) ∧ (ws.length = 1 ∧ c = 0 ∨ ∃ j, ws = [Lib.decDigits lev, [99, 111, 109, 112, 115], j] ∧ compsO j = some c) := by
  rw [compT_bits]
  by_cases h0 : bitsL c 32 = []
  · refine ⟨[Lib.decDigits lev], by simp, ?_, fun w hw => by rw [List.mem_singleton.1 hw]; exact dec_tight _, rfl, .inl ⟨rfl, bits_none c hc h0⟩⟩
    rw [if_pos h0, Lib.join_cons]
    unfold labH Lib.joinTail
    simp
  · refine ⟨[Lib.decDigits lev, [99, 111, 109, 112, 115], Lib.join ((bitsL c 32).map Lib.decDigits) [44]], by simp, ?_, fun w hw => ?_, rfl, .inr ⟨_, rfl, comps_back c hc h0⟩⟩
    · rw [if_neg h0, Lib.join_cons]
      unfold labH Lib.joinTail
      simp
    · rcases List.mem_cons.1 hw with rfl | hw
      · exact dec_tight _
      · rcases List.mem_cons.1 hw with rfl | hw
        · exact t_comps
        · rw [List.mem_singleton.1 hw]; exact join_tight _
theorem lab_step {N : List ByteArray} {p : Pol} (hN : NamesOk N) (hl : N.length = p.labels.length) (hr : rightB p = true) (hcom : ∀ x ∈ p.labels, 0 ≤ x.com ∧ x.com ≤ 4294967295) (k : Nat) (hk : k < p.labels.length) (rest : List UInt8) (i : Nat) :
    runT (labT N k (p.labels.getD k ⟨0, 0⟩) ++ rest) i (stL N p k) = runT rest (i + 1) (stL N p (k + 1)) := by
  have hf := fine_of hr
  have hkN : k < N.length := by omega
  have hlab : labOk p k = true := by
    unfold rightB at hr
    simp only [Bool.and_eq_true] at hr
    exact List.all_eq_true.1 hr.1.2 k (List.mem_range.2 hk)
  have hm := List.getElem_mem hk
  obtain ⟨c0, c1⟩ := hcom _ hm
  obtain ⟨l0, l1⟩ := hf.lev _ hm
  unfold labOk at hlab
  rw [rd_getElem _ _ k hk] at hlab ⊢
  obtain ⟨z, hz⟩ : ∃ z, z = p.labels[k] := ⟨_, rfl⟩
  have htk := take_snoc p.labels k hk
  rw [← hz] at hlab c0 c1 l0 l1 htk ⊢
  simp only [Bool.and_eq_true, decide_eq_true_eq, Bool.not_eq_true', decide_eq_false_iff_not] at hlab
  obtain ⟨⟨hchk, hnew⟩, -⟩ := hlab
  obtain ⟨lev, com⟩ := z
  simp only at c0 c1 l0 l1
  obtain ⟨a, rfl⟩ := Int.eq_ofNat_of_zero_le l0
  obtain ⟨c, rfl⟩ := Int.eq_ofNat_of_zero_le c0
  obtain ⟨hw1, hw2⟩ := hN k hkN
  unfold labT
  rw [rd_getElem N _ k hkN]
  simp only [Int.toNat_natCast]
  obtain ⟨x, hx⟩ : ∃ x, x = N[k] := ⟨_, rfl⟩
  have htN := take_snoc N k hkN
  rw [← hx] at hw1 hw2 htN ⊢
  obtain ⟨ws, hws0, hE, hT, hh, hd⟩ := lab_words x a c (by omega)
  rw [hE, List.append_assoc]
  obtain ⟨n1, n2⟩ := dec_num a (by omega)
  refine runT_line (by simp) (fun w hw => ?_) (silent_no rfl (by decide)) ?_
  · rcases List.mem_cons.1 hw with rfl | hw
    · exact t_label
    · rcases List.mem_cons.1 hw with rfl | hw
      · exact word_tight hw1
      · rcases List.mem_cons.1 hw with rfl | hw
        · exact t_level
        · exact hT w hw
  · have hst : stL N p (k + 1) = ⟨(stL N p k).names ++ [x], (stL N p k).labels ++ [⟨(a : Int), (c : Int)⟩], (stL N p k).quotas ++ [⟨4096, 4096, 4096⟩], (stL N p k).entries, (stL N p k).told ++ [false]⟩ := by
      unfold stL
      rw [htN, htk, List.replicate_succ', List.replicate_succ']
    have hQ : labelQ (stL N p k) x ⟨(a : Int), (c : Int)⟩ = some (stL N p (k + 1)) := by
      unfold labelQ
      rw [if_pos ⟨hchk, hnew, by unfold stL; simp only [List.length_take]; have := hf.n; omega⟩, hst]
    show lineP (stL N p k) (ofL [108, 97, 98, 101, 108] :: ofL x.data.toList :: ofL [108, 101, 118, 101, 108] :: ws.map ofL) = _
    unfold lineP
    rw [if_pos (show (ofL [108, 97, 98, 101, 108] :: ofL x.data.toList :: ofL [108, 101, 118, 101, 108] :: ws.map ofL).getD 0 (ofL []) = ofL [108, 97, 98, 101, 108] from rfl)]
    unfold labelP
    rcases hd with ⟨h1, rfl⟩ | ⟨j, rfl, hj⟩
    · obtain ⟨w, rfl⟩ := List.length_eq_one_iff.1 h1
      injection hh with hh
      subst hh
      rw [if_pos ⟨.inl rfl, by show wordB (ofL x.data.toList).data.toList = true; rw [ofL_data]; exact hw1, rfl, by show idxI (N.take k) (ofL x.data.toList) < 0; rw [data_ofL]; exact hw2⟩]
      show (labOf4 (ofL (Lib.decDigits a))).bind (labelQ (stL N p k) (ofL x.data.toList)) = _
      unfold labOf4
      rw [ofL_data, if_pos n1, n2, data_ofL]
      exact hQ
    · rw [if_pos ⟨.inr rfl, by show wordB (ofL x.data.toList).data.toList = true; rw [ofL_data]; exact hw1, rfl, by show idxI (N.take k) (ofL x.data.toList) < 0; rw [data_ofL]; exact hw2⟩]
      show (labOf6 (ofL (Lib.decDigits a)) (ofL [99, 111, 109, 112, 115]) (ofL j)).bind (labelQ (stL N p k) (ofL x.data.toList)) = _
      unfold labOf6
      rw [ofL_data, ofL_data, hj, if_pos ⟨n1, rfl, rfl⟩, n2, data_ofL]
      exact hQ
end Go.Proofs.YtaeaakcppheaoaaDoor
namespace Go.Proofs.YtaeaakcppheaoaaDoor
open Go.RowKit Go.Proofs.YtaeaakcppheaoaaDoorW.PrintWords Go.Maps

theorem set_mid {α : Type} (l : List α) (n k : Nat) (z v : α) (hk : k < n) (hl : l.length = k) : (l ++ List.replicate (n - k) z).set k v = l ++ v :: List.replicate (n - (k + 1)) z := by
  rw [show n - k = (n - (k + 1)) + 1 by omega, List.replicate_succ, List.set_append_right _ _ (by omega), hl, Nat.sub_self]
  rfl
theorem ofL_no {a b : List UInt8} (h : a ≠ b) : ¬ ofL a = ofL b := fun e => h (by have := congrArg (·.data.toList) e; simpa [ofL_data] using this)
theorem line_quota (s : St) (t : List ByteArray) : lineP s (ofL [113, 117, 111, 116, 97] :: t) = quotaP s (ofL [113, 117, 111, 116, 97] :: t) := by
  unfold lineP
  simp only [List.getD_cons_zero]
  rw [if_neg (show ¬ ofL [113, 117, 111, 116, 97] = ofL [108, 97, 98, 101, 108] from ofL_no (by decide)), if_pos trivial]
theorem line_client (s : St) (t : List ByteArray) : lineP s (ofL [99, 108, 105, 101, 110, 116] :: t) = clientP s (ofL [99, 108, 105, 101, 110, 116] :: t) := by
  unfold lineP
  simp only [List.getD_cons_zero]
  rw [if_neg (show ¬ ofL [99, 108, 105, 101, 110, 116] = ofL [108, 97, 98, 101, 108] from ofL_no (by decide)), if_neg (show ¬ ofL [99, 108, 105, 101, 110, 116] = ofL [113, 117, 111, 116, 97] from ofL_no (by decide)), if_pos trivial]
/-- The reader behind all labels and k quotas. -/
def stQ (N : List ByteArray) (p : Pol) (k : Nat) : St := ⟨N, p.labels, p.quotas.take k ++ List.replicate (N.length - k) ⟨4096, 4096, 4096⟩, [], List.replicate k true ++ List.replicate (N.length - k) false⟩
theorem t_quota : Tight [113, 117, 111, 116, 97] := by intro c hc; revert c; decide
theorem t_chars : Tight [99, 104, 97, 114, 115] := by intro c hc; revert c; decide
theorem t_ops : Tight [111, 112, 115] := by intro c hc; revert c; decide
theorem t_seats : Tight [115, 101, 97, 116, 115] := by intro c hc; revert c; decide
theorem t_client : Tight [99, 108, 105, 101, 110, 116] := by intro c hc; revert c; decide
theorem t_secret : Tight [115, 101, 99, 114, 101, 116] := by intro c hc; revert c; decide
theorem t_down : Tight [100, 111, 119, 110] := by intro c hc; revert c; decide
theorem quo_step {N : List ByteArray} {p : Pol} (hN : NamesOk N) (hl : N.length = p.labels.length) (hr : rightB p = true) (k : Nat) (hk : k < N.length) (rest : List UInt8) (i : Nat) :
    runT (quoT N k (p.quotas.getD k ⟨0, 0, 0⟩) ++ rest) i (stQ N p k) = runT rest (i + 1) (stQ N p (k + 1)) := by
  have hf := fine_of hr
  have hq := hf.q
  have hkq : k < p.quotas.length := by omega
  have hb := quotaB_yes _ (hf.quo _ (List.getElem_mem hkq))
  have htk := take_snoc p.quotas k hkq
  rw [rd_getElem _ _ k hkq]
  obtain ⟨z, hz⟩ : ∃ z, z = p.quotas[k] := ⟨_, rfl⟩
  rw [← hz] at hb htk ⊢
  clear hz
  obtain ⟨a, b, c⟩ := z
  simp only at hb
  obtain ⟨a0, a1, b0, b1, c0, c1⟩ := hb
  obtain ⟨a, rfl⟩ := Int.eq_ofNat_of_zero_le a0
  obtain ⟨b, rfl⟩ := Int.eq_ofNat_of_zero_le b0
  obtain ⟨c, rfl⟩ := Int.eq_ofNat_of_zero_le c0
  obtain ⟨na, va⟩ := dec_num a (by omega)
  obtain ⟨nb, vb⟩ := dec_num b (by omega)
  obtain ⟨nc, vc⟩ := dec_num c (by omega)
  have hid := idxI_self hN k hk
  have hw := (hN k hk).1
  unfold quoT
  rw [rd_getElem N _ k hk]
  simp only [Int.toNat_natCast]
  obtain ⟨x, hx⟩ : ∃ x, x = N[k] := ⟨_, rfl⟩
  rw [← hx] at hid hw ⊢
  clear hx
  have hE : [113, 117, 111, 116, 97, 32] ++ x.data.toList ++ [32, 99, 104, 97, 114, 115, 32] ++ Lib.decDigits a ++ [32, 111, 112, 115, 32] ++ Lib.decDigits b ++ [32, 115, 101, 97, 116, 115, 32] ++ Lib.decDigits c ++ [10] ++ rest =
      Lib.join [[113, 117, 111, 116, 97], x.data.toList, [99, 104, 97, 114, 115], Lib.decDigits a, [111, 112, 115], Lib.decDigits b, [115, 101, 97, 116, 115], Lib.decDigits c] [32] ++ 10 :: rest := by
    rw [Lib.join_cons]
    unfold Lib.joinTail
    simp
  rw [hE]
  refine runT_line (by simp) (fun w hm => ?_) (silent_no rfl (by decide)) ?_
  · simp only [List.mem_cons, List.not_mem_nil, or_false] at hm
    rcases hm with rfl | rfl | rfl | rfl | rfl | rfl | rfl | rfl
    · exact t_quota
    · exact word_tight hw
    · exact t_chars
    · exact dec_tight _
    · exact t_ops
    · exact dec_tight _
    · exact t_seats
    · exact dec_tight _
  · show lineP (stQ N p k) [ofL [113, 117, 111, 116, 97], ofL x.data.toList, ofL [99, 104, 97, 114, 115], ofL (Lib.decDigits a), ofL [111, 112, 115], ofL (Lib.decDigits b), ofL [115, 101, 97, 116, 115], ofL (Lib.decDigits c)] = _
    rw [data_ofL]
    have htold : (List.replicate k true ++ List.replicate (N.length - k) false).getD k false = false := by
      rw [List.getD_eq_getElem?_getD, List.getElem?_append_right (by simp), List.length_replicate, Nat.sub_self]
      rw [show N.length - k = (N.length - (k + 1)) + 1 by omega, List.replicate_succ]
      rfl
    rw [line_quota]
    unfold quotaP
    have q1 : 0 ≤ idxI N x := by rw [hid]; omega
    have q2 : (stQ N p k).told.getD (idxI N x).toNat false = false := by rw [hid]; exact htold
    have m1 : ∀ n, (ofL (Lib.decDigits n)).data.toList = Lib.decDigits n := fun n => ofL_data _
    have n1 : numB (ofL (Lib.decDigits a)).data.toList = true := by rw [m1]; exact na
    have n2 : numB (ofL (Lib.decDigits b)).data.toList = true := by rw [m1]; exact nb
    have n3 : numB (ofL (Lib.decDigits c)).data.toList = true := by rw [m1]; exact nc
    have v1 : numV (ofL (Lib.decDigits a)).data.toList ≤ 4096 := by rw [m1, va]; omega
    have v2 : numV (ofL (Lib.decDigits b)).data.toList ≤ 4096 := by rw [m1, vb]; omega
    have v3 : numV (ofL (Lib.decDigits c)).data.toList ≤ 4096 := by rw [m1, vc]; omega
    refine (if_pos (And.intro rfl (And.intro rfl (And.intro rfl (And.intro rfl (And.intro q1 (And.intro n1 (And.intro n2 (And.intro n3 (And.intro q2 (And.intro v1 (And.intro v2 v3)))))))))))).trans ?_
    show some { stQ N p k with quotas := (stQ N p k).quotas.set (idxI N x).toNat ⟨numV (ofL (Lib.decDigits a)).data.toList, numV (ofL (Lib.decDigits b)).data.toList, numV (ofL (Lib.decDigits c)).data.toList⟩, told := (stQ N p k).told.set (idxI N x).toNat true } = _
    rw [hid, m1, m1, m1, va, vb, vc, Int.toNat_natCast]
    unfold stQ
    simp only
    rw [set_mid _ _ _ _ _ hk (by rw [List.length_take]; omega), set_mid _ _ _ _ _ hk (by simp), htk, List.replicate_succ']
    simp
/-- The reader behind all labels, all quotas and k clients. -/
def stE (N : List ByteArray) (p : Pol) (k : Nat) : St := ⟨N, p.labels, p.quotas, p.entries.take k, List.replicate N.length true⟩
theorem ent_step {N : List ByteArray} {p : Pol} (hN : NamesOk N) (hl : N.length = p.labels.length) (hr : rightB p = true) (k : Nat) (hk : k < p.entries.length) (rest : List UInt8) (i : Nat) :
    runT (entT N (p.entries.getD k ⟨0, ofL [], false⟩) ++ rest) i (stE N p k) = runT rest (i + 1) (stE N p (k + 1)) := by
  have hf := fine_of hr
  have he := hf.e
  obtain ⟨e0, e1, e2, e3⟩ := hf.ent _ (List.getElem_mem hk)
  have htk := take_snoc p.entries k hk
  rw [rd_getElem _ _ k hk]
  obtain ⟨z, hz⟩ : ∃ z, z = p.entries[k] := ⟨_, rfl⟩
  rw [← hz] at e0 e1 e2 e3 htk ⊢
  clear hz
  obtain ⟨m, sec, down⟩ := z
  simp only at e0 e1 e2 e3
  obtain ⟨m, rfl⟩ := Int.eq_ofNat_of_zero_le e0
  have hm : m < N.length := by omega
  have hid := idxI_self hN m hm
  have hw := (hN m hm).1
  have hsec := meantP_secret sec e2 e3
  unfold entT
  simp only [Int.toNat_natCast]
  rw [rd_getElem N _ m hm]
  obtain ⟨x, hx⟩ : ∃ x, x = N[m] := ⟨_, rfl⟩
  rw [← hx] at hid hw ⊢
  clear hx
  have hst : stE N p (k + 1) = { stE N p k with entries := (stE N p k).entries ++ [⟨(m : Int), sec, down⟩] } := by
    unfold stE
    rw [htk]
  have hlen : (stE N p k).entries.length < 8 := by
    unfold stE
    simp only [List.length_take]
    omega
  cases down with
  | false =>
    have hE : entH x sec ++ (if false = true then [32, 100, 111, 119, 110] else []) ++ [10] ++ rest = Lib.join [[99, 108, 105, 101, 110, 116], x.data.toList, [115, 101, 99, 114, 101, 116], secretL sec.data.toList] [32] ++ 10 :: rest := by
      rw [Lib.join_cons]
      unfold Lib.joinTail entH
      simp
    rw [hE]
    refine runT_line (by simp) (fun w hm => ?_) (silent_no rfl (by decide)) ?_
    · simp only [List.mem_cons, List.not_mem_nil, or_false] at hm
      rcases hm with rfl | rfl | rfl | rfl
      · exact t_client
      · exact word_tight hw
      · exact t_secret
      · exact secretL_tight _
    · show lineP (stE N p k) [ofL [99, 108, 105, 101, 110, 116], ofL x.data.toList, ofL [115, 101, 99, 114, 101, 116], ofL (secretL sec.data.toList)] = _
      rw [data_ofL]
      rw [line_client]
      unfold clientP
      have q1 : 0 ≤ idxI N x := by rw [hid]; omega
      have q2 : (meantP (ofL (secretL sec.data.toList)).data.toList).2 = true := by rw [ofL_data, hsec]
      refine (if_pos (And.intro (Or.inl rfl) (And.intro rfl (And.intro hlen (And.intro q1 q2))))).trans ?_
      show some { stE N p k with entries := (stE N p k).entries ++ [(⟨idxI N x, (meantP (ofL (secretL sec.data.toList)).data.toList).1, false⟩ : Ent)] } = _
      rw [hid, ofL_data, hsec, hst]
  | true =>
    have hE : entH x sec ++ (if true = true then [32, 100, 111, 119, 110] else []) ++ [10] ++ rest = Lib.join [[99, 108, 105, 101, 110, 116], x.data.toList, [115, 101, 99, 114, 101, 116], secretL sec.data.toList, [100, 111, 119, 110]] [32] ++ 10 :: rest := by
      rw [Lib.join_cons]
      unfold Lib.joinTail entH
      simp
    rw [hE]
    refine runT_line (by simp) (fun w hm => ?_) (silent_no rfl (by decide)) ?_
    · simp only [List.mem_cons, List.not_mem_nil, or_false] at hm
      rcases hm with rfl | rfl | rfl | rfl | rfl
      · exact t_client
      · exact word_tight hw
      · exact t_secret
      · exact secretL_tight _
      · exact t_down
    · show lineP (stE N p k) [ofL [99, 108, 105, 101, 110, 116], ofL x.data.toList, ofL [115, 101, 99, 114, 101, 116], ofL (secretL sec.data.toList), ofL [100, 111, 119, 110]] = _
      rw [data_ofL]
      rw [line_client]
      unfold clientP
      have q1 : 0 ≤ idxI N x := by rw [hid]; omega
      have q2 : (meantP (ofL (secretL sec.data.toList)).data.toList).2 = true := by rw [ofL_data, hsec]
      refine (if_pos (And.intro (Or.inr (And.intro rfl rfl)) (And.intro rfl (And.intro hlen (And.intro q1 q2))))).trans ?_
      show some { stE N p k with entries := (stE N p k).entries ++ [(⟨idxI N x, (meantP (ofL (secretL sec.data.toList)).data.toList).1, true⟩ : Ent)] } = _
      rw [hid, ofL_data, hsec, hst]
end Go.Proofs.YtaeaakcppheaoaaDoor
namespace Go.Proofs.YtaeaakcppheaoaaDoor
open Go.RowKit Go.Proofs.YtaeaakcppheaoaaDoorW.PrintWords Go.Maps

section
variable {N : List ByteArray} {p : Pol}
theorem labs_run (hN : NamesOk N) (hl : N.length = p.labels.length) (hr : rightB p = true) (hcom : ∀ x ∈ p.labels, 0 ≤ x.com ∧ x.com ≤ 4294967295) : ∀ k, k ≤ p.labels.length → ∀ rest i, runT (labsT N p.labels k ++ rest) i (stL N p 0) = runT rest (i + k) (stL N p k)
  | 0, _, rest, i => rfl
  | k + 1, hk, rest, i => by
    show runT (labsT N p.labels k ++ labT N k (p.labels.getD k ⟨0, 0⟩) ++ rest) i _ = _
    rw [List.append_assoc, labs_run hN hl hr hcom k (by omega), lab_step hN hl hr hcom k (by omega)]
    rfl
theorem quos_run (hN : NamesOk N) (hl : N.length = p.labels.length) (hr : rightB p = true) : ∀ k, k ≤ N.length → ∀ rest i, runT (quosT N p.quotas k ++ rest) i (stQ N p 0) = runT rest (i + k) (stQ N p k)
  | 0, _, rest, i => rfl
  | k + 1, hk, rest, i => by
    show runT (quosT N p.quotas k ++ quoT N k (p.quotas.getD k ⟨0, 0, 0⟩) ++ rest) i _ = _
    rw [List.append_assoc, quos_run hN hl hr k (by omega), quo_step hN hl hr k (by omega)]
    rfl
theorem ents_run (hN : NamesOk N) (hl : N.length = p.labels.length) (hr : rightB p = true) : ∀ k, k ≤ p.entries.length → ∀ rest i, runT (entsT N p.entries k ++ rest) i (stE N p 0) = runT rest (i + k) (stE N p k)
  | 0, _, rest, i => rfl
  | k + 1, hk, rest, i => by
    show runT (entsT N p.entries k ++ entT N (p.entries.getD k ⟨0, ofL [], false⟩) ++ rest) i _ = _
    rw [List.append_assoc, ents_run hN hl hr k (by omega), ent_step hN hl hr k (by omega)]
    rfl
theorem text_run (hN : NamesOk N) (hl : N.length = p.labels.length) (hr : rightB p = true) (hcom : ∀ x ∈ p.labels, 0 ≤ x.com ∧ x.com ≤ 4294967295) : runT (textT N p) 0 St0 = .ok (stE N p p.entries.length) := by
  have hq := (fine_of hr).q
  have h0 : St0 = stL N p 0 := by unfold stL St0; simp
  have h1 : stL N p p.labels.length = stQ N p 0 := by
    unfold stL stQ
    rw [List.take_of_length_le (show N.length ≤ p.labels.length by omega), List.take_length, hl]
    simp
  have h2 : stQ N p p.quotas.length = stE N p 0 := by
    unfold stQ stE
    rw [show N.length - p.quotas.length = 0 by omega, List.take_length, show p.quotas.length = N.length by omega]
    simp
  have e : textT N p = labsT N p.labels p.labels.length ++ (quosT N p.quotas p.quotas.length ++ (entsT N p.entries p.entries.length ++ [])) := by
    unfold textT
    rw [List.append_nil, List.append_assoc]
  rw [e, h0, labs_run hN hl hr hcom _ (Nat.le_refl _), h1, quos_run hN hl hr _ (by omega), h2, ents_run hN hl hr _ (Nat.le_refl _)]
  exact runT_nil _ _
end
theorem compT_short (c : Nat) : ∀ b, b ≤ 99 → (compT c b).1.length ≤ 7 + 3 * b ∧ ((compT c b).2 = false → (compT c b).1.length = 0) := by
  intro b
  induction b with
  | zero => intro _; simp [compT]
  | succ b ih =>
    intro hb
    obtain ⟨h1, h2⟩ := ih (by omega)
    have hd := dec_length b 1 (by show b < 100; omega)
    unfold compT
    split
    · refine ⟨?_, fun h => by simp at h⟩
      simp only [List.length_append]
      cases h : (compT c b).2 with
      | true => simp; omega
      | false => have := h2 h; simp; omega
    · exact ⟨by omega, h2⟩
theorem lens_sum {α : Type} (f : Nat → List α) (g : Nat → List α) (m : Nat) (n : Nat) (h0 : g 0 = []) (hs : ∀ k, g (k + 1) = g k ++ f k) (hf : ∀ k, k < n → (f k).length ≤ m) : ∀ k, k ≤ n → (g k).length ≤ m * k
  | 0, _ => by rw [h0]; simp
  | k + 1, hk => by
    have := lens_sum f g m n h0 hs hf k (by omega)
    have := hf k (by omega)
    rw [hs, List.length_append, Nat.mul_succ]
    omega
theorem text_short {N : List ByteArray} {p : Pol} (hN : ∀ x ∈ N, x.size ≤ 12) (hr : rightB p = true) : (textT N p).length ≤ 32768 := by
  have hf := fine_of hr
  have hx : ∀ i, (N.getD i (ofL [])).data.toList.length ≤ 12 := by
    intro i
    rw [List.getD_eq_getElem?_getD]
    cases h : N[i]? with
    | none => simp [ofL]
    | some x => rw [← Lib.size_eq]; exact hN x (List.mem_of_getElem? h)
  have h1 := lens_sum (fun k => labT N k (p.labels.getD k ⟨0, 0⟩)) (labsT N p.labels) 200 p.labels.length rfl (fun _ => rfl) (fun k hk => by
    have hl := hf.lev _ (List.getElem_mem hk)
    rw [rd_getElem _ _ k hk]
    have hc := (compT_short p.labels[k].com.toNat 32 (by omega)).1
    have hd := dec_length p.labels[k].lev.toNat 1 (by show _ < 100; omega)
    have := hx k
    unfold labT labH
    simp only [List.length_append, List.length_cons, List.length_nil]
    omega) p.labels.length (Nat.le_refl _)
  have h2 := lens_sum (fun k => quoT N k (p.quotas.getD k ⟨0, 0, 0⟩)) (quosT N p.quotas) 200 p.quotas.length rfl (fun _ => rfl) (fun k hk => by
    have hb := quotaB_yes _ (hf.quo _ (List.getElem_mem hk))
    rw [rd_getElem _ _ k hk]
    have d1 := dec_length p.quotas[k].chars.toNat 3 (by show _ < 10000; omega)
    have d2 := dec_length p.quotas[k].ops.toNat 3 (by show _ < 10000; omega)
    have d3 := dec_length p.quotas[k].seats.toNat 3 (by show _ < 10000; omega)
    have := hx k
    unfold quoT
    simp only [List.length_append, List.length_cons, List.length_nil]
    omega) p.quotas.length (Nat.le_refl _)
  have h3 := lens_sum (fun k => entT N (p.entries.getD k ⟨0, ofL [], false⟩)) (entsT N p.entries) 200 p.entries.length rfl (fun _ => rfl) (fun k hk => by
    obtain ⟨_, _, _, e3⟩ := hf.ent _ (List.getElem_mem hk)
    rw [rd_getElem _ _ k hk]
    have hs := secretL_len p.entries[k].sec.data.toList
    rw [← Lib.size_eq] at hs
    have := hx p.entries[k].lab.toNat
    have hdn : (if p.entries[k].down = true then ([32, 100, 111, 119, 110] : List UInt8) else []).length ≤ 5 := by split <;> simp
    unfold entT entH
    simp only [List.length_append, List.length_cons, List.length_nil]
    omega) p.entries.length (Nat.le_refl _)
  have n1 := hf.n
  have n2 := hf.q
  have n3 := hf.e
  unfold textT
  simp only [List.length_append]
  omega
/-- What is printed is parsed as it was, with its names. -/
theorem back_law {p : Pol} {given N : List ByteArray} (hr : rightB p = true) (hN : namesO given p.labels.length = some N) (hcom : ∀ x ∈ p.labels, 0 ≤ x.com ∧ x.com ≤ 4294967295) : parseP (ofL (textT N p)) = ⟨p, N, 0, 0⟩ := by
  obtain ⟨hl, hw⟩ := namesO_len hN
  have hs := text_short (fun x hx => word_len (hw x hx)) hr
  have ht := text_run (namesOk_of hN) hl hr hcom
  have hn : rightN p = 0 := by unfold rightN; rw [hr]; rfl
  unfold parseP
  rw [if_neg (by rw [Lib.size_eq, ofL_data]; omega)]
  unfold runT at ht
  unfold spl
  rw [ofL_data, ht]
  have hp : (stE N p p.entries.length).pol = p := by
    unfold stE St.pol
    simp
  unfold endP
  simp only
  rw [hp, if_pos hn]
  rfl
end Go.Proofs.YtaeaakcppheaoaaDoor
