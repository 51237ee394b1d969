/- What lang.comps answers. -/
import Derived.Test.YtaeaakcppheaoaaDoorHf
import Derived.Laws.BitsAllLaws
namespace Go.Proofs.YtaeaakcppheaoaaDoor
open Go.RowKit Go.Proofs.YtaeaakcppheaoaaDoorW.PrintWords

/-- Numbers from 0 to 31, rising, as bits. -/
def compsF : List (List UInt8) → Int → Nat → Option Nat
  | [], _, out => some out
  | x :: t, last, out => if numB x = true ∧ last < (numV x : Int) ∧ numV x ≤ 31 then compsF t (numV x) (out ||| 2 ^ numV x) else none
def compsO (s : List UInt8) : Option Nat := compsF (cutL 44 s) (-1) 0

theorem or_pow (out n : Nat) (h1 : out < 4294967296) (h2 : n ≤ 31) : bits .or .u32 (out : Int) (2 ^ n % 4294967296) = ((out ||| 2 ^ n : Nat) : Int) ∧ out ||| 2 ^ n < 4294967296 := by
  have hp : 2 ^ n < 4294967296 := Nat.lt_of_le_of_lt (Nat.pow_le_pow_right (by omega) h2) (by decide)
  have e : (2 : Int) ^ n % 4294967296 = ((2 ^ n : Nat) : Int) := by
    have : ((2 : Int) ^ n) = ((2 ^ n : Nat) : Int) := by simp
    rw [this]
    generalize 2 ^ n = z at hp
    omega
  rw [e]
  exact ⟨u32_or_nat out (2 ^ n) h1 hp, Nat.or_lt_two_pow (n := 32) h1 hp⟩
theorem comps_none (o : Option Nat) (h : o = none) : Ending.returned (.tuple #[.int .u32 0, .bool false]) = .returned (.tuple #[.int .u32 ((o.getD 0 : Nat) : Int), .bool o.isSome]) := by rw [h]; rfl
theorem comps_some (o : Option Nat) (n : Nat) (h : o = some n) : Ending.returned (.tuple #[.int .u32 (n : Int), .bool true]) = .returned (.tuple #[.int .u32 ((o.getD 0 : Nat) : Int), .bool o.isSome]) := by rw [h]; rfl
theorem number_is (s : ByteArray) (w : World) (n : Nat) (b : Bool) (h1 : numV s.data.toList = n) (h2 : numB s.data.toList = b) :
    Calls Tryd.prog 65 #[.string s] w fun e w' => e = .returned (.tuple #[.int .i64 (n : Int), .bool b]) ∧ Below w.heap.size w w' := by
  rw [← h1, ← h2]; exact number_any s w

set_option maxHeartbeats 1000000 in
theorem comps_any (s : ByteArray) (m : Int) (w : World) (hs : s.size ≤ 32768) (hm : w.cell? ⟨0, 0, none⟩ = some (.int .i64 m)) :
    Calls Tryd.prog 66 #[.string s] w fun e w' => e = .returned (.tuple #[.int .u32 (((compsO s.data.toList).getD 0 : Nat) : Int), .bool (compsO s.data.toList).isSome]) ∧ Below w.heap.size w w' := by
  go_enter Tryd.func66, Tryd.ntmps66
  go_wp2_with (go_at_call 17; refine (split_any _ 44 m _ hs hm).mono ?_; rintro e w1 ⟨rfl, hb, hr⟩)
  have HR := Aside0.mk hr
  have HB := Aside0.mk hb
  have hl := C_max hr
  clear hr hb hm
  obtain ⟨L, hL⟩ : ∃ L, L = spl 44 s := ⟨_, rfl⟩
  rw [← hL] at HR hl ⊢
  have HL := Aside0.mk hL
  clear hL
  go_loopw [4, 5, 13] (fun o a i wr => ∃ (k : Nat) (out : Nat) (last : Int), k ≤ L.length ∧ i = .int .i64 k ∧ o = .int .u32 out ∧ a = .int .i64 last ∧ -1 ≤ last ∧ last ≤ 31 ∧ out < 4294967296 ∧
    Aside0 (compsO s.data.toList = compsF ((L.drop k).map (·.data.toList)) last out) ∧ Aside0 (Below w1.heap.size w1 wr)) (fun _ _ i _ => L.length - (intOf i).toNat)
  case atStart => exact ⟨0, 0, -1, by omega, rfl, rfl, rfl, by omega, by omega, by omega, ⟨by
      rw [HL.out, List.drop_zero, spl, List.map_map]
      unfold compsO
      congr 1
      conv => lhs; rw [← List.map_id (cutL _ _)]
      exact (List.map_congr_left (fun x _ => ofL_data x)).symm⟩, ⟨Below.refl _ _⟩⟩
  case round =>
    obtain ⟨k, out, last, hk, rfl, rfl, rfl, l0, l1, l2, he, HB2⟩ := hrel
    by_cases hlt : k < L.length
    · obtain ⟨b, o, hA, hc⟩ := str_at (Kd.C_below HR.out HB2.out) k hlt
      injection hA with hA
      injection hA with hA1 hA2
      subst hA1 hA2
      rw [Nat.zero_add] at hc
      have hdrop : L.drop k = L[k] :: L.drop (k + 1) := List.drop_eq_getElem_cons hlt
      have he2 : compsO s.data.toList = if numB L[k].data.toList = true ∧ last < (numV L[k].data.toList : Int) ∧ numV L[k].data.toList ≤ 31 then compsF ((L.drop (k + 1)).map (·.data.toList)) (numV L[k].data.toList) (out ||| 2 ^ numV L[k].data.toList) else none := by
        rw [he.out, hdrop]; rfl
      have He2 := Aside0.mk he2
      clear he2 hdrop
      obtain ⟨x, hx⟩ : ∃ x, x = L[k] := ⟨_, rfl⟩
      rw [← hx] at hc He2
      obtain ⟨n, hn⟩ : ∃ n, n = numV x.data.toList := ⟨_, rfl⟩
      rw [← hn] at He2
      have Hn := Aside0.mk hn.symm
      clear hn hx
      by_cases hok : numB x.data.toList = true ∧ last < (n : Int) ∧ n ≤ 31
      · obtain ⟨o1, o2, o3⟩ := hok
        have He3 := Aside0.mk (He2.out.trans (if_pos ⟨o1, o2, o3⟩))
        have O1 := Aside0.mk o1
        have o3' : (n : Int) ≤ 31 := by omega
        clear o1
        go_wp2_with (go_at_call 65; refine (number_is _ _ n true Hn.out O1.out).mono ?_; rintro e w2 ⟨rfl, hb2⟩)
        obtain ⟨e1, e2⟩ := or_pow out n (by omega) (by omega)
        go_roundw
        case rel => exact ⟨k + 1, out ||| 2 ^ n, n, by omega, by go_num, by rw [e1], rfl, by omega, by omega, by omega, He3, ⟨below_step HB2.out hb2⟩⟩
        case measure => simp [intOf]; omega
      · have He3 := Aside0.mk (He2.out.trans (if_neg hok))
        cases hnb : numB x.data.toList with
        | false =>
          have O1 := Aside0.mk hnb
          clear hok hnb
          go_wp2_with (go_at_call 65; refine (number_is _ _ n false Hn.out O1.out).mono ?_; rintro e w2 ⟨rfl, hb2⟩)
          go_ret2
          exact ⟨comps_none _ He3.out, below_step HB.out (below_step HB2.out hb2)⟩
        | true =>
          have O1 := Aside0.mk hnb
          have hno : (n : Int) ≤ last ∨ (last < (n : Int) ∧ 31 < (n : Int)) := by
            by_cases h : last < (n : Int)
            · by_cases h2 : n ≤ 31
              · exact absurd ⟨hnb, h, h2⟩ hok
              · omega
            · omega
          clear hok hnb
          rcases hno with h | ⟨h, h'⟩
          all_goals
            go_wp2_with (go_at_call 65; refine (number_is _ _ n true Hn.out O1.out).mono ?_; rintro e w2 ⟨rfl, hb2⟩)
            all_goals (first | (exfalso; omega) | (go_ret2; exact ⟨comps_none _ He3.out, below_step HB.out (below_step HB2.out hb2)⟩))
    · have He3 := Aside0.mk (show compsO s.data.toList = some out by rw [he.out, List.drop_of_length_le (by omega)]; rfl)
      go_wp2
      go_ret2
      exact ⟨comps_some _ _ He3.out, below_step HB.out HB2.out⟩
end Go.Proofs.YtaeaakcppheaoaaDoor
