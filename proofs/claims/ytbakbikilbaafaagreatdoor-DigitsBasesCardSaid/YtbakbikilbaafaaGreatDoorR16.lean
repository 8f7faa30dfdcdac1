/-
  Contracts: The contract of the program's Whole, at any text and base (printed by gen_XVX.py). Contracts of the reference's digit, run, prefixed. The contract of the reference's decimal (printed by gen_XYC.py). The contract of the reference's ascii. The contract of the reference's value of a decimal text (printed by gen_XYD.py).
-/
import Derived.Test.YtbakbikilbaafaaGreatDoorR15
namespace Go.Proofs.YtbakbikilbaafaaGreatDoor
open Go.RowKit F64 Ieee
set_option linter.unusedVariables false
set_option maxHeartbeats 4000000
set_option maxRecDepth 100000

/-- a base as 32 bits -/
def r32 (b : Int) : Int := IntKind.i32.wrap b
/-- what a text's beginning is read as: without sign, the base as 32 bits -/
inductive WholeR (T : List Nat) (ng : Bool) (r : Int) : Nat → Prop
  | hexN (hp : preL T = 16) (hr : r = 0 ∨ r = 16) (h : runL 16 (T.drop 2) = 0) : WholeR T ng r nanW
  | hex (hp : preL T = 16) (hr : r = 0 ∨ r = 16) (h : 0 < runL 16 (T.drop 2)) : WholeR T ng r (sgW ng (nN (numB 16 ((T.drop 2).take (runL 16 (T.drop 2))))))
  | tenN (hp : preL T ≠ 16) (hr : r = 0) (h : runL 10 T = 0) : WholeR T ng r nanW
  | ten (hp : preL T ≠ 16) (hr : r = 0) (h : 0 < runL 10 T) : WholeR T ng r (sgW ng (nN (numB 10 (T.take (runL 10 T)))))
  | none (hr : r ≠ 0) (h : r < 2 ∨ 36 < r) : WholeR T ng r nanW
  | anyN {n : Nat} (hp : preL T ≠ 16 ∨ n ≠ 16) (hr : r = (n : Int)) (h2 : 2 ≤ n) (h36 : n ≤ 36) (h : runL n T = 0) : WholeR T ng r nanW
  | any {n : Nat} (hp : preL T ≠ 16 ∨ n ≠ 16) (hr : r = (n : Int)) (h2 : 2 ≤ n) (h36 : n ≤ 36) (h : 0 < runL n T) : WholeR T ng r (sgW ng (nN (numB n (T.take (runL n T)))))
theorem wholeR_ex (T : List Nat) (ng : Bool) (r : Int) : ∃ v, WholeR T ng r v := by
  by_cases hr0 : r = 0
  · by_cases hp : preL T = 16
    · rcases Nat.eq_zero_or_pos (runL 16 (T.drop 2)) with h | h
      · exact ⟨_, .hexN hp (.inl hr0) h⟩
      · exact ⟨_, .hex hp (.inl hr0) h⟩
    · rcases Nat.eq_zero_or_pos (runL 10 T) with h | h
      · exact ⟨_, .tenN hp hr0 h⟩
      · exact ⟨_, .ten hp hr0 h⟩
  · by_cases hb : r < 2 ∨ 36 < r
    · exact ⟨_, .none hr0 hb⟩
    · obtain ⟨n, rfl⟩ : ∃ n : Nat, r = (n : Int) := ⟨r.toNat, by omega⟩
      by_cases hp : preL T = 16 ∧ n = 16
      · obtain ⟨hp, rfl⟩ := hp
        rcases Nat.eq_zero_or_pos (runL 16 (T.drop 2)) with h | h
        · exact ⟨_, .hexN hp (.inr rfl) h⟩
        · exact ⟨_, .hex hp (.inr rfl) h⟩
      · have hp2 : preL T ≠ 16 ∨ n ≠ 16 := by
          by_cases h : preL T = 16
          · exact .inr (fun g => hp ⟨h, g⟩)
          · exact .inl h
        rcases Nat.eq_zero_or_pos (runL n T) with h | h
        · exact ⟨_, .anyN hp2 rfl (by omega) (by omega) h⟩
        · exact ⟨_, .any hp2 rfl (by omega) (by omega) h⟩
theorem FrA.units {s : ByteArray} (k : Nat) (h : k ≤ s.size / 2) : (s.extract (2 * k) (2 * (s.size / 2))).size / 2 = s.size / 2 - k := by
  rw [ByteArray.size_extract]; omega
theorem wrap_i32_b (b : Int) : -2147483648 ≤ IntKind.i32.wrap b ∧ IntKind.i32.wrap b ≤ 2147483647 := by
  rw [IntKind.wrap_i32]; omega
theorem c_dWhole_hex0 (s : ByteArray) (k : Nat) (U : List Nat) (b : Int) (n : Nat) (hs : s.size ≤ 800) (hF : FrA (blkS s) (s.size / 2) k)
    (hUe : plL (unitsN (s.extract (2 * k) (2 * (s.size / 2))) ((s.extract (2 * k) (2 * (s.size / 2))).size / 2)) = U) (hU : ∀ c ∈ U, c < 256) (hUl : U.length ≤ 800) (hp : preL (sgnL U).2 = 16) (hr : r32 b = 0) (h : 0 < runL 16 ((sgnL U).2.drop 2)) (w : World) (hW : LibW w) :
    Calls Tryz.prog 24 #[.string s, .int .i64 b] w fun r w' => r = .returned (.float .f64 (sgW (ngL U) (nN (numB 16 (((sgnL U).2.drop 2).take (runL 16 ((sgnL U).2.drop 2))))))) ∧ Below w.heap.size w w' := by
  have hFr := Lib.hid (fun W => c_dfront s k (by omega) hF W)
  have hLn := Lib.hid (fun W => c_ULen s (by omega) W)
  have hCt := Lib.hid (fun W => c_UCutG s k (s.size / 2) (by omega) hF.le (Nat.le_refl _) W)
  have hsz2 : (s.extract (2 * k) (2 * (s.size / 2))).size ≤ 1099511627776 := by rw [ByteArray.size_extract]; omega
  have hPl := Lib.hid (fun W => c_dplain (s.extract (2 * k) (2 * (s.size / 2))) hsz2 W)
  rw [hUe] at hPl
  have hSg := Lib.hid (fun W => c_dsigned U hU (by omega) W)
  rw [sgnL_1] at hSg
  have hTm := fun c hc => hU c (sgnL_mem (L := U) c hc)
  have hTl := sgnL_len U
  have hPr := Lib.hid (fun W => c_dprefix (sgnL U).2 hTm (by omega) W)
  have hLk := Lib.hid (fun W (hb : Below w.heap.size w W) => hW.keep hb)
  have hsz : (u8sG (sgnL U).2).size = (sgnL U).2.length := uG_size _
  have hs5 : (u8sG (sgnL U).2).size ≤ 800 := by omega
  rw [hp] at hPr
  have hPr : Hid (∀ W, Calls Tryz.prog 37 #[.string (u8sG (sgnL U).2)] W fun r w' => r = .returned (.int .i64 16) ∧ Below W.heap.size W w') := hPr
  have h2 : 2 ≤ (sgnL U).2.length := by
    rcases Nat.lt_or_ge (sgnL U).2.length 2 with h | h
    · exfalso
      have : preL (sgnL U).2 = 0 := by unfold preL; rw [if_neg (by omega)]
      omega
    · exact h
  have hs2 : (2 : Int) ≤ ((u8sG (sgnL U).2).size : Int) := by omega
  have hs2N : 2 ≤ (u8sG (sgnL U).2).size := by omega
  have hex0 : (u8sG (sgnL U).2).extract 2 (u8sG (sgnL U).2).size = u8sG ((sgnL U).2.drop 2) := by
    rw [uG_ext, hsz, List.take_length]
  have hDo := Lib.hid (fun W => c_ddigitsOf ((16 : Nat) : Int) W)
  have hRu := Lib.hid (fun b W h => c_drun ((sgnL U).2.drop 2) (fun c hc => hTm c (List.mem_of_mem_drop hc)) 0 16 b (Nat.zero_le _) (by rw [List.length_drop]; omega) W h)
  rw [List.drop_zero] at hRu
  have hrl := runL_le 16 ((sgnL U).2.drop 2)
  have hrm := run_mem (n := 16) (l := ((sgnL U).2.drop 2))
  rw [List.length_drop] at hrl
  have hX := Lib.hid (fun W hW => c_dexact (((sgnL U).2.drop 2).take (runL 16 ((sgnL U).2.drop 2))) 16 (by omega) (by omega) (fun c hc => ⟨hTm c (List.mem_of_mem_drop (List.mem_of_mem_take hc)), hrm c hc⟩) (by rw [List.length_take, List.length_drop]; omega) (by rw [List.length_take, List.length_drop]; omega) (fun _ => by rw [List.length_take, List.length_drop]; omega) W hW)
  have hm := fun w => run_float_arith (P := Tryz.prog) w .mul 22 .f64 (oneB (ngL U)) (nN (numB 16 (((sgnL U).2.drop 2).take (runL 16 ((sgnL U).2.drop 2))))) (sgW (ngL U) (nN (numB 16 (((sgnL U).2.drop 2).take (runL 16 ((sgnL U).2.drop 2)))))) (mul_sg (ngL U) (nN_le _))
  have hrn0 : ((runL 16 ((sgnL U).2.drop 2) : Int) == 0) = false := beq_eq_false_iff_ne.2 (by omega)
  have hexr : (u8sG ((sgnL U).2.drop 2)).extract 0 (runL 16 ((sgnL U).2.drop 2)) = u8sG (((sgnL U).2.drop 2).take (runL 16 ((sgnL U).2.drop 2))) := by rw [uG_ext]; rfl
  have hDz : (u8sG ((sgnL U).2.drop 2)).size = ((sgnL U).2.drop 2).length := uG_size _
  have hrI : (runL 16 ((sgnL U).2.drop 2) : Int) ≤ ((u8sG ((sgnL U).2.drop 2)).size : Int) := by rw [hDz, List.length_drop]; omega
  have hrN : runL 16 ((sgnL U).2.drop 2) ≤ (u8sG ((sgnL U).2.drop 2)).size := by omega
  have hDz5 : (u8sG ((sgnL U).2.drop 2)).size ≤ 800 := by rw [hDz, List.length_drop]; omega
  clear hDz
  generalize hV : nN (numB 16 (((sgnL U).2.drop 2).take (runL 16 ((sgnL U).2.drop 2)))) = V at *
  generalize hSV : sgW (ngL U) V = SV at *
  clear hV hSV hrl hrm h
  generalize u8sG (((sgnL U).2.drop 2).take (runL 16 ((sgnL U).2.drop 2))) = TK at *
  generalize runL 16 ((sgnL U).2.drop 2) = RL at *
  clear hF hUe hU hUl hTm hTl hW hsz hsz2
  replace hex0 := Lib.hid hex0
  clear h2 hp
  generalize u8sG ((sgnL U).2.drop 2) = TD at *
  generalize u8sG (sgnL U).2 = TT at *
  generalize ngL U = ng at *
  generalize u8sG U = SU at *
  generalize s.extract (2 * k) (2 * (s.size / 2)) = X at *
  generalize s.size / 2 = m at *
  have hr32 : IntKind.i32.wrap b = 0 := hr
  have hrb := wrap_i32_b b
  clear hr
  clear hrb
  go_enter Tryz.func24, Tryz.ntmps24
  go_wp2_with fail
  refine (hFr.out _).mono ?_
  rintro e w1 ⟨rfl, q1, rfl⟩
  go_wp2_with (go_at_call 30; refine (hLn.out _).mono ?_; rintro e w' ⟨rfl, rfl⟩)
  refine (hCt.out _).mono ?_
  rintro e w2 ⟨rfl, rfl⟩
  go_wp2_with fail
  refine (hPl.out _).mono ?_
  rintro e w3 ⟨rfl, hb3⟩
  have hbA : Below w.heap.size w w3 := (below_drewN (Below.refl _ w) q1).trans hb3
  clear hb3
  go_wp2_with fail
  refine (hSg.out _).mono ?_
  rintro e w4 ⟨rfl, q4, rfl⟩
  have hbB := below_drewN hbA q4
  generalize w3.drewN q4 = w5 at *
  go_wp2_with fail
  refine (hPr.out _).mono ?_
  rintro e w6 ⟨rfl, hb6⟩
  have hbC := hbB.trans (hb6.mono hbB.size)
  clear hb6 hbA hbB
  go_wp2_with fail
  go_quiet (fail)
  rw [hex0.out] at *
  have hbC := below_drewN hbC nq
  generalize w6.drewN nq = w6 at *
  go_wp2_with fail
  refine (hDo.out _).mono ?_
  rintro e w7 ⟨rfl, hc7, hb7⟩
  have hbD := hbC.trans (hb7.mono hbC.size)
  have hR7 := Lib.hid (hRu.out _ _ hc7)
  clear hb7 hbC hc7
  go_wp2_with fail
  refine hR7.out.mono ?_
  rintro e w8 ⟨rfl, hb8⟩
  have hbE := hbD.trans (hb8.mono hbD.size)
  clear hb8 hbD
  go_wp2_with fail
  refine (hX.out _ (hLk.out _ hbE)).mono ?_
  rintro e w9 ⟨rfl, hb9⟩
  have hbF := hbE.trans (hb9.mono hbE.size)
  clear hb9 hbE
  go_wp2_with fail
  go_ret
  exact ⟨rfl, hbF⟩
theorem c_dWhole_hex0N (s : ByteArray) (k : Nat) (U : List Nat) (b : Int) (n : Nat) (hs : s.size ≤ 800) (hF : FrA (blkS s) (s.size / 2) k)
    (hUe : plL (unitsN (s.extract (2 * k) (2 * (s.size / 2))) ((s.extract (2 * k) (2 * (s.size / 2))).size / 2)) = U) (hU : ∀ c ∈ U, c < 256) (hUl : U.length ≤ 800) (hp : preL (sgnL U).2 = 16) (hr : r32 b = 0) (h : runL 16 ((sgnL U).2.drop 2) = 0) (w : World) (hW : LibW w) :
    Calls Tryz.prog 24 #[.string s, .int .i64 b] w fun r w' => r = .returned (.float .f64 nanW) ∧ Below w.heap.size w w' := by
  have hFr := Lib.hid (fun W => c_dfront s k (by omega) hF W)
  have hLn := Lib.hid (fun W => c_ULen s (by omega) W)
  have hCt := Lib.hid (fun W => c_UCutG s k (s.size / 2) (by omega) hF.le (Nat.le_refl _) W)
  have hsz2 : (s.extract (2 * k) (2 * (s.size / 2))).size ≤ 1099511627776 := by rw [ByteArray.size_extract]; omega
  have hPl := Lib.hid (fun W => c_dplain (s.extract (2 * k) (2 * (s.size / 2))) hsz2 W)
  rw [hUe] at hPl
  have hSg := Lib.hid (fun W => c_dsigned U hU (by omega) W)
  rw [sgnL_1] at hSg
  have hTm := fun c hc => hU c (sgnL_mem (L := U) c hc)
  have hTl := sgnL_len U
  have hPr := Lib.hid (fun W => c_dprefix (sgnL U).2 hTm (by omega) W)
  have hLk := Lib.hid (fun W (hb : Below w.heap.size w W) => hW.keep hb)
  have hsz : (u8sG (sgnL U).2).size = (sgnL U).2.length := uG_size _
  have hs5 : (u8sG (sgnL U).2).size ≤ 800 := by omega
  rw [hp] at hPr
  have hPr : Hid (∀ W, Calls Tryz.prog 37 #[.string (u8sG (sgnL U).2)] W fun r w' => r = .returned (.int .i64 16) ∧ Below W.heap.size W w') := hPr
  have h2 : 2 ≤ (sgnL U).2.length := by
    rcases Nat.lt_or_ge (sgnL U).2.length 2 with h | h
    · exfalso
      have : preL (sgnL U).2 = 0 := by unfold preL; rw [if_neg (by omega)]
      omega
    · exact h
  have hs2 : (2 : Int) ≤ ((u8sG (sgnL U).2).size : Int) := by omega
  have hs2N : 2 ≤ (u8sG (sgnL U).2).size := by omega
  have hex0 : (u8sG (sgnL U).2).extract 2 (u8sG (sgnL U).2).size = u8sG ((sgnL U).2.drop 2) := by
    rw [uG_ext, hsz, List.take_length]
  have hDo := Lib.hid (fun W => c_ddigitsOf ((16 : Nat) : Int) W)
  have hRu := Lib.hid (fun b W h => c_drun ((sgnL U).2.drop 2) (fun c hc => hTm c (List.mem_of_mem_drop hc)) 0 16 b (Nat.zero_le _) (by rw [List.length_drop]; omega) W h)
  rw [List.drop_zero] at hRu
  rw [h] at hRu
  have hRu : Hid (∀ b W, W.cell? ⟨b, 0, none⟩ = some (.int .i64 ((16 : Nat) : Int)) → Calls Tryz.prog 38 #[.string (u8sG ((sgnL U).2.drop 2)), .int .i64 0, DigF b] W fun r w' => r = .returned (.int .i64 0) ∧ Below W.heap.size W w') := hRu
  clear hF hUe hU hUl hTm hTl hW hsz hsz2
  replace hex0 := Lib.hid hex0
  clear h2 hp
  generalize u8sG ((sgnL U).2.drop 2) = TD at *
  generalize u8sG (sgnL U).2 = TT at *
  generalize ngL U = ng at *
  generalize u8sG U = SU at *
  generalize s.extract (2 * k) (2 * (s.size / 2)) = X at *
  generalize s.size / 2 = m at *
  have hr32 : IntKind.i32.wrap b = 0 := hr
  have hrb := wrap_i32_b b
  clear hr
  clear hrb
  go_enter Tryz.func24, Tryz.ntmps24
  go_wp2_with fail
  refine (hFr.out _).mono ?_
  rintro e w1 ⟨rfl, q1, rfl⟩
  go_wp2_with (go_at_call 30; refine (hLn.out _).mono ?_; rintro e w' ⟨rfl, rfl⟩)
  refine (hCt.out _).mono ?_
  rintro e w2 ⟨rfl, rfl⟩
  go_wp2_with fail
  refine (hPl.out _).mono ?_
  rintro e w3 ⟨rfl, hb3⟩
  have hbA : Below w.heap.size w w3 := (below_drewN (Below.refl _ w) q1).trans hb3
  clear hb3
  go_wp2_with fail
  refine (hSg.out _).mono ?_
  rintro e w4 ⟨rfl, q4, rfl⟩
  have hbB := below_drewN hbA q4
  generalize w3.drewN q4 = w5 at *
  go_wp2_with fail
  refine (hPr.out _).mono ?_
  rintro e w6 ⟨rfl, hb6⟩
  have hbC := hbB.trans (hb6.mono hbB.size)
  clear hb6 hbA hbB
  go_wp2_with fail
  go_quiet (fail)
  rw [hex0.out] at *
  have hbC := below_drewN hbC nq
  generalize w6.drewN nq = w6 at *
  go_wp2_with fail
  refine (hDo.out _).mono ?_
  rintro e w7 ⟨rfl, hc7, hb7⟩
  have hbD := hbC.trans (hb7.mono hbC.size)
  have hR7 := Lib.hid (hRu.out _ _ hc7)
  clear hb7 hbC hc7
  go_wp2_with fail
  refine hR7.out.mono ?_
  rintro e w8 ⟨rfl, hb8⟩
  have hbE := hbD.trans (hb8.mono hbD.size)
  clear hb8 hbD
  go_wp2_with (go_at_call 41; refine (c_mNaN _).mono ?_; rintro e w' ⟨rfl, rfl⟩)
  go_ret
  exact ⟨rfl, hbE⟩
theorem c_dWhole_hex16 (s : ByteArray) (k : Nat) (U : List Nat) (b : Int) (n : Nat) (hs : s.size ≤ 800) (hF : FrA (blkS s) (s.size / 2) k)
    (hUe : plL (unitsN (s.extract (2 * k) (2 * (s.size / 2))) ((s.extract (2 * k) (2 * (s.size / 2))).size / 2)) = U) (hU : ∀ c ∈ U, c < 256) (hUl : U.length ≤ 800) (hp : preL (sgnL U).2 = 16) (hr : r32 b = 16) (h : 0 < runL 16 ((sgnL U).2.drop 2)) (w : World) (hW : LibW w) :
    Calls Tryz.prog 24 #[.string s, .int .i64 b] w fun r w' => r = .returned (.float .f64 (sgW (ngL U) (nN (numB 16 (((sgnL U).2.drop 2).take (runL 16 ((sgnL U).2.drop 2))))))) ∧ Below w.heap.size w w' := by
  have hFr := Lib.hid (fun W => c_dfront s k (by omega) hF W)
  have hLn := Lib.hid (fun W => c_ULen s (by omega) W)
  have hCt := Lib.hid (fun W => c_UCutG s k (s.size / 2) (by omega) hF.le (Nat.le_refl _) W)
  have hsz2 : (s.extract (2 * k) (2 * (s.size / 2))).size ≤ 1099511627776 := by rw [ByteArray.size_extract]; omega
  have hPl := Lib.hid (fun W => c_dplain (s.extract (2 * k) (2 * (s.size / 2))) hsz2 W)
  rw [hUe] at hPl
  have hSg := Lib.hid (fun W => c_dsigned U hU (by omega) W)
  rw [sgnL_1] at hSg
  have hTm := fun c hc => hU c (sgnL_mem (L := U) c hc)
  have hTl := sgnL_len U
  have hPr := Lib.hid (fun W => c_dprefix (sgnL U).2 hTm (by omega) W)
  have hLk := Lib.hid (fun W (hb : Below w.heap.size w W) => hW.keep hb)
  have hsz : (u8sG (sgnL U).2).size = (sgnL U).2.length := uG_size _
  have hs5 : (u8sG (sgnL U).2).size ≤ 800 := by omega
  rw [hp] at hPr
  have hPr : Hid (∀ W, Calls Tryz.prog 37 #[.string (u8sG (sgnL U).2)] W fun r w' => r = .returned (.int .i64 16) ∧ Below W.heap.size W w') := hPr
  have h2 : 2 ≤ (sgnL U).2.length := by
    rcases Nat.lt_or_ge (sgnL U).2.length 2 with h | h
    · exfalso
      have : preL (sgnL U).2 = 0 := by unfold preL; rw [if_neg (by omega)]
      omega
    · exact h
  have hs2 : (2 : Int) ≤ ((u8sG (sgnL U).2).size : Int) := by omega
  have hs2N : 2 ≤ (u8sG (sgnL U).2).size := by omega
  have hex0 : (u8sG (sgnL U).2).extract 2 (u8sG (sgnL U).2).size = u8sG ((sgnL U).2.drop 2) := by
    rw [uG_ext, hsz, List.take_length]
  have hDo := Lib.hid (fun W => c_ddigitsOf ((16 : Nat) : Int) W)
  have hRu := Lib.hid (fun b W h => c_drun ((sgnL U).2.drop 2) (fun c hc => hTm c (List.mem_of_mem_drop hc)) 0 16 b (Nat.zero_le _) (by rw [List.length_drop]; omega) W h)
  rw [List.drop_zero] at hRu
  have hrl := runL_le 16 ((sgnL U).2.drop 2)
  have hrm := run_mem (n := 16) (l := ((sgnL U).2.drop 2))
  rw [List.length_drop] at hrl
  have hX := Lib.hid (fun W hW => c_dexact (((sgnL U).2.drop 2).take (runL 16 ((sgnL U).2.drop 2))) 16 (by omega) (by omega) (fun c hc => ⟨hTm c (List.mem_of_mem_drop (List.mem_of_mem_take hc)), hrm c hc⟩) (by rw [List.length_take, List.length_drop]; omega) (by rw [List.length_take, List.length_drop]; omega) (fun _ => by rw [List.length_take, List.length_drop]; omega) W hW)
  have hm := fun w => run_float_arith (P := Tryz.prog) w .mul 22 .f64 (oneB (ngL U)) (nN (numB 16 (((sgnL U).2.drop 2).take (runL 16 ((sgnL U).2.drop 2))))) (sgW (ngL U) (nN (numB 16 (((sgnL U).2.drop 2).take (runL 16 ((sgnL U).2.drop 2)))))) (mul_sg (ngL U) (nN_le _))
  have hrn0 : ((runL 16 ((sgnL U).2.drop 2) : Int) == 0) = false := beq_eq_false_iff_ne.2 (by omega)
  have hexr : (u8sG ((sgnL U).2.drop 2)).extract 0 (runL 16 ((sgnL U).2.drop 2)) = u8sG (((sgnL U).2.drop 2).take (runL 16 ((sgnL U).2.drop 2))) := by rw [uG_ext]; rfl
  have hDz : (u8sG ((sgnL U).2.drop 2)).size = ((sgnL U).2.drop 2).length := uG_size _
  have hrI : (runL 16 ((sgnL U).2.drop 2) : Int) ≤ ((u8sG ((sgnL U).2.drop 2)).size : Int) := by rw [hDz, List.length_drop]; omega
  have hrN : runL 16 ((sgnL U).2.drop 2) ≤ (u8sG ((sgnL U).2.drop 2)).size := by omega
  have hDz5 : (u8sG ((sgnL U).2.drop 2)).size ≤ 800 := by rw [hDz, List.length_drop]; omega
  clear hDz
  generalize hV : nN (numB 16 (((sgnL U).2.drop 2).take (runL 16 ((sgnL U).2.drop 2)))) = V at *
  generalize hSV : sgW (ngL U) V = SV at *
  clear hV hSV hrl hrm h
  generalize u8sG (((sgnL U).2.drop 2).take (runL 16 ((sgnL U).2.drop 2))) = TK at *
  generalize runL 16 ((sgnL U).2.drop 2) = RL at *
  clear hF hUe hU hUl hTm hTl hW hsz hsz2
  replace hex0 := Lib.hid hex0
  clear h2 hp
  generalize u8sG ((sgnL U).2.drop 2) = TD at *
  generalize u8sG (sgnL U).2 = TT at *
  generalize ngL U = ng at *
  generalize u8sG U = SU at *
  generalize s.extract (2 * k) (2 * (s.size / 2)) = X at *
  generalize s.size / 2 = m at *
  have hr32 : IntKind.i32.wrap b = 16 := hr
  have hrb := wrap_i32_b b
  clear hr
  clear hrb
  go_enter Tryz.func24, Tryz.ntmps24
  go_wp2_with fail
  refine (hFr.out _).mono ?_
  rintro e w1 ⟨rfl, q1, rfl⟩
  go_wp2_with (go_at_call 30; refine (hLn.out _).mono ?_; rintro e w' ⟨rfl, rfl⟩)
  refine (hCt.out _).mono ?_
  rintro e w2 ⟨rfl, rfl⟩
  go_wp2_with fail
  refine (hPl.out _).mono ?_
  rintro e w3 ⟨rfl, hb3⟩
  have hbA : Below w.heap.size w w3 := (below_drewN (Below.refl _ w) q1).trans hb3
  clear hb3
  go_wp2_with fail
  refine (hSg.out _).mono ?_
  rintro e w4 ⟨rfl, q4, rfl⟩
  have hbB := below_drewN hbA q4
  generalize w3.drewN q4 = w5 at *
  go_wp2_with fail
  refine (hPr.out _).mono ?_
  rintro e w6 ⟨rfl, hb6⟩
  have hbC := hbB.trans (hb6.mono hbB.size)
  clear hb6 hbA hbB
  go_wp2_with fail
  go_quiet (fail)
  rw [hex0.out] at *
  have hbC := below_drewN hbC nq
  generalize w6.drewN nq = w6 at *
  go_wp2_with fail
  refine (hDo.out _).mono ?_
  rintro e w7 ⟨rfl, hc7, hb7⟩
  have hbD := hbC.trans (hb7.mono hbC.size)
  have hR7 := Lib.hid (hRu.out _ _ hc7)
  clear hb7 hbC hc7
  go_wp2_with fail
  refine hR7.out.mono ?_
  rintro e w8 ⟨rfl, hb8⟩
  have hbE := hbD.trans (hb8.mono hbD.size)
  clear hb8 hbD
  go_wp2_with fail
  refine (hX.out _ (hLk.out _ hbE)).mono ?_
  rintro e w9 ⟨rfl, hb9⟩
  have hbF := hbE.trans (hb9.mono hbE.size)
  clear hb9 hbE
  go_wp2_with fail
  go_ret
  exact ⟨rfl, hbF⟩
theorem c_dWhole_hex16N (s : ByteArray) (k : Nat) (U : List Nat) (b : Int) (n : Nat) (hs : s.size ≤ 800) (hF : FrA (blkS s) (s.size / 2) k)
    (hUe : plL (unitsN (s.extract (2 * k) (2 * (s.size / 2))) ((s.extract (2 * k) (2 * (s.size / 2))).size / 2)) = U) (hU : ∀ c ∈ U, c < 256) (hUl : U.length ≤ 800) (hp : preL (sgnL U).2 = 16) (hr : r32 b = 16) (h : runL 16 ((sgnL U).2.drop 2) = 0) (w : World) (hW : LibW w) :
    Calls Tryz.prog 24 #[.string s, .int .i64 b] w fun r w' => r = .returned (.float .f64 nanW) ∧ Below w.heap.size w w' := by
  have hFr := Lib.hid (fun W => c_dfront s k (by omega) hF W)
  have hLn := Lib.hid (fun W => c_ULen s (by omega) W)
  have hCt := Lib.hid (fun W => c_UCutG s k (s.size / 2) (by omega) hF.le (Nat.le_refl _) W)
  have hsz2 : (s.extract (2 * k) (2 * (s.size / 2))).size ≤ 1099511627776 := by rw [ByteArray.size_extract]; omega
  have hPl := Lib.hid (fun W => c_dplain (s.extract (2 * k) (2 * (s.size / 2))) hsz2 W)
  rw [hUe] at hPl
  have hSg := Lib.hid (fun W => c_dsigned U hU (by omega) W)
  rw [sgnL_1] at hSg
  have hTm := fun c hc => hU c (sgnL_mem (L := U) c hc)
  have hTl := sgnL_len U
  have hPr := Lib.hid (fun W => c_dprefix (sgnL U).2 hTm (by omega) W)
  have hLk := Lib.hid (fun W (hb : Below w.heap.size w W) => hW.keep hb)
  have hsz : (u8sG (sgnL U).2).size = (sgnL U).2.length := uG_size _
  have hs5 : (u8sG (sgnL U).2).size ≤ 800 := by omega
  rw [hp] at hPr
  have hPr : Hid (∀ W, Calls Tryz.prog 37 #[.string (u8sG (sgnL U).2)] W fun r w' => r = .returned (.int .i64 16) ∧ Below W.heap.size W w') := hPr
  have h2 : 2 ≤ (sgnL U).2.length := by
    rcases Nat.lt_or_ge (sgnL U).2.length 2 with h | h
    · exfalso
      have : preL (sgnL U).2 = 0 := by unfold preL; rw [if_neg (by omega)]
      omega
    · exact h
  have hs2 : (2 : Int) ≤ ((u8sG (sgnL U).2).size : Int) := by omega
  have hs2N : 2 ≤ (u8sG (sgnL U).2).size := by omega
  have hex0 : (u8sG (sgnL U).2).extract 2 (u8sG (sgnL U).2).size = u8sG ((sgnL U).2.drop 2) := by
    rw [uG_ext, hsz, List.take_length]
  have hDo := Lib.hid (fun W => c_ddigitsOf ((16 : Nat) : Int) W)
  have hRu := Lib.hid (fun b W h => c_drun ((sgnL U).2.drop 2) (fun c hc => hTm c (List.mem_of_mem_drop hc)) 0 16 b (Nat.zero_le _) (by rw [List.length_drop]; omega) W h)
  rw [List.drop_zero] at hRu
  rw [h] at hRu
  have hRu : Hid (∀ b W, W.cell? ⟨b, 0, none⟩ = some (.int .i64 ((16 : Nat) : Int)) → Calls Tryz.prog 38 #[.string (u8sG ((sgnL U).2.drop 2)), .int .i64 0, DigF b] W fun r w' => r = .returned (.int .i64 0) ∧ Below W.heap.size W w') := hRu
  clear hF hUe hU hUl hTm hTl hW hsz hsz2
  replace hex0 := Lib.hid hex0
  clear h2 hp
  generalize u8sG ((sgnL U).2.drop 2) = TD at *
  generalize u8sG (sgnL U).2 = TT at *
  generalize ngL U = ng at *
  generalize u8sG U = SU at *
  generalize s.extract (2 * k) (2 * (s.size / 2)) = X at *
  generalize s.size / 2 = m at *
  have hr32 : IntKind.i32.wrap b = 16 := hr
  have hrb := wrap_i32_b b
  clear hr
  clear hrb
  go_enter Tryz.func24, Tryz.ntmps24
  go_wp2_with fail
  refine (hFr.out _).mono ?_
  rintro e w1 ⟨rfl, q1, rfl⟩
  go_wp2_with (go_at_call 30; refine (hLn.out _).mono ?_; rintro e w' ⟨rfl, rfl⟩)
  refine (hCt.out _).mono ?_
  rintro e w2 ⟨rfl, rfl⟩
  go_wp2_with fail
  refine (hPl.out _).mono ?_
  rintro e w3 ⟨rfl, hb3⟩
  have hbA : Below w.heap.size w w3 := (below_drewN (Below.refl _ w) q1).trans hb3
  clear hb3
  go_wp2_with fail
  refine (hSg.out _).mono ?_
  rintro e w4 ⟨rfl, q4, rfl⟩
  have hbB := below_drewN hbA q4
  generalize w3.drewN q4 = w5 at *
  go_wp2_with fail
  refine (hPr.out _).mono ?_
  rintro e w6 ⟨rfl, hb6⟩
  have hbC := hbB.trans (hb6.mono hbB.size)
  clear hb6 hbA hbB
  go_wp2_with fail
  go_quiet (fail)
  rw [hex0.out] at *
  have hbC := below_drewN hbC nq
  generalize w6.drewN nq = w6 at *
  go_wp2_with fail
  refine (hDo.out _).mono ?_
  rintro e w7 ⟨rfl, hc7, hb7⟩
  have hbD := hbC.trans (hb7.mono hbC.size)
  have hR7 := Lib.hid (hRu.out _ _ hc7)
  clear hb7 hbC hc7
  go_wp2_with fail
  refine hR7.out.mono ?_
  rintro e w8 ⟨rfl, hb8⟩
  have hbE := hbD.trans (hb8.mono hbD.size)
  clear hb8 hbD
  go_wp2_with (go_at_call 41; refine (c_mNaN _).mono ?_; rintro e w' ⟨rfl, rfl⟩)
  go_ret
  exact ⟨rfl, hbE⟩
theorem c_dWhole_ten (s : ByteArray) (k : Nat) (U : List Nat) (b : Int) (n : Nat) (hs : s.size ≤ 800) (hF : FrA (blkS s) (s.size / 2) k)
    (hUe : plL (unitsN (s.extract (2 * k) (2 * (s.size / 2))) ((s.extract (2 * k) (2 * (s.size / 2))).size / 2)) = U) (hU : ∀ c ∈ U, c < 256) (hUl : U.length ≤ 800) (hp : preL (sgnL U).2 ≠ 16) (hr : r32 b = 0) (h : 0 < runL 10 (sgnL U).2) (w : World) (hW : LibW w) :
    Calls Tryz.prog 24 #[.string s, .int .i64 b] w fun r w' => r = .returned (.float .f64 (sgW (ngL U) (nN (numB 10 ((sgnL U).2.take (runL 10 (sgnL U).2)))))) ∧ Below w.heap.size w w' := by
  have hFr := Lib.hid (fun W => c_dfront s k (by omega) hF W)
  have hLn := Lib.hid (fun W => c_ULen s (by omega) W)
  have hCt := Lib.hid (fun W => c_UCutG s k (s.size / 2) (by omega) hF.le (Nat.le_refl _) W)
  have hsz2 : (s.extract (2 * k) (2 * (s.size / 2))).size ≤ 1099511627776 := by rw [ByteArray.size_extract]; omega
  have hPl := Lib.hid (fun W => c_dplain (s.extract (2 * k) (2 * (s.size / 2))) hsz2 W)
  rw [hUe] at hPl
  have hSg := Lib.hid (fun W => c_dsigned U hU (by omega) W)
  rw [sgnL_1] at hSg
  have hTm := fun c hc => hU c (sgnL_mem (L := U) c hc)
  have hTl := sgnL_len U
  have hPr := Lib.hid (fun W => c_dprefix (sgnL U).2 hTm (by omega) W)
  have hLk := Lib.hid (fun W (hb : Below w.heap.size w W) => hW.keep hb)
  have hsz : (u8sG (sgnL U).2).size = (sgnL U).2.length := uG_size _
  have hs5 : (u8sG (sgnL U).2).size ≤ 800 := by omega
  have hq16 : ((preL (sgnL U).2 : Int) == 16) = false := beq_eq_false_iff_ne.2 (by omega)
  have hDo := Lib.hid (fun W => c_ddigitsOf ((10 : Nat) : Int) W)
  have hRu := Lib.hid (fun b W h => c_drun (sgnL U).2 (fun c hc => hTm c hc) 0 10 b (Nat.zero_le _) (by omega) W h)
  rw [List.drop_zero] at hRu
  have hrl := runL_le 10 (sgnL U).2
  have hrm := run_mem (n := 10) (l := (sgnL U).2)
  have hX := Lib.hid (fun W hW => c_dexact ((sgnL U).2.take (runL 10 (sgnL U).2)) 10 (by omega) (by omega) (fun c hc => ⟨hTm c (List.mem_of_mem_take hc), hrm c hc⟩) (by rw [List.length_take]; omega) (by rw [List.length_take]; omega) (fun _ => by rw [List.length_take]; omega) W hW)
  have hm := fun w => run_float_arith (P := Tryz.prog) w .mul 22 .f64 (oneB (ngL U)) (nN (numB 10 ((sgnL U).2.take (runL 10 (sgnL U).2)))) (sgW (ngL U) (nN (numB 10 ((sgnL U).2.take (runL 10 (sgnL U).2))))) (mul_sg (ngL U) (nN_le _))
  have hrn0 : ((runL 10 (sgnL U).2 : Int) == 0) = false := beq_eq_false_iff_ne.2 (by omega)
  have hexr : (u8sG (sgnL U).2).extract 0 (runL 10 (sgnL U).2) = u8sG ((sgnL U).2.take (runL 10 (sgnL U).2)) := by rw [uG_ext]; rfl
  have hDz : (u8sG (sgnL U).2).size = (sgnL U).2.length := uG_size _
  have hrI : (runL 10 (sgnL U).2 : Int) ≤ ((u8sG (sgnL U).2).size : Int) := by rw [hDz]; omega
  have hrN : runL 10 (sgnL U).2 ≤ (u8sG (sgnL U).2).size := by omega
  have hDz5 : (u8sG (sgnL U).2).size ≤ 800 := by rw [hDz]; omega
  clear hDz
  generalize hV : nN (numB 10 ((sgnL U).2.take (runL 10 (sgnL U).2))) = V at *
  generalize hSV : sgW (ngL U) V = SV at *
  clear hV hSV hrl hrm h
  generalize u8sG ((sgnL U).2.take (runL 10 (sgnL U).2)) = TK at *
  generalize runL 10 (sgnL U).2 = RL at *
  clear hF hUe hU hUl hTm hTl hW hsz hsz2
  clear hp
  generalize preL (sgnL U).2 = pp at *
  generalize u8sG (sgnL U).2 = TT at *
  generalize ngL U = ng at *
  generalize u8sG U = SU at *
  generalize s.extract (2 * k) (2 * (s.size / 2)) = X at *
  generalize s.size / 2 = m at *
  have hr32 : IntKind.i32.wrap b = 0 := hr
  have hrb := wrap_i32_b b
  clear hr
  clear hrb
  go_enter Tryz.func24, Tryz.ntmps24
  go_wp2_with fail
  refine (hFr.out _).mono ?_
  rintro e w1 ⟨rfl, q1, rfl⟩
  go_wp2_with (go_at_call 30; refine (hLn.out _).mono ?_; rintro e w' ⟨rfl, rfl⟩)
  refine (hCt.out _).mono ?_
  rintro e w2 ⟨rfl, rfl⟩
  go_wp2_with fail
  refine (hPl.out _).mono ?_
  rintro e w3 ⟨rfl, hb3⟩
  have hbA : Below w.heap.size w w3 := (below_drewN (Below.refl _ w) q1).trans hb3
  clear hb3
  go_wp2_with fail
  refine (hSg.out _).mono ?_
  rintro e w4 ⟨rfl, q4, rfl⟩
  have hbB := below_drewN hbA q4
  generalize w3.drewN q4 = w5 at *
  go_wp2_with fail
  refine (hPr.out _).mono ?_
  rintro e w6 ⟨rfl, hb6⟩
  have hbC := hbB.trans (hb6.mono hbB.size)
  clear hb6 hbA hbB
  go_wp2_with fail
  refine (hDo.out _).mono ?_
  rintro e w7 ⟨rfl, hc7, hb7⟩
  have hbD := hbC.trans (hb7.mono hbC.size)
  have hR7 := Lib.hid (hRu.out _ _ hc7)
  clear hb7 hbC hc7
  go_wp2_with fail
  refine hR7.out.mono ?_
  rintro e w8 ⟨rfl, hb8⟩
  have hbE := hbD.trans (hb8.mono hbD.size)
  clear hb8 hbD
  go_wp2_with fail
  refine (hX.out _ (hLk.out _ hbE)).mono ?_
  rintro e w9 ⟨rfl, hb9⟩
  have hbF := hbE.trans (hb9.mono hbE.size)
  clear hb9 hbE
  go_wp2_with fail
  go_ret
  exact ⟨rfl, hbF⟩
theorem c_dWhole_tenN (s : ByteArray) (k : Nat) (U : List Nat) (b : Int) (n : Nat) (hs : s.size ≤ 800) (hF : FrA (blkS s) (s.size / 2) k)
    (hUe : plL (unitsN (s.extract (2 * k) (2 * (s.size / 2))) ((s.extract (2 * k) (2 * (s.size / 2))).size / 2)) = U) (hU : ∀ c ∈ U, c < 256) (hUl : U.length ≤ 800) (hp : preL (sgnL U).2 ≠ 16) (hr : r32 b = 0) (h : runL 10 (sgnL U).2 = 0) (w : World) (hW : LibW w) :
    Calls Tryz.prog 24 #[.string s, .int .i64 b] w fun r w' => r = .returned (.float .f64 nanW) ∧ Below w.heap.size w w' := by
  have hFr := Lib.hid (fun W => c_dfront s k (by omega) hF W)
  have hLn := Lib.hid (fun W => c_ULen s (by omega) W)
  have hCt := Lib.hid (fun W => c_UCutG s k (s.size / 2) (by omega) hF.le (Nat.le_refl _) W)
  have hsz2 : (s.extract (2 * k) (2 * (s.size / 2))).size ≤ 1099511627776 := by rw [ByteArray.size_extract]; omega
  have hPl := Lib.hid (fun W => c_dplain (s.extract (2 * k) (2 * (s.size / 2))) hsz2 W)
  rw [hUe] at hPl
  have hSg := Lib.hid (fun W => c_dsigned U hU (by omega) W)
  rw [sgnL_1] at hSg
  have hTm := fun c hc => hU c (sgnL_mem (L := U) c hc)
  have hTl := sgnL_len U
  have hPr := Lib.hid (fun W => c_dprefix (sgnL U).2 hTm (by omega) W)
  have hLk := Lib.hid (fun W (hb : Below w.heap.size w W) => hW.keep hb)
  have hsz : (u8sG (sgnL U).2).size = (sgnL U).2.length := uG_size _
  have hs5 : (u8sG (sgnL U).2).size ≤ 800 := by omega
  have hq16 : ((preL (sgnL U).2 : Int) == 16) = false := beq_eq_false_iff_ne.2 (by omega)
  have hDo := Lib.hid (fun W => c_ddigitsOf ((10 : Nat) : Int) W)
  have hRu := Lib.hid (fun b W h => c_drun (sgnL U).2 (fun c hc => hTm c hc) 0 10 b (Nat.zero_le _) (by omega) W h)
  rw [List.drop_zero] at hRu
  rw [h] at hRu
  have hRu : Hid (∀ b W, W.cell? ⟨b, 0, none⟩ = some (.int .i64 ((10 : Nat) : Int)) → Calls Tryz.prog 38 #[.string (u8sG (sgnL U).2), .int .i64 0, DigF b] W fun r w' => r = .returned (.int .i64 0) ∧ Below W.heap.size W w') := hRu
  clear hF hUe hU hUl hTm hTl hW hsz hsz2
  clear hp
  generalize preL (sgnL U).2 = pp at *
  generalize u8sG (sgnL U).2 = TT at *
  generalize ngL U = ng at *
  generalize u8sG U = SU at *
  generalize s.extract (2 * k) (2 * (s.size / 2)) = X at *
  generalize s.size / 2 = m at *
  have hr32 : IntKind.i32.wrap b = 0 := hr
  have hrb := wrap_i32_b b
  clear hr
  clear hrb
  go_enter Tryz.func24, Tryz.ntmps24
  go_wp2_with fail
  refine (hFr.out _).mono ?_
  rintro e w1 ⟨rfl, q1, rfl⟩
  go_wp2_with (go_at_call 30; refine (hLn.out _).mono ?_; rintro e w' ⟨rfl, rfl⟩)
  refine (hCt.out _).mono ?_
  rintro e w2 ⟨rfl, rfl⟩
  go_wp2_with fail
  refine (hPl.out _).mono ?_
  rintro e w3 ⟨rfl, hb3⟩
  have hbA : Below w.heap.size w w3 := (below_drewN (Below.refl _ w) q1).trans hb3
  clear hb3
  go_wp2_with fail
  refine (hSg.out _).mono ?_
  rintro e w4 ⟨rfl, q4, rfl⟩
  have hbB := below_drewN hbA q4
  generalize w3.drewN q4 = w5 at *
  go_wp2_with fail
  refine (hPr.out _).mono ?_
  rintro e w6 ⟨rfl, hb6⟩
  have hbC := hbB.trans (hb6.mono hbB.size)
  clear hb6 hbA hbB
  go_wp2_with fail
  refine (hDo.out _).mono ?_
  rintro e w7 ⟨rfl, hc7, hb7⟩
  have hbD := hbC.trans (hb7.mono hbC.size)
  have hR7 := Lib.hid (hRu.out _ _ hc7)
  clear hb7 hbC hc7
  go_wp2_with fail
  refine hR7.out.mono ?_
  rintro e w8 ⟨rfl, hb8⟩
  have hbE := hbD.trans (hb8.mono hbD.size)
  clear hb8 hbD
  go_wp2_with (go_at_call 41; refine (c_mNaN _).mono ?_; rintro e w' ⟨rfl, rfl⟩)
  go_ret
  exact ⟨rfl, hbE⟩
theorem c_dWhole_anyP (s : ByteArray) (k : Nat) (U : List Nat) (b : Int) (n : Nat) (hs : s.size ≤ 800) (hF : FrA (blkS s) (s.size / 2) k)
    (hUe : plL (unitsN (s.extract (2 * k) (2 * (s.size / 2))) ((s.extract (2 * k) (2 * (s.size / 2))).size / 2)) = U) (hU : ∀ c ∈ U, c < 256) (hUl : U.length ≤ 800) (hp : preL (sgnL U).2 ≠ 16) (hr : r32 b = (n : Int)) (h2 : 2 ≤ n) (h36 : n ≤ 36) (h : 0 < runL n (sgnL U).2) (w : World) (hW : LibW w) :
    Calls Tryz.prog 24 #[.string s, .int .i64 b] w fun r w' => r = .returned (.float .f64 (sgW (ngL U) (nN (numB n ((sgnL U).2.take (runL n (sgnL U).2)))))) ∧ Below w.heap.size w w' := by
  have hFr := Lib.hid (fun W => c_dfront s k (by omega) hF W)
  have hLn := Lib.hid (fun W => c_ULen s (by omega) W)
  have hCt := Lib.hid (fun W => c_UCutG s k (s.size / 2) (by omega) hF.le (Nat.le_refl _) W)
  have hsz2 : (s.extract (2 * k) (2 * (s.size / 2))).size ≤ 1099511627776 := by rw [ByteArray.size_extract]; omega
  have hPl := Lib.hid (fun W => c_dplain (s.extract (2 * k) (2 * (s.size / 2))) hsz2 W)
  rw [hUe] at hPl
  have hSg := Lib.hid (fun W => c_dsigned U hU (by omega) W)
  rw [sgnL_1] at hSg
  have hTm := fun c hc => hU c (sgnL_mem (L := U) c hc)
  have hTl := sgnL_len U
  have hPr := Lib.hid (fun W => c_dprefix (sgnL U).2 hTm (by omega) W)
  have hLk := Lib.hid (fun W (hb : Below w.heap.size w W) => hW.keep hb)
  have hsz : (u8sG (sgnL U).2).size = (sgnL U).2.length := uG_size _
  have hs5 : (u8sG (sgnL U).2).size ≤ 800 := by omega
  have hq16 : ((preL (sgnL U).2 : Int) == 16) = false := beq_eq_false_iff_ne.2 (by omega)
  have hn0 : ((n : Int) == 0) = false := beq_eq_false_iff_ne.2 (by omega)
  have hn2 : ¬ (n : Int) < 2 := by omega
  have hn36 : ¬ (36 : Int) < (n : Int) := by omega
  have hn36N : n ≤ 36 := h36
  have hDo := Lib.hid (fun W => c_ddigitsOf ((n : Int)) W)
  have hRu := Lib.hid (fun b W h => c_drun (sgnL U).2 (fun c hc => hTm c hc) 0 n b (Nat.zero_le _) (by omega) W h)
  rw [List.drop_zero] at hRu
  have hrl := runL_le n (sgnL U).2
  have hrm := run_mem (n := n) (l := (sgnL U).2)
  have hX := Lib.hid (fun W hW => c_dexact ((sgnL U).2.take (runL n (sgnL U).2)) n (by omega) (by omega) (fun c hc => ⟨hTm c (List.mem_of_mem_take hc), hrm c hc⟩) (by rw [List.length_take]; omega) (by rw [List.length_take]; omega) (fun _ => by rw [List.length_take]; omega) W hW)
  have hm := fun w => run_float_arith (P := Tryz.prog) w .mul 22 .f64 (oneB (ngL U)) (nN (numB n ((sgnL U).2.take (runL n (sgnL U).2)))) (sgW (ngL U) (nN (numB n ((sgnL U).2.take (runL n (sgnL U).2))))) (mul_sg (ngL U) (nN_le _))
  have hrn0 : ((runL n (sgnL U).2 : Int) == 0) = false := beq_eq_false_iff_ne.2 (by omega)
  have hexr : (u8sG (sgnL U).2).extract 0 (runL n (sgnL U).2) = u8sG ((sgnL U).2.take (runL n (sgnL U).2)) := by rw [uG_ext]; rfl
  have hDz : (u8sG (sgnL U).2).size = (sgnL U).2.length := uG_size _
  have hrI : (runL n (sgnL U).2 : Int) ≤ ((u8sG (sgnL U).2).size : Int) := by rw [hDz]; omega
  have hrN : runL n (sgnL U).2 ≤ (u8sG (sgnL U).2).size := by omega
  have hDz5 : (u8sG (sgnL U).2).size ≤ 800 := by rw [hDz]; omega
  clear hDz
  generalize hV : nN (numB n ((sgnL U).2.take (runL n (sgnL U).2))) = V at *
  generalize hSV : sgW (ngL U) V = SV at *
  clear hV hSV hrl hrm h
  generalize u8sG ((sgnL U).2.take (runL n (sgnL U).2)) = TK at *
  generalize runL n (sgnL U).2 = RL at *
  clear hF hUe hU hUl hTm hTl hW hsz hsz2
  clear hp
  clear h2 h36
  generalize preL (sgnL U).2 = pp at *
  generalize u8sG (sgnL U).2 = TT at *
  generalize ngL U = ng at *
  generalize u8sG U = SU at *
  generalize s.extract (2 * k) (2 * (s.size / 2)) = X at *
  generalize s.size / 2 = m at *
  have hr32 : IntKind.i32.wrap b = (n : Int) := hr
  have hrb := wrap_i32_b b
  clear hr
  clear hrb
  go_enter Tryz.func24, Tryz.ntmps24
  go_wp2_with fail
  refine (hFr.out _).mono ?_
  rintro e w1 ⟨rfl, q1, rfl⟩
  go_wp2_with (go_at_call 30; refine (hLn.out _).mono ?_; rintro e w' ⟨rfl, rfl⟩)
  refine (hCt.out _).mono ?_
  rintro e w2 ⟨rfl, rfl⟩
  go_wp2_with fail
  refine (hPl.out _).mono ?_
  rintro e w3 ⟨rfl, hb3⟩
  have hbA : Below w.heap.size w w3 := (below_drewN (Below.refl _ w) q1).trans hb3
  clear hb3
  go_wp2_with fail
  refine (hSg.out _).mono ?_
  rintro e w4 ⟨rfl, q4, rfl⟩
  have hbB := below_drewN hbA q4
  generalize w3.drewN q4 = w5 at *
  go_wp2_with fail
  refine (hPr.out _).mono ?_
  rintro e w6 ⟨rfl, hb6⟩
  have hbC := hbB.trans (hb6.mono hbB.size)
  clear hb6 hbA hbB
  go_wp2_with fail
  refine (hDo.out _).mono ?_
  rintro e w7 ⟨rfl, hc7, hb7⟩
  have hbD := hbC.trans (hb7.mono hbC.size)
  have hR7 := Lib.hid (hRu.out _ _ hc7)
  clear hb7 hbC hc7
  go_wp2_with fail
  refine hR7.out.mono ?_
  rintro e w8 ⟨rfl, hb8⟩
  have hbE := hbD.trans (hb8.mono hbD.size)
  clear hb8 hbD
  go_wp2_with fail
  refine (hX.out _ (hLk.out _ hbE)).mono ?_
  rintro e w9 ⟨rfl, hb9⟩
  have hbF := hbE.trans (hb9.mono hbE.size)
  clear hb9 hbE
  go_wp2_with fail
  go_ret
  exact ⟨rfl, hbF⟩
theorem c_dWhole_anyPN (s : ByteArray) (k : Nat) (U : List Nat) (b : Int) (n : Nat) (hs : s.size ≤ 800) (hF : FrA (blkS s) (s.size / 2) k)
    (hUe : plL (unitsN (s.extract (2 * k) (2 * (s.size / 2))) ((s.extract (2 * k) (2 * (s.size / 2))).size / 2)) = U) (hU : ∀ c ∈ U, c < 256) (hUl : U.length ≤ 800) (hp : preL (sgnL U).2 ≠ 16) (hr : r32 b = (n : Int)) (h2 : 2 ≤ n) (h36 : n ≤ 36) (h : runL n (sgnL U).2 = 0) (w : World) (hW : LibW w) :
    Calls Tryz.prog 24 #[.string s, .int .i64 b] w fun r w' => r = .returned (.float .f64 nanW) ∧ Below w.heap.size w w' := by
  have hFr := Lib.hid (fun W => c_dfront s k (by omega) hF W)
  have hLn := Lib.hid (fun W => c_ULen s (by omega) W)
  have hCt := Lib.hid (fun W => c_UCutG s k (s.size / 2) (by omega) hF.le (Nat.le_refl _) W)
  have hsz2 : (s.extract (2 * k) (2 * (s.size / 2))).size ≤ 1099511627776 := by rw [ByteArray.size_extract]; omega
  have hPl := Lib.hid (fun W => c_dplain (s.extract (2 * k) (2 * (s.size / 2))) hsz2 W)
  rw [hUe] at hPl
  have hSg := Lib.hid (fun W => c_dsigned U hU (by omega) W)
  rw [sgnL_1] at hSg
  have hTm := fun c hc => hU c (sgnL_mem (L := U) c hc)
  have hTl := sgnL_len U
  have hPr := Lib.hid (fun W => c_dprefix (sgnL U).2 hTm (by omega) W)
  have hLk := Lib.hid (fun W (hb : Below w.heap.size w W) => hW.keep hb)
  have hsz : (u8sG (sgnL U).2).size = (sgnL U).2.length := uG_size _
  have hs5 : (u8sG (sgnL U).2).size ≤ 800 := by omega
  have hq16 : ((preL (sgnL U).2 : Int) == 16) = false := beq_eq_false_iff_ne.2 (by omega)
  have hn0 : ((n : Int) == 0) = false := beq_eq_false_iff_ne.2 (by omega)
  have hn2 : ¬ (n : Int) < 2 := by omega
  have hn36 : ¬ (36 : Int) < (n : Int) := by omega
  have hn36N : n ≤ 36 := h36
  have hDo := Lib.hid (fun W => c_ddigitsOf ((n : Int)) W)
  have hRu := Lib.hid (fun b W h => c_drun (sgnL U).2 (fun c hc => hTm c hc) 0 n b (Nat.zero_le _) (by omega) W h)
  rw [List.drop_zero] at hRu
  rw [h] at hRu
  have hRu : Hid (∀ b W, W.cell? ⟨b, 0, none⟩ = some (.int .i64 ((n : Nat) : Int)) → Calls Tryz.prog 38 #[.string (u8sG (sgnL U).2), .int .i64 0, DigF b] W fun r w' => r = .returned (.int .i64 0) ∧ Below W.heap.size W w') := hRu
  clear hF hUe hU hUl hTm hTl hW hsz hsz2
  clear hp
  clear h2 h36
  generalize preL (sgnL U).2 = pp at *
  generalize u8sG (sgnL U).2 = TT at *
  generalize ngL U = ng at *
  generalize u8sG U = SU at *
  generalize s.extract (2 * k) (2 * (s.size / 2)) = X at *
  generalize s.size / 2 = m at *
  have hr32 : IntKind.i32.wrap b = (n : Int) := hr
  have hrb := wrap_i32_b b
  clear hr
  clear hrb
  go_enter Tryz.func24, Tryz.ntmps24
  go_wp2_with fail
  refine (hFr.out _).mono ?_
  rintro e w1 ⟨rfl, q1, rfl⟩
  go_wp2_with (go_at_call 30; refine (hLn.out _).mono ?_; rintro e w' ⟨rfl, rfl⟩)
  refine (hCt.out _).mono ?_
  rintro e w2 ⟨rfl, rfl⟩
  go_wp2_with fail
  refine (hPl.out _).mono ?_
  rintro e w3 ⟨rfl, hb3⟩
  have hbA : Below w.heap.size w w3 := (below_drewN (Below.refl _ w) q1).trans hb3
  clear hb3
  go_wp2_with fail
  refine (hSg.out _).mono ?_
  rintro e w4 ⟨rfl, q4, rfl⟩
  have hbB := below_drewN hbA q4
  generalize w3.drewN q4 = w5 at *
  go_wp2_with fail
  refine (hPr.out _).mono ?_
  rintro e w6 ⟨rfl, hb6⟩
  have hbC := hbB.trans (hb6.mono hbB.size)
  clear hb6 hbA hbB
  go_wp2_with fail
  refine (hDo.out _).mono ?_
  rintro e w7 ⟨rfl, hc7, hb7⟩
  have hbD := hbC.trans (hb7.mono hbC.size)
  have hR7 := Lib.hid (hRu.out _ _ hc7)
  clear hb7 hbC hc7
  go_wp2_with fail
  refine hR7.out.mono ?_
  rintro e w8 ⟨rfl, hb8⟩
  have hbE := hbD.trans (hb8.mono hbD.size)
  clear hb8 hbD
  go_wp2_with (go_at_call 41; refine (c_mNaN _).mono ?_; rintro e w' ⟨rfl, rfl⟩)
  go_ret
  exact ⟨rfl, hbE⟩
theorem c_dWhole_anyQ (s : ByteArray) (k : Nat) (U : List Nat) (b : Int) (n : Nat) (hs : s.size ≤ 800) (hF : FrA (blkS s) (s.size / 2) k)
    (hUe : plL (unitsN (s.extract (2 * k) (2 * (s.size / 2))) ((s.extract (2 * k) (2 * (s.size / 2))).size / 2)) = U) (hU : ∀ c ∈ U, c < 256) (hUl : U.length ≤ 800) (hp : n ≠ 16) (hr : r32 b = (n : Int)) (h2 : 2 ≤ n) (h36 : n ≤ 36) (h : 0 < runL n (sgnL U).2) (w : World) (hW : LibW w) :
    Calls Tryz.prog 24 #[.string s, .int .i64 b] w fun r w' => r = .returned (.float .f64 (sgW (ngL U) (nN (numB n ((sgnL U).2.take (runL n (sgnL U).2)))))) ∧ Below w.heap.size w w' := by
  have hFr := Lib.hid (fun W => c_dfront s k (by omega) hF W)
  have hLn := Lib.hid (fun W => c_ULen s (by omega) W)
  have hCt := Lib.hid (fun W => c_UCutG s k (s.size / 2) (by omega) hF.le (Nat.le_refl _) W)
  have hsz2 : (s.extract (2 * k) (2 * (s.size / 2))).size ≤ 1099511627776 := by rw [ByteArray.size_extract]; omega
  have hPl := Lib.hid (fun W => c_dplain (s.extract (2 * k) (2 * (s.size / 2))) hsz2 W)
  rw [hUe] at hPl
  have hSg := Lib.hid (fun W => c_dsigned U hU (by omega) W)
  rw [sgnL_1] at hSg
  have hTm := fun c hc => hU c (sgnL_mem (L := U) c hc)
  have hTl := sgnL_len U
  have hPr := Lib.hid (fun W => c_dprefix (sgnL U).2 hTm (by omega) W)
  have hLk := Lib.hid (fun W (hb : Below w.heap.size w W) => hW.keep hb)
  have hsz : (u8sG (sgnL U).2).size = (sgnL U).2.length := uG_size _
  have hs5 : (u8sG (sgnL U).2).size ≤ 800 := by omega
  have hn16 : ((n : Int) == 16) = false := beq_eq_false_iff_ne.2 (by omega)
  have hn0 : ((n : Int) == 0) = false := beq_eq_false_iff_ne.2 (by omega)
  have hn2 : ¬ (n : Int) < 2 := by omega
  have hn36 : ¬ (36 : Int) < (n : Int) := by omega
  have hn36N : n ≤ 36 := h36
  have hDo := Lib.hid (fun W => c_ddigitsOf ((n : Int)) W)
  have hRu := Lib.hid (fun b W h => c_drun (sgnL U).2 (fun c hc => hTm c hc) 0 n b (Nat.zero_le _) (by omega) W h)
  rw [List.drop_zero] at hRu
  have hrl := runL_le n (sgnL U).2
  have hrm := run_mem (n := n) (l := (sgnL U).2)
  have hX := Lib.hid (fun W hW => c_dexact ((sgnL U).2.take (runL n (sgnL U).2)) n (by omega) (by omega) (fun c hc => ⟨hTm c (List.mem_of_mem_take hc), hrm c hc⟩) (by rw [List.length_take]; omega) (by rw [List.length_take]; omega) (fun _ => by rw [List.length_take]; omega) W hW)
  have hm := fun w => run_float_arith (P := Tryz.prog) w .mul 22 .f64 (oneB (ngL U)) (nN (numB n ((sgnL U).2.take (runL n (sgnL U).2)))) (sgW (ngL U) (nN (numB n ((sgnL U).2.take (runL n (sgnL U).2))))) (mul_sg (ngL U) (nN_le _))
  have hrn0 : ((runL n (sgnL U).2 : Int) == 0) = false := beq_eq_false_iff_ne.2 (by omega)
  have hexr : (u8sG (sgnL U).2).extract 0 (runL n (sgnL U).2) = u8sG ((sgnL U).2.take (runL n (sgnL U).2)) := by rw [uG_ext]; rfl
  have hDz : (u8sG (sgnL U).2).size = (sgnL U).2.length := uG_size _
  have hrI : (runL n (sgnL U).2 : Int) ≤ ((u8sG (sgnL U).2).size : Int) := by rw [hDz]; omega
  have hrN : runL n (sgnL U).2 ≤ (u8sG (sgnL U).2).size := by omega
  have hDz5 : (u8sG (sgnL U).2).size ≤ 800 := by rw [hDz]; omega
  clear hDz
  generalize hV : nN (numB n ((sgnL U).2.take (runL n (sgnL U).2))) = V at *
  generalize hSV : sgW (ngL U) V = SV at *
  clear hV hSV hrl hrm h
  generalize u8sG ((sgnL U).2.take (runL n (sgnL U).2)) = TK at *
  generalize runL n (sgnL U).2 = RL at *
  clear hF hUe hU hUl hTm hTl hW hsz hsz2
  clear hp
  clear h2 h36
  generalize preL (sgnL U).2 = pp at *
  generalize u8sG (sgnL U).2 = TT at *
  generalize ngL U = ng at *
  generalize u8sG U = SU at *
  generalize s.extract (2 * k) (2 * (s.size / 2)) = X at *
  generalize s.size / 2 = m at *
  have hr32 : IntKind.i32.wrap b = (n : Int) := hr
  have hrb := wrap_i32_b b
  clear hr
  clear hrb
  go_enter Tryz.func24, Tryz.ntmps24
  go_wp2_with fail
  refine (hFr.out _).mono ?_
  rintro e w1 ⟨rfl, q1, rfl⟩
  go_wp2_with (go_at_call 30; refine (hLn.out _).mono ?_; rintro e w' ⟨rfl, rfl⟩)
  refine (hCt.out _).mono ?_
  rintro e w2 ⟨rfl, rfl⟩
  go_wp2_with fail
  refine (hPl.out _).mono ?_
  rintro e w3 ⟨rfl, hb3⟩
  have hbA : Below w.heap.size w w3 := (below_drewN (Below.refl _ w) q1).trans hb3
  clear hb3
  go_wp2_with fail
  refine (hSg.out _).mono ?_
  rintro e w4 ⟨rfl, q4, rfl⟩
  have hbB := below_drewN hbA q4
  generalize w3.drewN q4 = w5 at *
  go_wp2_with fail
  refine (hPr.out _).mono ?_
  rintro e w6 ⟨rfl, hb6⟩
  have hbC := hbB.trans (hb6.mono hbB.size)
  clear hb6 hbA hbB
  by_cases hpp : pp = 16
  · subst hpp
    go_wp2_with fail
    refine (hDo.out _).mono ?_
    rintro e w7 ⟨rfl, hc7, hb7⟩
    have hbD := hbC.trans (hb7.mono hbC.size)
    have hR7 := Lib.hid (hRu.out _ _ hc7)
    clear hb7 hbC hc7
    go_wp2_with fail
    refine hR7.out.mono ?_
    rintro e w8 ⟨rfl, hb8⟩
    have hbE := hbD.trans (hb8.mono hbD.size)
    clear hb8 hbD
    go_wp2_with fail
    refine (hX.out _ (hLk.out _ hbE)).mono ?_
    rintro e w9 ⟨rfl, hb9⟩
    have hbF := hbE.trans (hb9.mono hbE.size)
    clear hb9 hbE
    go_wp2_with fail
    go_ret
    exact ⟨rfl, hbF⟩
  · have hq16 : ((pp : Int) == 16) = false := beq_eq_false_iff_ne.2 (by omega)
    go_wp2_with fail
    refine (hDo.out _).mono ?_
    rintro e w7 ⟨rfl, hc7, hb7⟩
    have hbD := hbC.trans (hb7.mono hbC.size)
    have hR7 := Lib.hid (hRu.out _ _ hc7)
    clear hb7 hbC hc7
    go_wp2_with fail
    refine hR7.out.mono ?_
    rintro e w8 ⟨rfl, hb8⟩
    have hbE := hbD.trans (hb8.mono hbD.size)
    clear hb8 hbD
    go_wp2_with fail
    refine (hX.out _ (hLk.out _ hbE)).mono ?_
    rintro e w9 ⟨rfl, hb9⟩
    have hbF := hbE.trans (hb9.mono hbE.size)
    clear hb9 hbE
    go_wp2_with fail
    go_ret
    exact ⟨rfl, hbF⟩
theorem c_dWhole_anyQN (s : ByteArray) (k : Nat) (U : List Nat) (b : Int) (n : Nat) (hs : s.size ≤ 800) (hF : FrA (blkS s) (s.size / 2) k)
    (hUe : plL (unitsN (s.extract (2 * k) (2 * (s.size / 2))) ((s.extract (2 * k) (2 * (s.size / 2))).size / 2)) = U) (hU : ∀ c ∈ U, c < 256) (hUl : U.length ≤ 800) (hp : n ≠ 16) (hr : r32 b = (n : Int)) (h2 : 2 ≤ n) (h36 : n ≤ 36) (h : runL n (sgnL U).2 = 0) (w : World) (hW : LibW w) :
    Calls Tryz.prog 24 #[.string s, .int .i64 b] w fun r w' => r = .returned (.float .f64 nanW) ∧ Below w.heap.size w w' := by
  have hFr := Lib.hid (fun W => c_dfront s k (by omega) hF W)
  have hLn := Lib.hid (fun W => c_ULen s (by omega) W)
  have hCt := Lib.hid (fun W => c_UCutG s k (s.size / 2) (by omega) hF.le (Nat.le_refl _) W)
  have hsz2 : (s.extract (2 * k) (2 * (s.size / 2))).size ≤ 1099511627776 := by rw [ByteArray.size_extract]; omega
  have hPl := Lib.hid (fun W => c_dplain (s.extract (2 * k) (2 * (s.size / 2))) hsz2 W)
  rw [hUe] at hPl
  have hSg := Lib.hid (fun W => c_dsigned U hU (by omega) W)
  rw [sgnL_1] at hSg
  have hTm := fun c hc => hU c (sgnL_mem (L := U) c hc)
  have hTl := sgnL_len U
  have hPr := Lib.hid (fun W => c_dprefix (sgnL U).2 hTm (by omega) W)
  have hLk := Lib.hid (fun W (hb : Below w.heap.size w W) => hW.keep hb)
  have hsz : (u8sG (sgnL U).2).size = (sgnL U).2.length := uG_size _
  have hs5 : (u8sG (sgnL U).2).size ≤ 800 := by omega
  have hn16 : ((n : Int) == 16) = false := beq_eq_false_iff_ne.2 (by omega)
  have hn0 : ((n : Int) == 0) = false := beq_eq_false_iff_ne.2 (by omega)
  have hn2 : ¬ (n : Int) < 2 := by omega
  have hn36 : ¬ (36 : Int) < (n : Int) := by omega
  have hn36N : n ≤ 36 := h36
  have hDo := Lib.hid (fun W => c_ddigitsOf ((n : Int)) W)
  have hRu := Lib.hid (fun b W h => c_drun (sgnL U).2 (fun c hc => hTm c hc) 0 n b (Nat.zero_le _) (by omega) W h)
  rw [List.drop_zero] at hRu
  rw [h] at hRu
  have hRu : Hid (∀ b W, W.cell? ⟨b, 0, none⟩ = some (.int .i64 ((n : Nat) : Int)) → Calls Tryz.prog 38 #[.string (u8sG (sgnL U).2), .int .i64 0, DigF b] W fun r w' => r = .returned (.int .i64 0) ∧ Below W.heap.size W w') := hRu
  clear hF hUe hU hUl hTm hTl hW hsz hsz2
  clear hp
  clear h2 h36
  generalize preL (sgnL U).2 = pp at *
  generalize u8sG (sgnL U).2 = TT at *
  generalize ngL U = ng at *
  generalize u8sG U = SU at *
  generalize s.extract (2 * k) (2 * (s.size / 2)) = X at *
  generalize s.size / 2 = m at *
  have hr32 : IntKind.i32.wrap b = (n : Int) := hr
  have hrb := wrap_i32_b b
  clear hr
  clear hrb
  go_enter Tryz.func24, Tryz.ntmps24
  go_wp2_with fail
  refine (hFr.out _).mono ?_
  rintro e w1 ⟨rfl, q1, rfl⟩
  go_wp2_with (go_at_call 30; refine (hLn.out _).mono ?_; rintro e w' ⟨rfl, rfl⟩)
  refine (hCt.out _).mono ?_
  rintro e w2 ⟨rfl, rfl⟩
  go_wp2_with fail
  refine (hPl.out _).mono ?_
  rintro e w3 ⟨rfl, hb3⟩
  have hbA : Below w.heap.size w w3 := (below_drewN (Below.refl _ w) q1).trans hb3
  clear hb3
  go_wp2_with fail
  refine (hSg.out _).mono ?_
  rintro e w4 ⟨rfl, q4, rfl⟩
  have hbB := below_drewN hbA q4
  generalize w3.drewN q4 = w5 at *
  go_wp2_with fail
  refine (hPr.out _).mono ?_
  rintro e w6 ⟨rfl, hb6⟩
  have hbC := hbB.trans (hb6.mono hbB.size)
  clear hb6 hbA hbB
  by_cases hpp : pp = 16
  · subst hpp
    go_wp2_with fail
    refine (hDo.out _).mono ?_
    rintro e w7 ⟨rfl, hc7, hb7⟩
    have hbD := hbC.trans (hb7.mono hbC.size)
    have hR7 := Lib.hid (hRu.out _ _ hc7)
    clear hb7 hbC hc7
    go_wp2_with fail
    refine hR7.out.mono ?_
    rintro e w8 ⟨rfl, hb8⟩
    have hbE := hbD.trans (hb8.mono hbD.size)
    clear hb8 hbD
    go_wp2_with (go_at_call 41; refine (c_mNaN _).mono ?_; rintro e w' ⟨rfl, rfl⟩)
    go_ret
    exact ⟨rfl, hbE⟩
  · have hq16 : ((pp : Int) == 16) = false := beq_eq_false_iff_ne.2 (by omega)
    go_wp2_with fail
    refine (hDo.out _).mono ?_
    rintro e w7 ⟨rfl, hc7, hb7⟩
    have hbD := hbC.trans (hb7.mono hbC.size)
    have hR7 := Lib.hid (hRu.out _ _ hc7)
    clear hb7 hbC hc7
    go_wp2_with fail
    refine hR7.out.mono ?_
    rintro e w8 ⟨rfl, hb8⟩
    have hbE := hbD.trans (hb8.mono hbD.size)
    clear hb8 hbD
    go_wp2_with (go_at_call 41; refine (c_mNaN _).mono ?_; rintro e w' ⟨rfl, rfl⟩)
    go_ret
    exact ⟨rfl, hbE⟩
theorem c_dWhole_nonea (s : ByteArray) (k : Nat) (U : List Nat) (b : Int) (n : Nat) (hs : s.size ≤ 800) (hF : FrA (blkS s) (s.size / 2) k)
    (hUe : plL (unitsN (s.extract (2 * k) (2 * (s.size / 2))) ((s.extract (2 * k) (2 * (s.size / 2))).size / 2)) = U) (hU : ∀ c ∈ U, c < 256) (hUl : U.length ≤ 800) (hr0 : r32 b ≠ 0) (h : r32 b < 2) (w : World) (hW : LibW w) :
    Calls Tryz.prog 24 #[.string s, .int .i64 b] w fun r w' => r = .returned (.float .f64 nanW) ∧ Below w.heap.size w w' := by
  have hFr := Lib.hid (fun W => c_dfront s k (by omega) hF W)
  have hLn := Lib.hid (fun W => c_ULen s (by omega) W)
  have hCt := Lib.hid (fun W => c_UCutG s k (s.size / 2) (by omega) hF.le (Nat.le_refl _) W)
  have hsz2 : (s.extract (2 * k) (2 * (s.size / 2))).size ≤ 1099511627776 := by rw [ByteArray.size_extract]; omega
  have hPl := Lib.hid (fun W => c_dplain (s.extract (2 * k) (2 * (s.size / 2))) hsz2 W)
  rw [hUe] at hPl
  have hSg := Lib.hid (fun W => c_dsigned U hU (by omega) W)
  rw [sgnL_1] at hSg
  have hTm := fun c hc => hU c (sgnL_mem (L := U) c hc)
  have hTl := sgnL_len U
  have hPr := Lib.hid (fun W => c_dprefix (sgnL U).2 hTm (by omega) W)
  have hLk := Lib.hid (fun W (hb : Below w.heap.size w W) => hW.keep hb)
  have hsz : (u8sG (sgnL U).2).size = (sgnL U).2.length := uG_size _
  have hs5 : (u8sG (sgnL U).2).size ≤ 800 := by omega
  have hn0 : (r32 b == 0) = false := beq_eq_false_iff_ne.2 hr0
  have hn16 : (r32 b == 16) = false := beq_eq_false_iff_ne.2 (by omega)
  clear hF hUe hU hUl hTm hTl hW hsz hsz2
  generalize preL (sgnL U).2 = pp at *
  generalize u8sG (sgnL U).2 = TT at *
  generalize ngL U = ng at *
  generalize u8sG U = SU at *
  generalize s.extract (2 * k) (2 * (s.size / 2)) = X at *
  generalize s.size / 2 = m at *
  have hr32 : IntKind.i32.wrap b = r32 b := rfl
  have hrb := wrap_i32_b b
  generalize r32 b = rr at *
  clear hr0
  go_enter Tryz.func24, Tryz.ntmps24
  go_wp2_with fail
  refine (hFr.out _).mono ?_
  rintro e w1 ⟨rfl, q1, rfl⟩
  go_wp2_with (go_at_call 30; refine (hLn.out _).mono ?_; rintro e w' ⟨rfl, rfl⟩)
  refine (hCt.out _).mono ?_
  rintro e w2 ⟨rfl, rfl⟩
  go_wp2_with fail
  refine (hPl.out _).mono ?_
  rintro e w3 ⟨rfl, hb3⟩
  have hbA : Below w.heap.size w w3 := (below_drewN (Below.refl _ w) q1).trans hb3
  clear hb3
  go_wp2_with fail
  refine (hSg.out _).mono ?_
  rintro e w4 ⟨rfl, q4, rfl⟩
  have hbB := below_drewN hbA q4
  generalize w3.drewN q4 = w5 at *
  go_wp2_with fail
  refine (hPr.out _).mono ?_
  rintro e w6 ⟨rfl, hb6⟩
  have hbC := hbB.trans (hb6.mono hbB.size)
  clear hb6 hbA hbB
  by_cases hpp : pp = 16
  · subst hpp
    go_wp2_with (go_at_call 41; refine (c_mNaN _).mono ?_; rintro e w' ⟨rfl, rfl⟩)
    go_ret
    exact ⟨rfl, hbC⟩
  · have hq16 : ((pp : Int) == 16) = false := beq_eq_false_iff_ne.2 (by omega)
    go_wp2_with (go_at_call 41; refine (c_mNaN _).mono ?_; rintro e w' ⟨rfl, rfl⟩)
    go_ret
    exact ⟨rfl, hbC⟩
theorem c_dWhole_noneb (s : ByteArray) (k : Nat) (U : List Nat) (b : Int) (n : Nat) (hs : s.size ≤ 800) (hF : FrA (blkS s) (s.size / 2) k)
    (hUe : plL (unitsN (s.extract (2 * k) (2 * (s.size / 2))) ((s.extract (2 * k) (2 * (s.size / 2))).size / 2)) = U) (hU : ∀ c ∈ U, c < 256) (hUl : U.length ≤ 800) (hr0 : r32 b ≠ 0) (h : ¬ r32 b < 2) (h2 : 36 < r32 b) (w : World) (hW : LibW w) :
    Calls Tryz.prog 24 #[.string s, .int .i64 b] w fun r w' => r = .returned (.float .f64 nanW) ∧ Below w.heap.size w w' := by
  have hFr := Lib.hid (fun W => c_dfront s k (by omega) hF W)
  have hLn := Lib.hid (fun W => c_ULen s (by omega) W)
  have hCt := Lib.hid (fun W => c_UCutG s k (s.size / 2) (by omega) hF.le (Nat.le_refl _) W)
  have hsz2 : (s.extract (2 * k) (2 * (s.size / 2))).size ≤ 1099511627776 := by rw [ByteArray.size_extract]; omega
  have hPl := Lib.hid (fun W => c_dplain (s.extract (2 * k) (2 * (s.size / 2))) hsz2 W)
  rw [hUe] at hPl
  have hSg := Lib.hid (fun W => c_dsigned U hU (by omega) W)
  rw [sgnL_1] at hSg
  have hTm := fun c hc => hU c (sgnL_mem (L := U) c hc)
  have hTl := sgnL_len U
  have hPr := Lib.hid (fun W => c_dprefix (sgnL U).2 hTm (by omega) W)
  have hLk := Lib.hid (fun W (hb : Below w.heap.size w W) => hW.keep hb)
  have hsz : (u8sG (sgnL U).2).size = (sgnL U).2.length := uG_size _
  have hs5 : (u8sG (sgnL U).2).size ≤ 800 := by omega
  have hn0 : (r32 b == 0) = false := beq_eq_false_iff_ne.2 hr0
  have hn16 : (r32 b == 16) = false := beq_eq_false_iff_ne.2 (by omega)
  clear hF hUe hU hUl hTm hTl hW hsz hsz2
  generalize preL (sgnL U).2 = pp at *
  generalize u8sG (sgnL U).2 = TT at *
  generalize ngL U = ng at *
  generalize u8sG U = SU at *
  generalize s.extract (2 * k) (2 * (s.size / 2)) = X at *
  generalize s.size / 2 = m at *
  have hr32 : IntKind.i32.wrap b = r32 b := rfl
  have hrb := wrap_i32_b b
  generalize r32 b = rr at *
  clear hr0
  go_enter Tryz.func24, Tryz.ntmps24
  go_wp2_with fail
  refine (hFr.out _).mono ?_
  rintro e w1 ⟨rfl, q1, rfl⟩
  go_wp2_with (go_at_call 30; refine (hLn.out _).mono ?_; rintro e w' ⟨rfl, rfl⟩)
  refine (hCt.out _).mono ?_
  rintro e w2 ⟨rfl, rfl⟩
  go_wp2_with fail
  refine (hPl.out _).mono ?_
  rintro e w3 ⟨rfl, hb3⟩
  have hbA : Below w.heap.size w w3 := (below_drewN (Below.refl _ w) q1).trans hb3
  clear hb3
  go_wp2_with fail
  refine (hSg.out _).mono ?_
  rintro e w4 ⟨rfl, q4, rfl⟩
  have hbB := below_drewN hbA q4
  generalize w3.drewN q4 = w5 at *
  go_wp2_with fail
  refine (hPr.out _).mono ?_
  rintro e w6 ⟨rfl, hb6⟩
  have hbC := hbB.trans (hb6.mono hbB.size)
  clear hb6 hbA hbB
  by_cases hpp : pp = 16
  · subst hpp
    go_wp2_with (go_at_call 41; refine (c_mNaN _).mono ?_; rintro e w' ⟨rfl, rfl⟩)
    go_ret
    exact ⟨rfl, hbC⟩
  · have hq16 : ((pp : Int) == 16) = false := beq_eq_false_iff_ne.2 (by omega)
    go_wp2_with (go_at_call 41; refine (c_mNaN _).mono ?_; rintro e w' ⟨rfl, rfl⟩)
    go_ret
    exact ⟨rfl, hbC⟩
theorem c_dWholeG (s : ByteArray) (k : Nat) (U : List Nat) (b : Int) (hs : s.size ≤ 800) (hF : FrA (blkS s) (s.size / 2) k)
    (hUe : plL (unitsN (s.extract (2 * k) (2 * (s.size / 2))) ((s.extract (2 * k) (2 * (s.size / 2))).size / 2)) = U) (hU : ∀ c ∈ U, c < 256) (hUl : U.length ≤ 800) {v : Nat} (h : WholeR (sgnL U).2 (ngL U) (r32 b) v) (w : World) (hW : LibW w) :
    Calls Tryz.prog 24 #[.string s, .int .i64 b] w fun r w' => r = .returned (.float .f64 v) ∧ Below w.heap.size w w' := by
  cases h with
  | hexN hp hr h =>
    rcases hr with hr | hr
    · exact c_dWhole_hex0N s k U b 0 hs hF hUe hU hUl hp hr h w hW
    · exact c_dWhole_hex16N s k U b 0 hs hF hUe hU hUl hp hr h w hW
  | hex hp hr h =>
    rcases hr with hr | hr
    · exact c_dWhole_hex0 s k U b 0 hs hF hUe hU hUl hp hr h w hW
    · exact c_dWhole_hex16 s k U b 0 hs hF hUe hU hUl hp hr h w hW
  | tenN hp hr h => exact c_dWhole_tenN s k U b 0 hs hF hUe hU hUl hp hr h w hW
  | ten hp hr h => exact c_dWhole_ten s k U b 0 hs hF hUe hU hUl hp hr h w hW
  | none hr h =>
    by_cases h2 : r32 b < 2
    · exact c_dWhole_nonea s k U b 0 hs hF hUe hU hUl hr h2 w hW
    · exact c_dWhole_noneb s k U b 0 hs hF hUe hU hUl hr h2 (by omega) w hW
  | anyN hp hr h2 h36 h =>
    rcases hp with hp | hp
    · exact c_dWhole_anyPN s k U b _ hs hF hUe hU hUl hp hr h2 h36 h w hW
    · exact c_dWhole_anyQN s k U b _ hs hF hUe hU hUl hp hr h2 h36 h w hW
  | any hp hr h2 h36 h =>
    rcases hp with hp | hp
    · exact c_dWhole_anyP s k U b _ hs hF hUe hU hUl hp hr h2 h36 h w hW
    · exact c_dWhole_anyQ s k U b _ hs hF hUe hU hUl hp hr h2 h36 h w hW
end Go.Proofs.YtbakbikilbaafaaGreatDoor
namespace Go.Proofs.YtbakbikilbaafaaGreatDoor
open Go.RowKit F64 Ieee
set_option linter.unusedVariables false
set_option maxHeartbeats 4000000
set_option maxRecDepth 100000

/-- a digit's worth, as the reference tells it -/
def dgR (c : Nat) : Nat := if 48 ≤ c ∧ c ≤ 57 then c - 48 else if 97 ≤ c ∧ c ≤ 122 then c - 97 + 10 else if 65 ≤ c ∧ c ≤ 90 then c - 65 + 10 else 99
theorem dgR_wth {c : Nat} (hc : c < 256) : dgR c = wth c := by
  have all : ∀ c : Fin 256, dgR c.val = wth c.val := by decide +kernel
  exact all ⟨c, hc⟩
theorem c_Rdigit (c : Nat) (hc : c < 256) (w : World) : Calls Tryz.prog 55 #[.int .u8 (c : Int)] w fun r w' => r = .returned (.int .i64 (wth c : Int)) ∧ w = w' := by
  rw [← dgR_wth hc]
  unfold dgR
  by_cases a1 : 48 ≤ c
  · by_cases a2 : c ≤ 57
    · rw [if_pos ⟨a1, a2⟩, show ((c - 48 : Nat) : Int) = (c : Int) - 48 by omega]
      go_enter Tryz.func55, Tryz.ntmps55
      go_wp2
      go_ret
      exact ⟨rfl, rfl⟩
    · rw [if_neg (fun h => a2 h.2)]
      by_cases b1 : 97 ≤ c
      · by_cases b2 : c ≤ 122
        · rw [if_pos ⟨b1, b2⟩, show ((c - 97 + 10 : Nat) : Int) = (c : Int) - 97 + 10 by omega]
          go_enter Tryz.func55, Tryz.ntmps55
          go_wp2
          go_ret
          exact ⟨rfl, rfl⟩
        · have c1 : 65 ≤ c := by omega
          have c2 : ¬ c ≤ 90 := by omega
          rw [if_neg (fun h => b2 h.2), if_neg (fun h => c2 h.2)]
          go_enter Tryz.func55, Tryz.ntmps55
          go_wp2
          go_ret
          exact ⟨rfl, rfl⟩
      · rw [if_neg (fun h => b1 h.1)]
        by_cases c1 : 65 ≤ c
        · by_cases c2 : c ≤ 90
          · rw [if_pos ⟨c1, c2⟩, show ((c - 65 + 10 : Nat) : Int) = (c : Int) - 65 + 10 by omega]
            go_enter Tryz.func55, Tryz.ntmps55
            go_wp2
            go_ret
            exact ⟨rfl, rfl⟩
          · rw [if_neg (fun h => c2 h.2)]
            go_enter Tryz.func55, Tryz.ntmps55
            go_wp2
            go_ret
            exact ⟨rfl, rfl⟩
        · rw [if_neg (fun h => c1 h.1)]
          go_enter Tryz.func55, Tryz.ntmps55
          go_wp2
          go_ret
          exact ⟨rfl, rfl⟩
  · have b1 : ¬ 97 ≤ c := by omega
    have c1 : ¬ 65 ≤ c := by omega
    rw [if_neg (fun h => a1 h.1), if_neg (fun h => b1 h.1), if_neg (fun h => c1 h.1)]
    go_enter Tryz.func55, Tryz.ntmps55
    go_wp2
    go_ret
    exact ⟨rfl, rfl⟩
theorem c_Rrun (L : List Nat) (hL : ∀ c ∈ L, c < 256) (at_ n : Nat) (hat : at_ ≤ L.length) (hl : L.length ≤ 10000000) (w : World) :
    Calls Tryz.prog 51 #[.string (u8sG L), .int .i64 (at_ : Int), .int .i64 (n : Int)] w fun r w' => r = .returned (.int .i64 (runL n (L.drop at_) : Int)) ∧ w = w' := by
  have hsz : (u8sG L).size = L.length := uG_size L
  have hle := runL_le n (L.drop at_)
  have hlt := Lib.hid (runL_lt n (L.drop at_))
  have hen := Lib.hid (runL_end n (L.drop at_))
  rw [List.length_drop] at hle
  have hget := Lib.hid (fun j c (h1 : L[j]? = some c) (h2 : c < 256) h3 => uG_get L j c h1 h2 h3)
  have hdr : ∀ i, (L.drop at_)[i]? = L[at_ + i]? := fun i => by rw [List.getElem?_drop]
  replace hdr := Lib.hid hdr
  have hI := Lib.hid (fun (c : Nat) (hc : c < 256) W => c_Rdigit c hc W)
  replace hL := Lib.hid hL
  generalize runL n (L.drop at_) = R at *
  generalize u8sG L = S at *
  have hszle : S.size ≤ 10000000 := by omega
  replace hsz := Lib.hid hsz
  go_enter Tryz.func51, Tryz.ntmps51
  go_wp2
  go_loopw [7] (fun v7 wr => ∃ k : Nat, k ≤ R ∧ v7 = .int .i64 (k : Int) ∧ wr = w) (fun v7 _ => R - (intOf v7).toNat)
  case atStart => exact ⟨0, Nat.zero_le _, rfl, rfl⟩
  case round =>
    obtain ⟨k, hk, rfl, rfl⟩ := hrel
    by_cases hd : at_ + k < L.length
    · obtain ⟨c, hc⟩ : ∃ c, L[at_ + k]? = some c := ⟨L[at_ + k], List.getElem?_eq_getElem hd⟩
      have hc256 := hL.out c (List.mem_of_getElem? hc)
      have hjs : at_ + k < S.size := by have := hsz.out; omega
      have hg := hget.out (at_ + k) c hc hc256 hjs
      have hIc := Lib.hid (fun W => hI.out c hc256 W)
      have hjs2 : (at_ : Int) + (k : Int) < (S.size : Int) := by omega
      have e1 : ((at_ : Int) + (k : Int)).toNat = at_ + k := by omega
      by_cases hkR : k < R
      · have hw := hlt.out k c (by rw [hdr.out]; exact hc) hkR
        have hdd : (wth c : Int) < (n : Int) := by omega
        clear hw hc hc256 hI
        generalize wth c = wc at *
        go_wp2_with (go_at_call 55; refine (hIc.out _).mono ?_; rintro e w' ⟨rfl, rfl⟩)
        exact ⟨⟨k + 1, by omega, by go_num, by trivial⟩, by simp [intOf]; omega⟩
      · obtain rfl : k = R := by omega
        have hw := hen.out c (by rw [hdr.out]; exact hc)
        have hdd : ¬ (wth c : Int) < (n : Int) := by omega
        clear hw hc hc256 hI
        generalize wth c = wc at *
        go_wp2_with (go_at_call 55; refine (hIc.out _).mono ?_; rintro e w' ⟨rfl, rfl⟩)
        go_ret
        exact ⟨rfl, rfl⟩
    · obtain rfl : k = R := by omega
      have hjs2 : ¬ (at_ : Int) + (k : Int) < (S.size : Int) := by have := hsz.out; omega
      clear hI
      go_wp2_with fail
      go_ret
      exact ⟨rfl, rfl⟩
theorem or32_x (c : Nat) (hc : c < 256) : (c ||| 32 = 120 ↔ c = 120 ∨ c = 88) ∧ (c ||| 32 = 111 ↔ c = 111 ∨ c = 79) ∧ (c ||| 32 = 98 ↔ c = 98 ∨ c = 66) := by
  have all : ∀ c : Fin 256, (c.val ||| 32 = 120 ↔ c.val = 120 ∨ c.val = 88) ∧ (c.val ||| 32 = 111 ↔ c.val = 111 ∨ c.val = 79) ∧ (c.val ||| 32 = 98 ↔ c.val = 98 ∨ c.val = 66) := by decide +kernel
  exact all ⟨c, hc⟩
theorem c_Rprefixed (L : List Nat) (hL : ∀ c ∈ L, c < 256) (hl : L.length ≤ 10000000) (w : World) :
    Calls Tryz.prog 50 #[.string (u8sG L)] w fun r w' => r = .returned (.int .i64 (preL L : Int)) ∧ w = w' := by
  have hsz : (u8sG L).size = L.length := uG_size L
  by_cases h2 : 2 ≤ L.length
  · obtain ⟨a, b, M, rfl⟩ : ∃ a b M, L = a :: b :: M := by
      cases L with
      | nil => simp at h2
      | cons a L => cases L with
        | nil => simp at h2
        | cons b M => exact ⟨a, b, M, rfl⟩
    have ha := hL a (by simp)
    have hb := hL b (by simp)
    have hs2 : 2 ≤ (u8sG (a :: b :: M)).size := by omega
    have hs0N : 0 < (u8sG (a :: b :: M)).size := by omega
    have hs1N : 1 < (u8sG (a :: b :: M)).size := by omega
    have hg0 := uG_get (a :: b :: M) 0 a rfl ha hs0N
    have hg1 := uG_get (a :: b :: M) 1 b rfl hb hs1N
    have hs2' : (1 : Int) < ((u8sG (a :: b :: M)).size : Int) := by omega
    have hs0' : (0 : Int) < ((u8sG (a :: b :: M)).size : Int) := by omega
    have hs3 : ¬ ((u8sG (a :: b :: M)).size : Int) < 2 := by omega
    have hsl : (u8sG (a :: b :: M)).size ≤ 10000000 := by omega
    have e : preL (a :: b :: M) = if a = 48 then (if b ||| 32 = 120 then 16 else if b ||| 32 = 111 then 8 else if b ||| 32 = 98 then 2 else 0) else 0 := by unfold preL; simp
    obtain ⟨o1, o2, o3⟩ := or32_x b hb
    rw [e]
    simp only [o1, o2, o3]
    clear e hsz hL hl h2 o1 o2 o3
    generalize u8sG (a :: b :: M) = S at *
    by_cases h48 : a = 48
    · rw [if_pos h48]
      subst h48
      by_cases e1 : b = 120
      · subst e1
        rw [if_pos (.inl rfl)]
        go_enter Tryz.func50, Tryz.ntmps50
        go_wp2
        go_ret
        exact ⟨rfl, rfl⟩
      by_cases e2 : b = 88
      · subst e2
        rw [if_pos (.inr rfl)]
        go_enter Tryz.func50, Tryz.ntmps50
        go_wp2
        go_ret
        exact ⟨rfl, rfl⟩
      rw [if_neg (by omega)]
      by_cases e3 : b = 111
      · subst e3
        rw [if_pos (.inl rfl)]
        go_enter Tryz.func50, Tryz.ntmps50
        go_wp2
        go_ret
        exact ⟨rfl, rfl⟩
      by_cases e4 : b = 79
      · subst e4
        rw [if_pos (.inr rfl)]
        go_enter Tryz.func50, Tryz.ntmps50
        go_wp2
        go_ret
        exact ⟨rfl, rfl⟩
      rw [if_neg (by omega)]
      by_cases e5 : b = 98
      · subst e5
        rw [if_pos (.inl rfl)]
        go_enter Tryz.func50, Tryz.ntmps50
        go_wp2
        go_ret
        exact ⟨rfl, rfl⟩
      by_cases e6 : b = 66
      · subst e6
        rw [if_pos (.inr rfl)]
        go_enter Tryz.func50, Tryz.ntmps50
        go_wp2
        go_ret
        exact ⟨rfl, rfl⟩
      rw [if_neg (by omega)]
      have n1 : ((b : Int) == 120) = false := beq_eq_false_iff_ne.2 (by omega)
      have n2 : ((b : Int) == 88) = false := beq_eq_false_iff_ne.2 (by omega)
      have n3 : ((b : Int) == 111) = false := beq_eq_false_iff_ne.2 (by omega)
      have n4 : ((b : Int) == 79) = false := beq_eq_false_iff_ne.2 (by omega)
      have n5 : ((b : Int) == 98) = false := beq_eq_false_iff_ne.2 (by omega)
      have n6 : ((b : Int) == 66) = false := beq_eq_false_iff_ne.2 (by omega)
      clear e1 e2 e3 e4 e5 e6
      go_enter Tryz.func50, Tryz.ntmps50
      go_wp2
      go_ret
      exact ⟨rfl, rfl⟩
    · rw [if_neg h48]
      have n1 : ((a : Int) != 48) = true := by simp; omega
      clear h48
      go_enter Tryz.func50, Tryz.ntmps50
      go_wp2
      go_ret
      exact ⟨rfl, rfl⟩
  · have e : preL L = 0 := by unfold preL; rw [if_neg (by omega)]
    rw [e]
    have hs3 : ((u8sG L).size : Int) < 2 := by omega
    clear hsz h2 hl hL e
    generalize u8sG L = S at *
    go_enter Tryz.func50, Tryz.ntmps50
    go_wp2
    go_ret
    exact ⟨rfl, rfl⟩
end Go.Proofs.YtbakbikilbaafaaGreatDoor
namespace Go.Proofs.YtbakbikilbaafaaGreatDoor
open Go.RowKit F64 Ieee
set_option linter.unusedVariables false
set_option maxHeartbeats 4000000
set_option maxRecDepth 100000

/-- units as bytes, others 255 -/
def asU (u : Nat) : Nat := if 127 < u then 255 else u
def asL (us : List Nat) : List Nat := us.map asU
theorem asU_lt (u : Nat) : asU u < 256 := by unfold asU; split <;> omega
theorem asL_lt (us : List Nat) : ∀ c ∈ asL us, c < 256 := fun c hc => by
  obtain ⟨u, -, rfl⟩ := List.mem_map.1 hc
  exact asU_lt u
theorem asL_len (us : List Nat) : (asL us).length = us.length := by simp [asL]
def b8N (l : List Nat) : List Value := l.map fun n : Nat => .int .u8 (n : Int)
theorem c_Rascii (s : ByteArray) (hs : s.size ≤ 1099511627776) (w : World) :
    Calls Tryz.prog 49 #[.string s] w fun e w' => e = .returned (.string (u8sG (asL (unitsN s (s.size / 2))))) ∧ Below w.heap.size w w' := by
  obtain ⟨i0, hi0, hz0, hz1, hz2⟩ := info_parts infoU8
  have hU := Lib.hid (fun W => c_UnitsR s hs W)
  have hm0 := Lib.hid (unitsN_mem s (s.size / 2))
  have hl0 := Lib.hid (unitsN_len s (s.size / 2))
  have hN : s.size / 2 ≤ 549755813888 := by omega
  have hst : Hid (∀ k u, (unitsN s (s.size / 2))[k]? = some u → b8N (asL ((unitsN s (s.size / 2)).take k)) ++ [.int .u8 (asU u : Int)] = b8N (asL ((unitsN s (s.size / 2)).take (k + 1)))) := fun k u h => by
    rw [List.take_add_one, h]; simp [b8N, asL]
  have hbl : Hid (∀ k, k ≤ s.size / 2 → (b8N (asL ((unitsN s (s.size / 2)).take k))).length = k) := fun k hk => by
    unfold b8N
    rw [List.length_map, asL_len, List.length_take, hl0.out]; omega
  have hend : Hid (asL ((unitsN s (s.size / 2)).take (s.size / 2)) = asL (unitsN s (s.size / 2))) := by
    show _ = _
    rw [List.take_of_length_le (by rw [hl0.out]; exact Nat.le_refl _)]
  have hall := Lib.hid (asL_lt (unitsN s (s.size / 2)))
  have hal : Hid ((asL (unitsN s (s.size / 2))).length = s.size / 2) := by show _ = _; rw [asL_len, hl0.out]
  generalize asL (unitsN s (s.size / 2)) = FA at *
  generalize hSF : u8sG FA = SF at *
  replace hSF := Lib.hid hSF
  generalize unitsN s (s.size / 2) = us at *
  generalize s.size / 2 = n at *
  go_enter Tryz.func49, Tryz.ntmps49
  go_wp2_with fail
  refine (hU.out _).mono ?_
  rintro e w2 ⟨v, rfl, hown, hb2⟩
  have hR := RdO_own hown
  have hget : ∀ k, k < n → ∃ u g o c, us[k]? = some u ∧ u < 65536 ∧ v = .slice (some ⟨g, o, none⟩) n c ∧ ∀ y, Below w2.heap.size w2 y → y.cell? ⟨g, o + k, none⟩ = some (.int .u16 (u : Int)) := by
    intro k hk
    have hku : k < us.length := by rw [hl0.out]; exact hk
    have hx : us[k]? = some us[k] := List.getElem?_eq_getElem hku
    obtain ⟨g, cap, rfl, hr⟩ := hown.form (by omega)
    have hc := World.ownsRow.cells hown (g := g) rfl k (.int .u16 (us[k] : Int)) (by simp [u16s, hx])
    rw [add_zero_addr] at hc
    refine ⟨us[k], g, 0, cap, hx, hm0.out _ (List.getElem_mem hku), rfl, fun y hy => ?_⟩
    rw [Nat.zero_add, hy.cell (p := ⟨g, k, none⟩) (lt_ofC hc)]
    exact hc
  obtain ⟨p, c, rfl⟩ : ∃ p c, v = .slice p n c := by
    obtain ⟨p, c, h⟩ := hR.form
    rw [hl0.out] at h
    exact ⟨p, c, h⟩
  replace hget := Lib.hid hget
  clear hown hR
  have hB2 := hb2.size
  go_wp2_with fail
  go_loopw [3, 5, 9] (fun v3 v5 v9 wr => ∃ k : Nat, k ≤ n ∧ v9 = .int .i64 (k : Int) ∧ wr.ownsRow w2.heap.size 5 1 v3 k (b8N (asL (us.take k))) ∧ Below w2.heap.size w2 wr) (fun _ _ v9 _ => n - (intOf v9).toNat)
  case atStart => exact ⟨0, Nat.zero_le _, rfl, World.ownsRow_nil _ _ _ _, Below.refl _ _⟩
  case round =>
    obtain ⟨k, hk, rfl, hown, hbel⟩ := hrel
    rcases Nat.lt_or_ge k n with hkn | hkn
    · obtain ⟨u, g, o, c1, hu, hu2, e1, hy⟩ := hget.out k hkn
      injection e1 with e1 _ e2
      subst e1 e2
      have d1 := hy wr hbel
      have hcB := Lib.hid (hst.out k u hu)
      have hkI : (k : Int) < (n : Int) := by omega
      clear hu hy
      by_cases h127 : 127 < u
      · have hau : asU u = 255 := by unfold asU; rw [if_pos h127]
        rw [hau] at hcB
        go_wp2_with (at_builtin; refine wpList_append_lies _ (by rfl) _ _ _ (by rfl) w2.heap.size 5 i0 _ 1 1 Tryz.underlying90 hi0 hz0 hz1 hz2 rfl (by omega) u3 k (b8N (asL (us.take k))) (by rfl) (hown.alloc _) ⟨wr.heap.size, 0, none⟩ 1 1 [.int .u8 255] (by rfl) (by rfl) (World.news_of_block (cs := #[.int .u8 255]) (t := 5) (fr := (0, 0)) (by exact heap_alloc_new wr _)) (by simp [Value.oneCell']) (by omega) (by unfold maxLen; omega) (by omega) (by have := hbel.size; simp; omega) (wr.heap.size + 1) (by simp) ?_; intro gg cap w3 hown2 hgrow hat hlt2)
        have hown3 : w3.ownsRow w2.heap.size 5 1 (.slice (some ⟨gg, 0, none⟩) (k + 1) cap) (k + 1) (b8N (asL (us.take (k + 1)))) := by
          rw [← hcB.out]; exact hown2
        have hbel2 : Below w2.heap.size w2 w3 := (hbel.alloc hbel.size _).grown hgrow (by have := hbel.size; simp; omega) (own_base hown)
        clear hown2 hgrow
        go_roundw
        case rel => exact ⟨k + 1, by omega, by go_num, hown3, hbel2⟩
        case measure => simp [intOf]; omega
      · have hau : asU u = u := by unfold asU; rw [if_neg h127]
        rw [hau] at hcB
        go_wp2_with (at_builtin; refine wpList_append_lies _ (by rfl) _ _ _ (by rfl) w2.heap.size 5 i0 _ 1 1 Tryz.underlying90 hi0 hz0 hz1 hz2 rfl (by omega) u3 k (b8N (asL (us.take k))) (by rfl) (hown.alloc _) ⟨wr.heap.size, 0, none⟩ 1 1 [.int .u8 (u : Int)] (by rfl) (by rfl) (World.news_of_block (cs := #[.int .u8 (u : Int)]) (t := 5) (fr := (0, 0)) (by exact heap_alloc_new wr _)) (by simp [Value.oneCell']) (by omega) (by unfold maxLen; omega) (by omega) (by have := hbel.size; simp; omega) (wr.heap.size + 1) (by simp) ?_; intro gg cap w3 hown2 hgrow hat hlt2)
        have hown3 : w3.ownsRow w2.heap.size 5 1 (.slice (some ⟨gg, 0, none⟩) (k + 1) cap) (k + 1) (b8N (asL (us.take (k + 1)))) := by
          rw [← hcB.out]; exact hown2
        have hbel2 : Below w2.heap.size w2 w3 := (hbel.alloc hbel.size _).grown hgrow (by have := hbel.size; simp; omega) (own_base hown)
        clear hown2 hgrow
        go_roundw
        case rel => exact ⟨k + 1, by omega, by go_num, hown3, hbel2⟩
        case measure => simp [intOf]; omega
    · obtain rfl : k = n := by omega
      have hkI : ¬ (k : Int) < (k : Int) := by omega
      rw [hend.out] at hown
      have hcv : (convert 90 9 u3).run Tryz.prog wr = .ok (.string SF) wr := by
        rw [← hSF.out]
        rcases Nat.eq_zero_or_pos k with h1 | h1
        · subst h1
          have hE0 : FA = [] := List.length_eq_zero_iff.1 hal.out
          subst hE0
          rcases hown with ⟨_, ⟨rfl, _⟩ | ⟨g, cap, cur, rfl, _⟩⟩
          · exact run_convert_bytes_nil (P := Tryz.prog) wr 90 5 Tryz.underlying90 Tryz.underlying5 0 0 9 Tryz.underlying9
          · exact run_convert_bytes_back (P := Tryz.prog) wr 90 9 5 ⟨g, 0, none⟩ cap [] Tryz.underlying90 Tryz.underlying5 Tryz.underlying9 (fun j hj => by simp at hj)
        · obtain ⟨g, cap, rfl, _, _⟩ := hown.form (by omega)
          have hc := World.ownsRow.cells hown (g := g) rfl
          have hlen : k = (FA.map UInt8.ofNat).length := by rw [List.length_map, hal.out]
          rw [hlen]
          refine run_convert_bytes_back (P := Tryz.prog) wr 90 9 5 ⟨g, 0, none⟩ cap (FA.map UInt8.ofNat) Tryz.underlying90 Tryz.underlying5 Tryz.underlying9 (fun j hj => hc j _ ?_)
          rw [List.length_map] at hj
          have := hall.out FA[j] (List.getElem_mem hj)
          simp [b8N, hj]
          omega
      clear hown
      go_wp2
      go_ret
      exact ⟨rfl, hb2.trans (hbel.mono hB2)⟩
end Go.Proofs.YtbakbikilbaafaaGreatDoor
