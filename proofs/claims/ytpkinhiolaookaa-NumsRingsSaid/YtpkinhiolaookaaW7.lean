/-
  Contracts of functions of the packages nums, lintelref02 and math: what each call returns. Conditions: as each theorem says.
-/
import Derived.Test.YtpkinhiolaookaaW6
import Derived.Test.YtpkinhiolaookaaN64
namespace Go.Proofs.Ytpkinhiolaookaa
open Go.RowKit F64
set_option maxHeartbeats 400000
attribute [local go_sem] r56 r55 neg_run

theorem cases_word (x : Nat) : isNaN x = true ∨ (isNaN x = false ∧ rung x = 9218868437227405312) ∨ (isNaN x = false ∧ fin x = true) := by
  unfold isNaN fin
  rcases Nat.lt_trichotomy (rung x) 9218868437227405312 with h | h | h
  · right; right; exact ⟨decide_eq_false (by omega), decide_eq_true h⟩
  · right; left; exact ⟨decide_eq_false (by omega), h⟩
  · left; exact decide_eq_true h
theorem TI_nan {x : Nat} (h : isNaN x = true) : TI x = 0 := by
  have := of_decide_eq_true h
  unfold TI; rw [if_neg]; unfold fin; rw [decide_eq_true_iff]; omega
theorem TI_inf {x : Nat} (h : rung x = 9218868437227405312) : TI x = 0 := by
  unfold TI; rw [if_neg]; unfold fin; rw [decide_eq_true_iff]; omega
theorem isInf_t {x : Nat} (hx : x < 18446744073709551616) (h : rung x = 9218868437227405312) (w : World) :
    Calls Try.prog 18 #[.float .f64 x, .int .i64 0] w fun e w' => e = .returned (.bool true) ∧ w = w' := by
  refine (c18_0 x hx w).mono ?_
  rintro e w' ⟨rfl, rfl⟩
  exact ⟨ret_bool (decide_eq_true h), rfl⟩
theorem isInf_t2 {x : Nat} (hx : x < 18446744073709551616) (h : rung x = 9218868437227405312) (w : World) :
    Calls Try.prog 48 #[.float .f64 x] w fun e w' => e = .returned (.bool true) ∧ w = w' := by
  refine (c48 x hx w).mono ?_
  rintro e w' ⟨rfl, rfl⟩
  exact ⟨ret_bool (decide_eq_true h), rfl⟩
theorem isInf_f2 {x : Nat} (hx : x < 18446744073709551616) (h : fin x = true) (w : World) :
    Calls Try.prog 48 #[.float .f64 x] w fun e w' => e = .returned (.bool false) ∧ w = w' := by
  refine (c48 x hx w).mono ?_
  rintro e w' ⟨rfl, rfl⟩
  have := of_decide_eq_true h
  exact ⟨ret_bool (decide_eq_false (by omega)), rfl⟩
theorem back_mod {T K p : Nat} (hp : 0 < p) (h : T % p = K) (h0 : ¬ K = 0) : (((p - K : Nat) : Int)) = (-(T : Int)) % (p : Int) := by
  have hl : K < p := by rw [← h]; exact Nat.mod_lt _ hp
  have hd := Nat.div_add_mod T p
  have hT : (T : Int) = (p : Int) * ((T / p : Nat) : Int) + (K : Int) := by
    rw [← Int.natCast_mul, ← Int.natCast_add, ← h, hd]
  rw [hT, show -((p : Int) * ((T / p : Nat) : Int) + (K : Int)) = ((p - K : Nat) : Int) + (p : Int) * (-((T / p : Nat) : Int) - 1) by
    rw [Int.mul_sub, Int.mul_neg]; omega]
  rw [Int.add_mul_emod_self_left]
  exact (Int.emod_eq_of_lt (by omega) (by omega)).symm
theorem zero_mod {T p : Nat} (h : T % p = 0) (s : Bool) : (0 : Int) = (if s then -(T : Int) else (T : Int)) % (p : Int) := by
  have hT : ((T % p : Nat) : Int) = 0 := by rw [h]; rfl
  rw [Int.natCast_emod] at hT
  cases s
  · exact hT.symm
  · exact (Int.emod_eq_zero_of_dvd (Int.dvd_neg.2 (Int.dvd_of_emod_eq_zero hT))).symm
theorem pos_mod {T K p : Nat} (h : T % p = K) : (K : Int) = (T : Int) % (p : Int) := by
  rw [← h, Int.natCast_emod]
/-- nums.wrap -/
theorem c41_f (x : Nat) (hx : x < 18446744073709551616) (hn : isNaN x = false) (hf : fin x = true) (w : World) :
    Calls Try.prog 41 #[.float .f64 x] w fun e w' => e = .returned (.int .u32 (TI x % 4294967296)) ∧ w = w' := by
  go_enter Try.func41, Try.ntmps41
  go_wp2_with (first | (go_at_call 43; refine (c43 _ _).mono ?_; rintro e w' ⟨rfl, rfl⟩) | (go_at_call 18; refine (c18_ff _ hx hf _).mono ?_; rintro e w' ⟨rfl, rfl⟩))
  refine (c52 x hf _).mono ?_
  rintro e w' ⟨t, ht, htv, rfl, rfl⟩
  have Htv := Lib.hid htv
  clear htv
  go_wp2_with fail
  refine (c46 (wd (sgn x) t) 4751297606875873280 (wd_lt _ _ (by omega)) (fin_wd ht) (by decide) (by decide) (by decide) _).mono ?_
  rintro e w' ⟨r, hr, hrv, rfl, rfl⟩
  rw [sgn_wd _ _ (by omega)]
  rw [rung_wd _ _ (by omega), rung_small (by decide), V_32] at hrv
  have hrv := mod_whole Htv.out hrv
  have hTI : TI x = if sgn x then -((V (rung x) / U : Nat) : Int) else ((V (rung x) / U : Nat) : Int) := by unfold TI; rw [if_pos hf]
  generalize V (rung x) / U = T at *
  have HTI := Lib.hid hTI
  clear hTI
  have hol := ord_lt0 (x := wd (sgn x) r) (fin_wd hr)
  rw [sgn_wd _ _ (by omega), rung_wd _ _ (by omega)] at hol
  have hK : T % 2 ^ 32 < 2 ^ 32 := Nat.mod_lt _ (by decide)
  generalize hKK : T % 2 ^ 32 = K at *
  have HK := Lib.hid hKK
  clear hKK
  by_cases h0 : K = 0
  · have hr0 : r = 0 := by
      rw [h0, Nat.zero_mul, ← V_zero] at hrv; exact V_inj hrv
    subst hr0
    have hol' : (FloatKind.f64.format.order (wd (sgn x) 0) 0 == some Ordering.lt) = false := by rw [hol]; simp
    have hC := fun w => run_convert_float_int (P := Try.prog) w 23 43 .f64 .u64 (wd (sgn x) 0) _ (by kernel_rfl) Try.underlying43 (conv_zero (sgn x))
    have hz := zero_mod (by rw [HK.out, h0] : T % 2 ^ 32 = 0) (sgn x)
    rw [← HTI.out] at hz
    have Hz := Lib.hid hz
    clear hol hrv hz h0
    go_wp2_with fail
    go_ret
    exact ⟨ret_int Hz.out, rfl⟩
  · cases hs : sgn x
    · rw [hs] at hol
      have hol' : (FloatKind.f64.format.order (wd false r) 0 == some Ordering.lt) = false := by rw [hol]; rfl
      have hC := fun w => run_convert_float_int (P := Try.prog) w 23 43 .f64 .u64 (wd false r) _ (by kernel_rfl) Try.underlying43 (conv_u64 (m := wd false r) hr hrv (by omega))
      have hz := pos_mod HK.out
      have hTI := HTI.out
      rw [hs, if_neg (by decide)] at hTI
      rw [← hTI] at hz
      have Hz := Lib.hid hz
      clear hol hrv hz hTI hs
      go_wp2_with fail
      go_ret
      exact ⟨ret_int (Hz.out), rfl⟩
    · have hr0 : 0 < r := by
        rcases Nat.eq_zero_or_pos r with h | h
        · rw [h, V_zero] at hrv
          have := Nat.mul_pos (Nat.pos_of_ne_zero h0) U_pos
          omega
        · exact h
      rw [hs] at hol
      have hol' : (FloatKind.f64.format.order (wd true r) 0 == some Ordering.lt) = true := by rw [hol, decide_eq_true hr0]; rfl
      obtain ⟨m, hm, hmv, hadd⟩ := add_back (k := 32) hr (by decide) (by decide) V_32 hrv (by omega) (by omega)
      have hA := fun w => run_float_arith (P := Try.prog) w .add 23 .f64 (wd true r) 4751297606875873280 m hadd
      have hC := fun w => run_convert_float_int (P := Try.prog) w 23 43 .f64 .u64 m _ (by kernel_rfl) Try.underlying43 (conv_u64 hm hmv (by omega))
      have hz := back_mod (by decide) HK.out h0
      have hTI := HTI.out
      rw [hs, if_pos rfl] at hTI
      rw [← hTI] at hz
      have Hz := Lib.hid hz
      clear hol hrv hz hTI hs hmv hadd
      go_wp2_with fail
      go_ret
      exact ⟨ret_int (Hz.out), rfl⟩
theorem c41 (x : Nat) (hx : x < 18446744073709551616) (w : World) :
    Calls Try.prog 41 #[.float .f64 x] w fun e w' => e = .returned (.int .u32 (TI x % 4294967296)) ∧ w = w' := by
  rcases cases_word x with h | ⟨h1, h2⟩ | ⟨h1, h2⟩
  · rw [TI_nan h]
    go_enter Try.func41, Try.ntmps41
    go_wp2_with (first | (go_at_call 43; refine (c43 _ _).mono ?_; rintro e w' ⟨rfl, rfl⟩))
    go_ret
    exact ⟨rfl, rfl⟩
  · rw [TI_inf h2]
    go_enter Try.func41, Try.ntmps41
    go_wp2_with (first | (go_at_call 43; refine (c43 _ _).mono ?_; rintro e w' ⟨rfl, rfl⟩) | (go_at_call 18; refine (isInf_t hx h2 _).mono ?_; rintro e w' ⟨rfl, rfl⟩))
    go_ret
    exact ⟨rfl, rfl⟩
  · exact c41_f x hx h1 h2 w

theorem ld_pow (C : Nat) (i : Int) (k : Nat) (hi : i = (k : Int)) (hv : V C = 2 ^ k * U) : V C * 2 ^ 53 = nm 4607182418800017408 * 2 ^ (i + ne 4607182418800017408 + 1).toNat := by
  subst hi
  have h1 : nm 4607182418800017408 = 2 ^ 52 := by decide
  have h2 : ne 4607182418800017408 = PL := by decide
  have h3 : ((k : Int) + PL + 1).toNat = k + PL + 1 := by omega
  rw [h1, h2, h3, hv]
  unfold U
  rw [← Nat.pow_add, ← Nat.pow_add, ← Nat.pow_add]
  exact congrArg (2 ^ ·) (by omega)
theorem hld32 : V 4751297606875873280 * 2 ^ 53 = nm 4607182418800017408 * 2 ^ ((32 : Int) + ne 4607182418800017408 + 1).toNat := ld_pow _ _ 32 rfl V_32
theorem hld16 : V 4679240012837945344 * 2 ^ 53 = nm 4607182418800017408 * 2 ^ ((16 : Int) + ne 4607182418800017408 + 1).toNat := ld_pow _ _ 16 rfl V_16
/-- the reference's Modulo at 32 -/
theorem c58_32_f (x : Nat) (hx : x < 18446744073709551616) (hn : isNaN x = false) (hf : fin x = true) (w : World) :
    Calls Try.prog 58 #[.float .f64 x, .int .i64 32] w fun e w' => e = .returned (.int .u64 (TI x % 4294967296)) ∧ w = w' := by
  go_enter Try.func58, Try.ntmps58
  go_wp2_with (first | (go_at_call 47; refine (c47 _ _).mono ?_; rintro e w' ⟨rfl, rfl⟩) | (go_at_call 48; refine (isInf_f2 hx hf _).mono ?_; rintro e w' ⟨rfl, rfl⟩) | (go_at_call 66; refine (c66 4607182418800017408 4751297606875873280 _ (by decide) (by decide) (by decide) (by decide) (by decide) hld32 _).mono ?_; rintro e w' ⟨rfl, rfl⟩))
  refine (c52 x hf _).mono ?_
  rintro e w' ⟨t, ht, htv, rfl, rfl⟩
  have Htv := Lib.hid htv
  clear htv
  go_wp2_with fail
  refine (c46 (wd (sgn x) t) 4751297606875873280 (wd_lt _ _ (by omega)) (fin_wd ht) (by decide) (by decide) (by decide) _).mono ?_
  rintro e w' ⟨r, hr, hrv, rfl, rfl⟩
  rw [sgn_wd _ _ (by omega)]
  rw [rung_wd _ _ (by omega), rung_small (by decide), V_32] at hrv
  have hrv := mod_whole Htv.out hrv
  have hTI : TI x = if sgn x then -((V (rung x) / U : Nat) : Int) else ((V (rung x) / U : Nat) : Int) := by unfold TI; rw [if_pos hf]
  generalize V (rung x) / U = T at *
  have HTI := Lib.hid hTI
  clear hTI
  have hol := ord_lt0 (x := wd (sgn x) r) (fin_wd hr)
  rw [sgn_wd _ _ (by omega), rung_wd _ _ (by omega)] at hol
  have hK : T % 2 ^ 32 < 2 ^ 32 := Nat.mod_lt _ (by decide)
  generalize hKK : T % 2 ^ 32 = K at *
  have HK := Lib.hid hKK
  clear hKK
  by_cases h0 : K = 0
  · have hr0 : r = 0 := by
      rw [h0, Nat.zero_mul, ← V_zero] at hrv; exact V_inj hrv
    subst hr0
    have hol' : (FloatKind.f64.format.order (wd (sgn x) 0) 0 == some Ordering.lt) = false := by rw [hol]; simp
    have hC := fun w => run_convert_float_int (P := Try.prog) w 23 43 .f64 .u64 (wd (sgn x) 0) _ (by kernel_rfl) Try.underlying43 (conv_zero (sgn x))
    have hz := zero_mod (by rw [HK.out, h0] : T % 2 ^ 32 = 0) (sgn x)
    rw [← HTI.out] at hz
    have Hz := Lib.hid hz
    clear hol hrv hz h0
    go_wp2_with fail
    go_ret
    exact ⟨ret_int Hz.out, rfl⟩
  · cases hs : sgn x
    · rw [hs] at hol
      have hol' : (FloatKind.f64.format.order (wd false r) 0 == some Ordering.lt) = false := by rw [hol]; rfl
      have hC := fun w => run_convert_float_int (P := Try.prog) w 23 43 .f64 .u64 (wd false r) _ (by kernel_rfl) Try.underlying43 (conv_u64 (m := wd false r) hr hrv (by omega))
      have hz := pos_mod HK.out
      have hTI := HTI.out
      rw [hs, if_neg (by decide)] at hTI
      rw [← hTI] at hz
      have Hz := Lib.hid hz
      clear hol hrv hz hTI hs
      go_wp2_with fail
      go_ret
      exact ⟨ret_int (Hz.out), rfl⟩
    · have hr0 : 0 < r := by
        rcases Nat.eq_zero_or_pos r with h | h
        · rw [h, V_zero] at hrv
          have := Nat.mul_pos (Nat.pos_of_ne_zero h0) U_pos
          omega
        · exact h
      rw [hs] at hol
      have hol' : (FloatKind.f64.format.order (wd true r) 0 == some Ordering.lt) = true := by rw [hol, decide_eq_true hr0]; rfl
      obtain ⟨m, hm, hmv, hadd⟩ := add_back (k := 32) hr (by decide) (by decide) V_32 hrv (by omega) (by omega)
      have hA := fun w => run_float_arith (P := Try.prog) w .add 23 .f64 (wd true r) 4751297606875873280 m hadd
      have hC := fun w => run_convert_float_int (P := Try.prog) w 23 43 .f64 .u64 m _ (by kernel_rfl) Try.underlying43 (conv_u64 hm hmv (by omega))
      have hz := back_mod (by decide) HK.out h0
      have hTI := HTI.out
      rw [hs, if_pos rfl] at hTI
      rw [← hTI] at hz
      have Hz := Lib.hid hz
      clear hol hrv hz hTI hs hmv hadd
      go_wp2_with fail
      go_ret
      exact ⟨ret_int (Hz.out), rfl⟩
theorem c58_32 (x : Nat) (hx : x < 18446744073709551616) (w : World) :
    Calls Try.prog 58 #[.float .f64 x, .int .i64 32] w fun e w' => e = .returned (.int .u64 (TI x % 4294967296)) ∧ w = w' := by
  rcases cases_word x with h | ⟨h1, h2⟩ | ⟨h1, h2⟩
  · rw [TI_nan h]
    go_enter Try.func58, Try.ntmps58
    go_wp2_with (first | (go_at_call 47; refine (c47 _ _).mono ?_; rintro e w' ⟨rfl, rfl⟩))
    go_ret
    exact ⟨rfl, rfl⟩
  · rw [TI_inf h2]
    go_enter Try.func58, Try.ntmps58
    go_wp2_with (first | (go_at_call 47; refine (c47 _ _).mono ?_; rintro e w' ⟨rfl, rfl⟩) | (go_at_call 48; refine (isInf_t2 hx h2 _).mono ?_; rintro e w' ⟨rfl, rfl⟩))
    go_ret
    exact ⟨rfl, rfl⟩
  · exact c58_32_f x hx h1 h2 w
/-- the reference's Modulo at 16 -/
theorem c58_16_f (x : Nat) (hx : x < 18446744073709551616) (hn : isNaN x = false) (hf : fin x = true) (w : World) :
    Calls Try.prog 58 #[.float .f64 x, .int .i64 16] w fun e w' => e = .returned (.int .u64 (TI x % 65536)) ∧ w = w' := by
  go_enter Try.func58, Try.ntmps58
  go_wp2_with (first | (go_at_call 47; refine (c47 _ _).mono ?_; rintro e w' ⟨rfl, rfl⟩) | (go_at_call 48; refine (isInf_f2 hx hf _).mono ?_; rintro e w' ⟨rfl, rfl⟩) | (go_at_call 66; refine (c66 4607182418800017408 4679240012837945344 _ (by decide) (by decide) (by decide) (by decide) (by decide) hld16 _).mono ?_; rintro e w' ⟨rfl, rfl⟩))
  refine (c52 x hf _).mono ?_
  rintro e w' ⟨t, ht, htv, rfl, rfl⟩
  have Htv := Lib.hid htv
  clear htv
  go_wp2_with fail
  refine (c46 (wd (sgn x) t) 4679240012837945344 (wd_lt _ _ (by omega)) (fin_wd ht) (by decide) (by decide) (by decide) _).mono ?_
  rintro e w' ⟨r, hr, hrv, rfl, rfl⟩
  rw [sgn_wd _ _ (by omega)]
  rw [rung_wd _ _ (by omega), rung_small (by decide), V_16] at hrv
  have hrv := mod_whole Htv.out hrv
  have hTI : TI x = if sgn x then -((V (rung x) / U : Nat) : Int) else ((V (rung x) / U : Nat) : Int) := by unfold TI; rw [if_pos hf]
  generalize V (rung x) / U = T at *
  have HTI := Lib.hid hTI
  clear hTI
  have hol := ord_lt0 (x := wd (sgn x) r) (fin_wd hr)
  rw [sgn_wd _ _ (by omega), rung_wd _ _ (by omega)] at hol
  have hK : T % 2 ^ 16 < 2 ^ 16 := Nat.mod_lt _ (by decide)
  generalize hKK : T % 2 ^ 16 = K at *
  have HK := Lib.hid hKK
  clear hKK
  by_cases h0 : K = 0
  · have hr0 : r = 0 := by
      rw [h0, Nat.zero_mul, ← V_zero] at hrv; exact V_inj hrv
    subst hr0
    have hol' : (FloatKind.f64.format.order (wd (sgn x) 0) 0 == some Ordering.lt) = false := by rw [hol]; simp
    have hC := fun w => run_convert_float_int (P := Try.prog) w 23 43 .f64 .u64 (wd (sgn x) 0) _ (by kernel_rfl) Try.underlying43 (conv_zero (sgn x))
    have hz := zero_mod (by rw [HK.out, h0] : T % 2 ^ 16 = 0) (sgn x)
    rw [← HTI.out] at hz
    have Hz := Lib.hid hz
    clear hol hrv hz h0
    go_wp2_with fail
    go_ret
    exact ⟨ret_int Hz.out, rfl⟩
  · cases hs : sgn x
    · rw [hs] at hol
      have hol' : (FloatKind.f64.format.order (wd false r) 0 == some Ordering.lt) = false := by rw [hol]; rfl
      have hC := fun w => run_convert_float_int (P := Try.prog) w 23 43 .f64 .u64 (wd false r) _ (by kernel_rfl) Try.underlying43 (conv_u64 (m := wd false r) hr hrv (by omega))
      have hz := pos_mod HK.out
      have hTI := HTI.out
      rw [hs, if_neg (by decide)] at hTI
      rw [← hTI] at hz
      have Hz := Lib.hid hz
      clear hol hrv hz hTI hs
      go_wp2_with fail
      go_ret
      exact ⟨ret_int (Hz.out), rfl⟩
    · have hr0 : 0 < r := by
        rcases Nat.eq_zero_or_pos r with h | h
        · rw [h, V_zero] at hrv
          have := Nat.mul_pos (Nat.pos_of_ne_zero h0) U_pos
          omega
        · exact h
      rw [hs] at hol
      have hol' : (FloatKind.f64.format.order (wd true r) 0 == some Ordering.lt) = true := by rw [hol, decide_eq_true hr0]; rfl
      obtain ⟨m, hm, hmv, hadd⟩ := add_back (k := 16) hr (by decide) (by decide) V_16 hrv (by omega) (by omega)
      have hA := fun w => run_float_arith (P := Try.prog) w .add 23 .f64 (wd true r) 4679240012837945344 m hadd
      have hC := fun w => run_convert_float_int (P := Try.prog) w 23 43 .f64 .u64 m _ (by kernel_rfl) Try.underlying43 (conv_u64 hm hmv (by omega))
      have hz := back_mod (by decide) HK.out h0
      have hTI := HTI.out
      rw [hs, if_pos rfl] at hTI
      rw [← hTI] at hz
      have Hz := Lib.hid hz
      clear hol hrv hz hTI hs hmv hadd
      go_wp2_with fail
      go_ret
      exact ⟨ret_int (Hz.out), rfl⟩
theorem c58_16 (x : Nat) (hx : x < 18446744073709551616) (w : World) :
    Calls Try.prog 58 #[.float .f64 x, .int .i64 16] w fun e w' => e = .returned (.int .u64 (TI x % 65536)) ∧ w = w' := by
  rcases cases_word x with h | ⟨h1, h2⟩ | ⟨h1, h2⟩
  · rw [TI_nan h]
    go_enter Try.func58, Try.ntmps58
    go_wp2_with (first | (go_at_call 47; refine (c47 _ _).mono ?_; rintro e w' ⟨rfl, rfl⟩))
    go_ret
    exact ⟨rfl, rfl⟩
  · rw [TI_inf h2]
    go_enter Try.func58, Try.ntmps58
    go_wp2_with (first | (go_at_call 47; refine (c47 _ _).mono ?_; rintro e w' ⟨rfl, rfl⟩) | (go_at_call 48; refine (isInf_t2 hx h2 _).mono ?_; rintro e w' ⟨rfl, rfl⟩))
    go_ret
    exact ⟨rfl, rfl⟩
  · exact c58_16_f x hx h1 h2 w
end Go.Proofs.Ytpkinhiolaookaa
