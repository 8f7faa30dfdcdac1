/-
  Contracts of functions of the packages nums, lintelref02 and math: what each call returns. Conditions: as each theorem says.
-/
import Derived.Test.YtpkinhiolaookaaW3
import Derived.Test.YtpkinhiolaookaaM64
namespace Go.Proofs.Ytpkinhiolaookaa
open Go.RowKit F64
set_option maxHeartbeats 400000
attribute [local go_sem] r56 r55 neg_run

theorem c18_ff (x : Nat) (hx : x < 18446744073709551616) (hf : fin x = true) (w : World) :
    Calls Try.prog 18 #[.float .f64 x, .int .i64 0] w fun e w' => e = .returned (.bool false) ∧ w = w' := by
  refine (c18_0 x hx w).mono ?_
  rintro e w' ⟨rfl, rfl⟩
  have := of_decide_eq_true hf
  exact ⟨ret_bool (by exact decide_eq_false (by omega)), rfl⟩
theorem c71_ff (x : Nat) (hf : fin x = true) (w : World) :
    Calls Try.prog 71 #[.float .f64 x] w fun e w' => e = .returned (.bool false) ∧ w = w' := by
  refine (c71 x w).mono ?_
  rintro e w' ⟨rfl, rfl⟩
  have := of_decide_eq_true hf
  exact ⟨ret_bool (by exact decide_eq_false (by omega)), rfl⟩
theorem hv_of {n Y d : Nat} {k : Int} (h : V d * 2 ^ 53 = nm Y * 2 ^ (stepq n Y + 1)) (hk : k + ne Y = stepq n Y) : V d * 2 ^ 53 = nm Y * 2 ^ (k + ne Y + 1).toNat := by
  rw [h]; congr 2; omega

theorem c62_p (x y : Nat) (hx : x < 9218868437227405312) (hy : y < 18446744073709551616) (hfy : fin y = true) (h0 : 0 < rung y) (w : World) :
    Calls Try.prog 62 #[.float .f64 x, .float .f64 y] w fun e w' => ∃ r, r < 9218868437227405312 ∧ V r = V x % V (rung y) ∧ e = .returned (.float .f64 r) ∧ w = w' := by
  have hX : x < 9218868437227405312 := hx
  have hfx : fin x = true := fin_small hx
  have ht2 : (FloatKind.f64.format.order x 0 == some Ordering.lt) = false := by
    rw [ord_lt0 hfx, sgn_small (by omega)]; rfl
  have hyl : rung y < 9218868437227405312 := of_decide_eq_true hfy
  have ht1 : (FloatKind.f64.format.order y 0 == some Ordering.eq) = false := by
    rw [ord_eq0 hfy]; exact decide_eq_false (by omega)
  have hyb := nm_bounds h0
  have hny := ne_le h0 hyl
  go_enter Try.func62, Try.ntmps62
  go_wp2_with (first | (go_at_call 18; refine (c18_ff _ (by omega) hfx _).mono ?_; rintro e w' ⟨rfl, rfl⟩) | (go_at_call 71; (with_reducible refine (c71_ff x hfx _).mono ?_); rintro e w' ⟨rfl, rfl⟩) | (go_at_call 71; (with_reducible refine (c71_ff y hfy _).mono ?_); rintro e w' ⟨rfl, rfl⟩) | (go_at_call 19; refine (c19 _ hy _).mono ?_; rintro e w' ⟨rfl, rfl⟩) | (go_at_call 72; refine (c72 _ h0 hyl _).mono ?_; rintro e w' ⟨rfl, rfl⟩))
  go_loop [7, 8, 9] (fun r _ _ => ∃ n : Nat, n < 9218868437227405312 ∧ V n % V (rung y) = V x % V (rung y) ∧ r = .float .f64 n) (fun r _ _ => match r with | .float _ n => n | _ => 0)
  case atStart => exact ⟨x, hX, rfl, rfl⟩
  case round =>
    obtain ⟨n, hn, hmod, rfl⟩ := hrel
    have Hmod := Lib.hid hmod
    clear hmod
    rcases Nat.lt_or_ge n (rung y) with hlt | hge
    · have ht3 : (FloatKind.f64.format.order n (rung y) == some Ordering.gt) = false := by
        rw [ord_gt hn hyl]; exact decide_eq_false (by omega)
      have ht4 : (FloatKind.f64.format.order n (rung y) == some Ordering.eq) = false := by
        rw [ord_eq hn hyl]; exact decide_eq_false (by omega)
      go_wp2_with fail
      go_ret
      refine ⟨n, hn, ?_, rfl, rfl⟩
      rw [← Hmod.out, Nat.mod_eq_of_lt (V_lt hlt)]
    · have ht3 : (FloatKind.f64.format.order n (rung y) == some Ordering.gt || FloatKind.f64.format.order n (rung y) == some Ordering.eq) = true := by
        rw [ord_gt hn hyl, ord_eq hn hyl, ← Bool.decide_or]; exact decide_eq_true (by omega)
      have hn0 : 0 < n := by omega
      have hnb := nm_bounds hn0
      have hnn := ne_le hn0 hn
      obtain ⟨d, m, hd, hv, hq1, hq2, hmn, hmm, hsub⟩ := mod_round h0 hge hn
      have hs := fun w => run_float_arith (P := Try.prog) w .sub 23 .f64 n d m hsub
      have Hmm := Lib.hid (hmm.trans Hmod.out)
      have Hv := Lib.hid hv
      clear hmm hv hsub Hmod
      by_cases hc : nm n < nm (rung y)
      · have ht5 : (FloatKind.f64.format.order (4598175219545276416 + nm n) (4598175219545276416 + nm (rung y)) == some Ordering.lt) = true := by
          rw [ord_lt (by omega) (by omega)]; exact decide_eq_true (by omega)
        have hq : (stepq n (rung y) : Int) = ne n - 1 := by
          have := (ne_mono h0 hge).2 hc
          unfold stepq; rw [if_pos hc]; omega
        have Hq := Lib.hid hq
        clear hq
        have hq3 : (ne (rung y) : Int) + 1 ≤ ne n := by have := Hq.out; omega
        go_wp2_with (first | (go_at_call 72; refine (c72 _ hn0 hn _).mono ?_; rintro e w' ⟨rfl, rfl⟩) | (go_at_call 66; refine (c66 _ d _ h0 hyl hd (by omega) (by omega) (hv_of Hv.out (by have := Hq.out; omega)) _).mono ?_; rintro e w' ⟨rfl, rfl⟩))
        go_round
        case rel => exact ⟨m, by omega, Hmm.out, rfl⟩
        case measure => simp; omega
      · have ht5 : (FloatKind.f64.format.order (4598175219545276416 + nm n) (4598175219545276416 + nm (rung y)) == some Ordering.lt) = false := by
          rw [ord_lt (by omega) (by omega)]; exact decide_eq_false (by omega)
        have hq : (stepq n (rung y) : Int) = ne n := by
          unfold stepq; rw [if_neg hc]
        have Hq := Lib.hid hq
        clear hq
        have hq3 : (ne (rung y) : Int) ≤ ne n := by have := Hq.out; omega
        go_wp2_with (first | (go_at_call 72; refine (c72 _ hn0 hn _).mono ?_; rintro e w' ⟨rfl, rfl⟩) | (go_at_call 66; refine (c66 _ d _ h0 hyl hd (by omega) (by omega) (hv_of Hv.out (by have := Hq.out; omega)) _).mono ?_; rintro e w' ⟨rfl, rfl⟩))
        go_round
        case rel => exact ⟨m, by omega, Hmm.out, rfl⟩
        case measure => simp; omega

theorem c62_n (x y : Nat) (hx : x < 18446744073709551616) (hfx : fin x = true) (hs : sgn x = true) (hx0 : 0 < rung x) (hy : y < 18446744073709551616) (hfy : fin y = true) (h0 : 0 < rung y) (w : World) :
    Calls Try.prog 62 #[.float .f64 x, .float .f64 y] w fun e w' => ∃ r, r < 9218868437227405312 ∧ V r = V (rung x) % V (rung y) ∧ e = .returned (.float .f64 (wd true r)) ∧ w = w' := by
  have hX : rung x < 9218868437227405312 := of_decide_eq_true hfx
  have ht2 : (FloatKind.f64.format.order x 0 == some Ordering.lt) = true := by
    rw [ord_lt0 hfx, hs, decide_eq_true hx0]; rfl
  have hneg : x ^^^ 9223372036854775808 = rung x := by rw [b_neg hx, hs]; rfl
  clear hs
  have hyl : rung y < 9218868437227405312 := of_decide_eq_true hfy
  have ht1 : (FloatKind.f64.format.order y 0 == some Ordering.eq) = false := by
    rw [ord_eq0 hfy]; exact decide_eq_false (by omega)
  have hyb := nm_bounds h0
  have hny := ne_le h0 hyl
  go_enter Try.func62, Try.ntmps62
  go_wp2_with (first | (go_at_call 18; refine (c18_ff _ (by omega) hfx _).mono ?_; rintro e w' ⟨rfl, rfl⟩) | (go_at_call 71; (with_reducible refine (c71_ff x hfx _).mono ?_); rintro e w' ⟨rfl, rfl⟩) | (go_at_call 71; (with_reducible refine (c71_ff y hfy _).mono ?_); rintro e w' ⟨rfl, rfl⟩) | (go_at_call 19; refine (c19 _ hy _).mono ?_; rintro e w' ⟨rfl, rfl⟩) | (go_at_call 72; refine (c72 _ h0 hyl _).mono ?_; rintro e w' ⟨rfl, rfl⟩))
  go_loop [7, 8, 9] (fun r _ _ => ∃ n : Nat, n < 9218868437227405312 ∧ V n % V (rung y) = V (rung x) % V (rung y) ∧ r = .float .f64 n) (fun r _ _ => match r with | .float _ n => n | _ => 0)
  case atStart => exact ⟨(rung x), hX, rfl, rfl⟩
  case round =>
    obtain ⟨n, hn, hmod, rfl⟩ := hrel
    have Hmod := Lib.hid hmod
    clear hmod
    rcases Nat.lt_or_ge n (rung y) with hlt | hge
    · have ht3 : (FloatKind.f64.format.order n (rung y) == some Ordering.gt) = false := by
        rw [ord_gt hn hyl]; exact decide_eq_false (by omega)
      have ht4 : (FloatKind.f64.format.order n (rung y) == some Ordering.eq) = false := by
        rw [ord_eq hn hyl]; exact decide_eq_false (by omega)
      go_wp2_with fail
      go_ret
      refine ⟨n, hn, ?_, ret_float (by rw [b_neg (by omega), sgn_small (by omega), rung_small (by omega)]; rfl), rfl⟩
      rw [← Hmod.out, Nat.mod_eq_of_lt (V_lt hlt)]
    · have ht3 : (FloatKind.f64.format.order n (rung y) == some Ordering.gt || FloatKind.f64.format.order n (rung y) == some Ordering.eq) = true := by
        rw [ord_gt hn hyl, ord_eq hn hyl, ← Bool.decide_or]; exact decide_eq_true (by omega)
      have hn0 : 0 < n := by omega
      have hnb := nm_bounds hn0
      have hnn := ne_le hn0 hn
      obtain ⟨d, m, hd, hv, hq1, hq2, hmn, hmm, hsub⟩ := mod_round h0 hge hn
      have hs := fun w => run_float_arith (P := Try.prog) w .sub 23 .f64 n d m hsub
      have Hmm := Lib.hid (hmm.trans Hmod.out)
      have Hv := Lib.hid hv
      clear hmm hv hsub Hmod
      by_cases hc : nm n < nm (rung y)
      · have ht5 : (FloatKind.f64.format.order (4598175219545276416 + nm n) (4598175219545276416 + nm (rung y)) == some Ordering.lt) = true := by
          rw [ord_lt (by omega) (by omega)]; exact decide_eq_true (by omega)
        have hq : (stepq n (rung y) : Int) = ne n - 1 := by
          have := (ne_mono h0 hge).2 hc
          unfold stepq; rw [if_pos hc]; omega
        have Hq := Lib.hid hq
        clear hq
        have hq3 : (ne (rung y) : Int) + 1 ≤ ne n := by have := Hq.out; omega
        go_wp2_with (first | (go_at_call 72; refine (c72 _ hn0 hn _).mono ?_; rintro e w' ⟨rfl, rfl⟩) | (go_at_call 66; refine (c66 _ d _ h0 hyl hd (by omega) (by omega) (hv_of Hv.out (by have := Hq.out; omega)) _).mono ?_; rintro e w' ⟨rfl, rfl⟩))
        go_round
        case rel => exact ⟨m, by omega, Hmm.out, rfl⟩
        case measure => simp; omega
      · have ht5 : (FloatKind.f64.format.order (4598175219545276416 + nm n) (4598175219545276416 + nm (rung y)) == some Ordering.lt) = false := by
          rw [ord_lt (by omega) (by omega)]; exact decide_eq_false (by omega)
        have hq : (stepq n (rung y) : Int) = ne n := by
          unfold stepq; rw [if_neg hc]
        have Hq := Lib.hid hq
        clear hq
        have hq3 : (ne (rung y) : Int) ≤ ne n := by have := Hq.out; omega
        go_wp2_with (first | (go_at_call 72; refine (c72 _ hn0 hn _).mono ?_; rintro e w' ⟨rfl, rfl⟩) | (go_at_call 66; refine (c66 _ d _ h0 hyl hd (by omega) (by omega) (hv_of Hv.out (by have := Hq.out; omega)) _).mono ?_; rintro e w' ⟨rfl, rfl⟩))
        go_round
        case rel => exact ⟨m, by omega, Hmm.out, rfl⟩
        case measure => simp; omega
end Go.Proofs.Ytpkinhiolaookaa
