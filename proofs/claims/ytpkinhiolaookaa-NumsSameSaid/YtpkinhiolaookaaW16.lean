/-
  Contracts of functions of the packages nums, lintelref02 and math, and the walks of the laws NumsSame, NumsRings, NumsDivides, NumsInts. Conditions: as each theorem says.
-/
import Derived.Test.YtpkinhiolaookaaW15
import Derived.Test.YtpkinhiolaookaaS64
namespace Go.Proofs.Ytpkinhiolaookaa
open Go.RowKit F64
set_option maxHeartbeats 400000
attribute [local go_sem] r56 r55 neg_run

/-- how numbers are compared -/
def sameB (a b : Nat) (how : Int) : Bool :=
  if how = 2 then (oEq a b && (sgn a == sgn b)) || (isNaN a && isNaN b) else if how = 1 then oEq a b || (isNaN a && isNaN b) else if how = 0 then oEq a b else false
theorem sameB_symm (a b : Nat) (how : Int) : sameB b a how = sameB a b how := by
  have h1 : oEq b a = oEq a b := ord_symm b a
  have h2 : (sgn b == sgn a) = (sgn a == sgn b) := by cases sgn a <;> cases sgn b <;> rfl
  have h3 : (isNaN b && isNaN a) = (isNaN a && isNaN b) := Bool.and_comm _ _
  unfold sameB; rw [h1, h2, h3]
theorem c20_is {x : Nat} {s : Bool} (hx : x < 18446744073709551616) (h : sgn x = s) (w : World) : Calls Try.prog 20 #[.float .f64 x] w fun e w' => e = .returned (.bool s) ∧ w = w' := by rw [← h]; exact c20 x hx w
theorem c31_2 (a b : Nat) (ha : a < 18446744073709551616) (hb : b < 18446744073709551616) (w : World) :
    Calls Try.prog 31 #[.float .f64 a, .float .f64 b, .int .i64 2] w fun e w' => e = .returned (.bool ((oEq a b && (sgn a == sgn b)) || (isNaN a && isNaN b))) ∧ w = w' := by
  cases hna : isNaN a <;> cases hnb : isNaN b <;> cases hoe : (FloatKind.f64.format.order a b == some Ordering.eq) <;> cases hsa : sgn a <;> cases hsb : sgn b
  all_goals
    have Hna := Lib.hid (c43_is hna)
    have Hnb := Lib.hid (c43_is hnb)
    have Hoe := Lib.hid (show oEq a b = _ from hoe)
    clear hna hnb
    have Hsa := Lib.hid (c20_is ha hsa)
    have Hsb := Lib.hid (c20_is hb hsb)
    clear hsa hsb
    go_enter Try.func31, Try.ntmps31
    go_wp2_with (first | (go_at_call 43; (with_reducible refine (Hna.out _).mono ?_); rintro e w' ⟨rfl, rfl⟩) | (go_at_call 43; (with_reducible refine (Hnb.out _).mono ?_); rintro e w' ⟨rfl, rfl⟩) | (go_at_call 20; (with_reducible refine (Hsa.out _).mono ?_); rintro e w' ⟨rfl, rfl⟩) | (go_at_call 20; (with_reducible refine (Hsb.out _).mono ?_); rintro e w' ⟨rfl, rfl⟩))
    go_ret
    exact ⟨by rw [Hoe.out]; rfl, rfl⟩
theorem c31_1 (a b : Nat) (w : World) :
    Calls Try.prog 31 #[.float .f64 a, .float .f64 b, .int .i64 1] w fun e w' => e = .returned (.bool (oEq a b || (isNaN a && isNaN b))) ∧ w = w' := by
  cases hna : isNaN a <;> cases hnb : isNaN b <;> cases hoe : (FloatKind.f64.format.order a b == some Ordering.eq)
  all_goals
    have Hna := Lib.hid (c43_is hna)
    have Hnb := Lib.hid (c43_is hnb)
    have Hoe := Lib.hid (show oEq a b = _ from hoe)
    clear hna hnb
    go_enter Try.func31, Try.ntmps31
    go_wp2_with (first | (go_at_call 43; (with_reducible refine (Hna.out _).mono ?_); rintro e w' ⟨rfl, rfl⟩) | (go_at_call 43; (with_reducible refine (Hnb.out _).mono ?_); rintro e w' ⟨rfl, rfl⟩))
    go_ret
    exact ⟨by rw [Hoe.out]; rfl, rfl⟩
theorem c31_0 (a b : Nat) (w : World) :
    Calls Try.prog 31 #[.float .f64 a, .float .f64 b, .int .i64 0] w fun e w' => e = .returned (.bool (oEq a b)) ∧ w = w' := by
  cases hna : isNaN a <;> cases hnb : isNaN b <;> cases hoe : (FloatKind.f64.format.order a b == some Ordering.eq)
  all_goals
    have Hna := Lib.hid (c43_is hna)
    have Hnb := Lib.hid (c43_is hnb)
    have Hoe := Lib.hid (show oEq a b = _ from hoe)
    clear hna hnb
    go_enter Try.func31, Try.ntmps31
    go_wp2_with (first | (go_at_call 43; (with_reducible refine (Hna.out _).mono ?_); rintro e w' ⟨rfl, rfl⟩) | (go_at_call 43; (with_reducible refine (Hnb.out _).mono ?_); rintro e w' ⟨rfl, rfl⟩))
    go_ret
    exact ⟨by rw [Hoe.out]; rfl, rfl⟩
theorem c31_x (a b : Nat) (how : Int) (h2 : ¬ how = 2) (h1 : ¬ how = 1) (h0 : ¬ how = 0) (w : World) :
    Calls Try.prog 31 #[.float .f64 a, .float .f64 b, .int .i64 how] w fun e w' => e = .returned (.bool false) ∧ w = w' := by
  have k2 : (how == 2) = false := by simpa using h2
  have k1 : (how == 1) = false := by simpa using h1
  have k0 : (how == 0) = false := by simpa using h0
  go_enter Try.func31, Try.ntmps31
  go_wp2_with fail
  go_ret
  exact ⟨rfl, rfl⟩
theorem c31 (a b : Nat) (how : Int) (ha : a < 18446744073709551616) (hb : b < 18446744073709551616) (w : World) :
    Calls Try.prog 31 #[.float .f64 a, .float .f64 b, .int .i64 how] w fun e w' => e = .returned (.bool (sameB a b how)) ∧ w = w' := by
  unfold sameB
  by_cases h2 : how = 2
  · subst h2; rw [if_pos rfl]; exact c31_2 a b ha hb w
  · rw [if_neg h2]
    by_cases h1 : how = 1
    · subst h1; rw [if_pos rfl]; exact c31_1 a b w
    · rw [if_neg h1]
      by_cases h0 : how = 0
      · subst h0; rw [if_pos rfl]; exact c31_0 a b w
      · rw [if_neg h0]; exact c31_x a b how h2 h1 h0 w
theorem c32_two (a b : Nat) (ha : a < 18446744073709551616) (hb : b < 18446744073709551616) (w : World) :
    Calls Try.prog 32 #[.float .f64 a, .float .f64 b, .int .i64 2] w fun e w' => e = .returned (.bool ((oEq a b && (sgn a == sgn b)) || (isNaN a && isNaN b))) ∧ w = w' := by
  cases hna : isNaN a <;> cases hnb : isNaN b <;> cases hoe : (FloatKind.f64.format.order a b == some Ordering.eq) <;> cases hsa : sgn a <;> cases hsb : sgn b
  all_goals
    have Hna := Lib.hid (c47_is hna)
    have Hnb := Lib.hid (c47_is hnb)
    have Hoe := Lib.hid (show oEq a b = _ from hoe)
    clear hna hnb
    have Hsa := Lib.hid (c20_is ha hsa)
    have Hsb := Lib.hid (c20_is hb hsb)
    clear hsa hsb
    go_enter Try.func32, Try.ntmps32
    go_wp2_with (first | (go_at_call 47; (with_reducible refine (Hna.out _).mono ?_); rintro e w' ⟨rfl, rfl⟩) | (go_at_call 47; (with_reducible refine (Hnb.out _).mono ?_); rintro e w' ⟨rfl, rfl⟩) | (go_at_call 20; (with_reducible refine (Hsa.out _).mono ?_); rintro e w' ⟨rfl, rfl⟩) | (go_at_call 20; (with_reducible refine (Hsb.out _).mono ?_); rintro e w' ⟨rfl, rfl⟩))
    go_ret
    exact ⟨by rw [Hoe.out]; rfl, rfl⟩
theorem c32_1 (a b : Nat) (w : World) :
    Calls Try.prog 32 #[.float .f64 a, .float .f64 b, .int .i64 1] w fun e w' => e = .returned (.bool (oEq a b || (isNaN a && isNaN b))) ∧ w = w' := by
  cases hna : isNaN a <;> cases hnb : isNaN b <;> cases hoe : (FloatKind.f64.format.order a b == some Ordering.eq)
  all_goals
    have Hna := Lib.hid (c47_is hna)
    have Hnb := Lib.hid (c47_is hnb)
    have Hoe := Lib.hid (show oEq a b = _ from hoe)
    clear hna hnb
    go_enter Try.func32, Try.ntmps32
    go_wp2_with (first | (go_at_call 47; (with_reducible refine (Hna.out _).mono ?_); rintro e w' ⟨rfl, rfl⟩) | (go_at_call 47; (with_reducible refine (Hnb.out _).mono ?_); rintro e w' ⟨rfl, rfl⟩))
    go_ret
    exact ⟨by rw [Hoe.out]; rfl, rfl⟩
theorem c32_0 (a b : Nat) (w : World) :
    Calls Try.prog 32 #[.float .f64 a, .float .f64 b, .int .i64 0] w fun e w' => e = .returned (.bool (oEq a b)) ∧ w = w' := by
  cases hna : isNaN a <;> cases hnb : isNaN b <;> cases hoe : (FloatKind.f64.format.order a b == some Ordering.eq)
  all_goals
    have Hna := Lib.hid (c47_is hna)
    have Hnb := Lib.hid (c47_is hnb)
    have Hoe := Lib.hid (show oEq a b = _ from hoe)
    clear hna hnb
    go_enter Try.func32, Try.ntmps32
    go_wp2_with (first | (go_at_call 47; (with_reducible refine (Hna.out _).mono ?_); rintro e w' ⟨rfl, rfl⟩) | (go_at_call 47; (with_reducible refine (Hnb.out _).mono ?_); rintro e w' ⟨rfl, rfl⟩))
    go_ret
    exact ⟨by rw [Hoe.out]; rfl, rfl⟩
theorem c32_x (a b : Nat) (how : Int) (h2 : ¬ how = 2) (h1 : ¬ how = 1) (h0 : ¬ how = 0) (w : World) :
    Calls Try.prog 32 #[.float .f64 a, .float .f64 b, .int .i64 how] w fun e w' => e = .returned (.bool false) ∧ w = w' := by
  have k2 : (how == 2) = false := by simpa using h2
  have k1 : (how == 1) = false := by simpa using h1
  have k0 : (how == 0) = false := by simpa using h0
  go_enter Try.func32, Try.ntmps32
  go_wp2_with fail
  go_ret
  exact ⟨rfl, rfl⟩
theorem c32_any (a b : Nat) (how : Int) (ha : a < 18446744073709551616) (hb : b < 18446744073709551616) (w : World) :
    Calls Try.prog 32 #[.float .f64 a, .float .f64 b, .int .i64 how] w fun e w' => e = .returned (.bool (sameB a b how)) ∧ w = w' := by
  unfold sameB
  by_cases h2 : how = 2
  · subst h2; rw [if_pos rfl]; exact c32_two a b ha hb w
  · rw [if_neg h2]
    by_cases h1 : how = 1
    · subst h1; rw [if_pos rfl]; exact c32_1 a b w
    · rw [if_neg h1]
      by_cases h0 : how = 0
      · subst h0; rw [if_pos rfl]; exact c32_0 a b w
      · rw [if_neg h0]; exact c32_x a b how h2 h1 h0 w
theorem c31_turned (a b : Nat) (how : Int) (ha : a < 18446744073709551616) (hb : b < 18446744073709551616) (w : World) :
    Calls Try.prog 31 #[.float .f64 b, .float .f64 a, .int .i64 how] w fun e w' => e = .returned (.bool (sameB a b how)) ∧ w = w' := by
  rw [← sameB_symm]; exact c31 b a how hb ha w
theorem c29 (a b : Nat) (w : World) :
    Calls Try.prog 29 #[.float .f64 a, .float .f64 b] w fun e w' => e = .returned (.tuple #[.bool (oLt a b), .bool (!isNaN a && !isNaN b)]) ∧ w = w' := by
  cases hna : isNaN a <;> cases hnb : isNaN b
  all_goals
    have Hna := Lib.hid (c43_is hna)
    have Hnb := Lib.hid (c43_is hnb)
    clear hna hnb
    go_enter Try.func29, Try.ntmps29
    go_wp2_with (first | (go_at_call 43; (with_reducible refine (Hna.out _).mono ?_); rintro e w' ⟨rfl, rfl⟩) | (go_at_call 43; (with_reducible refine (Hnb.out _).mono ?_); rintro e w' ⟨rfl, rfl⟩))
    go_ret2
    exact ⟨rfl, rfl⟩
theorem c30 (a b : Nat) (w : World) :
    Calls Try.prog 30 #[.float .f64 a, .float .f64 b] w fun e w' => e = .returned (.tuple #[.bool (oLt a b), .bool (!isNaN a && !isNaN b)]) ∧ w = w' := by
  cases hna : isNaN a <;> cases hnb : isNaN b
  all_goals
    have Hna := Lib.hid (c47_is hna)
    have Hnb := Lib.hid (c47_is hnb)
    clear hna hnb
    go_enter Try.func30, Try.ntmps30
    go_wp2_with (first | (go_at_call 47; (with_reducible refine (Hna.out _).mono ?_); rintro e w' ⟨rfl, rfl⟩) | (go_at_call 47; (with_reducible refine (Hnb.out _).mono ?_); rintro e w' ⟨rfl, rfl⟩))
    go_ret2
    exact ⟨rfl, rfl⟩
/-- law 8: NumsSame -/
theorem c8 (a b : Nat) (how : Int) (ha : a < 18446744073709551616) (hb : b < 18446744073709551616) (_hw : (Lit.int .i64 how).wf = true) (w : World) :
    Calls Try.prog 8 #[.float .f64 a, .float .f64 b, .int .i64 how] w (TruePost w) := by
  have H31 := Lib.hid (c31 a b how ha hb)
  have H31t := Lib.hid (c31_turned a b how ha hb)
  have H32 := Lib.hid (c32_any a b how ha hb)
  have H29 := Lib.hid (c29 a b)
  have H30 := Lib.hid (c30 a b)
  generalize hS : sameB a b how = S at *
  generalize hL : oLt a b = L at *
  generalize hN : (!isNaN a && !isNaN b) = Nn at *
  clear hS hL hN
  go_enter Try.func8, Try.ntmps8
  go_wp2_with (first | (go_at_call 10; refine (c10 _).mono ?_; rintro e w' ⟨n0, rfl, rfl⟩) | (go_at_call 29; refine (H29.out _).mono ?_; rintro e w' ⟨rfl, rfl⟩) | (go_at_call 30; refine (H30.out _).mono ?_; rintro e w' ⟨rfl, rfl⟩) | (go_at_call 32; refine (H32.out _).mono ?_; rintro e w' ⟨rfl, rfl⟩) | (go_at_call 31; (with_reducible refine (H31.out _).mono ?_); rintro e w' ⟨rfl, rfl⟩) | (go_at_call 31; (with_reducible refine (H31t.out _).mono ?_); rintro e w' ⟨rfl, rfl⟩))
  go_ret
  exact ⟨n0, ret_bool (by simp), rfl⟩

/-- a rest has a word -/
theorem rem_word (x y : Nat) (hx : x < 9218868437227405312) (hy : y < 9218868437227405312) (h0 : 0 < y) : ∃ r, r < 9218868437227405312 ∧ V r = V x % V y := by
  induction x using Nat.strongRecOn with
  | _ x ih =>
    rcases Nat.lt_or_ge x y with h | h
    · exact ⟨x, hx, by rw [Nat.mod_eq_of_lt (V_lt h)]⟩
    · obtain ⟨d, m, _, _, _, _, hm, hmv, _⟩ := mod_round h0 h hx
      obtain ⟨r, hr, hv⟩ := ih m hm (by omega)
      exact ⟨r, hr, by rw [hv, hmv]⟩
/-- what a rest is -/
theorem rem_facts {a b z : Nat} (ha : a < 18446744073709551616) (h : RemSpec a b (some z)) :
    z < 18446744073709551616 ∧ isNaN z = false ∧ sgn z = sgn a ∧ (rung b = 9218868437227405312 ∨ (rung z < rung b ∧ rung b < 9218868437227405312)) ∧ RemSpec z b (some z) ∧ isNaN a = false ∧ isNaN b = false := by
  have h' := h
  unfold RemSpec at h
  split at h
  · cases h
  · rename_i hc
    simp only [not_or] at hc
    obtain ⟨h1, h2, h3, h4⟩ := hc
    have hna : isNaN a = false := by simpa using h1
    have hnb : isNaN b = false := by simpa using h2
    split at h
    · rename_i hc2
      obtain rfl : z = a := by cases h; rfl
      refine ⟨ha, hna, rfl, ?_, h', hna, hnb⟩
      rcases hc2 with hc2 | hc2
      · exact .inl hc2
      · rcases Nat.lt_or_ge (rung b) 9218868437227405312 with hb | hb
        · exact .inr ⟨by omega, hb⟩
        · unfold isNaN at hnb; have := of_decide_eq_false hnb; exact .inl (by omega)
    · rename_i hc2
      simp only [not_or] at hc2
      obtain ⟨r, hr, hv, he⟩ := h
      obtain rfl : z = wd (sgn a) r := by cases he; rfl
      have hbl : rung b < 9218868437227405312 := by unfold isNaN at hnb; have := of_decide_eq_false hnb; have := hc2.1; omega
      have hlt : V r < V (rung b) := by rw [hv]; exact Nat.mod_lt _ (V_pos (by omega))
      have hzn : isNaN (wd (sgn a) r) = false := by rw [isNaN_wd (by omega)]; exact decide_eq_false (by omega)
      refine ⟨wd_lt _ _ (by omega), hzn, sgn_wd _ _ (by omega), .inr ⟨by rw [rung_wd _ _ (by omega)]; exact V_lt_iff.1 hlt, hbl⟩, ?_, hna, hnb⟩
      unfold RemSpec
      rw [rung_wd _ _ (by omega), sgn_wd _ _ (by omega), if_neg (by rw [hzn, hnb]; simp; exact ⟨by omega, h4⟩)]
      by_cases h0 : r = 0
      · rw [if_pos (.inr h0)]
      · rw [if_neg (by simp; exact ⟨hc2.1, h0⟩)]
        exact ⟨r, hr, by rw [Nat.mod_eq_of_lt hlt], rfl⟩
theorem rem_none_facts {a b : Nat} (h : RemSpec a b none) : isNaN a = true ∨ isNaN b = true ∨ rung a = 9218868437227405312 ∨ rung b = 0 := by
  unfold RemSpec at h
  split at h
  · assumption
  · split at h
    · cases h
    · obtain ⟨_, _, _, h⟩ := h; cases h
/-- law 6: NumsDivides -/
theorem c6_none (a b : Nat) (ha : a < 18446744073709551616) (hS : RemSpec a b none)
    (H14 : Hid (∀ w, Calls Try.prog 14 #[.float .f64 a, .float .f64 b] w fun e w' => ∃ v, isNaN v = true ∧ e = .returned (.float .f64 v) ∧ w = w')) (w : World) :
    Calls Try.prog 6 #[.float .f64 a, .float .f64 b] w (TruePost w) := by
  have hc := rem_none_facts hS
  clear hS
  have ha1 := ord_self a
  have hb1 := ord_self b
  cases hna : isNaN a
  · rw [hna] at ha1
    cases hnb : isNaN b
    · rw [hnb] at hb1
      by_cases hai : rung a = 9218868437227405312
      · have Hai := Lib.hid (isInf_t ha hai)
        clear hc hai hna hnb
        go_enter Try.func6, Try.ntmps6
        go_wp2_with (first | (go_at_call 10; refine (c10 _).mono ?_; rintro e w' ⟨n0, rfl, rfl⟩) | (go_at_call 14; refine (H14.out _).mono ?_; rintro e w' ⟨v, hv, rfl, rfl⟩; have hvv := ord_self v; rw [hv] at hvv; clear hv) | (go_at_call 18; refine (Hai.out _).mono ?_; rintro e w' ⟨rfl, rfl⟩))
        go_ret
        exact ⟨n0, rfl, rfl⟩
      · have Hai := Lib.hid (isInf_n ha hai)
        have hb0 : rung b = 0 := by
          rcases hc with h | h | h | h
          · rw [hna] at h; cases h
          · rw [hnb] at h; cases h
          · exact absurd h hai
          · exact h
        have hbz : (FloatKind.f64.format.order b 0 == some Ordering.eq) = true := by
          rw [ord_eq0 (by unfold fin; rw [hb0]; decide)]; exact decide_eq_true hb0
        clear hc hai hna hnb hb0
        go_enter Try.func6, Try.ntmps6
        go_wp2_with (first | (go_at_call 10; refine (c10 _).mono ?_; rintro e w' ⟨n0, rfl, rfl⟩) | (go_at_call 14; refine (H14.out _).mono ?_; rintro e w' ⟨v, hv, rfl, rfl⟩; have hvv := ord_self v; rw [hv] at hvv; clear hv) | (go_at_call 18; refine (Hai.out _).mono ?_; rintro e w' ⟨rfl, rfl⟩))
        go_ret
        exact ⟨n0, rfl, rfl⟩
    · rw [hnb] at hb1
      clear hc hna hnb
      go_enter Try.func6, Try.ntmps6
      go_wp2_with (first | (go_at_call 10; refine (c10 _).mono ?_; rintro e w' ⟨n0, rfl, rfl⟩) | (go_at_call 14; refine (H14.out _).mono ?_; rintro e w' ⟨v, hv, rfl, rfl⟩; have hvv := ord_self v; rw [hv] at hvv; clear hv))
      go_ret
      exact ⟨n0, rfl, rfl⟩
  · rw [hna] at ha1
    clear hc hna
    go_enter Try.func6, Try.ntmps6
    go_wp2_with (first | (go_at_call 10; refine (c10 _).mono ?_; rintro e w' ⟨n0, rfl, rfl⟩) | (go_at_call 14; refine (H14.out _).mono ?_; rintro e w' ⟨v, hv, rfl, rfl⟩; have hvv := ord_self v; rw [hv] at hvv; clear hv))
    go_ret
    exact ⟨n0, rfl, rfl⟩
theorem c6_some (a b z : Nat) (ha : a < 18446744073709551616) (hb : b < 18446744073709551616) (hS : RemSpec a b (some z))
    (H14 : Hid (∀ w, Calls Try.prog 14 #[.float .f64 a, .float .f64 b] w fun e w' => e = .returned (.float .f64 z) ∧ w = w'))
    (H14z : Hid (∀ w, Calls Try.prog 14 #[.float .f64 z, .float .f64 b] w fun e w' => e = .returned (.float .f64 z) ∧ w = w')) (w : World) :
    Calls Try.prog 6 #[.float .f64 a, .float .f64 b] w (TruePost w) := by
  obtain ⟨hz, hzn, hzs, hzb, _, hna, hnb⟩ := rem_facts ha hS
  have hzz := ord_self z
  rw [hzn] at hzz
  have Hsame := Lib.hid (c13 (some z) z z (R_some hz hzn) (R_some hz hzn))
  cases hsa : sgn a
  all_goals
    rw [hsa] at hzs
    have Hsz := Lib.hid (c20_is hz hzs)
    have Hsa := Lib.hid (c20_is ha hsa)
  all_goals
    rcases hzb with hzb | ⟨hzb, hbl⟩
    · have Hbi := Lib.hid (isInf_t hb hzb)
      clear hzb hzs hsa hzn hna hnb hS
      go_enter Try.func6, Try.ntmps6
      go_wp2_with (first | (go_at_call 10; refine (c10 _).mono ?_; rintro e w' ⟨n0, rfl, rfl⟩) | (go_at_call 14; (with_reducible refine (H14.out _).mono ?_); rintro e w' ⟨rfl, rfl⟩) | (go_at_call 14; (with_reducible refine (H14z.out _).mono ?_); rintro e w' ⟨rfl, rfl⟩) | (go_at_call 18; refine (Hbi.out _).mono ?_; rintro e w' ⟨rfl, rfl⟩) | (go_at_call 20; (with_reducible refine (Hsz.out _).mono ?_); rintro e w' ⟨rfl, rfl⟩) | (go_at_call 20; (with_reducible refine (Hsa.out _).mono ?_); rintro e w' ⟨rfl, rfl⟩) | (go_at_call 13; refine (Hsame.out _).mono ?_; rintro e w' ⟨rfl, rfl⟩))
      go_ret
      exact ⟨n0, rfl, rfl⟩
    · have Hbi := Lib.hid (isInf_n hb (by omega))
      have hlt : (FloatKind.f64.format.order (rung z) (rung b) == some Ordering.lt) = true := by
        rw [ord_lt (by omega) hbl]; exact decide_eq_true hzb
      clear hzs hsa hzn hna hnb hS hzb
      go_enter Try.func6, Try.ntmps6
      go_wp2_with (first | (go_at_call 10; refine (c10 _).mono ?_; rintro e w' ⟨n0, rfl, rfl⟩) | (go_at_call 14; (with_reducible refine (H14.out _).mono ?_); rintro e w' ⟨rfl, rfl⟩) | (go_at_call 14; (with_reducible refine (H14z.out _).mono ?_); rintro e w' ⟨rfl, rfl⟩) | (go_at_call 18; refine (Hbi.out _).mono ?_; rintro e w' ⟨rfl, rfl⟩) | (go_at_call 19; (with_reducible refine (c19 z hz _).mono ?_); rintro e w' ⟨rfl, rfl⟩) | (go_at_call 19; (with_reducible refine (c19 b hb _).mono ?_); rintro e w' ⟨rfl, rfl⟩) | (go_at_call 20; (with_reducible refine (Hsz.out _).mono ?_); rintro e w' ⟨rfl, rfl⟩) | (go_at_call 20; (with_reducible refine (Hsa.out _).mono ?_); rintro e w' ⟨rfl, rfl⟩) | (go_at_call 13; refine (Hsame.out _).mono ?_; rintro e w' ⟨rfl, rfl⟩))
      go_ret
      exact ⟨n0, rfl, rfl⟩
theorem RemSpec_some (a b : Nat) : ∃ o, RemSpec a b o := by
  unfold RemSpec
  split
  · exact ⟨_, rfl⟩
  · rename_i hc
    split
    · exact ⟨_, rfl⟩
    · rename_i hc2
      simp only [not_or] at hc hc2
      obtain ⟨h1, h2, h3, h4⟩ := hc
      have hna : isNaN a = false := by simpa using h1
      have hnb : isNaN b = false := by simpa using h2
      have hfa := eq0_of hna h3
      have hfb := eq0_of hnb hc2.1
      have hal : rung a < 9218868437227405312 := of_decide_eq_true hfa
      have hbl : rung b < 9218868437227405312 := of_decide_eq_true hfb
      obtain ⟨r, hr, hv⟩ := rem_word (rung a) (rung b) hal hbl (by omega)
      exact ⟨_, r, hr, hv, rfl⟩
theorem c6 (a b : Nat) (ha : a < 18446744073709551616) (hb : b < 18446744073709551616) (w : World) :
    Calls Try.prog 6 #[.float .f64 a, .float .f64 b] w (TruePost w) := by
  obtain ⟨o, hS⟩ := RemSpec_some a b
  cases o with
  | none =>
    refine c6_none a b ha hS (Lib.hid fun w => ?_) w
    refine (c14 a b ha hb w).mono ?_
    rintro e w' ⟨v, o, rfl, rfl, hR, hS'⟩
    have := RemSpec_one hS hS'
    subst this
    exact ⟨v, hR.2, rfl, rfl⟩
  | some z =>
    have hf := rem_facts ha hS
    refine c6_some a b z ha hb hS (Lib.hid fun w => ?_) (Lib.hid fun w => ?_) w
    · refine (c14 a b ha hb w).mono ?_
      rintro e w' ⟨v, o, rfl, rfl, hR, hS'⟩
      have := RemSpec_one hS hS'
      subst this
      exact ⟨ret_float hR.2.1, rfl⟩
    · refine (c14 z b hf.1 hb w).mono ?_
      rintro e w' ⟨v, o, rfl, rfl, hR, hS'⟩
      have := RemSpec_one hf.2.2.2.2.1 hS'
      subst this
      exact ⟨ret_float hR.2.1, rfl⟩
end Go.Proofs.Ytpkinhiolaookaa
