/-
  Contracts of the reference Same and of both Compares of keys.
-/
import Derived.Test.YtkbjakadngnokaaC2
namespace Go.Proofs.Ytkbjakadngnokaa
open Go.RowKit
set_option maxHeartbeats 400000

/-- a key as a value -/
def keyV (s : ByteArray) (n : Int) : Value := .agg #[.string s, .int .i64 n]
/-- keys alike -/
def sameK (s t : ByteArray) (m n : Int) : Bool := if 0 < m ∨ 0 < n then decide (m = n) else decide (cmpU (U s) (U t) = 0)
theorem below_two (w : World) (o p : Obj) : Below w.heap.size w ((w.alloc o).alloc p) := ((Below.refl _ w).alloc (Nat.le_refl _) o).alloc (by simp) p
theorem below_after {w w1 w' : World} (h1 : Below w.heap.size w w1) (h : Below w1.heap.size w1 w') : Below w.heap.size w w' := h1.trans (h.mono h1.size)
theorem ret_bool {a b : Bool} (h : a = b) : Ending.returned (.bool a) = .returned (.bool b) := by rw [h]
theorem c_Same4 (s t : ByteArray) (m n : Int) (hs : s.size ≤ 1099511627776) (ht : t.size ≤ 1099511627776) (w : World) :
    Calls Try.prog 10 #[keyV s m, keyV t n] w fun e w' => e = .returned (.bool (sameK s t m n)) ∧ Below w.heap.size w w' := by
  have H := fun w => Lib.hid (c_CompareR s t hs ht w)
  unfold keyV sameK
  generalize cmpU (U s) (U t) = R at *
  have hbb := below_two w
  rcases Int.lt_or_le 0 m with hm | hm
  · rw [if_pos (.inl hm)]
    go_enter Try.func10, Try.ntmps10
    go_wp2
    go_ret
    exact ⟨ret_bool (by apply Bool.eq_iff_iff.2; simp), hbb _ _⟩
  · have fm : ¬ 0 < m := by omega
    rcases Int.lt_or_le 0 n with hn | hn
    · rw [if_pos (.inr hn)]
      go_enter Try.func10, Try.ntmps10
      go_wp2
      go_ret
      exact ⟨ret_bool (by apply Bool.eq_iff_iff.2; simp), hbb _ _⟩
    · have fn : ¬ 0 < n := by omega
      rw [if_neg (by omega)]
      go_enter Try.func10, Try.ntmps10
      go_wp2_with (go_at_call 15; refine (H _).out.mono ?_; rintro e w' ⟨rfl, hb⟩)
      go_ret
      exact ⟨ret_bool (by apply Bool.eq_iff_iff.2; simp), below_after (hbb _ _) hb⟩
/-- how keys compare -/
def cmpK (s t : ByteArray) (m n : Int) : Int :=
  if 0 < m then (if 0 < n then cmpZ m n else 1) else if 0 < n then -1 else cmpU (U s) (U t)
theorem c_Compare4 (s t : ByteArray) (m n : Int) (hs : s.size ≤ 1099511627776) (ht : t.size ≤ 1099511627776) (w : World) :
    Calls Try.prog 13 #[keyV s m, keyV t n] w fun e w' => e = .returned (.int .i64 (cmpK s t m n)) ∧ Below w.heap.size w w' := by
  have H := fun w => Lib.hid (c_CompareR s t hs ht w)
  unfold keyV cmpK
  generalize cmpU (U s) (U t) = R at *
  have hbb := below_two w
  unfold cmpZ
  rcases Int.lt_or_le 0 m with hm | hm
  · rw [if_pos hm]
    rcases Int.lt_or_le 0 n with hn | hn
    · rw [if_pos hn]
      rcases Int.lt_trichotomy m n with hmn | hmn | hmn
      · rw [if_pos hmn]
        go_enter Try.func13, Try.ntmps13
        go_wp2
        go_ret
        exact ⟨rfl, hbb _ _⟩
      · subst hmn
        rw [if_neg (by omega), if_neg (by omega)]
        go_enter Try.func13, Try.ntmps13
        go_wp2
        go_ret
        exact ⟨rfl, hbb _ _⟩
      · rw [if_neg (by omega), if_pos hmn]
        have f : ¬ m < n := by omega
        go_enter Try.func13, Try.ntmps13
        go_wp2
        go_ret
        exact ⟨rfl, hbb _ _⟩
    · have fn : ¬ 0 < n := by omega
      rw [if_neg fn]
      go_enter Try.func13, Try.ntmps13
      go_wp2
      go_ret
      exact ⟨rfl, hbb _ _⟩
  · have fm : ¬ 0 < m := by omega
    rw [if_neg fm]
    rcases Int.lt_or_le 0 n with hn | hn
    · rw [if_pos hn]
      go_enter Try.func13, Try.ntmps13
      go_wp2
      go_ret
      exact ⟨rfl, hbb _ _⟩
    · have fn : ¬ 0 < n := by omega
      rw [if_neg fn]
      go_enter Try.func13, Try.ntmps13
      go_wp2_with (go_at_call 15; refine (H _).out.mono ?_; rintro e w' ⟨rfl, hb⟩)
      go_ret
      exact ⟨rfl, below_after (hbb _ _) hb⟩
theorem c_KCompare (s t : ByteArray) (m n : Int) (hs : s.size ≤ 1099511627776) (ht : t.size ≤ 1099511627776) (w : World) :
    Calls Try.prog 12 #[keyV s m, keyV t n] w fun e w' => e = .returned (.int .i64 (cmpK s t m n)) ∧ Below w.heap.size w w' := by
  have H := fun w => Lib.hid (c_UCompare s t hs ht w)
  have H1 : 0 < m ∨ 0 < n → cmpK s t m n = cmpZ (max m 0) (max n 0) := by
    intro h
    unfold cmpK cmpZ
    rcases Int.lt_or_le 0 m with hm | hm
    · rw [if_pos hm]
      rcases Int.lt_or_le 0 n with hn | hn
      · rw [if_pos hn, Int.max_eq_left (by omega), Int.max_eq_left (by omega)]
      · rw [if_neg (by omega), Int.max_eq_left (by omega), Int.max_eq_right (by omega), if_neg (by omega), if_pos hm]
    · rw [if_neg (by omega), if_pos (by omega), Int.max_eq_right (by omega), Int.max_eq_left (by omega), if_pos (by omega)]
  have H2 : ¬ (0 < m ∨ 0 < n) → cmpK s t m n = cmpU (U s) (U t) := by
    intro h
    unfold cmpK
    rw [if_neg (by omega), if_neg (by omega)]
  unfold keyV
  generalize cmpU (U s) (U t) = R at *
  generalize cmpK s t m n = Q at *
  have hbb := below_two w
  rcases Int.lt_or_le 0 m with hm | hm
  · have H3 := Lib.hid (H1 (.inl hm))
    clear H1 H2
    go_enter Try.func12, Try.ntmps12
    go_wp2_with (go_at_call 32; refine (c_cmpInt _ _ _).mono ?_; rintro e w' ⟨rfl, rfl⟩)
    all_goals go_ret
    all_goals exact ⟨ret_int (by rw [H3.out]; congr 1 <;> omega), hbb _ _⟩
  · have fm : ¬ 0 < m := by omega
    rcases Int.lt_or_le 0 n with hn | hn
    · have H3 := Lib.hid (H1 (.inr hn))
      clear H1 H2
      go_enter Try.func12, Try.ntmps12
      go_wp2_with (go_at_call 32; refine (c_cmpInt _ _ _).mono ?_; rintro e w' ⟨rfl, rfl⟩)
      all_goals go_ret
      all_goals exact ⟨ret_int (by rw [H3.out]; congr 1 <;> omega), hbb _ _⟩
    · have fn : ¬ 0 < n := by omega
      have H2 := H2 (by omega)
      subst H2
      clear H1
      go_enter Try.func12, Try.ntmps12
      go_wp2_with (go_at_call 35; refine (H _).out.mono ?_; rintro e w' ⟨rfl, rfl⟩)
      go_ret
      exact ⟨rfl, hbb _ _⟩
theorem cmpZ_neg (m n : Int) : cmpZ n m = - cmpZ m n := by
  unfold cmpZ
  rcases Int.lt_trichotomy m n with h | h | h
  · rw [if_neg (by omega), if_pos h, if_pos h]; rfl
  · subst h; simp
  · rw [if_pos h, if_neg (by omega), if_pos h]
theorem cmpK_neg (s t : ByteArray) (m n : Int) : cmpK t s n m = - cmpK s t m n := by
  unfold cmpK
  have := cmpZ_neg m n
  have := cmpU_neg (U s) (U t)
  repeat' split
  all_goals first | assumption | omega | rfl
theorem cmpK_zero (s t : ByteArray) (m n : Int) : decide (cmpK s t m n = 0) = sameK s t m n := by
  unfold cmpK sameK cmpZ
  apply Bool.eq_iff_iff.2
  rw [decide_eq_true_eq]
  rcases Int.lt_or_le 0 m with hm | hm
  · have h1 : 0 < m ∨ 0 < n := .inl hm
    simp only [if_pos hm, if_pos h1, decide_eq_true_eq]
    rcases Int.lt_or_le 0 n with hn | hn
    · simp only [if_pos hn]; split
      · omega
      · split <;> omega
    · rw [if_neg (by omega)]; omega
  · have h0 : ¬ 0 < m := by omega
    simp only [if_neg h0]
    rcases Int.lt_or_le 0 n with hn | hn
    · have h1 : 0 < m ∨ 0 < n := .inr hn
      simp only [if_pos hn, if_pos h1, decide_eq_true_eq]; omega
    · have h1 : ¬ (0 < m ∨ 0 < n) := by omega
      have h2 : ¬ 0 < n := by omega
      simp only [if_neg h1, if_neg h2, decide_eq_true_eq]
end Go.Proofs.Ytkbjakadngnokaa
