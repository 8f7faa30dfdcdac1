/-
  Contracts of the reference Same and of both Compares of keys.
-/
import Derived.Test.YtbodfdmmfaampaaGreatDoorC2
namespace Go.Proofs.YtbodfdmmfaampaaGreatDoor
open Go.RowKit
set_option maxHeartbeats 400000
set_option maxRecDepth 100000

/-- a key as a value -/
def keyV (s : ByteArray) (n : Int) : Value := .agg #[.string s, .int .i64 n]
/-- keys alike -/
def sameK (s t : ByteArray) (m n : Int) : Bool := if 0 < m ∨ 0 < n then decide (m = n) else decide (cmpU (U s) (U t) = 0)
theorem below_two (w : World) (o p : Obj) : Below w.heap.size w ((w.alloc o).alloc p) := ((Below.refl _ w).alloc (Nat.le_refl _) o).alloc (by simp) p
theorem below_after {w w1 w' : World} (h1 : Below w.heap.size w w1) (h : Below w1.heap.size w1 w') : Below w.heap.size w w' := h1.trans (h.mono h1.size)
theorem ret_bool {a b : Bool} (h : a = b) : Ending.returned (.bool a) = .returned (.bool b) := by rw [h]
theorem c_Same4 (s t : ByteArray) (m n : Int) (hs : s.size ≤ 1099511627776) (ht : t.size ≤ 1099511627776) (w : World) :
    Calls Tryz.prog 7 #[keyV s m, keyV t n] w fun e w' => e = .returned (.bool (sameK s t m n)) ∧ Below w.heap.size w w' := by
  have H := fun w => Lib.hid (c_CompareR s t hs ht w)
  unfold keyV sameK
  generalize cmpU (U s) (U t) = R at *
  have hbb := below_two w
  rcases Int.lt_or_le 0 m with hm | hm
  · rw [if_pos (.inl hm)]
    go_enter Tryz.func7, Tryz.ntmps7
    go_wp2
    go_ret
    exact ⟨ret_bool (by apply Bool.eq_iff_iff.2; simp), hbb _ _⟩
  · have fm : ¬ 0 < m := by omega
    rcases Int.lt_or_le 0 n with hn | hn
    · rw [if_pos (.inr hn)]
      go_enter Tryz.func7, Tryz.ntmps7
      go_wp2
      go_ret
      exact ⟨ret_bool (by apply Bool.eq_iff_iff.2; simp), hbb _ _⟩
    · have fn : ¬ 0 < n := by omega
      rw [if_neg (by omega)]
      go_enter Tryz.func7, Tryz.ntmps7
      go_wp2_with (go_at_call 18; refine (H _).out.mono ?_; rintro e w' ⟨rfl, hb⟩)
      go_ret
      exact ⟨ret_bool (by apply Bool.eq_iff_iff.2; simp), below_after (hbb _ _) hb⟩
/-- how keys compare -/
def cmpK (s t : ByteArray) (m n : Int) : Int :=
  if 0 < m then (if 0 < n then cmpZ m n else 1) else if 0 < n then -1 else cmpU (U s) (U t)
theorem cmpZ_neg (m n : Int) : cmpZ n m = - cmpZ m n := by
  unfold cmpZ
  rcases Int.lt_trichotomy m n with h | h | h
  · rw [if_neg (by omega), if_pos h, if_pos h]; rfl
  · subst h; simp
  · rw [if_pos h, if_neg (by omega), if_pos h]
theorem cmpK_neg (s t : ByteArray) (m n : Int) : cmpK t s n m = - cmpK s t m n := by
  unfold cmpK
  have := cmpZ_neg m n
  have := cmpU_neg (U s) (U t)
  repeat' split
  all_goals first | assumption | omega | rfl
theorem cmpK_zero (s t : ByteArray) (m n : Int) : decide (cmpK s t m n = 0) = sameK s t m n := by
  unfold cmpK sameK cmpZ
  apply Bool.eq_iff_iff.2
  rw [decide_eq_true_eq]
  rcases Int.lt_or_le 0 m with hm | hm
  · have h1 : 0 < m ∨ 0 < n := .inl hm
    simp only [if_pos hm, if_pos h1, decide_eq_true_eq]
    rcases Int.lt_or_le 0 n with hn | hn
    · simp only [if_pos hn]; split
      · omega
      · split <;> omega
    · rw [if_neg (by omega)]; omega
  · have h0 : ¬ 0 < m := by omega
    simp only [if_neg h0]
    rcases Int.lt_or_le 0 n with hn | hn
    · have h1 : 0 < m ∨ 0 < n := .inr hn
      simp only [if_pos hn, if_pos h1, decide_eq_true_eq]; omega
    · have h1 : ¬ (0 < m ∨ 0 < n) := by omega
      have h2 : ¬ 0 < n := by omega
      simp only [if_neg h1, if_neg h2, decide_eq_true_eq]
end Go.Proofs.YtbodfdmmfaampaaGreatDoor
