/-
  The contract of setDigits.
-/
import Derived.Test.YtbodfdmmfaampaaGreatDoorD7
namespace Go.Proofs.YtbodfdmmfaampaaGreatDoor
open Go.RowKit
set_option maxHeartbeats 1000000
set_option maxRecDepth 100000

theorem FB.cell {w0 w : World} {b n u : Nat} (h : FB w0 b n u 0 0 w) (j : Nat) (hj : j < n) : w.cell? ⟨b, j, none⟩ = some (.int .u8 ((48 + u / 10 ^ (n - 1 - j) % 10 : Nat) : Int)) := h.2.2.2.2 j (Nat.zero_le _) hj
theorem trim_digits {n u m v : Nat} (hm : m ≤ n) (hm1 : 1 ≤ m) (hu : u = v * 10 ^ (n - m)) (hv : v % 10 ≠ 0) :
    (∀ j, m ≤ j → j < n → u / 10 ^ (n - 1 - j) % 10 = 0) ∧ u / 10 ^ (n - 1 - (m - 1)) % 10 ≠ 0 := by
  constructor
  · intro j h1 h2
    have e : n - m = (n - 1 - j) + ((j - m) + 1) := by omega
    rw [hu, e, Nat.pow_add, Nat.mul_comm (10 ^ (n - 1 - j)), ← Nat.mul_assoc, Nat.mul_div_cancel _ (Nat.pow_pos (by decide)), Nat.pow_succ, ← Nat.mul_assoc]
    exact Nat.mul_mod_left _ _
  · have e : n - 1 - (m - 1) = n - m := by omega
    rw [e, hu, Nat.mul_div_cancel _ (Nat.pow_pos (by decide))]
    exact hv
theorem c_setDigits (b d n m v : Nat) (p : Int) (hp1 : -100000 ≤ p) (hp2 : p ≤ 100000) (hn : n ≤ 32) (hd : d < 10 ^ n) (hd2 : d < 18446744073709551616) (hm1 : 1 ≤ m) (hm : m ≤ n) (hdv : d = v * 10 ^ (n - m)) (hv : v % 10 ≠ 0) (w0 w : World) (h : FB w0 b n d n d w) :
    Calls Tryz.prog 77 #[.slice (some ⟨b, 0, none⟩) 32 32, .int .u64 (d : Int), .int .i64 p, .int .i64 (n : Int)] w fun e w' => e = .returned (.tuple #[.int .i64 ((n : Int) + p), .int .i64 (m : Int)]) ∧ FB w0 b n d 0 0 w' := by
  have hF := Lib.hid (c_fmt10 n d b 32 hn hd hd2 w0 w h)
  obtain ⟨g1, g2⟩ := trim_digits hm hm1 hdv hv
  have hnI : (n : Int) ≤ 32 := by omega
  have g1 := Lib.hid g1
  have g2 := Lib.hid g2
  clear h hdv hv hd hd2
  go_enter Tryz.func77, Tryz.ntmps77
  go_wp2_with (go_at_call 89; refine hF.out.mono ?_; rintro e w1 ⟨rfl, hfb⟩)
  replace hfb := Lib.hid hfb
  go_loop [3] (fun vn => ∃ k : Nat, m ≤ k ∧ k ≤ n ∧ vn = .int .i64 (k : Int)) (fun vn => (intOf vn).toNat)
  case atStart => exact ⟨n, hm, Nat.le_refl _, rfl⟩
  case round =>
    obtain ⟨k, hk1, hk2, rfl⟩ := hrel
    have hc := hfb.out.cell (k - 1) (by omega)
    have e1 : ((k : Int) - 1).toNat = k - 1 := by omega
    have b1 : (0 : Int) ≤ (k : Int) - 1 ∧ (k : Int) - 1 < 32 := by omega
    have hk0 : (0 : Int) < (k : Int) := by omega
    by_cases hlt : m < k
    · have hz := g1.out (k - 1) (by omega) (by omega)
      rw [hz] at hc
      clear hF
      go_wp2
      go_round
      case rel => exact ⟨k - 1, by omega, by omega, by go_num⟩
      case measure => simp [intOf]; omega
    · obtain rfl : k = m := by omega
      have hz := g2.out
      generalize d / 10 ^ (n - 1 - (k - 1)) % 10 = x at *
      have hne : (((48 + x : Nat) : Int) == 48) = false := by simp; omega
      clear hF hz
      go_wp2
      refine bodyPost_ret (v := .tuple #[.int .i64 ((n : Int) + p), .int .i64 (k : Int)]) (by simp [results, Tryz.results77, go_sem]) rfl ?_
      exact ⟨rfl, hfb.out⟩
end Go.Proofs.YtbodfdmmfaampaaGreatDoor
