/-
  The contract of ftoa64 at whole numbers below 2^32, in the form 'e', the fewest digits.
-/
import Derived.Test.YtbodfdmmfaampaaGreatDoorD9
namespace Go.Proofs.YtbodfdmmfaampaaGreatDoor
open Go.RowKit
set_option maxHeartbeats 1000000
set_option maxRecDepth 100000

theorem nd_ex (u : Nat) (h : 0 < u) : ∃ n, IsNd u n := by
  induction u using Nat.strongRecOn with
  | ind u ih =>
    by_cases h1 : u < 10
    · exact ⟨1, IsNd.digit h h1⟩
    · obtain ⟨n, hn⟩ := ih (u / 10) (by omega) (by omega)
      exact ⟨n + 1, hn.step⟩
theorem c_numDigits' (d n : Nat) (hn : IsNd d n) (h1 : d < 1000000000000000000) (w : World) (hT : P10 w) :
    Calls Tryz.prog 78 #[.int .u64 (d : Int)] w fun e w' => e = .returned (.int .i64 (n : Int)) ∧ w = w' := by
  refine (c_numDigits d hn.pos h1 w hT).mono ?_
  rintro e w' ⟨m, rfl, hm, rfl⟩
  rw [hm.one hn]
  exact ⟨rfl, rfl⟩
theorem r_f64bits (x : Nat) (w : World) : (callFunc 71 #[.float .f64 x]).run Tryz.prog w = .ok (.value (.int .u64 x)) w := by kernel_rfl
/-- the bytes of a number's digits -/
def dg (m v : Nat) : List Nat := (fw m v).map (48 + ·)
/-- the bytes of v, of m digits, as d.dde+0n -/
def sciB (m v e : Nat) : List Nat := if m = 1 then dg m v ++ [101] ++ [43] ++ [48, e + 48] else (dg m v).take 1 ++ [46] ++ (dg m v).drop 1 ++ [101] ++ [43] ++ [48, e + 48]
theorem dg_len (m v : Nat) : (dg m v).length = m := by simp [dg, fw_len]
theorem dg_get (m v j : Nat) (h : j < m) : (dg m v)[j]? = some (48 + v / 10 ^ (m - 1 - j) % 10) := by
  simp [dg, fw_get m v j h]
theorem FB.dg {w0 w : World} {b n m v : Nat} (hm : m ≤ n) (h : FB w0 b n (v * 10 ^ (n - m)) 0 0 w) (j u : Nat) (hj : (dg m v)[j]? = some u) : w.cell? ⟨b, j, none⟩ = some (.int .u8 (u : Int)) := by
  have hjm : j < m := by
    have := (List.getElem?_eq_some_iff.1 hj).1
    rwa [dg_len] at this
  rw [dg_get m v j hjm] at hj
  cases hj
  rw [h.cell j (by omega)]
  have e : n - 1 - j = (n - m) + (m - 1 - j) := by omega
  rw [e, Nat.pow_add, ← Nat.div_div_eq_div_mul, Nat.mul_div_cancel _ (Nat.pow_pos (by decide))]
/-- fmtEFG at the digits of v -/
theorem c_efmt (b B m v e : Nat) (v0 : Value) (he : e < 10) (hm : 1 ≤ m) (hm2 : m ≤ 32) (w : World) (hB : B ≤ w.heap.size) (h : Buf w w B b v0 []) (hc : ∀ (j u : Nat), (dg m v)[j]? = some u → w.cell? ⟨b, j, none⟩ = some (.int .u8 (u : Int))) :
    Calls Tryz.prog 74 #[v0, .bool false, .slice (some ⟨b, 0, none⟩) 32 32, .int .i64 ((e : Int) + 1), .int .i64 (m : Int), .int .i64 ((m : Int) - 1), .int .u8 101, .bool true] w fun r w' => ∃ v', r = .returned v' ∧ Buf w w' B b v' (sciB m v e) := by
  have h0 := dg_get m v 0 (by omega)
  have hl := dg_len m v
  unfold sciB
  generalize dg m v = D at *
  generalize 48 + v / 10 ^ (m - 1 - 0) % 10 = c0 at *
  obtain ⟨rest, rfl⟩ : ∃ r, D = c0 :: r := by
    cases D with
    | nil => simp at h0
    | cons x r => simp at h0; exact ⟨r, by rw [h0]⟩
  by_cases h1 : m = 1
  · subst h1
    have : rest = [] := by
      cases rest with
      | nil => rfl
      | cons x r => simp at hl
    subst this
    rw [if_pos rfl]
    exact c_efmt1 b B c0 e v0 he w hB h (hc 0 c0 rfl)
  · rw [if_neg h1]
    exact c_efmt2 b B m rest c0 e v0 he (by omega) hm2 (by simp at hl; omega) w hB h (hc 0 c0 rfl) (fun j u hj => by
      have := hc (j + 1) u (by simpa using hj)
      rw [Nat.add_comm 1 j]; exact this)
end Go.Proofs.YtbodfdmmfaampaaGreatDoor
