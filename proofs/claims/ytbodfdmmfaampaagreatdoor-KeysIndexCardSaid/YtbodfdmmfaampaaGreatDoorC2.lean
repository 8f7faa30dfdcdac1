/-
  Contracts of cmp.Compare at its three types, of the program's units.Compare, of Same and of both Compares of keys.
-/
import Derived.Test.YtbodfdmmfaampaaGreatDoorC1
namespace Go.Proofs.YtbodfdmmfaampaaGreatDoor
open Go.RowKit
set_option maxHeartbeats 400000
set_option maxRecDepth 100000

theorem c_nanInt (s : Int) (w : World) : Calls Tryz.prog 41 #[.int .i64 s] w fun e w' => e = .returned (.bool false) ∧ w = w' := by
  go_enter Tryz.func41, Tryz.ntmps41
  go_wp2
  go_ret
  exact ⟨rfl, rfl⟩
theorem c_nanU32 (s : Int) (w : World) : Calls Tryz.prog 42 #[.int .u32 s] w fun e w' => e = .returned (.bool false) ∧ w = w' := by
  go_enter Tryz.func42, Tryz.ntmps42
  go_wp2
  go_ret
  exact ⟨rfl, rfl⟩
/-- how numbers compare -/
def cmpZ (a b : Int) : Int := if a < b then -1 else if b < a then 1 else 0
theorem c_cmpInt (a b : Int) (w : World) : Calls Tryz.prog 28 #[.int .i64 a, .int .i64 b] w fun e w' => e = .returned (.int .i64 (cmpZ a b)) ∧ w = w' := by
  unfold cmpZ
  rcases Int.lt_trichotomy a b with h | h | h
  · rw [if_pos h]
    have h1 : decide (a < b) = true := by simpa using h
    go_enter Tryz.func28, Tryz.ntmps28
    go_wp2_with (go_at_call 41; refine (c_nanInt _ _).mono ?_; rintro e w' ⟨rfl, rfl⟩)
    go_ret
    exact ⟨rfl, rfl⟩
  · subst h
    rw [if_neg (by omega), if_neg (by omega)]
    go_enter Tryz.func28, Tryz.ntmps28
    go_wp2_with (go_at_call 41; refine (c_nanInt _ _).mono ?_; rintro e w' ⟨rfl, rfl⟩)
    go_ret
    exact ⟨rfl, rfl⟩
  · rw [if_neg (by omega), if_pos h]
    go_enter Tryz.func28, Tryz.ntmps28
    go_wp2_with (go_at_call 41; refine (c_nanInt _ _).mono ?_; rintro e w' ⟨rfl, rfl⟩)
    go_ret
    exact ⟨rfl, rfl⟩
theorem c_cmpU32 (a b : Int) (w : World) : Calls Tryz.prog 29 #[.int .u32 a, .int .u32 b] w fun e w' => e = .returned (.int .i64 (cmpZ a b)) ∧ w = w' := by
  unfold cmpZ
  rcases Int.lt_trichotomy a b with h | h | h
  · rw [if_pos h]
    go_enter Tryz.func29, Tryz.ntmps29
    go_wp2_with (go_at_call 42; refine (c_nanU32 _ _).mono ?_; rintro e w' ⟨rfl, rfl⟩)
    go_ret
    exact ⟨rfl, rfl⟩
  · subst h
    rw [if_neg (by omega), if_neg (by omega)]
    go_enter Tryz.func29, Tryz.ntmps29
    go_wp2_with (go_at_call 42; refine (c_nanU32 _ _).mono ?_; rintro e w' ⟨rfl, rfl⟩)
    go_ret
    exact ⟨rfl, rfl⟩
  · rw [if_neg (by omega), if_pos h]
    go_enter Tryz.func29, Tryz.ntmps29
    go_wp2_with (go_at_call 42; refine (c_nanU32 _ _).mono ?_; rintro e w' ⟨rfl, rfl⟩)
    go_ret
    exact ⟨rfl, rfl⟩

/-- units as bytes -/
def flat : List Nat → List UInt8
  | [] => []
  | x :: l => UInt8.ofNat (x / 256) :: UInt8.ofNat (x % 256) :: flat l
theorem flat_append (a b : List Nat) : flat (a ++ b) = flat a ++ flat b := by induction a with
  | nil => rfl
  | cons x a ih => simp [flat, ih]
theorem ub_lt (s : ByteArray) (i : Nat) : ub s i < 256 := UInt8.toNat_lt _
theorem unitAt_lt (s : ByteArray) (k : Nat) : unitAt s k < 65536 := by have := ub_lt s (2 * k); have := ub_lt s (2 * k + 1); unfold unitAt; omega
theorem flat_take (s : ByteArray) (k : Nat) (h : k ≤ s.size / 2) : s.data.toList.take (2 * k) = flat (unitsN s k) := by
  induction k with
  | zero => rfl
  | succ k ih =>
    have hl : s.data.toList.length = s.size := by simp
    have e : 2 * (k + 1) = (2 * k + 1) + 1 := by omega
    rw [e, List.take_succ_eq_append_getElem (by omega), List.take_succ_eq_append_getElem (by omega), ih (by omega)]
    simp only [unitsN, flat_append, flat, List.append_assoc, List.singleton_append]
    have k1 : ub s (2 * k) = (s.data.toList[2 * k]'(by omega)).toNat := by unfold ub; rw [List.getD_eq_getElem?_getD, List.getElem?_eq_getElem (by omega)]; rfl
    have k2 : ub s (2 * k + 1) = (s.data.toList[2 * k + 1]'(by omega)).toNat := by unfold ub; rw [List.getD_eq_getElem?_getD, List.getElem?_eq_getElem (by omega)]; rfl
    have := ub_lt s (2 * k)
    have := ub_lt s (2 * k + 1)
    have d1 : unitAt s k / 256 = ub s (2 * k) := by unfold unitAt; omega
    have d2 : unitAt s k % 256 = ub s (2 * k + 1) := by unfold unitAt; omega
    rw [d1, d2, k1, k2, UInt8.ofNat_toNat, UInt8.ofNat_toNat]
theorem even_flat (s : ByteArray) : (evenB s).toList = flat (U s) := by
  rw [ByteArray.toList_eq]
  unfold U
  rw [← flat_take s _ (Nat.le_refl _)]
  unfold evenB
  simp [ByteArray.data_extract, Nat.mul_comm]
theorem U_lt (s : ByteArray) : ∀ x ∈ U s, x < 65536 := by
  unfold U
  generalize s.size / 2 = m
  induction m with
  | zero => intro x hx; cases hx
  | succ k ih =>
    intro x hx
    rcases List.mem_append.1 hx with h | h
    · exact ih x h
    · rw [List.mem_singleton] at h; rw [h]; exact unitAt_lt s k
theorem u8_lt (a b : Nat) (ha : a < 256) (hb : b < 256) : (UInt8.ofNat a < UInt8.ofNat b) ↔ a < b := by
  rw [UInt8.lt_iff_toNat_lt, UInt8.toNat_ofNat', UInt8.toNat_ofNat']
  have : a % 2 ^ 8 = a := Nat.mod_eq_of_lt ha
  have : b % 2 ^ 8 = b := Nat.mod_eq_of_lt hb
  omega
theorem u8_eq (a b : Nat) (ha : a < 256) (hb : b < 256) : (UInt8.ofNat a = UInt8.ofNat b) ↔ a = b := by
  rw [← UInt8.toNat_inj, UInt8.toNat_ofNat', UInt8.toNat_ofNat']
  have : a % 2 ^ 8 = a := Nat.mod_eq_of_lt ha
  have : b % 2 ^ 8 = b := Nat.mod_eq_of_lt hb
  omega
theorem flat_less (a b : List Nat) (ha : ∀ x ∈ a, x < 65536) (hb : ∀ x ∈ b, x < 65536) : Op.bytesLess (flat a) (flat b) = decide (cmpU a b = -1) := by
  induction a generalizing b with
  | nil => cases b <;> simp [flat, cmpU, Op.bytesLess]
  | cons x a ih => cases b with
    | nil => simp [flat, cmpU, Op.bytesLess]
    | cons y b =>
      have hx := ha x (List.mem_cons_self ..)
      have hy := hb y (List.mem_cons_self ..)
      have h := ih b (fun z hz => ha z (List.mem_cons_of_mem _ hz)) (fun z hz => hb z (List.mem_cons_of_mem _ hz))
      have hc : cmpU (x :: a) (y :: b) = if x < y then -1 else if y < x then 1 else cmpU a b := rfl
      generalize cmpU (x :: a) (y :: b) = R at *
      simp only [flat, Op.bytesLess, h]
      have l1 := u8_lt (x / 256) (y / 256) (by omega) (by omega)
      have l2 := u8_lt (x % 256) (y % 256) (by omega) (by omega)
      have e1 := u8_eq (x / 256) (y / 256) (by omega) (by omega)
      have e2 := u8_eq (x % 256) (y % 256) (by omega) (by omega)
      apply Bool.eq_iff_iff.2
      simp only [Bool.or_eq_true, Bool.and_eq_true, decide_eq_true_eq, beq_iff_eq, l1, l2, e1, e2]
      rcases Nat.lt_trichotomy x y with g | g | g
      · rw [if_pos g] at hc; rw [hc]; constructor
        · intro _; rfl
        · intro _; omega
      · subst g; simp at hc; rw [hc]; simp
      · rw [if_neg (by omega), if_pos g] at hc; rw [hc]; constructor
        · intro _; omega
        · intro h; omega
theorem flat_inj (a b : List Nat) (ha : ∀ x ∈ a, x < 65536) (hb : ∀ x ∈ b, x < 65536) (h : flat a = flat b) : a = b := by
  induction a generalizing b with
  | nil => cases b with
    | nil => rfl
    | cons y b => simp [flat] at h
  | cons x a ih => cases b with
    | nil => simp [flat] at h
    | cons y b =>
      have hx := ha x (List.mem_cons_self ..)
      have hy := hb y (List.mem_cons_self ..)
      simp only [flat, List.cons.injEq] at h
      have e1 := (u8_eq (x / 256) (y / 256) (by omega) (by omega)).1 h.1
      have e2 := (u8_eq (x % 256) (y % 256) (by omega) (by omega)).1 h.2.1
      have : x = y := by omega
      rw [this, ih b (fun z hz => ha z (List.mem_cons_of_mem _ hz)) (fun z hz => hb z (List.mem_cons_of_mem _ hz)) h.2.2]

end Go.Proofs.YtbodfdmmfaampaaGreatDoor
