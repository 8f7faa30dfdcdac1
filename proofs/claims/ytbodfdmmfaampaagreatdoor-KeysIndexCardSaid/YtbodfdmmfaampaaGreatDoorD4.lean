/-
  Contracts of Len64 and uscale.
-/
import Derived.Test.YtbodfdmmfaampaaGreatDoorD2
import Derived.Lib.Hide
import Derived.Deep.QuietTactic
import Derived.BigQuiet
import Derived.Outline
import Derived.Deep.Light
import Derived.Lib.Strings
import Derived.Lib.Slices
import Derived.Lib.Small
import Derived.Lib.Walk
import Derived.Lib.BitFns
namespace Go.Proofs.YtbodfdmmfaampaaGreatDoor
open Go.RowKit
set_option maxHeartbeats 1000000
set_option maxRecDepth 100000

theorem d_ret {k : IntKind} {a b : Int} (h : a = b) : Ending.returned (.int k a) = .returned (.int k b) := by rw [h]
set_option maxRecDepth 100000 in
theorem len8tab_sz : (Lib.len8tab.size : Int) = 256 := by
  have : Lib.len8tab.size = 256 := by decide
  omega
theorem l8_add (k a b : Nat) (hk : k ≤ 56) (ha : a ≤ 8) (hb : b = k + a) : RowKit.wrap64 ((k : Int) + RowKit.wrap64 (a : Int)) = (b : Int) := by
  unfold RowKit.wrap64
  omega
theorem l8_wrap (a : Nat) (ha : a ≤ 8) : RowKit.wrap64 (RowKit.wrap64 (a : Int)) = (a : Int) := by
  unfold RowKit.wrap64
  omega
theorem l8_get (y : Int) (h : y.toNat < Lib.len8tab.size) : ((Lib.len8tab[y.toNat]'h).toNat : Int) = Lib.len8 y := by
  unfold Lib.len8
  rw [getElem?_pos Lib.len8tab y.toNat h]
  rfl
set_option maxHeartbeats 8000000 in
theorem d_Len64 (x : Int) (w : World) (h0 : 0 ≤ x) (h1 : x ≤ 18446744073709551615) :
    Calls Tryz.prog 75 #[.int .u64 x] w fun e w' => e = .returned (.int .i64 (Lib.bitLen x.toNat)) ∧ w = w' := by
  go_enter Tryz.func75, Tryz.ntmps75
  go_wp2
  all_goals first
    | (go_ret; refine ⟨congrArg Ending.returned (congrArg (Value.int IntKind.i64) ?_), rfl⟩; go_light)
    | (exfalso
       go_light
       have hs := len8tab_sz
       omega)
  all_goals first
    | (rw [l8_get (x / 4294967296 / 65536 / 256) _, Lib.len8_of (x / 4294967296 / 65536 / 256) (by omega) (by omega)]
       have e : (x / 4294967296 / 65536 / 256).toNat = x.toNat / 72057594037927936 := by omega
       have l := Lib.bitLen_le8' (x / 4294967296 / 65536 / 256) (by omega) (by omega)
       have s := Lib.bitLen_shift56 x.toNat (by omega) (by omega)
       rw [e] at l ⊢
       exact l8_add 56 _ _ (by decide) l s)
    | (rw [l8_get (x / 4294967296 / 65536) _, Lib.len8_of (x / 4294967296 / 65536) (by omega) (by omega)]
       have e : (x / 4294967296 / 65536).toNat = x.toNat / 281474976710656 := by omega
       have l := Lib.bitLen_le8' (x / 4294967296 / 65536) (by omega) (by omega)
       have s := Lib.bitLen_shift48 x.toNat (by omega) (by omega)
       rw [e] at l ⊢
       exact l8_add 48 _ _ (by decide) l s)
    | (rw [l8_get (x / 4294967296 / 256) _, Lib.len8_of (x / 4294967296 / 256) (by omega) (by omega)]
       have e : (x / 4294967296 / 256).toNat = x.toNat / 1099511627776 := by omega
       have l := Lib.bitLen_le8' (x / 4294967296 / 256) (by omega) (by omega)
       have s := Lib.bitLen_shift40 x.toNat (by omega) (by omega)
       rw [e] at l ⊢
       exact l8_add 40 _ _ (by decide) l s)
    | (rw [l8_get (x / 4294967296) _, Lib.len8_of (x / 4294967296) (by omega) (by omega)]
       have e : (x / 4294967296).toNat = x.toNat / 4294967296 := by omega
       have l := Lib.bitLen_le8' (x / 4294967296) (by omega) (by omega)
       have s := Lib.bitLen_shift32 x.toNat (by omega) (by omega)
       rw [e] at l ⊢
       exact l8_add 32 _ _ (by decide) l s)
    | (rw [l8_get (x / 65536 / 256) _, Lib.len8_of (x / 65536 / 256) (by omega) (by omega)]
       have e : (x / 65536 / 256).toNat = x.toNat / 16777216 := by omega
       have l := Lib.bitLen_le8' (x / 65536 / 256) (by omega) (by omega)
       have s := Lib.bitLen_shift24 x.toNat (by omega) (by omega)
       rw [e] at l ⊢
       exact l8_add 24 _ _ (by decide) l s)
    | (rw [l8_get (x / 65536) _, Lib.len8_of (x / 65536) (by omega) (by omega)]
       have e : (x / 65536).toNat = x.toNat / 65536 := by omega
       have l := Lib.bitLen_le8' (x / 65536) (by omega) (by omega)
       have s := Lib.bitLen_shift16 x.toNat (by omega) (by omega)
       rw [e] at l ⊢
       exact l8_add 16 _ _ (by decide) l s)
    | (rw [l8_get (x / 256) _, Lib.len8_of (x / 256) (by omega) (by omega)]
       have e : (x / 256).toNat = x.toNat / 256 := by omega
       have l := Lib.bitLen_le8' (x / 256) (by omega) (by omega)
       have s := Lib.bitLen_shift8 x.toNat (by omega) (by omega)
       rw [e] at l ⊢
       exact l8_add 8 _ _ (by decide) l s)
    | (rw [l8_get (x) _, Lib.len8_of (x) (by omega) (by omega)]
       have e : (x).toNat = x.toNat := by omega
       have l := Lib.bitLen_le8' (x) (by omega) (by omega)
       exact l8_wrap _ l)
theorem and63 : ∀ s : Nat, s < 64 → bits BinOp.and IntKind.i64 (s : Int) 63 = (s : Int) := by decide +kernel
theorem pow_cast (a s : Nat) : (a : Int) / 2 ^ s = ((a / 2 ^ s : Nat) : Int) := by
  rw [Int.natCast_ediv]; congr 1
theorem d_uscale1 (x ph pl s b : Nat) (hx : x < 18446744073709551616) (hp : ph < 18446744073709551616) (hs : s < 64) (w : World)
    (c0 : w.cell? ⟨b, 0, none⟩ = some (.int .u64 (ph : Int))) (c2 : w.cell? ⟨b, 2, none⟩ = some (.int .i64 (s : Int)))
    (h : x * ph / W64 / 2 ^ s * 2 ^ s ≠ x * ph / W64) :
    Calls Tryz.prog 97 #[.int .u64 (x : Int), .pointer (some ⟨b, 0, none⟩)] w fun e w' => e = .returned (.int .u64 (usc x ph pl s : Int)) ∧ w = w' := by
  have hM := Lib.hid (fun w => d_Mul64 x ph hx hp w)
  have hhi : x * ph / 18446744073709551616 < 18446744073709551616 := Nat.div_lt_of_lt_mul (Nat.mul_lt_mul'' hx hp)
  have hu : usc x ph pl s = x * ph / W64 / 2 ^ s ||| 1 := by unfold usc; rw [if_pos h]
  rw [hu]
  clear hu
  rw [W64_eq] at *
  generalize x * ph / 18446744073709551616 = hi at *
  generalize x * ph % 18446744073709551616 = mid at *
  have hq : hi / 2 ^ s ≤ hi := Nat.div_le_self _ _
  have hr : hi / 2 ^ s * 2 ^ s ≤ hi := Nat.div_mul_le_self _ _
  have a1 := and63 s hs
  have a2 := pow_cast hi s
  have a3 : IntKind.u64.wrap (((hi / 2 ^ s : Nat) : Int) * 2 ^ s) = ((hi / 2 ^ s * 2 ^ s : Nat) : Int) := by
    have : ((hi / 2 ^ s : Nat) : Int) * 2 ^ s = ((hi / 2 ^ s * 2 ^ s : Nat) : Int) := by rw [Int.natCast_mul]; congr 1
    rw [this, IntKind.wrap_u64]; omega
  have a5 := bits_or_u64_nat (hi / 2 ^ s) 1 (by omega) (by omega)
  generalize hi / 2 ^ s = q at *
  generalize q * 2 ^ s = r at *
  have a4 : ((r : Int) != (hi : Int)) = true := by simp; omega
  clear h hq hr
  go_enter Tryz.func97, Tryz.ntmps97
  go_wp2_with (go_at_call 114; refine (hM.out _).mono ?_; rintro e w1 ⟨rfl, rfl⟩)
  go_ret
  exact ⟨d_ret a5, rfl⟩
theorem d_uscale2 (x ph s b : Nat) (hx : x < 18446744073709551616) (hp : ph < 18446744073709551616) (hs : s < 64) (w : World)
    (c0 : w.cell? ⟨b, 0, none⟩ = some (.int .u64 (ph : Int))) (c2 : w.cell? ⟨b, 2, none⟩ = some (.int .i64 (s : Int))) (c1 : w.cell? ⟨b, 1, none⟩ = some (.int .u64 0))
    (h : x * ph / W64 / 2 ^ s * 2 ^ s = x * ph / W64) :
    Calls Tryz.prog 97 #[.int .u64 (x : Int), .pointer (some ⟨b, 0, none⟩)] w fun e w' => e = .returned (.int .u64 (usc x ph 0 s : Int)) ∧ ∃ nq, w' = w.drewN nq := by
  have hM := Lib.hid (fun w => d_Mul64 x ph hx hp w)
  have hM2 := Lib.hid (fun w => d_Mul64 x 0 hx (by omega) w)
  rw [Nat.mul_zero, Nat.zero_div, Nat.zero_mod] at hM2
  have hhi : x * ph / 18446744073709551616 < 18446744073709551616 := Nat.div_lt_of_lt_mul (Nat.mul_lt_mul'' hx hp)
  have hmid : x * ph % 18446744073709551616 < 18446744073709551616 := Nat.mod_lt _ (by decide)
  have hu : usc x ph 0 s = x * ph / W64 / 2 ^ s ||| b2n (decide (1 < x * ph % W64)) := by
    unfold usc
    rw [if_neg (by rw [h]; exact fun e => e rfl)]
    rw [W64_eq] at *
    have e0 : x * 0 / 18446744073709551616 = 0 := by simp
    rw [e0]
    have e1 : decide (x * ph % 18446744073709551616 < 0) = false := by simp
    rw [e1]
    have e2 : b2n false = 0 := rfl
    rw [e2, Nat.sub_zero, Nat.sub_zero, Nat.add_mod_right, Nat.add_mod_right, Nat.mod_eq_of_lt hhi, Nat.mod_eq_of_lt hmid]
  rw [hu]
  clear hu
  rw [W64_eq] at *
  generalize x * ph / 18446744073709551616 = hi at *
  generalize x * ph % 18446744073709551616 = mid at *
  have hq : hi / 2 ^ s ≤ hi := Nat.div_le_self _ _
  have a1 := and63 s hs
  have a2 := pow_cast hi s
  have a3 : IntKind.u64.wrap (((hi / 2 ^ s : Nat) : Int) * 2 ^ s) = (hi : Int) := by
    have : ((hi / 2 ^ s : Nat) : Int) * 2 ^ s = ((hi / 2 ^ s * 2 ^ s : Nat) : Int) := by rw [Int.natCast_mul]; congr 1
    rw [this, IntKind.wrap_u64, h]; omega
  have hb : b2n (decide (1 < mid)) ≤ 1 := by cases decide (1 < mid) <;> decide
  have a5 := bits_or_u64_nat (hi / 2 ^ s) (b2n (decide (1 < mid))) (by omega) (by omega)
  have hB := Lib.hid (fun w => d_bool2u64 (decide (1 < mid)) w)
  have hB0' : ∀ w : World, Calls Tryz.prog 115 #[.bool false] w fun e w' => e = .returned (.int .u64 0) ∧ w = w' := fun w => d_bool2u64 false w
  have hB0 := Lib.hid hB0'
  clear hB0'
  generalize hi / 2 ^ s = q at *
  have a4 : ((hi : Int) != (hi : Int)) = false := by simp
  have a6 : decide ((mid : Int) < 0) = false := by simp
  have a7 : decide ((1 : Int) < (mid : Int)) = decide (1 < mid) := by apply decide_eq_decide.2; omega
  have a8 : IntKind.u64.wrap (hi : Int) = (hi : Int) := by rw [IntKind.wrap_u64]; omega
  have a9 : IntKind.u64.wrap (mid : Int) = (mid : Int) := by rw [IntKind.wrap_u64]; omega
  clear h hq hmid hhi
  generalize decide (1 < mid) = d at *
  generalize b2n d = dn at *
  go_enter Tryz.func97, Tryz.ntmps97
  go_wp2_with fail
  refine (hM.out _).mono ?_
  rintro e w1 ⟨rfl, rfl⟩
  go_wp2_with fail
  refine (hM2.out _).mono ?_
  rintro e w1 ⟨rfl, rfl⟩
  go_wp2_with fail
  refine (hB0.out _).mono ?_
  rintro e w1 ⟨rfl, rfl⟩
  go_wp2_with fail
  go_quiet ((go_at_call 115; exact Calls.quiet_of_same ((hB.out _).mono fun _ _ ⟨h1, h2⟩ => ⟨h1, h2.symm⟩)))
  go_wp2_with fail
  go_ret
  exact ⟨rfl, _, rfl⟩
theorem d_uscale (x ph s b : Nat) (hx : x < 18446744073709551616) (hp : ph < 18446744073709551616) (hs : s < 64) (w : World)
    (c0 : w.cell? ⟨b, 0, none⟩ = some (.int .u64 (ph : Int))) (c1 : w.cell? ⟨b, 1, none⟩ = some (.int .u64 0)) (c2 : w.cell? ⟨b, 2, none⟩ = some (.int .i64 (s : Int))) :
    Calls Tryz.prog 97 #[.int .u64 (x : Int), .pointer (some ⟨b, 0, none⟩)] w fun e w' => e = .returned (.int .u64 (usc x ph 0 s : Int)) ∧ ∃ nq, w' = w.drewN nq := by
  by_cases h : x * ph / W64 / 2 ^ s * 2 ^ s = x * ph / W64
  · exact d_uscale2 x ph s b hx hp hs w c0 c2 c1 h
  · exact (d_uscale1 x ph 0 s b hx hp hs w c0 c2 h).mono fun e w' ⟨h1, h2⟩ => ⟨h1, 0, by rw [← h2]; rfl⟩
theorem d_prescale (b : Nat) (e p lp : Int) (hi lo : Int) (h1 : -348 ≤ p) (h2 : p ≤ 347) (h3 : -2000 ≤ e) (h4 : e ≤ 2000) (h5 : -2000 ≤ lp) (h6 : lp ≤ 2000) (w : World)
    (c0 : w.cell? ⟨b, 0, none⟩ = some (.int .u64 0)) (c1 : w.cell? ⟨b, 1, none⟩ = some (.int .u64 0)) (c2 : w.cell? ⟨b, 2, none⟩ = some (.int .i64 0))
    (f0 : w.frozen? ⟨b, 0, none⟩ = false) (f1 : w.frozen? ⟨b, 1, none⟩ = false) (f2 : w.frozen? ⟨b, 2, none⟩ = false)
    (t0 : w.cell? ⟨5, (p + 348).toNat * 2, none⟩ = some (.int .u64 hi)) (t1 : w.cell? ⟨5, (p + 348).toNat * 2 + 1, none⟩ = some (.int .u64 lo)) :
    Calls Tryz.prog 95 #[.pointer (some ⟨b, 0, none⟩), .int .i64 e, .int .i64 p, .int .i64 lp] w fun r w' => r = .returned (.tuple #[]) ∧ w' = ((w.setCell ⟨b, 0, none⟩ (.int .u64 hi)).setCell ⟨b, 1, none⟩ (.int .u64 lo)).setCell ⟨b, 2, none⟩ (.int .i64 (-(e + lp + 3))) := by
  go_enter Tryz.func95, Tryz.ntmps95
  go_wp2_with fail
  go_end0
  exact ⟨rfl, rfl⟩
end Go.Proofs.YtbodfdmmfaampaaGreatDoor
