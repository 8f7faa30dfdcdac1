/-
  Contracts: The contracts of ftoa64, FormatFloat at any positive finite float64, in the form 'e', the fewest digits (printed by gen_XWE.py). What of the library's tables lies in the world; the contract of atof64 where no digit is left out.
-/
import Derived.Test.YtbakbikilbaafaaGreatDoorS2
import Derived.Test.YtbakbikilbaafaaGreatDoorS7
import Derived.Test.YtbakbikilbaafaaGreatDoorS1
import Derived.Laws.IdiomStrings
import Derived.Laws.BytesArg
import Derived.Test.YtbakbikilbaafaaGreatDoorS5
import Derived.Test.YtbakbikilbaafaaGreatDoorS6
import Derived.Lib.LaidTab
import Derived.Lib.ItoaNum
import Derived.Lib.TrailingZeros
import Derived.WalkSmall
namespace Go.Proofs.YtbakbikilbaafaaGreatDoor
open Go.RowKit F64
set_option linter.unusedVariables false
set_option maxHeartbeats 4000000
set_option maxRecDepth 100000

theorem or_52G (F : Nat) (h : F < 4503599627370496) : F ||| 4503599627370496 = F + 4503599627370496 := by
  have h1 : F < 2 ^ 52 := h
  have h2 := Nat.two_pow_add_eq_or_of_lt h1 1
  rw [Nat.mul_one] at h2
  have e : (2 : Nat) ^ 52 = 4503599627370496 := by decide
  rw [e] at h2
  rw [Nat.or_comm, ← h2]; omega
theorem PowT.keep {w w' : World} (h : PowT w) (hb : Below w.heap.size w w') : PowT w' := by
  intro i x hx
  obtain ⟨c1, c2⟩ := h i x hx
  exact ⟨(hb.cell (p := ⟨12, i * 2, none⟩) (lt_ofC c1)).trans c1, (hb.cell (p := ⟨12, i * 2 + 1, none⟩) (lt_ofC c2)).trans c2⟩
theorem PowT.lt {w : World} (h : PowT w) : 12 < w.heap.size := lt_ofC (h _ _ (row_of (p := 0) (by decide) (by decide))).1
theorem P10.keepG {w w' : World} (h : P10 w) (hb : Below w.heap.size w w') : P10 w' := by
  intro i hi
  have c1 := h i hi
  exact (hb.cell (p := ⟨1, i, none⟩) (lt_ofC c1)).trans c1
theorem zeros32G (j : Nat) (h : j < 32) : (#[.int .u8 0, .int .u8 0, .int .u8 0, .int .u8 0, .int .u8 0, .int .u8 0, .int .u8 0, .int .u8 0, .int .u8 0, .int .u8 0, .int .u8 0, .int .u8 0, .int .u8 0, .int .u8 0, .int .u8 0, .int .u8 0, .int .u8 0, .int .u8 0, .int .u8 0, .int .u8 0, .int .u8 0, .int .u8 0, .int .u8 0, .int .u8 0, .int .u8 0, .int .u8 0, .int .u8 0, .int .u8 0, .int .u8 0, .int .u8 0, .int .u8 0, .int .u8 0] : Array Value)[j]? = some (.int .u8 0) := by
  show ((List.replicate 32 (Value.int .u8 0)).toArray)[j]? = _
  rw [List.getElem?_toArray, List.getElem?_replicate, if_pos h]
theorem FB.backG {w0 w : World} {b n u m v : Nat} (h : FB w0 b n u m v w) : FB w0 b n u n u w := ⟨Nat.le_refl _, by simp, h.2.2.1, h.2.2.2.1, fun j h1 h2 => by omega⟩
theorem own_belowG {w w' : World} {B e size n : Nat} {v : Value} {xs : List Value} (h : w.ownsRow B e size v n xs) (hb : Below w.heap.size w w') : w'.ownsRow B e size v n xs :=
  h.kept (row := none) ⟨hb.os, hb.tape, hb.output, hb.size, fun k hk _ => hb.block k hk⟩ (by cases h : v.ownBlock with | none => exact .inl rfl | some q => exact .inr (by simp))
/-- the left-justified mantissa of a word, and its exponent -/
def smm (x : Nat) : Nat := man x * 2 ^ (64 - Lib.bitLen (man x))
def see (x : Nat) : Int := (ex x : Int) - 1138 + Lib.bitLen (man x)
def fD (x : Nat) : Nat := sD (smm x) (see x)
def fQ (x : Nat) : Int := sQ (smm x) (see x)
theorem bl_man {x : Nat} (h0 : 0 < x) : 1 ≤ Lib.bitLen (man x) ∧ Lib.bitLen (man x) ≤ 53 ∧ 2 ^ (Lib.bitLen (man x) - 1) ≤ man x ∧ man x < 2 ^ Lib.bitLen (man x) := by
  have hp := man_pos h0
  have hl := man_lt x
  obtain ⟨b1, b2⟩ := bitLen_lib (man x) (by omega)
  have b3 := b2 (by omega)
  generalize Lib.bitLen (man x) = L at *
  have h1 : 1 ≤ L := by
    rcases Nat.eq_zero_or_pos L with h | h
    · subst h; simp at b1; omega
    · exact h
  refine ⟨h1, ?_, b3, b1⟩
  rcases Nat.lt_or_ge 53 L with h | h
  · have := Nat.pow_le_pow_right (n := 2) (by decide) (show 53 ≤ L - 1 by omega)
    have e : (2 : Nat) ^ 53 = 9007199254740992 := by decide
    omega
  · exact h
theorem bl_norm {x : Nat} (h : 4503599627370496 ≤ x) : Lib.bitLen (man x) = 53 := by
  obtain ⟨b0, b1, b2, b3⟩ := bl_man (x := x) (by omega)
  have hm : 4503599627370496 ≤ man x := by unfold man; rw [if_neg (by omega)]; omega
  generalize Lib.bitLen (man x) = L at *
  rcases Nat.lt_or_ge L 53 with h | h
  · have := Nat.pow_le_pow_right (n := 2) (by decide) (show L ≤ 52 by omega)
    have e : (2 : Nat) ^ 52 = 4503599627370496 := by decide
    omega
  · omega
theorem bl_sub {x : Nat} (h0 : 0 < x) (h : x < 4503599627370496) : Lib.bitLen (man x) ≤ 52 := by
  obtain ⟨b0, b1, b2, b3⟩ := bl_man h0
  have hm : man x < 4503599627370496 := by unfold man; rw [if_pos h]; exact h
  generalize Lib.bitLen (man x) = L at *
  rcases Nat.lt_or_ge 52 L with h | h
  · have := Nat.pow_le_pow_right (n := 2) (by decide) (show 52 ≤ L - 1 by omega)
    have e : (2 : Nat) ^ 52 = 4503599627370496 := by decide
    omega
  · exact h
theorem sf_in {x : Nat} (h0 : 0 < x) (hx : x < 9218868437227405312) : SfIn (smm x) (see x) ∧ sfZ (see x) = 64 - Lib.bitLen (man x) := by
  obtain ⟨b0, b1, b2, b3⟩ := bl_man h0
  have hz : sfZ (see x) = 64 - Lib.bitLen (man x) := by
    unfold sfZ see
    by_cases hn : 4503599627370496 ≤ x
    · have := bl_norm hn
      split <;> omega
    · have := bl_sub h0 (by omega)
      have he : ex x = 0 := by unfold ex; rw [if_pos (by omega)]
      split <;> omega
  have he : ex x ≤ 2045 := by unfold ex; split <;> omega
  refine ⟨⟨?_, ?_, ?_, ?_⟩, hz⟩
  · unfold smm
    have := Nat.mul_le_mul_right (2 ^ (64 - Lib.bitLen (man x))) b2
    rw [← Nat.pow_add, show Lib.bitLen (man x) - 1 + (64 - Lib.bitLen (man x)) = 63 by omega] at this
    exact this
  · rw [hz]
    unfold smm
    have := Nat.mul_le_mul_right (2 ^ (64 - Lib.bitLen (man x))) b3
    rw [← Nat.pow_add, show Lib.bitLen (man x) + (64 - Lib.bitLen (man x)) = 64 by omega, Nat.succ_mul] at this
    have e : 2 ^ (64 - Lib.bitLen (man x)) = 2 * 2 ^ (64 - Lib.bitLen (man x) - 1) := by
      rw [show 64 - Lib.bitLen (man x) = (64 - Lib.bitLen (man x) - 1) + 1 by omega, Nat.pow_succ, Nat.mul_comm]; rfl
    have := Nat.two_pow_pos (64 - Lib.bitLen (man x) - 1)
    have e64 : (2 : Nat) ^ 64 = 18446744073709551616 := by decide
    omega
  · unfold see; omega
  · unfold see
    by_cases hn : 4503599627370496 ≤ x
    · have := bl_norm hn; omega
    · have := bl_sub h0 (by omega)
      have he : ex x = 0 := by unfold ex; rw [if_pos (by omega)]
      omega
theorem c_ftoaN (x n m v B : Nat) (v0 : Value) (hx0 : 0 < x) (hx : x < 9218868437227405312) (hc : 4503599627370496 ≤ x) (hn : IsNd (fD x) n) (hm1 : 1 ≤ m) (hmn : m ≤ n) (hdv : fD x = v * 10 ^ (n - m)) (hv : v % 10 ≠ 0) (w : World) (hB : B ≤ w.heap.size) (h : w.ownsRow B 5 1 v0 0 (b8 [])) (hT : PowT w) (hP : P10 w) :
    Calls Tryz.prog 132 #[v0, .float .f64 x, .int .u8 101, .int .i64 (-1)] w fun r w' => ∃ v' : Value, r = .returned v' ∧ w'.ownsRow B 5 1 v' (sciG m v ((n : Int) + fQ x - 1)).length (b8 (sciG m v ((n : Int) + fQ x - 1))) ∧ Below B w w' := by
  obtain ⟨hin, hz⟩ := sf_in hx0 hx
  obtain ⟨l0, l1, l2, l3⟩ := bl_man hx0
  have hsb := s_b hin
  have hmlt := man_lt x
  have hmp := man_pos hx0
  have hS := Lib.hid (fun w hT => c_shortG (smm x) (see x) hin w hT)
  have hD : sD (smm x) (see x) = fD x := rfl
  have hQ : sQ (smm x) (see x) = fQ x := rfl
  rw [hD, hQ] at hsb hS
  have hsm : smm x = man x * 2 ^ (64 - Lib.bitLen (man x)) := rfl
  have hse : see x = (ex x : Int) - 1138 + Lib.bitLen (man x) := rfl
  generalize fD x = d at *
  generalize fQ x = q at *
  obtain ⟨d1, d2, q1, q2⟩ := hsb
  have hr := r_f64bits x
  have hL : Hid (∀ w, Calls Tryz.prog 146 #[.int .u64 (man x : Int)] w fun e w' => e = .returned (.int .i64 (Lib.bitLen (man x) : Int)) ∧ w = w') := by
    intro w
    exact d_Len64 (man x : Int) w (by omega) (by omega)
  have hl53 := bl_norm hc
  rw [hl53] at hsm hse hL
  have hman : man x = 4503599627370496 + x % 4503599627370496 := by unfold man; rw [if_neg (by omega)]
  have hex : ex x = x / 4503599627370496 - 1 := by unfold ex; rw [if_neg (by omega)]
  obtain ⟨k, hk⟩ : ∃ k, x / 4503599627370496 = k := ⟨_, rfl⟩
  have hk1 : 1 ≤ k := by omega
  have hk2 : k ≤ 2046 := by omega
  have a1 : ((x : Int) / 9223372036854775808 != 0) = false := by
    have : (x : Int) / 9223372036854775808 = 0 := by omega
    rw [this]; rfl
  have a2 : (x : Int) / 4503599627370496 = (k : Int) := by omega
  have a3 : bits BinOp.and IntKind.i64 (k : Int) 2047 = (k : Int) := by
    have := and_i64G k 2047 (by omega) (by omega)
    rw [show k &&& 2047 = k by
      rw [show (2047 : Nat) = 2 ^ 11 - 1 from rfl, Nat.and_two_pow_sub_one_eq_mod]; omega] at this
    exact this
  have a4 : bits BinOp.and IntKind.u64 (x : Int) 4503599627370495 = ((x % 4503599627370496 : Nat) : Int) := by
    have := bits_and_u64_nat x 4503599627370495 (by omega) (by omega)
    rw [show x &&& 4503599627370495 = x % 4503599627370496 by
      rw [show (4503599627370495 : Nat) = 2 ^ 52 - 1 from rfl, Nat.and_two_pow_sub_one_eq_mod]] at this
    exact this
  have a5 : bits BinOp.or IntKind.u64 ((x % 4503599627370496 : Nat) : Int) 4503599627370496 = (man x : Int) := by
    have := bits_or_u64_nat (x % 4503599627370496) 4503599627370496 (by omega) (by omega)
    rw [or_52G _ (by omega), show x % 4503599627370496 + 4503599627370496 = man x by omega] at this
    exact this
  have a6 : ((k : Int) == 2047) = false := by simp; omega
  have a8 : ((k : Int) == 0) = false := by simp; omega
  rw [hk] at hex
  have hsm2 : (smm x : Int) = (man x : Int) * 2048 := by rw [hsm]; simp
  have hse2 : see x = (k : Int) + -1023 - 11 - 52 := by rw [hse, hex]; omega
  rw [hsm2, hse2] at hS
  clear hsm hse hsm2 hse2 hex hman hin hz l0 l1 l2 l3 hl53 hk hc
  generalize x % 4503599627370496 = f at *
  generalize man x = M at *
  have a7 : ((M : Int) == 0) = false := by simp; omega
  have h5 := hT.lt
  replace h := Lib.hid h
  go_enter Tryz.func132, Tryz.ntmps132
  go_wp2_with fail
  go_quiet (fail)
  go_wp2_with (go_at_call 146; refine (hL.out _).mono ?_; rintro e w1 ⟨rfl, rfl⟩)

  have hbN : Below w.heap.size w (w.drewN nq) := below_drewN (Below.refl _ _) nq
  refine (hS.out _ ((hT.keep hbN).keep ((Below.refl _ _).alloc (Nat.le_refl _) _))).mono ?_
  rintro e w2 ⟨rfl, hb2⟩
  have hn18 : n ≤ 18 := by
    rcases Nat.lt_or_ge 18 n with h' | h'
    · have := Nat.pow_le_pow_right (n := 10) (by decide) (show 18 ≤ n - 1 by omega)
      have := hn.2.1
      have e : (10 : Nat) ^ 18 = 1000000000000000000 := by decide
      omega
    · exact h'
  have hFB : FB w w.heap.size n d n d w2 := by
    refine ⟨Nat.le_refl _, by simp, (hbN.alloc (Nat.le_refl _) _).trans (hb2.mono (by simp)), fun j hj => ⟨⟨.int .u8 0, ?_⟩, ?_⟩, fun j h1 h2 => by omega⟩
    · rw [hb2.cell (p := ⟨w.heap.size, j, none⟩) (by simp)]
      exact (World.cell?_alloc_at _ _ w.heap.size j rfl).trans (zeros32G j (by omega))
    · rw [hb2.frozen (p := ⟨w.heap.size, j, none⟩) (by simp)]
      exact World.frozen?_alloc_at _ _ w.heap.size j rfl
  have hdlt : d < 10 ^ n := hn.2.2
  have hnd := Lib.hid (fun W (hW : FB w w.heap.size n d n d W) => c_numDigits' d n hn d2 W (hP.keepG hW.2.2.1))
  have hsd := Lib.hid (fun W (hW : FB w w.heap.size n d n d W) => c_setDigits w.heap.size d n m v q (by omega) (by omega) (by omega) hdlt (by omega) hm1 hmn hdv hv w W hW)
  have hS0 : FB w w.heap.size n d n d w2.drew := hFB.draw
  replace hdv := Lib.hid hdv
  replace hn := Lib.hid hn
  clear hdlt hFB hb2
  go_wp2_with fail
  go_region_held3 (fun y => FB w w.heap.size n d n d y) (first | assumption | exact FB.backG (by assumption)) (first | (go_at_call 125; refine (hnd.out _ (by assumption)).mono ?_; rintro e y' ⟨rfl, rfl⟩) | (go_at_call 164; refine (hsd.out _ (by assumption)).mono ?_; rintro e y' ⟨rfl, hfb⟩))
  rename_i y' _ hfb hzz
  have hbb := hfb.2.2.1
  have hown : y'.ownsRow B 5 1 v0 0 (b8 []) := own_belowG h.out hbb
  have hbuf : Buf y' y' B w.heap.size v0 [] := by
    refine ⟨hown, fun e => ?_, Below.refl _ _, rfl, ?_⟩
    · have := (h.out.lt _ e).2
      omega
    · exact lt_ofC (hfb.cell 0 (by omega))
  have hcell : ∀ (j u : Nat), (dg m v)[j]? = some u → y'.cell? ⟨w.heap.size, j, none⟩ = some (.int .u8 (u : Int)) := fun j u hj => FB.dg (n := n) (by omega) (by rw [← hdv.out]; exact hfb) j u hj
  have hE0 := c_fmtG w.heap.size B m v ((n : Int) + q - 1) v0 (by omega) (by omega) (by omega) (by omega) y' (Nat.le_trans hB hbb.size) hbuf hcell
  have f1 : (n : Int) + q - 1 + 1 = (n : Int) + q := by omega
  rw [f1] at hE0
  have hE := Lib.hid hE0
  have f2 : max ((m : Int) - 1) 0 = (m : Int) - 1 := by omega
  clear hE0 f1 hbuf hcell hzz hown
  replace hfb := Lib.hid hfb
  go_wp2_with (go_at_call 162; refine hE.out.mono ?_; rintro e w3 ⟨v', rfl, hb3⟩)
  go_ret
  exact ⟨v', rfl, hb3.1, (hbb.mono hB).trans hb3.2.2.1⟩
theorem c_ftoaS (x n m v B : Nat) (v0 : Value) (hx0 : 0 < x) (hx : x < 9218868437227405312) (hc : x < 4503599627370496) (hn : IsNd (fD x) n) (hm1 : 1 ≤ m) (hmn : m ≤ n) (hdv : fD x = v * 10 ^ (n - m)) (hv : v % 10 ≠ 0) (w : World) (hB : B ≤ w.heap.size) (h : w.ownsRow B 5 1 v0 0 (b8 [])) (hT : PowT w) (hP : P10 w) :
    Calls Tryz.prog 132 #[v0, .float .f64 x, .int .u8 101, .int .i64 (-1)] w fun r w' => ∃ v' : Value, r = .returned v' ∧ w'.ownsRow B 5 1 v' (sciG m v ((n : Int) + fQ x - 1)).length (b8 (sciG m v ((n : Int) + fQ x - 1))) ∧ Below B w w' := by
  obtain ⟨hin, hz⟩ := sf_in hx0 hx
  obtain ⟨l0, l1, l2, l3⟩ := bl_man hx0
  have hsb := s_b hin
  have hmlt := man_lt x
  have hmp := man_pos hx0
  have hS := Lib.hid (fun w hT => c_shortG (smm x) (see x) hin w hT)
  have hD : sD (smm x) (see x) = fD x := rfl
  have hQ : sQ (smm x) (see x) = fQ x := rfl
  rw [hD, hQ] at hsb hS
  have hsm : smm x = man x * 2 ^ (64 - Lib.bitLen (man x)) := rfl
  have hse : see x = (ex x : Int) - 1138 + Lib.bitLen (man x) := rfl
  generalize fD x = d at *
  generalize fQ x = q at *
  obtain ⟨d1, d2, q1, q2⟩ := hsb
  have hr := r_f64bits x
  have hL : Hid (∀ w, Calls Tryz.prog 146 #[.int .u64 (man x : Int)] w fun e w' => e = .returned (.int .i64 (Lib.bitLen (man x) : Int)) ∧ w = w') := by
    intro w
    exact d_Len64 (man x : Int) w (by omega) (by omega)
  have hl53 := bl_sub hx0 hc
  have hman : man x = x := by unfold man; rw [if_pos hc]
  have hex : ex x = 0 := by unfold ex; rw [if_pos hc]
  rw [hex] at hse
  rw [hman] at hz l0 l1 l2 l3 hmlt hmp hsm hse hL hl53
  clear hman
  have a1 : ((x : Int) / 9223372036854775808 != 0) = false := by
    have : (x : Int) / 9223372036854775808 = 0 := by omega
    rw [this]; rfl
  have a2 : (x : Int) / 4503599627370496 = 0 := by omega
  have a3 : bits BinOp.and IntKind.i64 0 2047 = 0 := by decide
  have a4 : bits BinOp.and IntKind.u64 (x : Int) 4503599627370495 = (x : Int) := by
    have := bits_and_u64_nat x 4503599627370495 (by omega) (by omega)
    rw [show x &&& 4503599627370495 = x by
      rw [show (4503599627370495 : Nat) = 2 ^ 52 - 1 from rfl, Nat.and_two_pow_sub_one_eq_mod]; omega] at this
    exact this
  have a7 : ((x : Int) == 0) = false := by simp; omega
  obtain ⟨z, hzz⟩ : ∃ z : Nat, 64 - Lib.bitLen x = z := ⟨_, rfl⟩
  rw [hzz] at hsm hz
  have hbl : (Lib.bitLen x : Int) = 64 - (z : Int) := by omega
  rw [hbl] at hL hse
  have z1 : (12 : Int) ≤ (z : Int) := by omega
  have z2 : (z : Int) ≤ 63 := by omega
  have z3 : z ≤ 63 := by omega
  have hse2 : see x = -1022 - (z : Int) - 52 := by omega
  have hbz : x * 2 ^ z < 18446744073709551616 := by
    have := hin.m64
    rw [hsm] at this; exact this
  rw [hse2, hsm] at hS
  clear hse hse2 hsm hex hin hz l0 l1 l2 l3 hl53 hc hzz hbl
  have z4 : IntKind.u64.wrap ((x : Int) * 2 ^ z) = ((x * 2 ^ z : Nat) : Int) := by
    rw [IntKind.wrap_u64]
    have : (x : Int) * 2 ^ z = ((x * 2 ^ z : Nat) : Int) := by rw [Int.natCast_mul]; congr 1
    rw [this]; omega
  have y1 : 64 - (64 - (z : Int)) = (z : Int) := by omega
  have y2 : 64 - (64 - z) = z := by omega
  generalize x * 2 ^ z = mz at *
  have h5 := hT.lt
  replace h := Lib.hid h
  go_enter Tryz.func132, Tryz.ntmps132
  go_wp2_with fail
  go_quiet (fail)
  go_wp2_with (go_at_call 146; refine (hL.out _).mono ?_; rintro e w1 ⟨rfl, rfl⟩)

  have hbN : Below w.heap.size w (w.drewN nq) := below_drewN (Below.refl _ _) nq
  refine (hS.out _ ((hT.keep hbN).keep ((Below.refl _ _).alloc (Nat.le_refl _) _))).mono ?_
  rintro e w2 ⟨rfl, hb2⟩
  have hn18 : n ≤ 18 := by
    rcases Nat.lt_or_ge 18 n with h' | h'
    · have := Nat.pow_le_pow_right (n := 10) (by decide) (show 18 ≤ n - 1 by omega)
      have := hn.2.1
      have e : (10 : Nat) ^ 18 = 1000000000000000000 := by decide
      omega
    · exact h'
  have hFB : FB w w.heap.size n d n d w2 := by
    refine ⟨Nat.le_refl _, by simp, (hbN.alloc (Nat.le_refl _) _).trans (hb2.mono (by simp)), fun j hj => ⟨⟨.int .u8 0, ?_⟩, ?_⟩, fun j h1 h2 => by omega⟩
    · rw [hb2.cell (p := ⟨w.heap.size, j, none⟩) (by simp)]
      exact (World.cell?_alloc_at _ _ w.heap.size j rfl).trans (zeros32G j (by omega))
    · rw [hb2.frozen (p := ⟨w.heap.size, j, none⟩) (by simp)]
      exact World.frozen?_alloc_at _ _ w.heap.size j rfl
  have hdlt : d < 10 ^ n := hn.2.2
  have hnd := Lib.hid (fun W (hW : FB w w.heap.size n d n d W) => c_numDigits' d n hn d2 W (hP.keepG hW.2.2.1))
  have hsd := Lib.hid (fun W (hW : FB w w.heap.size n d n d W) => c_setDigits w.heap.size d n m v q (by omega) (by omega) (by omega) hdlt (by omega) hm1 hmn hdv hv w W hW)
  have hS0 : FB w w.heap.size n d n d w2.drew := hFB.draw
  replace hdv := Lib.hid hdv
  replace hn := Lib.hid hn
  clear hdlt hFB hb2
  go_wp2_with fail
  go_region_held3 (fun y => FB w w.heap.size n d n d y) (first | assumption | exact FB.backG (by assumption)) (first | (go_at_call 125; refine (hnd.out _ (by assumption)).mono ?_; rintro e y' ⟨rfl, rfl⟩) | (go_at_call 164; refine (hsd.out _ (by assumption)).mono ?_; rintro e y' ⟨rfl, hfb⟩))
  rename_i y' _ hfb hzz
  have hbb := hfb.2.2.1
  have hown : y'.ownsRow B 5 1 v0 0 (b8 []) := own_belowG h.out hbb
  have hbuf : Buf y' y' B w.heap.size v0 [] := by
    refine ⟨hown, fun e => ?_, Below.refl _ _, rfl, ?_⟩
    · have := (h.out.lt _ e).2
      omega
    · exact lt_ofC (hfb.cell 0 (by omega))
  have hcell : ∀ (j u : Nat), (dg m v)[j]? = some u → y'.cell? ⟨w.heap.size, j, none⟩ = some (.int .u8 (u : Int)) := fun j u hj => FB.dg (n := n) (by omega) (by rw [← hdv.out]; exact hfb) j u hj
  have hE0 := c_fmtG w.heap.size B m v ((n : Int) + q - 1) v0 (by omega) (by omega) (by omega) (by omega) y' (Nat.le_trans hB hbb.size) hbuf hcell
  have f1 : (n : Int) + q - 1 + 1 = (n : Int) + q := by omega
  rw [f1] at hE0
  have hE := Lib.hid hE0
  have f2 : max ((m : Int) - 1) 0 = (m : Int) - 1 := by omega
  clear hE0 f1 hbuf hcell hzz hown
  replace hfb := Lib.hid hfb
  go_wp2_with (go_at_call 162; refine hE.out.mono ?_; rintro e w3 ⟨v', rfl, hb3⟩)
  go_ret
  exact ⟨v', rfl, hb3.1, (hbb.mono hB).trans hb3.2.2.1⟩
theorem c_ftoaG (x n m v B : Nat) (v0 : Value) (hx0 : 0 < x) (hx : x < 9218868437227405312) (hn : IsNd (fD x) n) (hm1 : 1 ≤ m) (hmn : m ≤ n) (hdv : fD x = v * 10 ^ (n - m)) (hv : v % 10 ≠ 0) (w : World) (hB : B ≤ w.heap.size) (h : w.ownsRow B 5 1 v0 0 (b8 [])) (hT : PowT w) (hP : P10 w) :
    Calls Tryz.prog 132 #[v0, .float .f64 x, .int .u8 101, .int .i64 (-1)] w fun r w' => ∃ v' : Value, r = .returned v' ∧ w'.ownsRow B 5 1 v' (sciG m v ((n : Int) + fQ x - 1)).length (b8 (sciG m v ((n : Int) + fQ x - 1))) ∧ Below B w w' := by
  by_cases hc : x < 4503599627370496
  · exact c_ftoaS x n m v B v0 hx0 hx hc hn hm1 hmn hdv hv w hB h hT hP
  · exact c_ftoaN x n m v B v0 hx0 hx (by omega) hn hm1 hmn hdv hv w hB h hT hP
def u8sG (l : List Nat) : ByteArray := ⟨(l.map UInt8.ofNat).toArray⟩
theorem conv_bytesG {w : World} {B n : Nat} {v : Value} {l : List Nat} (h : w.ownsRow B 5 1 v n (b8 l)) (hl : 0 < l.length) (hn : n = l.length) (hb : ∀ x ∈ l, x < 256) :
    (convert 90 9 v).run Tryz.prog w = .ok (.string (u8sG l)) w := by
  subst hn
  obtain ⟨g, cap, rfl, _, _⟩ := h.form (by omega)
  have hc := World.ownsRow.cells h (g := g) rfl
  have hlen : l.length = (l.map UInt8.ofNat).length := by simp
  rw [hlen]
  refine run_convert_bytes_back (P := Tryz.prog) w 90 9 5 ⟨g, 0, none⟩ cap (l.map UInt8.ofNat) Tryz.underlying90 Tryz.underlying5 Tryz.underlying9 (fun j hj => hc j _ ?_)
  have hj' : j < l.length := by simpa using hj
  have := hb l[j] (List.getElem_mem hj')
  simp [b8, hj']
  omega
theorem exD_lt (a : Nat) (h : a < 1000) : ∀ x ∈ exD a, x < 256 := by
  intro x hx
  unfold exD at hx
  split at hx
  · simp only [List.mem_cons, List.not_mem_nil, or_false] at hx; omega
  · split at hx <;> simp only [List.mem_cons, List.not_mem_nil, or_false] at hx <;> omega
theorem sciG_lt (m v : Nat) (E : Int) (h1 : -1000 < E) (h2 : E < 1000) : ∀ x ∈ sciG m v E, x < 256 := by
  have hd : ∀ x ∈ dg m v, x < 256 := by
    intro x hx
    obtain ⟨y, hy, rfl⟩ := List.mem_map.1 hx
    have := fw_lt m v y hy
    omega
  intro x hx
  unfold sciG exS at hx
  simp only [List.mem_append, List.mem_singleton] at hx
  rcases hx with ((h | h) | h) | h
  · split at h
    · exact hd x h
    · simp only [List.mem_append, List.mem_singleton] at h
      rcases h with (h | h) | h
      · exact hd x (List.mem_of_mem_take h)
      · omega
      · exact hd x (List.mem_of_mem_drop h)
  · omega
  · split at h <;> omega
  · exact exD_lt _ (by omega) x h
theorem sciG_pos (m v : Nat) (E : Int) : 0 < (sciG m v E).length := by
  unfold sciG; simp; omega
theorem c_FFI (x n m v : Nat) (hx0 : 0 < x) (hx : x < 9218868437227405312) (hn : IsNd (fD x) n) (hm1 : 1 ≤ m) (hmn : m ≤ n) (hdv : fD x = v * 10 ^ (n - m)) (hv : v % 10 ≠ 0) (hE1 : -1000 < (n : Int) + fQ x - 1) (hE2 : (n : Int) + fQ x - 1 < 1000) (w : World) (hT : PowT w) (hP : P10 w) :
    Calls Tryz.prog 93 #[.float .f64 x, .int .u8 101, .int .i64 (-1), .int .i64 64] w fun r w' => r = .returned (.string (u8sG (sciG m v ((n : Int) + fQ x - 1)))) ∧ Below w.heap.size w w' := by
  obtain ⟨i0, hi0', hz0, hz1, hz2⟩ := info_parts infoByte
  have hF := Lib.hid (fun (W : World) (v0 : Value) hB h hT hP => c_ftoaG x n m v w.heap.size v0 hx0 hx hn hm1 hmn hdv hv W hB h hT hP)
  replace hn := Lib.hid hn
  replace hdv := Lib.hid hdv
  go_enter Tryz.func93, Tryz.ntmps93
  go_wp2_with (at_make; refine wpList_make_own _ rfl _ _ 90 rfl w.heap.size 5 i0 (.int .u8 0) 1 Tryz.underlying90 hi0' hz0 hz1 _ _ _ 24 rfl rfl (by omega) (by rw [hz2]; omega) (by unfold maxLen; omega) (Nat.le_refl _) ?_; intro w1 hown1 hgrow1)
  have hb1 : Below w.heap.size w w1 := (Below.refl _ _).grown hgrow1 (Nat.le_refl _) (fun _ h => by cases h)
  refine (hF.out w1 _ hb1.size hown1 (hT.keep hb1) (hP.keepG hb1)).mono ?_
  rintro e w2 ⟨v', rfl, hown, hb2⟩
  have hcv := conv_bytesG hown (sciG_pos _ _ _) rfl (sciG_lt m v _ hE1 hE2)
  go_wp2_with fail
  go_ret
  exact ⟨rfl, hb1.trans hb2⟩
/-- the text of a positive finite number: its fewest digits v (m of them, the last one not nought), their exponent -/
def IsSci (x m v : Nat) (E : Int) : Prop := ∃ n, IsNd (fD x) n ∧ 1 ≤ m ∧ m ≤ n ∧ n ≤ 18 ∧ fD x = v * 10 ^ (n - m) ∧ v % 10 ≠ 0 ∧ E = (n : Int) + fQ x - 1
theorem sci_ex {x : Nat} (hx0 : 0 < x) (hx : x < 9218868437227405312) : ∃ m v E, IsSci x m v E ∧ -400 < E ∧ E < 400 ∧ 1 ≤ m ∧ m ≤ 18 := by
  obtain ⟨hin, hz⟩ := sf_in hx0 hx
  obtain ⟨d1, d2, q1, q2⟩ := s_b hin
  have d1 : 1 ≤ fD x := d1
  have d2 : fD x < 1000000000000000000 := d2
  have q1 : -332 ≤ fQ x := q1
  have q2 : fQ x ≤ 332 := q2
  obtain ⟨n, hn⟩ := nd_ex (fD x) (by omega)
  have hn18 : n ≤ 18 := by
    rcases Nat.lt_or_ge 18 n with h' | h'
    · have := Nat.pow_le_pow_right (n := 10) (by decide) (show 18 ≤ n - 1 by omega)
      have := hn.2.1
      have e : (10 : Nat) ^ 18 = 1000000000000000000 := by decide
      omega
    · exact h'
  obtain ⟨m, v, hm1, hmn, hiv, hv, -⟩ := fw_trim n (fD x) hn.pos hn.2.2
  have h1 := hn.1
  exact ⟨m, v, (n : Int) + fQ x - 1, ⟨n, hn, hm1, hmn, hn18, hiv, hv, rfl⟩, by omega, by omega, hm1, by omega⟩
theorem c_FormatFloatG {x m v : Nat} {E : Int} (hx0 : 0 < x) (hx : x < 9218868437227405312) (hS : IsSci x m v E) (hE1 : -1000 < E) (hE2 : E < 1000) (w : World) (hT : PowT w) (hP : P10 w) :
    Calls Tryz.prog 62 #[.float .f64 x, .int .u8 101, .int .i64 (-1), .int .i64 64] w fun r w' => r = .returned (.string (u8sG (sciG m v E))) ∧ Below w.heap.size w w' := by
  obtain ⟨n, hn, hm1, hmn, -, hdv, hv, rfl⟩ := hS
  have hF := Lib.hid (c_FFI x n m v hx0 hx hn hm1 hmn hdv hv hE1 hE2 w hT hP)
  replace hn := Lib.hid hn
  replace hdv := Lib.hid hdv
  go_enter Tryz.func62, Tryz.ntmps62
  go_wp2_with fail
  refine hF.out.mono ?_
  rintro e w2 ⟨rfl, hb⟩
  go_wp2_with fail
  go_ret
  exact ⟨rfl, hb⟩
end Go.Proofs.YtbakbikilbaafaaGreatDoor
namespace Go.Proofs.YtbakbikilbaafaaGreatDoor
open Go.RowKit F64 Ieee
set_option linter.unusedVariables false
set_option maxHeartbeats 4000000
set_option maxRecDepth 100000

def PTL : List Int := [1, 3, 6, 9, 13, 16, 19, 23, 26]
/-- powtab lies in the world -/
def PT (w : World) : Prop := ∃ (b o c : Nat), w.cell? ⟨15, 0, none⟩ = some (.slice (some ⟨b, o, none⟩) 9 c) ∧ ∀ i, i < 9 → w.cell? ⟨b, o + i, none⟩ = some (.int .i64 (PTL.getD i 0))
theorem PT.keep {w w' : World} (h : PT w) (hb : Below w.heap.size w w') : PT w' := by
  obtain ⟨b, o, c, h0, h1⟩ := h
  exact ⟨b, o, c, (hb.cell (p := ⟨15, 0, none⟩) (lt_ofC h0)).trans h0, fun i hi => (hb.cell (p := ⟨b, o + i, none⟩) (lt_ofC (h1 i hi))).trans (h1 i hi)⟩
/-- leftcheats lies in the world -/
def LC (w : World) : Prop := ∃ (b o c : Nat), w.cell? ⟨13, 0, none⟩ = some (.slice (some ⟨b, o, none⟩) 61 c) ∧ ∀ i x, Pinned.cheatRows[i]? = some x → w.cell? ⟨b, o + 2 * i, none⟩ = some (.int .i64 x.1) ∧ w.cell? ⟨b, o + 2 * i + 1, none⟩ = some (.string ⟨x.2.toArray⟩)
theorem LC.keep {w w' : World} (h : LC w) (hb : Below w.heap.size w w') : LC w' := by
  obtain ⟨b, o, c, h0, h1⟩ := h
  exact ⟨b, o, c, (hb.cell (p := ⟨13, 0, none⟩) (lt_ofC h0)).trans h0, fun i x hx => ⟨(hb.cell (p := ⟨b, o + 2 * i, none⟩) (lt_ofC (h1 i x hx).1)).trans (h1 i x hx).1, (hb.cell (p := ⟨b, o + 2 * i + 1, none⟩) (lt_ofC (h1 i x hx).2)).trans (h1 i x hx).2⟩⟩
theorem row_ltG {w : World} {b : Nat} {o : Obj} (h : w.heap[b]? = some o) : b < w.heap.size := (Array.getElem?_eq_some_iff.1 h).1
structure LibW (w : World) : Prop where
  pow : PowT w
  p10 : P10 w
  fi : FI w
  f10 : F10 w
  opt : w.cell? ⟨5, 0, none⟩ = some (.bool true)
  er : ∃ te pe, w.cell? ⟨7, 0, none⟩ = some (.iface te pe)
  pt : PT w
  lc : LC w
  ml : ∃ m, w.cell? ⟨4, 0, none⟩ = some (.int .i64 m)
  tab : Lib.TabIs Tryz.prog w "internal/strconv.uint64pow10" .u64 Lib.pow10Tab
  tz : ∀ (i x : Nat), Lib.deBruijn64tab[i]? = some x → w.cell? ⟨11, i, none⟩ = some (.int .u8 (x : Int))
  hp : (∃ c t, w.heap[9]? = some (.cells c t (0, 0))) ∧ ∃ c t, w.heap[8]? = some (.cells c t (0, 0))
theorem LibW.keep {w w' : World} (h : LibW w) (hb : Below w.heap.size w w') : LibW w' := by
  obtain ⟨te, pe, he⟩ := h.er
  obtain ⟨m, hm⟩ := h.ml
  obtain ⟨⟨c1, t1, h1⟩, c2, t2, h2⟩ := h.hp
  exact ⟨h.pow.keep hb, h.p10.keepG hb, h.fi.keep hb, h.f10.keep hb, (hb.cell (p := ⟨5, 0, none⟩) (lt_ofC h.opt)).trans h.opt, ⟨te, pe, (hb.cell (p := ⟨7, 0, none⟩) (lt_ofC he)).trans he⟩, h.pt.keep hb, h.lc.keep hb,
    ⟨m, (hb.cell (p := ⟨4, 0, none⟩) (lt_ofC hm)).trans hm⟩, var?_below hb (g := 1) (by kernel_rfl) (lt_ofC (h.p10 0 (by decide))) h.tab, fun i x hx => (hb.cell (p := ⟨11, i, none⟩) (lt_ofC (h.tz i x hx))).trans (h.tz i x hx), ⟨c1, t1, (hb.block _ (row_ltG h1)).trans h1⟩, c2, t2, (hb.block _ (row_ltG h2)).trans h2⟩
theorem c_special (S : ByteArray) (c : Nat) (h : 0 < S.size) (hc : (S[0]'h).toNat = c) (h1 : 48 ≤ c ∧ c ≤ 57) (w : World) :
    Calls Tryz.prog 201 #[.string S] w fun r w' => r = .returned (.tuple #[.float .f64 0, .int .i64 0, .bool false]) ∧ w = w' := by
  have n0 : ((S.size : Int) == 0) = false := beq_eq_false_iff_ne.2 (by omega)
  have n0' : (S.size == 0) = false := beq_eq_false_iff_ne.2 (by omega)
  have hsI : (0 : Int) < (S.size : Int) := by omega
  have q1 : ((c : Int) == 43) = false := by simp; omega
  have q2 : ((c : Int) == 45) = false := by simp; omega
  have q3 : ((c : Int) == 105) = false := by simp; omega
  have q4 : ((c : Int) == 73) = false := by simp; omega
  have q5 : ((c : Int) == 110) = false := by simp; omega
  have q6 : ((c : Int) == 78) = false := by simp; omega
  go_enter Tryz.func201, Tryz.ntmps201
  go_wp2
  go_ret3
  exact ⟨rfl, rfl⟩
def E311 : Nat := 311
def E346 : Nat := 346
theorem nv_big {d : Nat} {p : Int} (hd : 0 < d) (hp : 310 < p) : nv d p = 9218868437227405312 := by
  have hb := frD_pos p 1074
  refine nearV_eq hb ?_
  rw [frN_U, frD_1, show (-p).toNat = 0 by omega, Nat.pow_zero]
  have h10 : 10 ^ E311 ≤ 10 ^ p.toNat := Nat.pow_le_pow_right (by decide) (by unfold E311; omega)
  have hV : V 9218868437227405312 ≤ 10 ^ E311 * U := by decide +kernel
  have hge : V 9218868437227405312 ≤ d * (10 ^ p.toNat * U) := by
    have m1 : 10 ^ E311 * U ≤ 10 ^ p.toNat * U := Nat.mul_le_mul_right _ h10
    have m2 : 1 * (10 ^ p.toNat * U) ≤ d * (10 ^ p.toNat * U) := Nat.mul_le_mul_right _ hd
    omega
  have hlt : V (9218868437227405312 - 1) < V 9218868437227405312 := V_lt (by decide)
  exact ⟨Nat.le_refl _, .inl rfl, .inr (.inl (by rw [Nat.one_mul]; omega))⟩
theorem nv_small {d : Nat} {p : Int} (hd : d < 18446744073709551616) (hp : p < -345) : nv d p = 0 := by
  have hb := frD_pos p 1074
  refine nearV_eq hb ?_
  rw [frN_U, frD_1, show p.toNat = 0 by omega, Nat.pow_zero, Nat.one_mul]
  have h10 : 10 ^ E346 ≤ 10 ^ (-p).toNat := Nat.pow_le_pow_right (by decide) (by unfold E346; omega)
  have hV : 2 * (18446744073709551616 * U) < 10 ^ E346 := by decide +kernel
  have hv1 : V (0 + 1) = 1 := by decide +kernel
  refine ⟨by decide, .inr (.inl ?_), .inl rfl⟩
  rw [V_zero, hv1, Nat.zero_add, Nat.mul_one]
  have m := Nat.mul_le_mul_right U (Nat.le_of_lt hd)
  omega
/-- what atof64 answers: a float, how many bytes were read, perhaps the error of a number beyond all floats -/
def AtR (v n : Nat) (r : Ending) : Prop := ∃ er, r = .returned (.tuple #[.float .f64 v, .int .i64 (n : Int), er]) ∧ (er = .nilIface ∨ er = errR)
theorem bl_d {d : Nat} (h0 : 0 < d) (h : d < 18446744073709551616) : 1 ≤ Lib.bitLen d ∧ Lib.bitLen d ≤ 64 ∧ 2 ^ (Lib.bitLen d - 1) ≤ d ∧ d < 2 ^ Lib.bitLen d := by
  obtain ⟨b1, b2⟩ := bitLen_lib d h
  have b3 := b2 (by omega)
  generalize Lib.bitLen d = L at *
  have h1 : 1 ≤ L := by
    rcases Nat.eq_zero_or_pos L with h | h
    · subst h; simp at b1; omega
    · exact h
  refine ⟨h1, ?_, b3, b1⟩
  rcases Nat.lt_or_ge 64 L with h4 | h4
  · have := Nat.pow_le_pow_right (n := 2) (by decide) (show 64 ≤ L - 1 by omega)
    have e : (2 : Nat) ^ 64 = 18446744073709551616 := by decide
    omega
  · exact h4
theorem pf_nv {d : Nat} {p : Int} (h0 : 0 < d) (h : d < 18446744073709551616) (h1 : -348 ≤ p) (h2 : p ≤ 347) : pf d (Lib.bitLen d) p = nv d p := by
  obtain ⟨b0, b1, b2, b3⟩ := bl_d h0 h
  exact (nearV_eq (frD_pos _ _) (pf_near h1 h2 b0 b1 b2 b3).1).symm
theorem c_pf {d : Nat} {p : Int} (h0 : 0 < d) (h : d < 18446744073709551616) (h1 : -348 ≤ p) (h2 : p ≤ 347) (w : World) (hT : PowT w) :
    Calls Tryz.prog 213 #[.int .u64 (d : Int), .int .i64 p, .int .u64 0] w fun r w' => (∃ er, r = .returned (.tuple #[.float .f64 (nv d p), er]) ∧ (er = .nilIface ∨ er = errR)) ∧ Below w.heap.size w w' := by
  obtain ⟨b0, b1, b2, b3⟩ := bl_d h0 h
  refine (c_parseFloat64 d (Lib.bitLen d) p h1 h2 rfl b0 b1 b2 b3 w hT).mono ?_
  rintro r w' ⟨rfl, hb⟩
  refine ⟨⟨_, by rw [pf_nv h0 h h1 h2], ?_⟩, hb⟩
  unfold pfErr
  split
  · exact .inr rfl
  · exact .inl rfl
/-- atof64 where no digit was left out -/
theorem c_atofN (S : ByteArray) (d : Nat) (p : Int) (c : Nat) (h0 : 0 < S.size) (hc : (S[0]'h0).toNat = c) (hcd : 48 ≤ c ∧ c ≤ 57) (hd : d < 18446744073709551616) (hp1 : -100000 ≤ p) (hp2 : p ≤ 100000) (w : World) (hL : LibW w)
    (hR0 : ∀ W, Calls Tryz.prog 202 #[.string S] W fun r w' => r = .returned (.tuple #[.int .u64 (d : Int), .int .i64 p, .bool false, .bool false, .bool false, .int .i64 (S.size : Int), .bool true]) ∧ W = w') :
    Calls Tryz.prog 175 #[.string S] w fun r w' => AtR (if d = 0 then 0 else nv d p) S.size r ∧ Below w.heap.size w w' := by
  have hS := Lib.hid (fun W => c_special S c h0 hc hcd W)
  have hR := Lib.hid hR0
  have ho := hL.opt
  have hB := Lib.hid (fun b W => d_bool2u64 b W)
  have hf0 := r_ffb
  have k0 : IntKind.u64.wrap (0 * 9223372036854775808) = 0 := by decide
  have k1 : bits BinOp.or IntKind.u64 0 0 = 0 := by decide
  have k2 : bits BinOp.or IntKind.u64 0 9218868437227405312 = 9218868437227405312 := by decide +kernel
  clear hR0 hc hcd
  by_cases hd0 : d = 0
  · rw [if_pos hd0]
    have q0 : ((d : Int) == 0) = true := by simp; omega
    clear hd0
    go_enter Tryz.func175, Tryz.ntmps175
    go_wp2_with (first | (go_at_call 201; refine (hS.out _).mono ?_; rintro e w1 ⟨rfl, rfl⟩) | (go_at_call 202; refine (hR.out _).mono ?_; rintro e w1 ⟨rfl, rfl⟩) | (go_at_call 210; refine (hB.out _ _).mono ?_; rintro e w1 ⟨rfl, rfl⟩; simp only [b2n]))
    go_ret3
    exact ⟨⟨_, rfl, .inl rfl⟩, Below.refl _ _⟩
  rw [if_neg hd0]
  have q0 : ((d : Int) == 0) = false := by simp; omega
  have hd1 : 0 < d := by omega
  by_cases hbig : 310 < p
  · rw [nv_big hd1 hbig]
    clear hd0
    go_enter Tryz.func175, Tryz.ntmps175
    go_wp2_with (first | (go_at_call 201; refine (hS.out _).mono ?_; rintro e w1 ⟨rfl, rfl⟩) | (go_at_call 202; refine (hR.out _).mono ?_; rintro e w1 ⟨rfl, rfl⟩) | (go_at_call 210; refine (hB.out _ _).mono ?_; rintro e w1 ⟨rfl, rfl⟩; simp only [b2n]))
    go_ret3
    exact ⟨⟨_, rfl, .inr rfl⟩, Below.refl _ _⟩
  by_cases hsm : p < -345
  · rw [nv_small hd hsm]
    clear hd0
    go_enter Tryz.func175, Tryz.ntmps175
    go_wp2_with (first | (go_at_call 201; refine (hS.out _).mono ?_; rintro e w1 ⟨rfl, rfl⟩) | (go_at_call 202; refine (hR.out _).mono ?_; rintro e w1 ⟨rfl, rfl⟩) | (go_at_call 210; refine (hB.out _ _).mono ?_; rintro e w1 ⟨rfl, rfl⟩; simp only [b2n]))
    go_ret3
    exact ⟨⟨_, rfl, .inl rfl⟩, Below.refl _ _⟩
  have hE := Lib.hid (fun W => c_exact d p hd1 hd (by omega) (by omega) W)
  have hfi := hL.fi
  have hf10 := hL.f10
  have hpw := hL.pow
  have hPF := Lib.hid (fun W => c_pf hd1 hd (p := p) (by omega) (by omega) W)
  replace hfi := Lib.hid hfi
  replace hf10 := Lib.hid hf10
  replace hpw := Lib.hid hpw
  clear hd0 hL
  go_enter Tryz.func175, Tryz.ntmps175
  go_wp2_with (first | (go_at_call 201; refine (hS.out _).mono ?_; rintro e w1 ⟨rfl, rfl⟩) | (go_at_call 202; refine (hR.out _).mono ?_; rintro e w1 ⟨rfl, rfl⟩) | (go_at_call 210; refine (hB.out _ _).mono ?_; rintro e w1 ⟨rfl, rfl⟩; simp only [b2n]))
  refine (hE.out _ hfi.out hf10.out).mono ?_
  rintro e w1 ⟨⟨f, ok, rfl, hok⟩, rfl⟩
  replace hok := Lib.hid hok
  cases ok with
  | true =>
    have hf := Lib.hid (hok.out rfl)
    clear hok
    go_wp2_with fail
    go_ret3
    exact ⟨⟨_, by rw [← hf.out]; rfl, .inl rfl⟩, Below.refl _ _⟩
  | false =>
    go_wp2_with fail
    refine (hPF.out _ hpw.out).mono ?_
    rintro e w1 ⟨⟨er, rfl, her⟩, hb⟩
    replace her := Lib.hid her
    go_wp2_with fail
    go_ret3
    exact ⟨⟨_, rfl, her.out⟩, hb⟩
end Go.Proofs.YtbakbikilbaafaaGreatDoor
