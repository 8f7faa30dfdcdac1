/-
  Contracts: Plain facts: what a word of a float is worth, exactly; writing, adding, multiplying and cutting off exact numbers. No condition. Plain facts: comparisons and bit operations of float words. Conditions: as each theorem says. Contracts of IsInf, Plain at whole numbers below 2^32; a whole number as a float. Contracts of strings.Builder's WriteByte and String (turned from the guide's worked texts), of Make, Reverse and Of. The contract of slices.Reverse at a row of units. Contract of the reference Units: the units of a text. Condition: the text is shorter than 2^40 bytes. Contracts of the program's even, unit, Len, Units. Condition: the text is shorter than 2^40 bytes. Contract of the program's Units. Condition: the text is shorter than 2^40 bytes. Contract of the reference Compare: how two lists of units compare. Condition: the texts are shorter than 2^40 bytes.
-/
import Derived.Laws.FloatBits
import Derived.Laws.FloatArith
import Derived.Laws.BitsAllLaws
import Derived.WalkKit
import Derived.Test.YtkbohoolnpaleaaGreatDoorW2
import Derived.WalkSpells
import Derived.WalkLawsBesides
import Derived.Lib.Builder
import Derived.Lib.UnsafeStr
import Derived.Test.YtkbohoolnpaleaaGreatDoorRows
import Derived.Deep.QuietTactic
import Derived.BigQuiet
import Derived.Deep.RegionHeld3
import Derived.Deep.AppendLies
import Derived.Lib.Hide
namespace F64
open Ieee

/-- what a rung (a word without its sign) is worth, in units of the least place -/
def man (r : Nat) : Nat := if r < 4503599627370496 then r else 4503599627370496 + r % 4503599627370496
def ex (r : Nat) : Nat := if r < 4503599627370496 then 0 else r / 4503599627370496 - 1
def V (r : Nat) : Nat := man r * 2 ^ ex r
def INF : Nat := 9218868437227405312
def TOP : Nat := 9223372036854775808
/-- the sign of a word, and its rung -/
def sgn (w : Nat) : Bool := w / 9223372036854775808 % 2 == 1
def rung (w : Nat) : Nat := w % 9223372036854775808
def wd (s : Bool) (r : Nat) : Nat := if s then 9223372036854775808 + r else r

theorem d_binade : double.binade = 4503599627370496 := by decide
theorem d_inf : double.infRung = 9218868437227405312 := by decide
theorem d_sw : double.signWeight = 9223372036854775808 := by decide
theorem d_least : double.leastPlace = -1074 := by decide
theorem d_frac : double.fractionBits = 52 := rfl
theorem d_word (s : Bool) (r : Nat) : double.word s r = wd s r := by
  unfold Format.word wd; rw [d_sw]

theorem wd_parts (w : Nat) (h : w < 18446744073709551616) : wd (sgn w) (rung w) = w := by
  unfold wd sgn rung
  by_cases hs : w / 9223372036854775808 % 2 == 1
  · rw [if_pos hs]; simp at hs; omega
  · rw [if_neg hs]; simp at hs; omega
theorem sgn_wd (s : Bool) (r : Nat) (h : r < 9223372036854775808) : sgn (wd s r) = s := by
  unfold sgn wd; cases s <;> simp <;> omega
theorem rung_wd (s : Bool) (r : Nat) (h : r < 9223372036854775808) : rung (wd s r) = r := by
  unfold rung wd; cases s <;> simp <;> omega
theorem rung_lt (w : Nat) : rung w < 9223372036854775808 := Nat.mod_lt _ (by decide)
theorem wd_lt (s : Bool) (r : Nat) (h : r < 9223372036854775808) : wd s r < 18446744073709551616 := by
  unfold wd; split <;> omega

def isNaN (w : Nat) : Bool := decide (9218868437227405312 < rung w)
def fin (w : Nat) : Bool := decide (rung w < 9218868437227405312)

theorem read_fin {w : Nat} (h : fin w = true) : double.read w = .number (sgn w) (man (rung w)) (-1074 + (ex (rung w) : Int)) := by
  have h' : rung w < 9218868437227405312 := of_decide_eq_true h
  unfold Format.read
  simp only [d_sw, d_binade, d_inf, d_least]
  unfold rung at h'
  unfold man ex sgn rung
  by_cases h1 : w % 9223372036854775808 < 4503599627370496
  · simp only [if_pos h1]; simp
  · simp only [if_neg h1, if_pos h']

theorem read_inf {w : Nat} (h : rung w = 9218868437227405312) : double.read w = .infinity (sgn w) := by
  unfold Format.read
  simp only [d_sw, d_binade, d_inf, d_least]
  unfold rung at h
  unfold sgn
  rw [if_neg (by omega), if_neg (by omega), if_pos h]

theorem read_nan {w : Nat} (h : isNaN w = true) : ∃ f, double.read w = .nan (sgn w) f := by
  have h' : 9218868437227405312 < rung w := of_decide_eq_true h
  refine ⟨w % 9223372036854775808 - 9218868437227405312, ?_⟩
  unfold Format.read
  simp only [d_sw, d_binade, d_inf, d_least]
  unfold rung at h'
  unfold sgn
  rw [if_neg (by omega), if_neg (by omega), if_neg (by omega)]

theorem man_lt (r : Nat) : man r < 9007199254740992 := by
  unfold man; split
  · omega
  · have := Nat.mod_lt r (show 0 < 4503599627370496 by decide); omega
theorem man_pos {r : Nat} (h : 0 < r) : 0 < man r := by unfold man; split <;> omega
theorem V_pos {r : Nat} (h : 0 < r) : 0 < V r := Nat.mul_pos (man_pos h) (Nat.two_pow_pos _)
theorem V_zero : V 0 = 0 := by decide

theorem V_succ (r : Nat) : V r < V (r + 1) := by
  unfold V man ex
  by_cases h1 : r + 1 < 4503599627370496
  · rw [if_pos (by omega), if_pos (by omega), if_pos h1, if_pos h1]; omega
  · rw [if_neg h1, if_neg h1]
    by_cases h2 : r < 4503599627370496
    · have hr : r = 4503599627370495 := by omega
      subst hr; decide
    · rw [if_neg h2, if_neg h2]
      by_cases h3 : r % 4503599627370496 + 1 < 4503599627370496
      · have e1 : (r + 1) % 4503599627370496 = r % 4503599627370496 + 1 := by omega
        have e2 : (r + 1) / 4503599627370496 = r / 4503599627370496 := by omega
        rw [e1, e2]
        exact Nat.mul_lt_mul_of_pos_right (by omega) (Nat.two_pow_pos _)
      · have e1 : (r + 1) % 4503599627370496 = 0 := by omega
        have e2 : (r + 1) / 4503599627370496 = r / 4503599627370496 + 1 := by omega
        rw [e1, e2]
        obtain ⟨q, hq⟩ : ∃ q, r / 4503599627370496 = q + 1 := ⟨r / 4503599627370496 - 1, by omega⟩
        rw [hq]
        simp only [Nat.add_sub_cancel, Nat.pow_succ]
        have hp := Nat.two_pow_pos q
        generalize 2 ^ q = p at *
        have : r % 4503599627370496 = 4503599627370495 := by omega
        rw [this]; omega

theorem V_lt {r s : Nat} (h : r < s) : V r < V s := by
  induction s with
  | zero => omega
  | succ s ih =>
    rcases Nat.lt_or_ge r s with h1 | h1
    · exact Nat.lt_trans (ih h1) (V_succ s)
    · have : r = s := by omega
      subst this; exact V_succ r
theorem V_le {r s : Nat} (h : r ≤ s) : V r ≤ V s := by
  rcases Nat.lt_or_ge r s with h1 | h1
  · exact Nat.le_of_lt (V_lt h1)
  · have : r = s := by omega
    subst this; exact Nat.le_refl _
theorem V_lt_iff {r s : Nat} : V r < V s ↔ r < s := by
  constructor
  · intro h; rcases Nat.lt_or_ge r s with h1 | h1
    · exact h1
    · have := V_le h1; omega
  · exact V_lt
theorem V_inj {r s : Nat} (h : V r = V s) : r = s := by
  rcases Nat.lt_trichotomy r s with h1 | h1 | h1
  · have := V_lt h1; omega
  · exact h1
  · have := V_lt h1; omega
theorem V_le_iff {r s : Nat} : V r ≤ V s ↔ r ≤ s := by
  constructor
  · intro h; rcases Nat.lt_or_ge s r with h1 | h1
    · have := V_lt h1; omega
    · exact h1
  · exact V_le

/-- cutting off zeros -/
theorem cut_exact (s : Bool) (M d : Nat) : Toward.even.cut s (M <<< d) d = M := by
  unfold Toward.cut
  by_cases h0 : M = 0
  · subst h0; simp [Nat.zero_shiftLeft]
  · have hp : (1 : Nat) <<< d = 2 ^ d := by simp [Nat.shiftLeft_eq]
    have hlog : d ≤ (M <<< d).log2 := by
      rw [Nat.le_log2 (by rw [Nat.shiftLeft_eq]; exact Nat.ne_of_gt (Nat.mul_pos (by omega) (Nat.two_pow_pos _)))]
      rw [Nat.shiftLeft_eq]
      exact Nat.le_mul_of_pos_left _ (by omega)
    have hm : min d ((M <<< d).log2 + 2) = d := by omega
    rw [hm, hp, Nat.shiftLeft_eq]
    simp [Nat.mul_div_cancel _ (Nat.two_pow_pos d)]

theorem log2_mul_pow (m a : Nat) (h : m ≠ 0) : (m * 2 ^ a).log2 = m.log2 + a := by
  rw [Nat.log2_eq_iff (Nat.ne_of_gt (Nat.mul_pos (by omega) (Nat.two_pow_pos _)))]
  have h1 := Nat.log2_self_le h
  have h2 := @Nat.lt_log2_self m
  constructor
  · rw [Nat.pow_add]; exact Nat.mul_le_mul_right _ h1
  · rw [show m.log2 + a + 1 = m.log2 + 1 + a by omega, Nat.pow_add]
    exact Nat.mul_lt_mul_of_pos_right h2 (Nat.two_pow_pos _)

theorem man_log2 {r : Nat} (h : 4503599627370496 ≤ r) : (man r).log2 = 52 := by
  have h1 := man_lt r
  have h2 : 4503599627370496 ≤ man r := by unfold man; rw [if_neg (by omega)]; omega
  rw [Nat.log2_eq_iff (by omega)]
  omega

/-- WRITING A NUMBER THAT A WORD STANDS FOR, however it is given -/
theorem nearest_exact (s : Bool) (mag : Nat) (place : Int) (r : Nat) (hr : r < 9218868437227405312)
    (h : mag * 2 ^ (place + 1074).toNat = V r * 2 ^ (-1074 - place).toNat) : double.nearest s mag place = wd s r := by
  unfold Format.nearest
  by_cases hm : mag = 0
  · rw [if_pos hm]
    rw [hm, Nat.zero_mul] at h
    have hv : V r = 0 := by
      have := Nat.two_pow_pos (-1074 - place).toNat
      rcases Nat.eq_zero_or_pos (V r) with h1 | h1
      · exact h1
      · have := Nat.mul_pos h1 this; omega
    have : r = 0 := by
      rcases Nat.eq_zero_or_pos r with h1 | h1
      · exact h1
      · have := V_pos h1; omega
    rw [this, d_word]
  · rw [if_neg hm]
    simp only [d_least, d_frac, d_binade, d_inf, d_word]
    have hr0 : r ≠ 0 := by
      intro e; rw [e, V_zero, Nat.zero_mul] at h
      have := Nat.mul_pos (Nat.pos_of_ne_zero hm) (Nat.two_pow_pos (place + 1074).toNat); omega
    have hman := man_pos (Nat.pos_of_ne_zero hr0)
    unfold V at h
    rw [Nat.mul_assoc, ← Nat.pow_add] at h
    have hl := congrArg Nat.log2 h
    rw [log2_mul_pow _ _ hm, log2_mul_pow _ _ (by omega)] at hl
    -- the place of the last digit
    have hlast : max (place + (mag.log2 : Int) - (52 : Nat)) (-1074) = -1074 + (ex r : Int) := by
      by_cases hn : 4503599627370496 ≤ r
      · rw [man_log2 hn] at hl; omega
      · have h1 : (man r).log2 ≤ 51 := by
          have : man r < 2 ^ 52 := by unfold man; rw [if_pos (by omega)]; omega
          have := (Nat.log2_lt (by omega)).2 this
          omega
        have h2 : ex r = 0 := by unfold ex; rw [if_pos (by omega)]
        rw [h2] at hl ⊢; omega
    rw [hlast]
    have hk : Toward.even.cut s (mag <<< (place - (-1074 + (ex r : Int))).toNat) ((-1074 + (ex r : Int)) - place).toNat = man r := by
      have : mag <<< (place - (-1074 + (ex r : Int))).toNat = man r <<< ((-1074 + (ex r : Int)) - place).toNat := by
        rw [Nat.shiftLeft_eq, Nat.shiftLeft_eq]
        rcases Int.le_total place (-1074 + (ex r : Int)) with hp | hp
        · have e1 : (place - (-1074 + (ex r : Int))).toNat = 0 := by omega
          rw [e1]
          -- multiply both sides
          have hpos := Nat.two_pow_pos (place + 1074).toNat
          apply Nat.eq_of_mul_eq_mul_right hpos
          rw [Nat.pow_zero, Nat.mul_one, h, Nat.mul_assoc, ← Nat.pow_add]
          congr 2; omega
        · have e1 : ((-1074 + (ex r : Int)) - place).toNat = 0 := by omega
          rw [e1]
          have e2 : (-1074 - place).toNat = 0 := by omega
          have e3 : (place + 1074).toNat = (place - (-1074 + (ex r : Int))).toNat + ex r := by omega
          rw [e2, e3, Nat.add_zero, Nat.pow_add, ← Nat.mul_assoc] at h
          have := Nat.eq_of_mul_eq_mul_right (Nat.two_pow_pos (ex r)) h
          rw [this, Nat.pow_zero, Nat.mul_one]
      rw [this, cut_exact]
    rw [hk]
    have e4 : ((-1074 + (ex r : Int)) - -1074).toNat = ex r := by omega
    rw [e4]
    have : ex r * 4503599627370496 + man r = r := by
      unfold ex man
      split
      · rw [Nat.zero_mul, Nat.zero_add]
      · omega
    rw [this]
    exact congrArg (wd s) (Nat.min_eq_left (Nat.le_of_lt hr))

/-- what a finite word is worth, with its sign, in units of the least place -/
def SV (w : Nat) : Int := if sgn w then -(V (rung w) : Int) else (V (rung w) : Int)

theorem signed_scale (s : Bool) (m up c : Nat) : signed s m up * (2 ^ c : Nat) = if s then -((m * 2 ^ (up + c) : Nat) : Int) else ((m * 2 ^ (up + c) : Nat) : Int) := by
  unfold signed
  rw [Nat.shiftLeft_eq, Nat.pow_add, ← Nat.mul_assoc]
  cases s
  · simp [Int.natCast_mul]
  · simp [Int.natCast_mul, Int.neg_mul]

theorem signed_SV {w : Nat} {c : Nat} (hc : c ≤ ex (rung w)) : signed (sgn w) (man (rung w)) (ex (rung w) - c) * (2 ^ c : Nat) = SV w := by
  rw [signed_scale, Nat.sub_add_cancel hc]; rfl

theorem compare_scale (a b : Int) (k : Nat) (hk : 0 < k) : compare (a * k) (b * k) = compare a b := by
  have hk' : (0 : Int) < (k : Int) := by omega
  have h1 : (a * k < b * k) ↔ a < b := ⟨fun h => Int.lt_of_mul_lt_mul_right h (Int.le_of_lt hk'), fun h => Int.mul_lt_mul_of_pos_right h hk'⟩
  have h2 : (a * k = b * k) ↔ a = b := ⟨fun h => Int.eq_of_mul_eq_mul_right (by omega) h, fun h => by rw [h]⟩
  simp only [compare, compareOfLessAndEq, h1, h2]

theorem order_fin {x y : Nat} (hx : fin x = true) (hy : fin y = true) : double.order x y = some (compare (SV x) (SV y)) := by
  unfold Format.order
  rw [read_fin hx, read_fin hy]
  simp only [Datum.order]
  generalize hc : min (ex (rung x)) (ex (rung y)) = c
  have h1 : (-1074 + (ex (rung x) : Int) - min (-1074 + (ex (rung x) : Int)) (-1074 + (ex (rung y) : Int))).toNat = ex (rung x) - c := by omega
  have h2 : (-1074 + (ex (rung y) : Int) - min (-1074 + (ex (rung x) : Int)) (-1074 + (ex (rung y) : Int))).toNat = ex (rung y) - c := by omega
  rw [h1, h2, ← compare_scale _ _ (2 ^ c) (Nat.two_pow_pos c), signed_SV (by omega), signed_SV (by omega)]

theorem natAbs_scale (a : Int) (k : Nat) : (a * (k : Int)).natAbs = a.natAbs * k := by
  rw [Int.natAbs_mul]; rfl

/-- the sign of a sum -/
def sumSgn (s t : Bool) (total : Int) : Bool := if total = 0 then s && t else decide (total < 0)

theorem sum_exact (s t : Bool) (m n a b : Nat) (r : Nat) (hr : r < 9218868437227405312)
    (h : ((if s then -((m * 2 ^ a : Nat) : Int) else ((m * 2 ^ a : Nat) : Int)) + (if t then -((n * 2 ^ b : Nat) : Int) else ((n * 2 ^ b : Nat) : Int))).natAbs = V r) :
    ((Datum.number s m (-1074 + (a : Int))).sum (.number t n (-1074 + (b : Int)))).map double.write =
      some (wd (sumSgn s t ((if s then -((m * 2 ^ a : Nat) : Int) else ((m * 2 ^ a : Nat) : Int)) + (if t then -((n * 2 ^ b : Nat) : Int) else ((n * 2 ^ b : Nat) : Int)))) r) := by
  simp only [Datum.sum, Option.map_some]
  generalize hc : min a b = c
  have h1 : (-1074 + (a : Int) - min (-1074 + (a : Int)) (-1074 + (b : Int))).toNat = a - c := by omega
  have h2 : (-1074 + (b : Int) - min (-1074 + (a : Int)) (-1074 + (b : Int))).toNat = b - c := by omega
  have h3 : min (-1074 + (a : Int)) (-1074 + (b : Int)) = -1074 + (c : Int) := by omega
  rw [h1, h2, h3]
  have ea := signed_scale s m (a - c) c
  have eb := signed_scale t n (b - c) c
  rw [Nat.sub_add_cancel (by omega)] at ea eb
  rw [← ea, ← eb, ← Int.add_mul] at h ⊢
  generalize signed s m (a - c) + signed t n (b - c) = total at *
  have hp : (0 : Int) < (2 ^ c : Nat) := by have := Nat.two_pow_pos c; omega
  have z : total * (2 ^ c : Nat) = 0 ↔ total = 0 := by
    constructor
    · intro e; rcases Int.mul_eq_zero.1 e with e | e
      · exact e
      · omega
    · intro e; rw [e, Int.zero_mul]
  have n : total * (2 ^ c : Nat) < 0 ↔ total < 0 := by
    constructor
    · intro e; rcases Int.lt_or_le total 0 with e1 | e1
      · exact e1
      · have := Int.mul_nonneg e1 (Int.le_of_lt hp); omega
    · intro e; exact Int.mul_neg_of_neg_of_pos e hp
  rw [natAbs_scale] at h
  have hs : (if total = 0 then s && t else decide (total < 0)) = sumSgn s t (total * (2 ^ c : Nat)) := by
    unfold sumSgn
    simp only [z, n]
  rw [← hs]
  simp only [Format.write]
  congr 1
  apply nearest_exact _ _ _ _ hr
  have e1 : (-1074 + (c : Int) + 1074).toNat = c := by omega
  have e2 : (-1074 - (-1074 + (c : Int))).toNat = 0 := by omega
  rw [e1, e2, h, Nat.pow_zero, Nat.mul_one]

theorem add_exact {x y r : Nat} (hx : fin x = true) (hy : fin y = true) (hr : r < 9218868437227405312) (h : (SV x + SV y).natAbs = V r) :
    double.add x y = some (wd (sumSgn (sgn x) (sgn y) (SV x + SV y)) r) := by
  unfold Format.add
  rw [read_fin hx, read_fin hy]
  exact sum_exact _ _ _ _ _ _ r hr h

theorem neg_ite (t : Bool) (n : Int) : (if (!t) = true then -n else n) = -(if t = true then -n else n) := by cases t <;> simp

theorem sub_exact {x y r : Nat} (hx : fin x = true) (hy : fin y = true) (hr : r < 9218868437227405312) (h : (SV x - SV y).natAbs = V r) :
    double.sub x y = some (wd (sumSgn (sgn x) (!sgn y) (SV x - SV y)) r) := by
  unfold Format.sub
  rw [read_fin hx, read_fin hy]
  simp only [Datum.opposite]
  have := sum_exact (sgn x) (!sgn y) (man (rung x)) (man (rung y)) (ex (rung x)) (ex (rung y)) r hr
  rw [neg_ite] at this
  exact this h

/-- 1, in units of the least place -/
def PL : Nat := 1074
theorem PL_eq : PL = 1074 := rfl
def U : Nat := 2 ^ PL
theorem U_pos : 0 < U := Nat.two_pow_pos _
theorem U_split (a : Nat) (h : a ≤ 1074) : U = 2 ^ (1074 - a) * 2 ^ a := by
  unfold U; rw [← Nat.pow_add, PL_eq]; congr 1; omega
theorem U_up (a : Nat) (h : 1074 ≤ a) : (2 : Nat) ^ a = 2 ^ (a - 1074) * U := by
  unfold U; rw [← Nat.pow_add, PL_eq]; congr 1; omega

theorem mul_exact {x y r : Nat} (hx : fin x = true) (hy : fin y = true) (hr : r < 9218868437227405312) (h : V (rung x) * V (rung y) = V r * U) :
    double.mul x y = some (wd (sgn x ^^ sgn y) r) := by
  unfold Format.mul
  rw [read_fin hx, read_fin hy]
  simp only [Datum.product, Option.map_some, Format.write]
  congr 1
  apply nearest_exact _ _ _ _ hr
  unfold V at h
  rw [Nat.mul_mul_mul_comm, ← Nat.pow_add] at h
  generalize ex (rung x) = a at *
  generalize ex (rung y) = b at *
  generalize man (rung x) * man (rung y) = m at *
  unfold V
  generalize man r * 2 ^ ex r = v at *
  by_cases hab : 1074 ≤ a + b
  · have e1 : (-1074 + (a : Int) + (-1074 + (b : Int)) + 1074).toNat = a + b - 1074 := by omega
    have e2 : (-1074 - (-1074 + (a : Int) + (-1074 + (b : Int)))).toNat = 0 := by omega
    rw [e1, e2, Nat.pow_zero, Nat.mul_one]
    rw [U_up _ hab, ← Nat.mul_assoc] at h
    exact Nat.eq_of_mul_eq_mul_right U_pos h
  · have e1 : (-1074 + (a : Int) + (-1074 + (b : Int)) + 1074).toNat = 0 := by omega
    have e2 : (-1074 - (-1074 + (a : Int) + (-1074 + (b : Int)))).toNat = 1074 - (a + b) := by omega
    rw [e1, e2, Nat.pow_zero, Nat.mul_one]
    rw [U_split (a + b) (by omega), ← Nat.mul_assoc] at h
    exact Nat.eq_of_mul_eq_mul_right (Nat.two_pow_pos (a + b)) h

/-- which numbers there are words for -/
theorem rep (e : Nat) : ∀ m : Nat, m < 9007199254740992 → e ≤ 2045 → ∃ r, r < 9218868437227405312 ∧ V r = m * 2 ^ e := by
  induction e with
  | zero =>
    intro m hm _
    refine ⟨m, by omega, ?_⟩
    unfold V man ex
    by_cases h : m < 4503599627370496
    · simp [h]
    · rw [if_neg h, if_neg h]
      have h1 : m / 4503599627370496 - 1 = 0 := by omega
      have h2 : 4503599627370496 + m % 4503599627370496 = m := by omega
      rw [h1, h2]
  | succ e ih =>
    intro m hm he
    by_cases h : m < 4503599627370496
    · obtain ⟨r, hr, hv⟩ := ih (2 * m) (by omega) (by omega)
      refine ⟨r, hr, ?_⟩
      rw [hv, Nat.pow_succ, Nat.mul_comm 2 m, Nat.mul_assoc, Nat.mul_comm 2]
    · refine ⟨(e + 2) * 4503599627370496 + (m - 4503599627370496), by omega, ?_⟩
      unfold V man ex
      rw [if_neg (by omega), if_neg (by omega)]
      have h1 : ((e + 2) * 4503599627370496 + (m - 4503599627370496)) % 4503599627370496 = m - 4503599627370496 := by omega
      have h2 : ((e + 2) * 4503599627370496 + (m - 4503599627370496)) / 4503599627370496 = e + 2 := by omega
      rw [h1, h2, show 4503599627370496 + (m - 4503599627370496) = m by omega, show e + 2 - 1 = e + 1 by omega]

/-- cutting towards nought -/
theorem cut_zero (s : Bool) (n d : Nat) : Toward.zero.cut s n d = n / 2 ^ d := by
  unfold Toward.cut
  simp only [Bool.toNat_false, Nat.add_zero, Nat.shiftLeft_eq, Nat.one_mul]
  rcases Nat.le_total d (n.log2 + 2) with h | h
  · rw [Nat.min_eq_left h]
  · rw [Nat.min_eq_right h]
    have h1 : n < 2 ^ (n.log2 + 1) := Nat.lt_log2_self
    have h2 : 2 ^ (n.log2 + 1) ≤ 2 ^ (n.log2 + 2) := Nat.pow_le_pow_right (by decide) (by omega)
    have h3 : 2 ^ (n.log2 + 2) ≤ 2 ^ d := Nat.pow_le_pow_right (by decide) h
    rw [Nat.div_eq_of_lt (by omega), Nat.div_eq_of_lt (by omega)]

theorem whole_of (m a : Nat) : m <<< (-1074 + (a : Int)).toNat / 2 ^ (-(-1074 + (a : Int))).toNat = m * 2 ^ a / U := by
  rw [Nat.shiftLeft_eq]
  by_cases h : 1074 ≤ a
  · have e1 : (-1074 + (a : Int)).toNat = a - 1074 := by omega
    have e2 : (-(-1074 + (a : Int))).toNat = 0 := by omega
    rw [e1, e2, U_up a h, Nat.pow_zero, Nat.div_one, ← Nat.mul_assoc, Nat.mul_div_cancel _ U_pos]
  · have e1 : (-1074 + (a : Int)).toNat = 0 := by omega
    have e2 : (-(-1074 + (a : Int))).toNat = 1074 - a := by omega
    rw [e1, e2, U_split a (by omega), Nat.pow_zero, Nat.mul_one, Nat.mul_div_mul_right _ _ (Nat.two_pow_pos a)]

/-- a finite word cut off to a whole number -/
theorem integral_fin {w : Nat} (h : fin w = true) : (double.read w).integral .zero = .number (sgn w) (V (rung w) / U) 0 := by
  rw [read_fin h]
  simp only [Datum.integral, cut_zero, whole_of]
  rfl

theorem toInt_fin {w : Nat} (h : fin w = true) : (double.read w).toInt .zero = some (if sgn w then -((V (rung w) / U : Nat) : Int) else ((V (rung w) / U : Nat) : Int)) := by
  unfold Datum.toInt
  rw [integral_fin h]
  simp [signed]

/-- a whole number that there is a word for -/
theorem write_whole (s : Bool) (K r : Nat) (hr : r < 9218868437227405312) (h : V r = K * U) : double.write (.number s K 0) = wd s r := by
  simp only [Format.write]
  apply nearest_exact _ _ _ _ hr
  have e1 : ((0 : Int) + 1074).toNat = PL := rfl
  have e2 : (-1074 - (0 : Int)).toNat = 0 := rfl
  rw [h, e1, e2, Nat.pow_zero, Nat.mul_one]; rfl

/-- the whole part of a word has a word -/
theorem whole_rep {r : Nat} (h : r < 9218868437227405312) : ∃ t, t < 9218868437227405312 ∧ V t = V r / U * U := by
  by_cases ha : 1074 ≤ ex r
  · refine ⟨r, h, ?_⟩
    have : V r = man r * 2 ^ (ex r - 1074) * U := by
      unfold V; rw [U_up _ ha, Nat.mul_assoc]
    rw [this, Nat.mul_div_cancel _ U_pos]
  · have hk : V r / U < 9007199254740992 := by
      have h1 := man_lt r
      have : V r < 9007199254740992 * U := by
        unfold V U
        exact Nat.mul_lt_mul_of_lt_of_le h1 (Nat.pow_le_pow_right (by decide) (by rw [PL_eq]; omega)) (Nat.two_pow_pos _)
      exact (Nat.div_lt_iff_lt_mul U_pos).2 this
    obtain ⟨t, ht, hv⟩ := rep PL _ hk (by rw [PL_eq]; omega)
    exact ⟨t, ht, hv⟩
end F64
namespace F64
open Ieee Go Go.RowKit

abbrev O (x y : Nat) := FloatKind.f64.format.order x y
theorem O_eq (x y : Nat) : FloatKind.f64.format.order x y = double.order x y := rfl

theorem sgn_small {x : Nat} (h : x < 9223372036854775808) : sgn x = false := by unfold sgn; rw [beq_eq_false_iff_ne]; omega
theorem rung_small {x : Nat} (h : x < 9223372036854775808) : rung x = x := Nat.mod_eq_of_lt h
theorem fin_small {x : Nat} (h : x < 9218868437227405312) : fin x = true := by
  unfold fin; rw [rung_small (by omega)]; exact decide_eq_true h
theorem SV_small {x : Nat} (h : x < 9223372036854775808) : SV x = (V x : Int) := by
  unfold SV; rw [sgn_small h, rung_small h]; rfl

theorem order_small {x y : Nat} (hx : x < 9218868437227405312) (hy : y < 9218868437227405312) : double.order x y = some (compare x y) := by
  rw [order_fin (fin_small hx) (fin_small hy), SV_small (by omega), SV_small (by omega)]
  congr 1
  have h1 : ((V x : Int) < (V y : Int)) ↔ x < y := by rw [Int.ofNat_lt]; exact V_lt_iff
  have h2 : ((V x : Int) = (V y : Int)) ↔ x = y := by
    constructor
    · intro h; exact V_inj (Int.ofNat_inj.1 h)
    · intro h; rw [h]
  simp only [compare, compareOfLessAndEq, h1, h2]

theorem cmp_lt (x y : Nat) : (some (compare x y) == some Ordering.lt) = decide (x < y) := by
  simp only [compare, compareOfLessAndEq]
  by_cases h : x < y
  · simp [h]
  · by_cases h2 : x = y
    · simp [h2]
    · simp [h, h2]
theorem cmp_gt (x y : Nat) : (some (compare x y) == some Ordering.gt) = decide (y < x) := by
  simp only [compare, compareOfLessAndEq]
  by_cases h : x < y
  · simp [h]; omega
  · by_cases h2 : x = y
    · simp [h2]
    · simp [h, h2]; omega
theorem cmp_eq (x y : Nat) : (some (compare x y) == some Ordering.eq) = decide (x = y) := by
  simp only [compare, compareOfLessAndEq]
  by_cases h : x < y
  · simp [h]; omega
  · by_cases h2 : x = y
    · simp [h2]
    · simp [h, h2]

theorem ord_lt {x y : Nat} (hx : x < 9218868437227405312) (hy : y < 9218868437227405312) : (FloatKind.f64.format.order x y == some Ordering.lt) = decide (x < y) := by
  rw [O_eq, order_small hx hy, cmp_lt]
theorem ord_gt {x y : Nat} (hx : x < 9218868437227405312) (hy : y < 9218868437227405312) : (FloatKind.f64.format.order x y == some Ordering.gt) = decide (y < x) := by
  rw [O_eq, order_small hx hy, cmp_gt]
theorem ord_eq {x y : Nat} (hx : x < 9218868437227405312) (hy : y < 9218868437227405312) : (FloatKind.f64.format.order x y == some Ordering.eq) = decide (x = y) := by
  rw [O_eq, order_small hx hy, cmp_eq]

/-- a NaN is told by x != x -/
theorem ord_self (x : Nat) : (FloatKind.f64.format.order x x != some Ordering.eq) = isNaN x := by
  rw [O_eq]
  by_cases h : isNaN x = true
  · obtain ⟨f, hf⟩ := read_nan h
    unfold Format.order; rw [hf, h]; rfl
  · have h' : ¬ 9218868437227405312 < rung x := by simpa [isNaN] using h
    have hn : isNaN x = false := by simpa using h
    rw [hn]
    rcases Nat.lt_or_ge (rung x) 9218868437227405312 with h1 | h1
    · rw [order_fin (decide_eq_true h1) (decide_eq_true h1)]
      simp [compare, compareOfLessAndEq]
    · have h2 : rung x = 9218868437227405312 := by omega
      unfold Format.order; rw [read_inf h2]
      simp [Datum.order, compare, compareOfLessAndEq]

/-- infinity is told by x > MaxFloat64 -/
theorem ord_max {x : Nat} (hx : x < 18446744073709551616) : (FloatKind.f64.format.order x 9218868437227405311 == some Ordering.gt) = decide (x = 9218868437227405312) := by
  rw [O_eq]
  by_cases h : isNaN x = true
  · obtain ⟨f, hf⟩ := read_nan h
    have h' : 9218868437227405312 < rung x := of_decide_eq_true h
    have : x ≠ 9218868437227405312 := by intro e; subst e; simp [rung] at h'
    unfold Format.order; rw [hf]; simp [Datum.order, this]
  · have h' : ¬ 9218868437227405312 < rung x := by simpa [isNaN] using h
    rcases Nat.lt_or_ge (rung x) 9218868437227405312 with h1 | h1
    · have h3 : x ≠ 9218868437227405312 := by intro e; subst e; simp [rung] at h1
      rw [order_fin (decide_eq_true h1) (fin_small (by decide)), SV_small (x := 9218868437227405311) (by decide)]
      have h4 : SV x ≤ (V 9218868437227405311 : Int) := by
        have := V_le (show rung x ≤ 9218868437227405311 by omega)
        unfold SV; split <;> omega
      have h5 : ¬ (V 9218868437227405311 : Int) < SV x := by omega
      rw [decide_eq_false h3]
      simp only [compare, compareOfLessAndEq]
      by_cases h6 : SV x < (V 9218868437227405311 : Int)
      · simp [h6]
      · have : SV x = (V 9218868437227405311 : Int) := by omega
        simp [this]
    · have h2 : rung x = 9218868437227405312 := by omega
      have hr : double.read 9218868437227405311 = .number false (man 9218868437227405311) (-1074 + (ex 9218868437227405311 : Int)) := by
        have := read_fin (w := 9218868437227405311) (fin_small (by decide))
        rw [sgn_small (by decide), rung_small (by decide)] at this
        exact this
      unfold Format.order; rw [read_inf h2, hr]
      have hp := wd_parts x hx
      rw [h2] at hp
      cases hs : sgn x
      · rw [hs] at hp
        have : x = 9218868437227405312 := hp.symm
        simp [Datum.order, this]
      · rw [hs] at hp
        have : x ≠ 9218868437227405312 := by rw [← hp]; decide
        simp [Datum.order, this]

/- bits -/
theorem b_abs {x : Nat} (hx : x < 18446744073709551616) : (bits BinOp.andNot IntKind.u64 (x : Int) 9223372036854775808) = (rung x : Int) := by
  rw [show (9223372036854775808 : Int) = ((9223372036854775808 : Nat) : Int) from rfl, u64_andNot_nat _ _ hx (by decide)]
  rw [show 18446744073709551615 - 9223372036854775808 = 2 ^ 63 - 1 from rfl, Nat.and_two_pow_sub_one_eq_mod]; rfl
theorem b_sgn {x : Nat} (hx : x < 18446744073709551616) : (bits BinOp.and IntKind.u64 (x : Int) 9223372036854775808) = ((wd (sgn x) 0 : Nat) : Int) := by
  rw [show (9223372036854775808 : Int) = ((9223372036854775808 : Nat) : Int) from rfl, u64_and_nat _ _ hx (by decide)]
  rw [show (9223372036854775808 : Nat) = 2 ^ 63 from rfl, nat_bit]
  congr 1
  unfold wd sgn
  have : x / 9223372036854775808 % 2 = 0 ∨ x / 9223372036854775808 % 2 = 1 := by omega
  rcases this with h | h <;> simp [h]
theorem b_join {x : Nat} (s : Bool) (hx : x < 9223372036854775808) : (bits BinOp.or IntKind.u64 (x : Int) ((wd s 0 : Nat) : Int)) = ((wd s x : Nat) : Int) := by
  rw [u64_or_nat _ _ (by omega) (wd_lt _ _ (by decide))]
  congr 1
  cases s
  · simp [wd]
  · rw [Nat.or_comm]
    unfold wd
    simp only [if_true, Nat.add_zero]
    rw [nat_join 63 _ _ (by decide) (by omega)]
theorem w64_neg {x : Nat} (hx : x < 18446744073709551616) : decide (wrap64 (x : Int) < 0) = sgn x := by
  unfold wrap64 sgn
  rw [Bool.eq_iff_iff, decide_eq_true_iff, beq_iff_eq]
  by_cases h : x < 9223372036854775808
  · constructor <;> intro _ <;> omega
  · constructor <;> intro _ <;> omega
theorem b_neg {x : Nat} (hx : x < 18446744073709551616) : x ^^^ 9223372036854775808 = wd (!sgn x) (rung x) := by
  have hp := wd_parts x hx
  have hl := rung_lt x
  generalize rung x = r at *
  have hx1 : r ^^^ 9223372036854775808 = 9223372036854775808 + r := by
    have h1 : r &&& 9223372036854775808 = 0 := by
      rw [show (9223372036854775808 : Nat) = 2 ^ 63 from rfl, nat_bit, Nat.div_eq_of_lt (by omega)]
    rw [Nat.xor_comm]
    have h2 := nat_join 63 9223372036854775808 r (by decide) (by omega)
    rw [← h2]
    apply Nat.eq_of_testBit_eq
    intro i
    have h3 := congrArg (Nat.testBit · i) h1
    simp only [Nat.testBit_and, Nat.zero_testBit] at h3
    rw [Nat.testBit_xor, Nat.testBit_or]
    cases ha : r.testBit i <;> cases hb : (9223372036854775808 : Nat).testBit i <;> simp_all
  cases hs : sgn x
  · rw [hs] at hp
    have : x = r := hp.symm
    rw [this, hx1]; rfl
  · rw [hs] at hp
    have : x = 9223372036854775808 + r := hp.symm
    rw [this, ← hx1, Nat.xor_assoc, Nat.xor_self, Nat.xor_zero]; rfl
end F64
namespace Go.Proofs.YtkbohoolnpaleaaGreatDoor
open Go.RowKit F64 Ieee
set_option maxHeartbeats 1000000
set_option maxRecDepth 100000

theorem wordOf_V (i k : Nat) (hk : 1 ≤ k) (hk2 : k ≤ 32) (hi : i < 2 ^ k) (hi0 : 2 ^ (k - 1) ≤ i) : wordOf i k < 9218868437227405312 ∧ 0 < wordOf i k ∧ V (wordOf i k) = i * U := by
  have hF : 4503599627370496 ≤ i * 2 ^ (53 - k) ∧ i * 2 ^ (53 - k) < 9007199254740992 := by
    have e1 : (2 : Nat) ^ 53 = 2 ^ k * 2 ^ (53 - k) := by rw [← Nat.pow_add]; congr 1; omega
    have e2 : (2 : Nat) ^ 52 = 2 ^ (k - 1) * 2 ^ (53 - k) := by rw [← Nat.pow_add]; congr 1; omega
    have h1 : i * 2 ^ (53 - k) < 2 ^ k * 2 ^ (53 - k) := Nat.mul_lt_mul_of_pos_right hi (Nat.two_pow_pos _)
    have h2 : 2 ^ (k - 1) * 2 ^ (53 - k) ≤ i * 2 ^ (53 - k) := Nat.mul_le_mul_right _ hi0
    have e3 : (2 : Nat) ^ 53 = 9007199254740992 := by decide
    have e4 : (2 : Nat) ^ 52 = 4503599627370496 := by decide
    omega
  obtain ⟨h1, h2⟩ := hF
  have hU : i * U = i * 2 ^ (53 - k) * 2 ^ (1021 + k) := by
    unfold U
    rw [PL_eq, Nat.mul_assoc, ← Nat.pow_add]
    congr 2; omega
  rw [hU]
  unfold wordOf
  generalize i * 2 ^ (53 - k) = M at *
  refine ⟨by omega, by omega, ?_⟩
  have hm : man ((1022 + k) * 4503599627370496 + (M - 4503599627370496)) = M := by
    unfold man
    rw [if_neg (by omega)]; omega
  have he : ex ((1022 + k) * 4503599627370496 + (M - 4503599627370496)) = 1021 + k := by
    unfold ex
    rw [if_neg (by omega)]; omega
  unfold V
  rw [hm, he]
theorem float_of (i k : Nat) (hk : 1 ≤ k) (hk2 : k ≤ 32) (hi : i < 2 ^ k) (hi0 : 2 ^ (k - 1) ≤ i) : floatOfInt .f64 (i : Int) = wordOf i k := by
  obtain ⟨h1, h2, h3⟩ := wordOf_V i k hk hk2 hi hi0
  have := write_whole false i (wordOf i k) h1 h3
  have e : floatOfInt .f64 (i : Int) = double.write (.number (decide ((i : Int) < 0)) (i : Int).natAbs 0) := rfl
  rw [e]
  have e2 : decide ((i : Int) < 0) = false := by simp
  have e3 : (i : Int).natAbs = i := by simp
  rw [e2, e3, this]
  rfl
theorem c_Abs (x : Nat) (hx : x < 18446744073709551616) (w : World) :
    Calls Tryz.prog 71 #[.float .f64 x] w fun e w' => e = .returned (.float .f64 (rung x)) ∧ w = w' := by
  have r1 : ∀ w, (callFunc 58 #[.float .f64 x]).run Tryz.prog w = .ok (.value (.int .u64 x)) w := fun w => by kernel_rfl
  have r2 : ∀ (x : Int) (w : World), (callFunc 73 #[.int .u64 x]).run Tryz.prog w = .ok (.value (.float .f64 x.toNat)) w := fun x w => by kernel_rfl
  go_enter Tryz.func71, Tryz.ntmps71
  go_wp2
  go_ret
  exact ⟨by rw [b_abs hx]; rfl, rfl⟩
theorem c_IsInf1 (x : Nat) (hx : x < 9218868437227405312) (w : World) :
    Calls Tryz.prog 53 #[.float .f64 x, .int .i64 1] w fun r w' => r = .returned (.bool false) ∧ w = w' := by
  have h := ord_max (x := x) (by omega)
  have h2 : decide (x = 9218868437227405312) = false := by simp; omega
  rw [h2] at h
  clear h2
  go_enter Tryz.func53, Tryz.ntmps53
  go_wp2
  go_ret
  exact ⟨rfl, rfl⟩
theorem u8s_app (a b : List Nat) : u8s a ++ u8s b = u8s (a ++ b) := by
  unfold u8s
  apply ByteArray.ext
  simp
theorem c_zeros (n : Nat) (hn : n ≤ 1000) (w : World) :
    Calls Tryz.prog 56 #[.int .i64 (n : Int)] w fun r w' => r = .returned (.string (u8s (List.replicate n 48))) ∧ w = w' := by
  have hs : ∀ j, u8s (List.replicate j 48) ++ ⟨#[48]⟩ = u8s (List.replicate (j + 1) 48) := fun j => by
    rw [List.replicate_succ', ← u8s_app]; rfl
  replace hs := Lib.hid hs
  have hsz : ∀ j, (u8s (List.replicate j 48)).size = j := fun j => by simp [u8s, ByteArray.size]
  replace hsz := Lib.hid hsz
  go_enter Tryz.func56, Tryz.ntmps56
  go_wp2
  go_loop [3, 4] (fun vs vi => ∃ j : Nat, j ≤ n ∧ vs = .string (u8s (List.replicate j 48)) ∧ vi = .int .i64 (j : Int)) (fun _ vi => n - (intOf vi).toNat)
  case atStart => exact ⟨0, by omega, rfl, rfl⟩
  case round =>
    obtain ⟨j, hj, rfl, rfl⟩ := hrel
    have h1 := Lib.hid (hs.out j)
    have h2 : (u8s (List.replicate j 48)).size ≤ 1000 := by rw [hsz.out]; omega
    by_cases hlt : j < n
    · generalize u8s (List.replicate j 48) = T at *
      have h3 : ¬ 9223372036854775807 < T.size + 1 := by omega
      clear h2
      go_wp2
      exact ⟨⟨j + 1, by omega, by rw [h1.out], by go_num⟩, by simp [intOf]; omega⟩
    · obtain rfl : j = n := by omega
      clear h1 h2
      go_wp2
      go_ret
      exact ⟨rfl, rfl⟩
/-- bytes ahead of the exponent -/
def sciA (m v : Nat) : List Nat := if m = 1 then dg m v else (dg m v).take 1 ++ [46] ++ (dg m v).drop 1
theorem sciB_eq (m v e : Nat) : sciB m v e = sciA m v ++ [101, 43, 48, e + 48] := by
  unfold sciB sciA; split <;> simp
theorem dg_dig (m v : Nat) : ∀ x ∈ dg m v, 48 ≤ x ∧ x ≤ 57 := by
  intro x hx
  obtain ⟨y, hy, rfl⟩ := List.mem_map.1 hx
  have := fw_lt m v y hy
  omega
theorem sciA_mem (m v : Nat) : ∀ x ∈ sciA m v, x = 46 ∨ 48 ≤ x ∧ x ≤ 57 := by
  intro x hx
  unfold sciA at hx
  split at hx
  · exact .inr (dg_dig m v x hx)
  · simp only [List.mem_append, List.mem_cons, List.not_mem_nil, or_false] at hx
    rcases hx with (h | h) | h
    · exact .inr (dg_dig m v x (List.mem_of_mem_take h))
    · exact .inl h
    · exact .inr (dg_dig m v x (List.mem_of_mem_drop h))
def noDot (l : List Nat) : List Nat := l.filter fun x => !(x == 46)
theorem noDot_dig {l : List Nat} (h : ∀ x ∈ l, 48 ≤ x ∧ x ≤ 57) : noDot l = l := by
  unfold noDot
  rw [List.filter_eq_self]
  intro x hx
  have := h x hx
  simp; omega
theorem noDot_A (m v : Nat) : noDot (sciA m v) = dg m v := by
  unfold sciA
  split
  · exact noDot_dig (dg_dig m v)
  · have e : ∀ a b : List Nat, noDot (a ++ b) = noDot a ++ noDot b := fun a b => List.filter_append ..
    rw [e, e, noDot_dig fun x hx => dg_dig m v x (List.mem_of_mem_take hx), noDot_dig fun x hx => dg_dig m v x (List.mem_of_mem_drop hx)]
    show (List.take 1 (dg m v) ++ []) ++ _ = _
    rw [List.append_nil, List.take_append_drop]
theorem noDot_snoc (A : List Nat) (j c : Nat) (h : A[j]? = some c) : noDot (A.take (j + 1)) = noDot (A.take j) ++ if c = 46 then [] else [c] := by
  rw [List.take_add_one, h]
  unfold noDot
  rw [List.filter_append]
  by_cases e : c = 46 <;> simp [e]
theorem atoi_one (e : Nat) (he : e < 10) : Lib.atoi (u8s [43, 48, e + 48]).data.toList = some (e : Int) := by
  have all : ∀ j : Fin 10, Lib.atoi (u8s [43, 48, j.val + 48]).data.toList = some (j.val : Int) := by decide +kernel
  exact all ⟨e, he⟩
theorem u8s_size (l : List Nat) : (u8s l).size = l.length := by simp [u8s, ByteArray.size]
theorem u8s_get (l : List Nat) (j c : Nat) (hc : l[j]? = some c) (h256 : c < 256) (h : j < (u8s l).size) : ((u8s l)[j]'h).toNat = c := by
  have hj : j < l.length := by rw [← u8s_size]; exact h
  have e : (u8s l)[j]'h = UInt8.ofNat (l[j]'hj) := by
    have h1 : (u8s l)[j]'h = (u8s l).data[j]'h := rfl
    rw [h1]
    simp [u8s]
  rw [e]
  rw [List.getElem?_eq_getElem hj] at hc
  cases hc
  simp; omega
theorem u8s_extract (a b : List Nat) (n i : Nat) (hn : n = (a ++ b).length) (hi : i = a.length) : (u8s (a ++ b)).extract i n = u8s b := by
  subst hn hi
  apply ByteArray.ext
  simp only [u8s, ByteArray.data_extract]
  simp
  exact List.take_of_length_le (by simp)
theorem enc_dig (c : Nat) (h1 : 48 ≤ c) (h2 : c ≤ 57) : Utf8.encode (c : Int) = u8s [c] := by
  have all : ∀ y : Fin 10, Utf8.encode ((48 + y.val : Nat) : Int) = u8s [48 + y.val] := by decide +kernel
  have := all ⟨c - 48, by omega⟩
  have e : 48 + (c - 48) = c := by omega
  simp only [e] at this
  exact this
theorem c_Plain (i k n : Nat) (hk : 1 ≤ k) (hk2 : k ≤ 32) (hi : i < 2 ^ k) (hi0 : 2 ^ (k - 1) ≤ i) (hn : IsNd i n) (hn10 : n ≤ 10) (w : World) (hT : Pows w) (hP : P10 w) :
    Calls Tryz.prog 39 #[.float .f64 (wordOf i k)] w fun r w' => r = .returned (.string (u8s (dg n i))) ∧ Below w.heap.size w w' := by
  have hFF := Lib.hid (fun w hT hP => c_FormatFloat i k n hk hk2 hi hi0 hn hn10 w hT hP)
  obtain ⟨hx, hx0, -⟩ := wordOf_V i k hk hk2 hi hi0
  generalize wordOf i k = x at *
  have o1 := ord_self x
  have o1' : F64.isNaN x = false := by unfold F64.isNaN; rw [rung_small (by omega)]; simp; omega
  rw [o1'] at o1
  have o2 := ord_eq (x := x) (y := 0) hx (by omega)
  have o2' : decide (x = 0) = false := by simp; omega
  rw [o2'] at o2
  have o3 := ord_lt (x := x) (y := 0) hx (by omega)
  have o3' : decide (x < 0) = false := by simp
  rw [o3'] at o3
  have hI := Lib.hid (c_IsInf1 x hx)
  clear o1' o2' o3' hx hx0 hi hi0
  go_enter Tryz.func39, Tryz.ntmps39
  go_wp2_with (go_at_call 53; refine (hI.out _).mono ?_; rintro e w1 ⟨rfl, rfl⟩)
  refine (hFF.out _ hT hP).mono ?_
  rintro e w2 ⟨m, v, rfl, hm1, hmn, hiv, hv, hb2⟩
  have hA := sciA_mem m v
  have hAd := noDot_A m v
  have hap : (sciA m v).length = if m = 1 then m else m + 1 := by
    unfold sciA
    split
    · exact dg_len m v
    · simp [dg_len]; omega
  have hdl := dg_len m v
  have hfin : dg m v ++ List.replicate (n - m) 48 = dg n i := by
    unfold dg
    have := fw_shift m (n - m) v
    rw [← hiv] at this
    have e : m + (n - m) = n := by omega
    rw [e] at this
    rw [this, List.map_append, List.map_replicate]
  have hAt := atoi_one (n - 1) (by omega)
  rw [sciB_eq]
  have hx1 : ∀ a : List Nat, u8s (a ++ [101, 43, 48, n - 1 + 48]) = u8s ((a ++ [101]) ++ [43, 48, n - 1 + 48]) := fun a => by simp
  have hS := Lib.hid (u8s_extract (sciA m v ++ [101]) [43, 48, n - 1 + 48])
  have hsz : (u8s (sciA m v ++ [101, 43, 48, n - 1 + 48])).size = (sciA m v).length + 4 := by rw [u8s_size]; simp
  have hget : ∀ (j c : Nat), (sciA m v ++ [101, 43, 48, n - 1 + 48])[j]? = some c → c < 256 → ∀ h : j < (u8s (sciA m v ++ [101, 43, 48, n - 1 + 48])).size, ((u8s (sciA m v ++ [101, 43, 48, n - 1 + 48]))[j]'h).toNat = c := fun j c h1 h2 h3 => u8s_get _ j c h1 h2 h3
  have hsn := noDot_snoc (sciA m v)
  replace hiv := Lib.hid hiv
  have hext : (u8s (sciA m v ++ [101, 43, 48, n - 1 + 48])).extract ((sciA m v).length + 1) ((sciA m v).length + 4) = u8s [43, 48, n - 1 + 48] := by
    rw [hx1]
    exact hS.out _ _ (by simp) (by simp)
  clear hx1 hS
  have hZ := Lib.hid (c_zeros (n - m) (by omega))
  have hAa := Lib.hid (fun w => c_Atoi (u8s [43, 48, n - 1 + 48]) ((n - 1 : Nat) : Int) (by rw [u8s_size]; simp) hAt w)
  generalize hSd : u8s (sciA m v ++ [101, 43, 48, n - 1 + 48]) = S at *
  generalize hLd : sciA m v ++ [101, 43, 48, n - 1 + 48] = L at *
  have hLA : ∀ j, j < (sciA m v).length → L[j]? = (sciA m v)[j]? := fun j hj => by rw [← hLd, List.getElem?_append_left hj]
  have hLe : L[(sciA m v).length]? = some 101 := by rw [← hLd, List.getElem?_append_right (Nat.le_refl _)]; simp
  clear hSd hLd hAt
  generalize u8s [43, 48, n - 1 + 48] = E at *
  generalize sciA m v = A at *
  have hpl : A.length ≤ 11 := by rw [hap]; split <;> omega
  replace hget := Lib.hid hget
  replace hsn := Lib.hid hsn
  replace hLA := Lib.hid hLA
  replace hLe := Lib.hid hLe
  replace hA := Lib.hid hA
  replace hAd := Lib.hid hAd
  replace hfin := Lib.hid hfin
  replace hext := Lib.hid hext
  replace hap := Lib.hid hap
  clear hT hP hFF
  have hsz2 : (S.size : Int) = (A.length : Int) + 4 := by omega
  generalize hp : A.length = p at *
  go_wp2
  go_loop [4, 5] (fun vd vj => ∃ j : Nat, j ≤ p ∧ vd = .string (u8s (noDot (A.take j))) ∧ vj = .int .i64 (j : Int)) (fun _ vj => p - (intOf vj).toNat)
  case atStart => exact ⟨0, by omega, rfl, rfl⟩
  case round =>
    obtain ⟨j, hj, rfl, rfl⟩ := hrel
    by_cases hlt : j < p
    · obtain ⟨c, hc⟩ : ∃ c, A[j]? = some c := ⟨A[j]'(by omega), List.getElem?_eq_getElem (by omega)⟩
      have hcm := hA.out c (List.mem_of_getElem? hc)
      have hg := hget.out j c (by rw [hLA.out j hlt]; exact hc) (by omega) (by omega)
      have hstep := Lib.hid (hsn.out j c hc)
      have hjs : j < S.size := by omega
      have n1 : ((c : Int) != 101) = true := by simp; omega
      have hlt' : (j : Int) < (p : Int) := by omega
      have hsz3 : (u8s (noDot (A.take j))).size ≤ 12 := by
        rw [u8s_size]
        have h1 := List.length_filter_le (fun x => !(x == 46)) (A.take j)
        have h2 := List.length_take_le j A
        unfold noDot; omega
      have hjs2 : (j : Int) < (S.size : Int) := by omega
      by_cases h46 : c = 46
      · have n2 : ((c : Int) != 46) = false := by simp; omega
        rw [if_pos h46, List.append_nil] at hstep
        clear hcm hc h46
        replace hsz3 := Lib.hid hsz3
        go_wp2
        exact ⟨⟨j + 1, by omega, by rw [hstep.out], by go_num⟩, by simp [intOf]; omega⟩
      · have n2 : ((c : Int) != 46) = true := by simp; omega
        rw [if_neg h46] at hstep
        have henc : ∀ w, (convert 5 9 (.int .u8 (c : Int))).run Tryz.prog w = .ok (.string (u8s [c])) w := fun w => by
          rw [← enc_dig c (by omega) (by omega)]
          exact run_convert_int_string w 5 9 .u8 c (by kernel_rfl) Tryz.underlying9
        have hstep : u8s (noDot (A.take (j + 1))) = u8s (noDot (A.take j)) ++ u8s [c] := by rw [hstep.out, ← u8s_app]
        replace hstep := Lib.hid hstep
        have hsz4 : (u8s [c]).size = 1 := u8s_size _
        clear hcm hc h46
        generalize u8s (noDot (A.take j)) = D at *
        generalize u8s [c] = C at *
        have h3 : ¬ 9223372036854775807 < D.size + C.size := by omega
        clear hsz4 hsz3
        go_wp2_with fail
        exact ⟨⟨j + 1, by omega, by rw [hstep.out], by go_num⟩, by simp [intOf]; omega⟩
    · obtain rfl : j = p := by omega
      have hg := hget.out j 101 hLe.out (by omega) (by omega)
      have hjs : j < S.size := by omega
      have hjs2 : (j : Int) < (S.size : Int) := by omega
      have hD : u8s (noDot (A.take j)) = u8s (dg m v) := by rw [← hp, List.take_length, hAd.out]
      rw [hD]
      have hDs : ((u8s (dg m v)).size : Int) = (m : Int) := by rw [u8s_size, hdl]
      have hDf : u8s (dg m v) ++ u8s (List.replicate (n - m) 48) = u8s (dg n i) := by rw [u8s_app, hfin.out]
      have hDl : ¬ 9223372036854775807 < (u8s (dg m v)).size + (u8s (List.replicate (n - m) 48)).size := by rw [u8s_size, u8s_size, hdl]; simp; omega
      generalize u8s (dg m v) = D at *
      generalize u8s (List.replicate (n - m) 48) = Z at *
      replace hDf := Lib.hid hDf
      clear hD hget hsn hLA hLe hp
      have hAa2 : Hid (∀ w, Calls Tryz.prog 55 #[.string (S.extract (j + 1) (j + 4))] w fun e w' => e = .returned (.tuple #[.int .i64 ((n - 1 : Nat) : Int), .nilIface]) ∧ Below w.heap.size w w') := by rw [hext.out]; exact hAa
      clear hext hAa
      go_wp2_with fail
      refine (hAa2.out _).mono ?_
      rintro e w3 ⟨rfl, hb3⟩
      have hnn : ((n - 1 : Nat) : Int) + 1 = (n : Int) := by omega
      have hmn' : (m : Int) ≤ (n : Int) := by omega
      have hn21 : (n : Int) ≤ 21 := by omega
      have hsub : (n : Int) - (m : Int) = ((n - m : Nat) : Int) := by omega
      go_wp2_with fail
      refine (hZ.out _).mono ?_
      rintro e w4 ⟨rfl, rfl⟩
      have hb4 : Below w.heap.size w w3 := hb2.trans (hb3.mono hb2.size)
      clear hb3 hb2 hAa2
      go_wp2_with fail
      go_ret
      exact ⟨by rw [hDf.out]; rfl, hb4⟩
theorem c_Plain0 (w : World) : Calls Tryz.prog 39 #[.float .f64 0] w fun r w' => r = .returned (.string (u8s [48])) ∧ w = w' := by
  have o1 := ord_self 0
  have o1' : F64.isNaN 0 = false := by decide +kernel
  rw [o1'] at o1
  have o2 := ord_eq (x := 0) (y := 0) (by omega) (by omega)
  have o2' : decide ((0 : Nat) = 0) = true := rfl
  rw [o2'] at o2
  clear o1' o2'
  go_enter Tryz.func39, Tryz.ntmps39
  go_wp2
  go_ret
  exact ⟨rfl, rfl⟩
end Go.Proofs.YtkbohoolnpaleaaGreatDoor
namespace Go.Proofs.YtkbohoolnpaleaaGreatDoor
open Go.RowKit
set_option maxHeartbeats 2000000
set_option maxRecDepth 100000

theorem sizeBuilder : (Tryz.prog.info? 115).map (·.size) = some 2 := by kernel_rfl
theorem liesBuilder : liesAt Tryz.prog Tryz.prog.depth 115 (2 / Tryz.prog.cellsOf 115) 0 115 1 = true := by kernel_rfl
theorem cellsByte : Tryz.prog.cellsOf 5 = 1 := by kernel_rfl
theorem neB5 : 115 ≠ 5 := by decide
theorem b_copyCheck_used (b : Nat) (w : World) (h0 : w.cell? ⟨b, 0, none⟩ = some (.pointer (some ⟨b, 0, none⟩))) :
    Calls Tryz.prog 93 #[.pointer (some ⟨b, 0, none⟩)] w fun e w' => e = .returned (.tuple #[]) ∧ w' = w := by
  obtain ⟨j, hj, _⟩ := Option.map_eq_some_iff.1 sizeBuilder
  go_enter Tryz.func93, Tryz.ntmps93
  go_wp2
  rw [Lib.run_neq_ptr_same w _ Tryz.underlying112 hj]
  go_wp2
  go_end0
  exact ⟨rfl, rfl⟩
theorem b_copyCheck_fresh (b : Nat) (w : World) (h0 : w.cell? ⟨b, 0, none⟩ = some (.pointer none)) (hsh : w.shape? b = some (115, 2)) (hfz : w.frozen? ⟨b, 0, none⟩ = false) :
    Calls Tryz.prog 93 #[.pointer (some ⟨b, 0, none⟩)] w fun e w' => e = .returned (.tuple #[]) ∧ w' = w.setCell ⟨b, 0, none⟩ (.pointer (some ⟨b, 0, none⟩)) := by
  obtain ⟨j, hj, hjs⟩ := Option.map_eq_some_iff.1 sizeBuilder
  go_enter Tryz.func93, Tryz.ntmps93
  go_wp2
  rw [Lib.run_to_unsafe w ⟨b, 0, none⟩ Tryz.underlying112 Tryz.underlying191 hj (by rw [hjs]; decide) hsh (Nat.zero_lt_succ 1)]
  simp only [Result.andThen]
  rw [Oper.upon_value]
  go_wp2
  rw [run_callFunc_extern Tryz.func115 (by kernel_rfl) (by kernel_rfl) (by kernel_rfl) (e := Extern.AbiNoEscape.same) (by kernel_rfl)]
  rw [Lib.run_noEscape]
  simp only [Result.andThen]
  rw [Oper.upon_value]
  go_wp2
  rw [Lib.run_from_unsafe w ⟨b, 0, none⟩ Tryz.underlying191 Tryz.underlying112 hj hsh liesBuilder]
  simp only [Result.andThen]
  rw [Oper.upon_value]
  go_wp2
  go_end0
  exact ⟨rfl, rfl⟩
theorem b_copyCheck (B b : Nat) (bs : List Value) (w : World) (h : Lib.IsBuilder 115 5 B b bs w) :
    Calls Tryz.prog 93 #[.pointer (some ⟨b, 0, none⟩)] w fun e w' => e = .returned (.tuple #[]) ∧ (Lib.BuilderAt 115 5 B b (.pointer (some ⟨b, 0, none⟩)) bs w' ∧ Below B w w') := by
  rcases h with h | h
  · refine (b_copyCheck_fresh b w h.cell0 h.shape h.frozen0).mono ?_
    rintro e w' ⟨rfl, rfl⟩
    exact ⟨rfl, h.used _, (Below.refl B w).setCell (p := ⟨b, 0, none⟩) h.1 _⟩
  · refine (b_copyCheck_used b w h.cell0).mono ?_
    rintro e w' ⟨rfl, rfl⟩
    exact ⟨rfl, h, Below.refl B _⟩
theorem b_WriteByte (B b : Nat) (bs : List Value) (c : Int) (w : World) (h : Lib.IsBuilder 115 5 B b bs w) (hlen : bs.length + 1 ≤ 140737488355328) (hBw : B ≤ w.heap.size) :
    Calls Tryz.prog 70 #[.pointer (some ⟨b, 0, none⟩), .int .u8 c] w fun e w' => e = .returned .nilIface ∧ (Lib.BuilderAt 115 5 B b (.pointer (some ⟨b, 0, none⟩)) (bs ++ [.int .u8 c]) w' ∧ Below B w w') := by
  obtain ⟨i0, hi, hz0, hz1, hz2⟩ := info_parts infoByte
  go_enter Tryz.func70, Tryz.ntmps70
  go_wp2_with (go_at_call 93; refine (b_copyCheck B b bs _ h).mono ?_)
  rintro e w1 ⟨rfl, h1, hb1⟩
  obtain ⟨hB, v, hbk, hown, hne⟩ := h1
  have c0 : w1.cell? ⟨b, 0, none⟩ = some (.pointer (some ⟨b, 0, none⟩)) := by rw [Lib.cell_of_heap hbk]; rfl
  have c1 : w1.cell? ⟨b, 1, none⟩ = some v := by rw [Lib.cell_of_heap hbk]; rfl
  go_wp2_with (at_builtin; refine wpList_append_own _ rfl _ _ 113 rfl B 5 i0 (.int .u8 0) 1 1 Tryz.underlying113 hi hz0 hz1 hz2 rfl (by decide) _ _ _ rfl (hown.alloc _) ⟨w1.heap.size, 0, none⟩ 1 1 [.int .u8 c] rfl rfl ?c1 ?c2 ?c3 ?c4 ?c5 ?_)
  case c1 =>
    intro j u hj
    match j, hj with
    | 0, hj => simp at hj; subst hj; simp [Addr.add]
  case c2 => intro u hu; simp at hu; subst hu; rfl
  case c3 => unfold maxLen; omega
  case c4 => omega
  case c5 => have := hb1.size; simp; omega
  intro v' w2 hown' hgrow _
  have hlt : b < w1.heap.size := by
    rcases Nat.lt_or_ge b w1.heap.size with h' | h'
    · exact h'
    · simp [Array.getElem?_eq_none h'] at hbk
  have hb2 : w2.heap[b]? = some (.cells #[.pointer (some ⟨b, 0, none⟩), v] 115 (0, 0)) := by
    rw [hgrow.block b (by simp; omega) (fun e => hne e.symm), Lib.alloc_old w1 _ b hlt]
    exact hbk
  have d0 : w2.cell? ⟨b, 0, none⟩ = some (.pointer (some ⟨b, 0, none⟩)) := by rw [Lib.cell_of_heap hb2]; rfl
  have d1 : w2.cell? ⟨b, 1, none⟩ = some v := by rw [Lib.cell_of_heap hb2]; rfl
  have f1 : w2.frozen? ⟨b, 1, none⟩ = false := Lib.frozen_of_heap hb2 1
  obtain ⟨g, cap, rfl⟩ : ∃ g cap, v' = .slice (some ⟨g, 0, none⟩) (bs.length + 1) cap := by
    rcases hown'.2 with ⟨_, h0⟩ | ⟨g, cap, cur, hv, _⟩
    · omega
    · exact ⟨g, cap, hv⟩
  go_wp2
  go_ret
  refine ⟨rfl, ?_, ?_⟩
  · exact Lib.BuilderAt.put (T := 115) (e := 5) hB hb2 (bs' := bs ++ [.int .u8 c]) (by simpa using hown') neB5
  · exact ((hb1.alloc (by have := hb1.size; omega) _).grown hgrow (by have := hb1.size; simp; omega) (fun k hk => (hown.lt k hk).1)).setCell (p := ⟨b, 1, none⟩) hB _
theorem b_String (B b : Nat) (l : List UInt8) (w : World) (h : Lib.IsBuilder 115 5 B b (Lib.byteCells l) w) (h0 : l ≠ []) :
    Calls Tryz.prog 49 #[.pointer (some ⟨b, 0, none⟩)] w fun e w' => e = .returned (.string ⟨l.toArray⟩) ∧ Below B w w' := by
  obtain ⟨p, hB, v, hbk, hown, hne⟩ : ∃ p, Lib.BuilderAt 115 5 B b p (Lib.byteCells l) w := by
    rcases h with h | h
    · exact ⟨_, h⟩
    · exact ⟨_, h⟩
  have hl0 : l.length ≠ 0 := by simpa using h0
  rw [Lib.byteCells_length] at hown
  obtain ⟨g, cap, cur, rfl, hbg, hg, hnc, hcm, hcs, htake⟩ : ∃ g cap cur, v = .slice (some ⟨g, 0, none⟩) l.length cap ∧ B ≤ g ∧ w.heap[g]? = some (.cells cur 5 (0, 0)) ∧ l.length ≤ cap ∧ cap ≤ maxLen ∧ cur.size = cap * 1 ∧ cur.toList.take (l.length * 1) = Lib.byteCells l := by
    rcases hown.2 with ⟨_, hz⟩ | ⟨g, cap, cur, hv, r⟩
    · exact absurd hz hl0
    · exact ⟨g, cap, cur, hv, r⟩
  have c1 : w.drew.cell? ⟨b, 1, none⟩ = some (.slice (some ⟨g, 0, none⟩) l.length cap) := by
    have : w.drew.heap[b]? = some (.cells #[p, .slice (some ⟨g, 0, none⟩) l.length cap] 115 (0, 0)) := hbk
    rw [Lib.cell_of_heap this]; rfl
  have hSD : (Builtin.unsafeSliceData_ #[113] 149 #[.slice (some ⟨g, 0, none⟩) l.length cap]).run Tryz.prog w.drew = .ok (.pointer (some ⟨g, 0, none⟩)) w.drew :=
    Lib.run_unsafeSliceData_row _ _ _ _ _ _ (by omega)
  have hUS : (Builtin.unsafeString_ #[149, 3] 9 #[.pointer (some ⟨g, 0, none⟩), .int .i64 l.length]).run Tryz.prog w.drew = .ok (.string ⟨l.toArray⟩) (w.drew.freeze ⟨g, 0, none⟩ l.length) := by
    refine Lib.run_unsafeString_row w.drew 149 3 9 5 Tryz.underlying149 cellsByte g cur.size (by have hg' : w.drew.heap[g]? = some (.cells cur 5 (0, 0)) := hg; simp [World.shape?, hg']) l h0 (by omega) (by unfold maxLen at hcm; omega) ?_
    intro j x hx
    have := hown.cells (g := g) rfl j (.int .u8 x.toNat) (by simp [Lib.byteCells, hx])
    exact this
  go_enter Tryz.func49, Tryz.ntmps49
  go_wp2
  go_region
  all_goals (go_wp2; go_ret; exact ⟨rfl, Lib.below_freeze (Below.drew (Below.refl B w)) (p := ⟨g, 0, none⟩) hbg _⟩)
end Go.Proofs.YtkbohoolnpaleaaGreatDoor
namespace Go.Proofs.YtkbohoolnpaleaaGreatDoor
open Go.RowKit
set_option maxHeartbeats 1000000
set_option maxRecDepth 100000

/-- the units of row g: those outside i .. n-1-i are turned round -/
def RV (w0 : World) (g B : Nat) (A : List Nat) (i : Nat) (w : World) : Prop :=
  Below B w0 w ∧ g < w.heap.size ∧ ∀ q, q < A.length → w.frozen? ⟨g, q, none⟩ = false ∧ w.cell? ⟨g, q, none⟩ = some (.int .u16 ((if q < i ∨ A.length - 1 - i < q then A.getD (A.length - 1 - q) 0 else A.getD q 0 : Nat) : Int))
theorem RV.drew {w0 w : World} {g B i : Nat} {A : List Nat} (h : RV w0 g B A i w) : RV w0 g B A i w.drew := ⟨h.1.drew, h.2.1, h.2.2⟩
theorem c_Rev (w0 : World) (g B c : Nat) (A : List Nat) (hA : A.length ≤ 1000) (hA1 : 1 ≤ A.length) (hgB : B ≤ g) (w : World) (h : RV w0 g B A 0 w) :
    Calls Tryz.prog 35 #[.slice (some ⟨g, 0, none⟩) A.length c] w fun e w' => e = .returned (.tuple #[]) ∧ RV w0 g B A.reverse 0 w' := by
  go_enter Tryz.func35, Tryz.ntmps35
  go_wp2
  go_loopw [2, 3] (fun vi vj wr => ∃ i : Nat, 2 * i ≤ A.length ∧ vi = .int .i64 (i : Int) ∧ vj = .int .i64 ((A.length : Int) - 1 - (i : Int)) ∧ RV w0 g B A i wr) (fun vi _ _ => A.length - (intOf vi).toNat)
  case atStart => exact ⟨0, by omega, rfl, by go_num, h⟩
  case round =>
    obtain ⟨i, hi, rfl, rfl, hrv⟩ := hrel
    obtain ⟨hbel, hgs, hcell⟩ := hrv
    by_cases hlt : i + 1 < A.length - i
    · obtain ⟨f1, c1⟩ := hcell i (by omega)
      obtain ⟨f2, c2⟩ := hcell (A.length - 1 - i) (by omega)
      rw [if_neg (by omega)] at c1 c2
      have l1 : (i : Int) < (A.length : Int) - 1 - (i : Int) := by omega
      have l2 : (0 : Int) ≤ (A.length : Int) - 1 - (i : Int) ∧ (A.length : Int) - 1 - (i : Int) < (A.length : Int) := by omega
      have l3 : ((A.length : Int) - 1 - (i : Int)).toNat = A.length - 1 - i := by omega
      have l4 : (0 : Int) ≤ (i : Int) ∧ (i : Int) < (A.length : Int) := by omega
      have hne : ¬ A.length - 1 - i = i := by omega
      have hcell := Lib.hid hcell
      generalize hx1 : A.getD i 0 = x1 at *
      generalize hx2 : A.getD (A.length - 1 - i) 0 = x2 at *
      have hx1 := Lib.hid hx1
      have hx2 := Lib.hid hx2
      have hbel := Lib.hid hbel
      clear h
      go_wp2_with fail
      go_region
      go_wp2_with fail
      go_roundw
      case rel =>
        refine ⟨i + 1, by omega, by go_num, by go_num, ?_⟩
        refine RV.drew ⟨(hbel.out.setCell hgB _).setCell hgB _, by simpa using hgs, fun q hq => ?_⟩
        obtain ⟨fq, cq⟩ := hcell.out q hq
        refine ⟨by rw [World.frozen?_setCell, World.frozen?_setCell]; exact fq, ?_⟩
        by_cases e2 : q = A.length - 1 - i
        · subst e2
          rw [set_sameD ((set_other (by omega)).trans c2), if_pos (by omega)]
          have : A.length - 1 - (A.length - 1 - i) = i := by omega
          rw [this, hx1.out]
        · rw [set_other (fun h => e2 h.symm)]
          by_cases e1 : q = i
          · subst e1
            rw [set_sameD c1, if_pos (by omega), hx2.out]
          · rw [set_other (fun h => e1 h.symm)]
            refine cq.trans ?_
            by_cases hh : q < i ∨ A.length - 1 - i < q
            · rw [if_pos hh, if_pos (by omega)]
            · rw [if_neg hh, if_neg (by omega)]
      case measure => simp [intOf]; omega
    · have l1 : ¬ (i : Int) < (A.length : Int) - 1 - (i : Int) := by omega
      have hfin : RV w0 g B A.reverse 0 wr := by
        refine ⟨hbel, hgs, fun q hq => ?_⟩
        rw [List.length_reverse] at hq ⊢
        obtain ⟨fq, cq⟩ := hcell q hq
        refine ⟨fq, cq.trans ?_⟩
        have e0 : ¬ (q < 0 ∨ A.length - 1 - 0 < q) := by omega
        rw [if_neg e0]
        have hr : A.reverse.getD q 0 = A.getD (A.length - 1 - q) 0 := by
          rw [List.getD_eq_getElem?_getD, List.getD_eq_getElem?_getD, List.getElem?_reverse hq]
        rw [hr]
        by_cases hh : q < i ∨ A.length - 1 - i < q
        · rw [if_pos hh]
        · rw [if_neg hh]
          have : A.length - 1 - q = q := by omega
          rw [this]
      replace hfin := Lib.hid hfin
      clear hcell h
      go_wp2
      go_end0
      exact ⟨rfl, hfin.out⟩
end Go.Proofs.YtkbohoolnpaleaaGreatDoor
namespace Go.Proofs.YtkbohoolnpaleaaGreatDoor
open Go.RowKit
set_option maxHeartbeats 400000
set_option maxRecDepth 100000

/-- the units of a text -/
def ub (s : ByteArray) (i : Nat) : Nat := (s.data.toList.getD i 0).toNat
def unitAt (s : ByteArray) (k : Nat) : Nat := ub s (2 * k) * 256 + ub s (2 * k + 1)
def unitsN (s : ByteArray) : Nat → List Nat
  | 0 => []
  | k + 1 => unitsN s k ++ [unitAt s k]
def u16s (l : List Nat) : List Value := l.map fun n : Nat => .int .u16 (n : Int)
theorem own_base {w : World} {base : Nat} {e : TypeId} {size : Nat} {v : Value} {n : Nat} {xs : List Value} (h : w.ownsRow base e size v n xs) : ∀ k, v.ownBlock = some k → base ≤ k := by
  intro k hk
  rcases h.2 with ⟨rfl, _⟩ | ⟨g, cap, cur, rfl, hb, _⟩
  · cases hk
  · cases hk; exact hb
theorem infoU16 : (Tryz.prog.info? 85).map (fun i => (i.zero, i.size, i.bytes)) = some (some (.int .u16 0), 1, 2) := by kernel_rfl

theorem ub_get (s : ByteArray) (i : Nat) (h : i < s.size) : ub s i = s[i].toNat := by
  unfold ub
  have h' : i < s.data.toList.length := by simpa using h
  rw [List.getD_eq_getElem?_getD, List.getElem?_eq_getElem h']; rfl
theorem unit_val (s : ByteArray) (k : Nat) (i j : Int) (hi : i = 2 * (k : Int)) (hj : j = 2 * (k : Int) + 1) (h1 : i.toNat < s.size) (h2 : j.toNat < s.size) :
    IntKind.u16.wrap (IntKind.u16.wrap (IntKind.u16.wrap (s[i.toNat].toNat : Int) * 256) + IntKind.u16.wrap (s[j.toNat].toNat : Int)) = (unitAt s k : Int) := by
  have e1 : i.toNat = 2 * k := by omega
  have e2 : j.toNat = 2 * k + 1 := by omega
  have a1 := ub_get s i.toNat h1
  have a2 := ub_get s j.toNat h2
  have b1 : s[i.toNat].toNat < 256 := s[i.toNat].toNat_lt
  have b2 : s[j.toNat].toNat < 256 := s[j.toNat].toNat_lt
  unfold unitAt
  rw [← a1, ← a2, e1, e2]
  rw [← a1, e1] at b1
  rw [← a2, e2] at b2
  generalize ub s (2 * k) = x at *
  generalize ub s (2 * k + 1) = y at *
  simp only [IntKind.wrap_u16]
  omega
end Go.Proofs.YtkbohoolnpaleaaGreatDoor
namespace Go.Proofs.YtkbohoolnpaleaaGreatDoor
open Go.RowKit
set_option maxHeartbeats 400000
set_option maxRecDepth 100000

/-- a text without an odd byte -/
def evenB (s : ByteArray) : ByteArray := s.extract 0 (s.size / 2 * 2)
theorem evenB_size (s : ByteArray) : (evenB s).size = s.size / 2 * 2 := by unfold evenB; rw [ByteArray.size_extract]; omega
theorem and_not1 (n : Nat) (h : n < 9223372036854775808) : bits BinOp.andNot IntKind.i64 (n : Int) 1 = ((n / 2 * 2 : Nat) : Int) := by
  have key : (BitVec.ofInt 64 (n : Int) &&& ~~~ BitVec.ofInt 64 1).toNat = n / 2 * 2 := by
    rw [BitVec.toNat_and, ofInt_u64 n (by omega)]
    have : (~~~ BitVec.ofInt 64 1).toNat = 18446744073709551614 := by decide
    rw [this]
    have e : n &&& 18446744073709551614 = n / 2 * 2 := by
      have h1 : n = n / 2 * 2 + n % 2 := by omega
      apply Nat.eq_of_testBit_eq
      intro i
      rw [Nat.testBit_and]
      cases i with
      | zero => simp [Nat.testBit_zero]
      | succ j =>
        rw [Nat.testBit_succ, Nat.testBit_succ]
        have h2 : n / 2 * 2 / 2 = n / 2 := by omega
        rw [Nat.testBit_succ, h2]
        have h3 : (18446744073709551614 : Nat) / 2 = 2 ^ 63 - 1 := by decide
        rw [h3, Nat.testBit_two_pow_sub_one]
        by_cases hj : j < 63
        · simp [hj]
        · have : (n / 2).testBit j = false := Nat.testBit_lt_two_pow (Nat.lt_of_lt_of_le (by omega : n / 2 < 2 ^ 63) (Nat.pow_le_pow_right (by decide) (by omega)))
          rw [this]; simp
    exact e
  show IntKind.i64.wrap ((BitVec.ofInt 64 (n : Int) &&& ~~~ BitVec.ofInt 64 1).toNat : Nat) = _
  rw [key, IntKind.wrap_i64]
  omega

theorem c_even (s : ByteArray) (hs : s.size ≤ 1099511627776) (w : World) :
    Calls Tryz.prog 81 #[.string s] w fun e w' => e = .returned (.string (evenB s)) ∧ w = w' := by
  have h := and_not1 s.size (by omega)
  have h1 : s.size / 2 * 2 ≤ s.size := by omega
  unfold evenB
  generalize s.size / 2 * 2 = n at *
  go_enter Tryz.func81, Tryz.ntmps81
  go_wp2
  go_ret
  exact ⟨rfl, rfl⟩
theorem c_ULen (s : ByteArray) (hs : s.size ≤ 1099511627776) (w : World) :
    Calls Tryz.prog 59 #[.string s] w fun e w' => e = .returned (.int .i64 ((s.size / 2 : Nat) : Int)) ∧ w = w' := by
  go_enter Tryz.func59, Tryz.ntmps59
  go_wp2
  go_ret
  exact ⟨rfl, rfl⟩
theorem unit_or (s : ByteArray) (k : Nat) (i j : Int) (hi : i = 2 * (k : Int)) (hj : j = 2 * (k : Int) + 1) (h1 : i.toNat < s.size) (h2 : j.toNat < s.size) :
    bits BinOp.or IntKind.u16 (IntKind.u16.wrap (IntKind.u16.wrap (s[i.toNat].toNat : Int) * 256)) (IntKind.u16.wrap (s[j.toNat].toNat : Int)) = (unitAt s k : Int) := by
  have e1 : i.toNat = 2 * k := by omega
  have e2 : j.toNat = 2 * k + 1 := by omega
  have a1 := ub_get s i.toNat h1
  have a2 := ub_get s j.toNat h2
  have b1 : s[i.toNat].toNat < 256 := s[i.toNat].toNat_lt
  have b2 : s[j.toNat].toNat < 256 := s[j.toNat].toNat_lt
  unfold unitAt
  rw [← a1, ← a2, e1, e2]
  rw [← a1, e1] at b1
  rw [← a2, e2] at b2
  generalize ub s (2 * k) = x at *
  generalize ub s (2 * k + 1) = y at *
  have w1 : IntKind.u16.wrap (IntKind.u16.wrap (x : Int) * 256) = ((x * 256 : Nat) : Int) := by simp only [IntKind.wrap_u16]; omega
  have w2 : IntKind.u16.wrap (y : Int) = (y : Int) := by simp only [IntKind.wrap_u16]; omega
  rw [w1, w2, u16_or_nat _ _ (by omega) (by omega), nat_join 8 _ _ (by omega) (by omega)]
theorem ret_int {k : IntKind} {a b : Int} (h : a = b) : Ending.returned (.int k a) = .returned (.int k b) := by rw [h]
theorem c_unit (s : ByteArray) (k : Nat) (hs : s.size ≤ 1099511627776) (hk : 2 * k + 1 < s.size) (w : World) :
    Calls Tryz.prog 82 #[.string s, .int .i64 (k : Int)] w fun e w' => e = .returned (.int .u16 (unitAt s k)) ∧ ∃ nq, w' = w.drewN nq := by
  have h0 : (0 : Int) ≤ 2 * (k : Int) := by omega
  have h1 : 2 * (k : Int) < (s.size : Int) := by omega
  have h2 : (0 : Int) ≤ 2 * (k : Int) + 1 := by omega
  have h3 : 2 * (k : Int) + 1 < (s.size : Int) := by omega
  have s1 : IntKind.i64.wrap (2 * (k : Int)) = 2 * (k : Int) := IntWalk.i64_in _ (by omega)
  have s2 : IntKind.i64.wrap (2 * (k : Int) + 1) = 2 * (k : Int) + 1 := IntWalk.i64_in _ (by omega)
  have hval := unit_or s k (2 * (k : Int)) (2 * (k : Int) + 1) rfl rfl (by omega) (by omega)
  go_enter Tryz.func82, Tryz.ntmps82
  go_wp2
  go_quiet (fail)
  go_wp2
  go_ret
  exact ⟨ret_int hval, _, rfl⟩
end Go.Proofs.YtkbohoolnpaleaaGreatDoor
namespace Go.Proofs.YtkbohoolnpaleaaGreatDoor
open Go.RowKit
set_option maxHeartbeats 400000
set_option maxRecDepth 100000

theorem bel_drewN {B : Nat} {a w : World} (h : Below B a w) (n : Nat) : Below B a (w.drewN n) := h.trans ⟨rfl, rfl, rfl, Nat.le_refl _, fun _ _ => rfl⟩
theorem own_drewN {w : World} {B e size n : Nat} {v : Value} {xs : List Value} (h : w.ownsRow B e size v n xs) (q : Nat) : (w.drewN q).ownsRow B e size v n xs := h
theorem u16s_snoc (s : ByteArray) (k : Nat) : u16s (unitsN s (k + 1)) = u16s (unitsN s k) ++ [Value.int IntKind.u16 (unitAt s k)] := by simp [u16s, unitsN]
theorem unitAt_even (s : ByteArray) (k : Nat) (h : k < s.size / 2) : unitAt (evenB s) k = unitAt s k := by
  have hs := evenB_size s
  have key : ∀ i, i < s.size / 2 * 2 → ub (evenB s) i = ub s i := by
    intro i hi
    rw [ub_get _ _ (by omega), ub_get _ _ (by omega)]
    unfold evenB
    rw [ByteArray.getElem_extract]
    congr 2; omega
  unfold unitAt
  rw [key _ (by omega), key _ (by omega)]
theorem unitsN_even (s : ByteArray) (k : Nat) (h : k ≤ s.size / 2) : unitsN (evenB s) k = unitsN s k := by
  induction k with
  | zero => rfl
  | succ k ih => simp only [unitsN]; rw [ih (by omega), unitAt_even s k (by omega)]
theorem c_Units (s : ByteArray) (hs : s.size ≤ 1099511627776) (w : World) :
    Calls Tryz.prog 60 #[.string s] w fun e w' => ∃ v, e = .returned v ∧ w'.ownsRow w.heap.size 85 1 v (s.size / 2) (u16s (unitsN s (s.size / 2))) ∧ Below w.heap.size w w' := by
  obtain ⟨i0, hi0, hz0, hz1, hz2⟩ := info_parts infoU16
  have hE := evenB_size s
  have hU := unitsN_even s (s.size / 2) (Nat.le_refl _)
  rw [← hU]
  have H := Lib.hid (c_even s hs)
  have hm : s.size / 2 ≤ 549755813888 := by omega
  generalize evenB s = E at *
  generalize s.size / 2 = m at *
  have hE1 : E.size ≤ m * 2 := by omega
  have hE2 : m * 2 ≤ E.size := by omega
  clear hE hU
  go_enter Tryz.func60, Tryz.ntmps60
  go_wp2_with (first | (go_at_call 81; refine (H.out _).mono ?_; rintro e w' ⟨rfl, rfl⟩) | (at_make; refine wpList_make_own _ rfl _ _ 86 rfl w.heap.size 85 i0 (.int .u16 0) 1 Tryz.underlying86 hi0 hz0 hz1 _ _ _ m rfl rfl (by omega) (by rw [hz2]; omega) (by unfold maxLen; omega) (Nat.le_refl _) ?_; intro w1 hown1 hgrow1))
  have hbel1 : Below w.heap.size w w1 := (Below.refl _ _).grown hgrow1 (Nat.le_refl _) (fun _ h => by cases h)
  have eE : (E.size : Int) / 2 = (m : Int) := by omega
  rw [eE]
  clear eE hgrow1
  generalize hv0 : Value.slice (some ⟨w.heap.size, 0, none⟩) 0 m = v0 at *
  clear hv0
  go_loopw [4, 5, 15] (fun v _ i wr => ∃ k : Nat, k ≤ m ∧ i = .int .i64 (k : Int) ∧ wr.ownsRow w.heap.size 85 1 v k (u16s (unitsN E k)) ∧ Below w.heap.size w wr) (fun _ _ i _ => m - (intOf i).toNat)
  case atStart => exact ⟨0, by omega, rfl, hown1, hbel1⟩
  case round =>
    obtain ⟨k, hk, rfl, hown, hbel⟩ := hrel
    rcases Nat.lt_or_ge k m with hlt | hge
    · have hsz := hbel.size
      go_wp2_with (first | (go_at_call 82; refine (c_unit E k (by omega) (by omega) _).mono ?_; rintro e w' ⟨rfl, nq, rfl⟩) | (at_builtin; go_loud (refine wpList_append_lies _ (by rfl) _ _ _ (by rfl) w.heap.size 85 i0 _ 1 2 Tryz.underlying86 hi0 hz0 hz1 hz2 rfl (by omega) u4 k (u16s (unitsN E k)) (by rfl) ((own_drewN hown nq).alloc _) ⟨wr.heap.size, 0, none⟩ 1 1 [.int .u16 (unitAt E k)] (by rfl) (by rfl) (World.news_of_block (cs := #[.int .u16 (unitAt E k)]) (t := 85) (fr := (0, 0)) (by exact heap_alloc_new (wr.drewN nq) _)) (by simp [Value.oneCell']) (by omega) (by unfold maxLen; omega) (by omega) (by simp; omega) (wr.heap.size + 1) (by simp) ?_); intro gg cap w2 hown2 hgrow hat hlt2))
      have hown3 : w2.ownsRow w.heap.size 85 1 (Value.slice (some ⟨gg, 0, none⟩) (k + 1) cap) (k + 1) (u16s (unitsN E (k + 1))) := by
        rw [u16s_snoc]; exact hown2
      have hbel2 : Below w.heap.size w w2 := ((bel_drewN hbel nq).alloc hsz _).grown hgrow (by simp; omega) (own_base hown)
      clear hown2 hgrow
      go_roundw
      case rel => exact ⟨k + 1, by omega, by go_num, hown3, hbel2⟩
      case measure => simp [intOf]; omega
    · have hk2 : k = m := by omega
      subst hk2
      go_wp2
      go_ret
      exact ⟨_, rfl, hown, hbel⟩
end Go.Proofs.YtkbohoolnpaleaaGreatDoor
namespace Go.Proofs.YtkbohoolnpaleaaGreatDoor
open Go.RowKit
set_option maxHeartbeats 400000
set_option maxRecDepth 100000

/-- v reads as the row xs; its block is below B -/
def Rd (B : Nat) (w : World) (v : Value) (xs : List Value) : Prop :=
  ∃ b c, v = .slice b xs.length c ∧ ∀ j u, xs[j]? = some u → ∃ g, g < B ∧ b = some ⟨g, 0, none⟩ ∧ xs.length ≤ c ∧ w.cell? ⟨g, j, none⟩ = some u
theorem add_zero_addr (g j : Nat) : (⟨g, 0, none⟩ : Addr).add j = ⟨g, j, none⟩ := by
  unfold Addr.add
  simp
  omega
theorem Rd_own {w : World} {base : Nat} {e : TypeId} {v : Value} {n : Nat} {xs : List Value} (h : w.ownsRow base e 1 v n xs) : Rd w.heap.size w v xs := by
  have hl := h.lt
  have hc := fun g hg => World.ownsRow.cells h (g := g) hg
  rcases h with ⟨hn, ⟨rfl, rfl⟩ | ⟨g, cap, cur, rfl, hb, hh, h1, h2, h3, h4⟩⟩
  · have : xs = [] := List.length_eq_zero_iff.1 (by omega)
    subst this
    exact ⟨none, 0, rfl, fun j u hu => by simp at hu⟩
  · have hn' : n = xs.length := by omega
    subst hn'
    refine ⟨_, cap, rfl, ?_⟩
    intro j u hu
    have := hc g rfl j u hu
    rw [add_zero_addr] at this
    exact ⟨g, (hl g rfl).2, rfl, h1, this⟩
theorem Rd.keep {B B' : Nat} {w w' : World} {v : Value} {xs : List Value} (h : Rd B w v xs) (hb : Below B' w w') (hB : B ≤ B') : Rd B w' v xs := by
  obtain ⟨b, c, h1, h2⟩ := h
  refine ⟨b, c, h1, fun j u hu => ?_⟩
  obtain ⟨g, k1, k2, k3, k4⟩ := h2 j u hu
  exact ⟨g, k1, k2, k3, by rw [hb.cell (p := ⟨g, j, none⟩) (by show g < B'; omega)]; exact k4⟩

/-- how lists of units compare -/
def cmpU : List Nat → List Nat → Int
  | [], [] => 0
  | [], _ :: _ => -1
  | _ :: _, [] => 1
  | x :: xs, y :: ys => if x < y then -1 else if y < x then 1 else cmpU xs ys
theorem cmpU_self (l : List Nat) : cmpU l l = 0 := by induction l with
  | nil => rfl
  | cons x l ih => simp [cmpU, ih]
theorem cmpU_eq {a b : List Nat} (h : cmpU a b = 0) : a = b := by
  induction a generalizing b with
  | nil => cases b with
    | nil => rfl
    | cons y b => simp [cmpU] at h
  | cons x a ih => cases b with
    | nil => simp [cmpU] at h
    | cons y b =>
      simp only [cmpU] at h
      split at h
      · omega
      · split at h
        · omega
        · have : x = y := by omega
          rw [this, ih h]
theorem cmpU_neg (a b : List Nat) : cmpU b a = - cmpU a b := by
  induction a generalizing b with
  | nil => cases b <;> simp [cmpU]
  | cons x a ih => cases b with
    | nil => simp [cmpU]
    | cons y b =>
      simp only [cmpU]
      rcases Nat.lt_trichotomy x y with h | h | h
      · rw [if_neg (by omega), if_pos h, if_pos h]; rfl
      · subst h; simp [ih]
      · rw [if_pos h, if_neg (by omega), if_pos h]
theorem cmpU_cases (a b : List Nat) : cmpU a b = -1 ∨ cmpU a b = 0 ∨ cmpU a b = 1 := by
  induction a generalizing b with
  | nil => cases b <;> simp [cmpU]
  | cons x a ih => cases b with
    | nil => simp [cmpU]
    | cons y b =>
      simp only [cmpU]
      split
      · simp
      · split
        · simp
        · exact ih b
/-- the units of a text -/
def U (s : ByteArray) : List Nat := unitsN s (s.size / 2)
theorem unitsN_len (s : ByteArray) (k : Nat) : (unitsN s k).length = k := by induction k with
  | zero => rfl
  | succ k ih => simp [unitsN, ih]
theorem U_len (s : ByteArray) : (U s).length = s.size / 2 := unitsN_len _ _
theorem u16s_len (l : List Nat) : (u16s l).length = l.length := by simp [u16s]
theorem u16s_get (l : List Nat) (k : Nat) (x : Nat) (h : l[k]? = some x) : (u16s l)[k]? = some (.int .u16 (x : Int)) := by simp [u16s, h]
theorem drop_one (l : List Nat) (k : Nat) (h : k < l.length) : ∃ x, l[k]? = some x ∧ l.drop k = x :: l.drop (k + 1) := ⟨l[k], List.getElem?_eq_getElem h, List.drop_eq_getElem_cons h⟩

end Go.Proofs.YtkbohoolnpaleaaGreatDoor
