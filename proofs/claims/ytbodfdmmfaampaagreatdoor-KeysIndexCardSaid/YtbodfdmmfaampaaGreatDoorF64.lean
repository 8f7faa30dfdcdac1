/-
  Plain facts: what a word of a float is worth, exactly; writing, adding, multiplying and cutting off exact numbers. No condition.
-/
import Derived.Laws.FloatBits
namespace F64
open Ieee

/-- what a rung (a word without its sign) is worth, in units of the least place -/
def man (r : Nat) : Nat := if r < 4503599627370496 then r else 4503599627370496 + r % 4503599627370496
def ex (r : Nat) : Nat := if r < 4503599627370496 then 0 else r / 4503599627370496 - 1
def V (r : Nat) : Nat := man r * 2 ^ ex r
def INF : Nat := 9218868437227405312
def TOP : Nat := 9223372036854775808
/-- the sign of a word, and its rung -/
def sgn (w : Nat) : Bool := w / 9223372036854775808 % 2 == 1
def rung (w : Nat) : Nat := w % 9223372036854775808
def wd (s : Bool) (r : Nat) : Nat := if s then 9223372036854775808 + r else r

theorem d_binade : double.binade = 4503599627370496 := by decide
theorem d_inf : double.infRung = 9218868437227405312 := by decide
theorem d_sw : double.signWeight = 9223372036854775808 := by decide
theorem d_least : double.leastPlace = -1074 := by decide
theorem d_frac : double.fractionBits = 52 := rfl
theorem d_word (s : Bool) (r : Nat) : double.word s r = wd s r := by
  unfold Format.word wd; rw [d_sw]

theorem wd_parts (w : Nat) (h : w < 18446744073709551616) : wd (sgn w) (rung w) = w := by
  unfold wd sgn rung
  by_cases hs : w / 9223372036854775808 % 2 == 1
  · rw [if_pos hs]; simp at hs; omega
  · rw [if_neg hs]; simp at hs; omega
theorem sgn_wd (s : Bool) (r : Nat) (h : r < 9223372036854775808) : sgn (wd s r) = s := by
  unfold sgn wd; cases s <;> simp <;> omega
theorem rung_wd (s : Bool) (r : Nat) (h : r < 9223372036854775808) : rung (wd s r) = r := by
  unfold rung wd; cases s <;> simp <;> omega
theorem rung_lt (w : Nat) : rung w < 9223372036854775808 := Nat.mod_lt _ (by decide)
theorem wd_lt (s : Bool) (r : Nat) (h : r < 9223372036854775808) : wd s r < 18446744073709551616 := by
  unfold wd; split <;> omega

def isNaN (w : Nat) : Bool := decide (9218868437227405312 < rung w)
def fin (w : Nat) : Bool := decide (rung w < 9218868437227405312)

theorem read_fin {w : Nat} (h : fin w = true) : double.read w = .number (sgn w) (man (rung w)) (-1074 + (ex (rung w) : Int)) := by
  have h' : rung w < 9218868437227405312 := of_decide_eq_true h
  unfold Format.read
  simp only [d_sw, d_binade, d_inf, d_least]
  unfold rung at h'
  unfold man ex sgn rung
  by_cases h1 : w % 9223372036854775808 < 4503599627370496
  · simp only [if_pos h1]; simp
  · simp only [if_neg h1, if_pos h']

theorem read_inf {w : Nat} (h : rung w = 9218868437227405312) : double.read w = .infinity (sgn w) := by
  unfold Format.read
  simp only [d_sw, d_binade, d_inf, d_least]
  unfold rung at h
  unfold sgn
  rw [if_neg (by omega), if_neg (by omega), if_pos h]

theorem read_nan {w : Nat} (h : isNaN w = true) : ∃ f, double.read w = .nan (sgn w) f := by
  have h' : 9218868437227405312 < rung w := of_decide_eq_true h
  refine ⟨w % 9223372036854775808 - 9218868437227405312, ?_⟩
  unfold Format.read
  simp only [d_sw, d_binade, d_inf, d_least]
  unfold rung at h'
  unfold sgn
  rw [if_neg (by omega), if_neg (by omega), if_neg (by omega)]

theorem man_lt (r : Nat) : man r < 9007199254740992 := by
  unfold man; split
  · omega
  · have := Nat.mod_lt r (show 0 < 4503599627370496 by decide); omega
theorem man_pos {r : Nat} (h : 0 < r) : 0 < man r := by unfold man; split <;> omega
theorem V_pos {r : Nat} (h : 0 < r) : 0 < V r := Nat.mul_pos (man_pos h) (Nat.two_pow_pos _)
theorem V_zero : V 0 = 0 := by decide

theorem V_succ (r : Nat) : V r < V (r + 1) := by
  unfold V man ex
  by_cases h1 : r + 1 < 4503599627370496
  · rw [if_pos (by omega), if_pos (by omega), if_pos h1, if_pos h1]; omega
  · rw [if_neg h1, if_neg h1]
    by_cases h2 : r < 4503599627370496
    · have hr : r = 4503599627370495 := by omega
      subst hr; decide
    · rw [if_neg h2, if_neg h2]
      by_cases h3 : r % 4503599627370496 + 1 < 4503599627370496
      · have e1 : (r + 1) % 4503599627370496 = r % 4503599627370496 + 1 := by omega
        have e2 : (r + 1) / 4503599627370496 = r / 4503599627370496 := by omega
        rw [e1, e2]
        exact Nat.mul_lt_mul_of_pos_right (by omega) (Nat.two_pow_pos _)
      · have e1 : (r + 1) % 4503599627370496 = 0 := by omega
        have e2 : (r + 1) / 4503599627370496 = r / 4503599627370496 + 1 := by omega
        rw [e1, e2]
        obtain ⟨q, hq⟩ : ∃ q, r / 4503599627370496 = q + 1 := ⟨r / 4503599627370496 - 1, by omega⟩
        rw [hq]
        simp only [Nat.add_sub_cancel, Nat.pow_succ]
        have hp := Nat.two_pow_pos q
        generalize 2 ^ q = p at *
        have : r % 4503599627370496 = 4503599627370495 := by omega
        rw [this]; omega

theorem V_lt {r s : Nat} (h : r < s) : V r < V s := by
  induction s with
  | zero => omega
  | succ s ih =>
    rcases Nat.lt_or_ge r s with h1 | h1
    · exact Nat.lt_trans (ih h1) (V_succ s)
    · have : r = s := by omega
      subst this; exact V_succ r
theorem V_le {r s : Nat} (h : r ≤ s) : V r ≤ V s := by
  rcases Nat.lt_or_ge r s with h1 | h1
  · exact Nat.le_of_lt (V_lt h1)
  · have : r = s := by omega
    subst this; exact Nat.le_refl _
theorem V_lt_iff {r s : Nat} : V r < V s ↔ r < s := by
  constructor
  · intro h; rcases Nat.lt_or_ge r s with h1 | h1
    · exact h1
    · have := V_le h1; omega
  · exact V_lt
theorem V_inj {r s : Nat} (h : V r = V s) : r = s := by
  rcases Nat.lt_trichotomy r s with h1 | h1 | h1
  · have := V_lt h1; omega
  · exact h1
  · have := V_lt h1; omega
theorem V_le_iff {r s : Nat} : V r ≤ V s ↔ r ≤ s := by
  constructor
  · intro h; rcases Nat.lt_or_ge s r with h1 | h1
    · have := V_lt h1; omega
    · exact h1
  · exact V_le

/-- cutting off zeros -/
theorem cut_exact (s : Bool) (M d : Nat) : Toward.even.cut s (M <<< d) d = M := by
  unfold Toward.cut
  by_cases h0 : M = 0
  · subst h0; simp [Nat.zero_shiftLeft]
  · have hp : (1 : Nat) <<< d = 2 ^ d := by simp [Nat.shiftLeft_eq]
    have hlog : d ≤ (M <<< d).log2 := by
      rw [Nat.le_log2 (by rw [Nat.shiftLeft_eq]; exact Nat.ne_of_gt (Nat.mul_pos (by omega) (Nat.two_pow_pos _)))]
      rw [Nat.shiftLeft_eq]
      exact Nat.le_mul_of_pos_left _ (by omega)
    have hm : min d ((M <<< d).log2 + 2) = d := by omega
    rw [hm, hp, Nat.shiftLeft_eq]
    simp [Nat.mul_div_cancel _ (Nat.two_pow_pos d)]

theorem log2_mul_pow (m a : Nat) (h : m ≠ 0) : (m * 2 ^ a).log2 = m.log2 + a := by
  rw [Nat.log2_eq_iff (Nat.ne_of_gt (Nat.mul_pos (by omega) (Nat.two_pow_pos _)))]
  have h1 := Nat.log2_self_le h
  have h2 := @Nat.lt_log2_self m
  constructor
  · rw [Nat.pow_add]; exact Nat.mul_le_mul_right _ h1
  · rw [show m.log2 + a + 1 = m.log2 + 1 + a by omega, Nat.pow_add]
    exact Nat.mul_lt_mul_of_pos_right h2 (Nat.two_pow_pos _)

theorem man_log2 {r : Nat} (h : 4503599627370496 ≤ r) : (man r).log2 = 52 := by
  have h1 := man_lt r
  have h2 : 4503599627370496 ≤ man r := by unfold man; rw [if_neg (by omega)]; omega
  rw [Nat.log2_eq_iff (by omega)]
  omega

/-- WRITING A NUMBER THAT A WORD STANDS FOR, however it is given -/
theorem nearest_exact (s : Bool) (mag : Nat) (place : Int) (r : Nat) (hr : r < 9218868437227405312)
    (h : mag * 2 ^ (place + 1074).toNat = V r * 2 ^ (-1074 - place).toNat) : double.nearest s mag place = wd s r := by
  unfold Format.nearest
  by_cases hm : mag = 0
  · rw [if_pos hm]
    rw [hm, Nat.zero_mul] at h
    have hv : V r = 0 := by
      have := Nat.two_pow_pos (-1074 - place).toNat
      rcases Nat.eq_zero_or_pos (V r) with h1 | h1
      · exact h1
      · have := Nat.mul_pos h1 this; omega
    have : r = 0 := by
      rcases Nat.eq_zero_or_pos r with h1 | h1
      · exact h1
      · have := V_pos h1; omega
    rw [this, d_word]
  · rw [if_neg hm]
    simp only [d_least, d_frac, d_binade, d_inf, d_word]
    have hr0 : r ≠ 0 := by
      intro e; rw [e, V_zero, Nat.zero_mul] at h
      have := Nat.mul_pos (Nat.pos_of_ne_zero hm) (Nat.two_pow_pos (place + 1074).toNat); omega
    have hman := man_pos (Nat.pos_of_ne_zero hr0)
    unfold V at h
    rw [Nat.mul_assoc, ← Nat.pow_add] at h
    have hl := congrArg Nat.log2 h
    rw [log2_mul_pow _ _ hm, log2_mul_pow _ _ (by omega)] at hl
    -- the place of the last digit
    have hlast : max (place + (mag.log2 : Int) - (52 : Nat)) (-1074) = -1074 + (ex r : Int) := by
      by_cases hn : 4503599627370496 ≤ r
      · rw [man_log2 hn] at hl; omega
      · have h1 : (man r).log2 ≤ 51 := by
          have : man r < 2 ^ 52 := by unfold man; rw [if_pos (by omega)]; omega
          have := (Nat.log2_lt (by omega)).2 this
          omega
        have h2 : ex r = 0 := by unfold ex; rw [if_pos (by omega)]
        rw [h2] at hl ⊢; omega
    rw [hlast]
    have hk : Toward.even.cut s (mag <<< (place - (-1074 + (ex r : Int))).toNat) ((-1074 + (ex r : Int)) - place).toNat = man r := by
      have : mag <<< (place - (-1074 + (ex r : Int))).toNat = man r <<< ((-1074 + (ex r : Int)) - place).toNat := by
        rw [Nat.shiftLeft_eq, Nat.shiftLeft_eq]
        rcases Int.le_total place (-1074 + (ex r : Int)) with hp | hp
        · have e1 : (place - (-1074 + (ex r : Int))).toNat = 0 := by omega
          rw [e1]
          -- multiply both sides
          have hpos := Nat.two_pow_pos (place + 1074).toNat
          apply Nat.eq_of_mul_eq_mul_right hpos
          rw [Nat.pow_zero, Nat.mul_one, h, Nat.mul_assoc, ← Nat.pow_add]
          congr 2; omega
        · have e1 : ((-1074 + (ex r : Int)) - place).toNat = 0 := by omega
          rw [e1]
          have e2 : (-1074 - place).toNat = 0 := by omega
          have e3 : (place + 1074).toNat = (place - (-1074 + (ex r : Int))).toNat + ex r := by omega
          rw [e2, e3, Nat.add_zero, Nat.pow_add, ← Nat.mul_assoc] at h
          have := Nat.eq_of_mul_eq_mul_right (Nat.two_pow_pos (ex r)) h
          rw [this, Nat.pow_zero, Nat.mul_one]
      rw [this, cut_exact]
    rw [hk]
    have e4 : ((-1074 + (ex r : Int)) - -1074).toNat = ex r := by omega
    rw [e4]
    have : ex r * 4503599627370496 + man r = r := by
      unfold ex man
      split
      · rw [Nat.zero_mul, Nat.zero_add]
      · omega
    rw [this]
    exact congrArg (wd s) (Nat.min_eq_left (Nat.le_of_lt hr))

/-- what a finite word is worth, with its sign, in units of the least place -/
def SV (w : Nat) : Int := if sgn w then -(V (rung w) : Int) else (V (rung w) : Int)

theorem signed_scale (s : Bool) (m up c : Nat) : signed s m up * (2 ^ c : Nat) = if s then -((m * 2 ^ (up + c) : Nat) : Int) else ((m * 2 ^ (up + c) : Nat) : Int) := by
  unfold signed
  rw [Nat.shiftLeft_eq, Nat.pow_add, ← Nat.mul_assoc]
  cases s
  · simp [Int.natCast_mul]
  · simp [Int.natCast_mul, Int.neg_mul]

theorem signed_SV {w : Nat} {c : Nat} (hc : c ≤ ex (rung w)) : signed (sgn w) (man (rung w)) (ex (rung w) - c) * (2 ^ c : Nat) = SV w := by
  rw [signed_scale, Nat.sub_add_cancel hc]; rfl

theorem compare_scale (a b : Int) (k : Nat) (hk : 0 < k) : compare (a * k) (b * k) = compare a b := by
  have hk' : (0 : Int) < (k : Int) := by omega
  have h1 : (a * k < b * k) ↔ a < b := ⟨fun h => Int.lt_of_mul_lt_mul_right h (Int.le_of_lt hk'), fun h => Int.mul_lt_mul_of_pos_right h hk'⟩
  have h2 : (a * k = b * k) ↔ a = b := ⟨fun h => Int.eq_of_mul_eq_mul_right (by omega) h, fun h => by rw [h]⟩
  simp only [compare, compareOfLessAndEq, h1, h2]

theorem order_fin {x y : Nat} (hx : fin x = true) (hy : fin y = true) : double.order x y = some (compare (SV x) (SV y)) := by
  unfold Format.order
  rw [read_fin hx, read_fin hy]
  simp only [Datum.order]
  generalize hc : min (ex (rung x)) (ex (rung y)) = c
  have h1 : (-1074 + (ex (rung x) : Int) - min (-1074 + (ex (rung x) : Int)) (-1074 + (ex (rung y) : Int))).toNat = ex (rung x) - c := by omega
  have h2 : (-1074 + (ex (rung y) : Int) - min (-1074 + (ex (rung x) : Int)) (-1074 + (ex (rung y) : Int))).toNat = ex (rung y) - c := by omega
  rw [h1, h2, ← compare_scale _ _ (2 ^ c) (Nat.two_pow_pos c), signed_SV (by omega), signed_SV (by omega)]

theorem natAbs_scale (a : Int) (k : Nat) : (a * (k : Int)).natAbs = a.natAbs * k := by
  rw [Int.natAbs_mul]; rfl

/-- the sign of a sum -/
def sumSgn (s t : Bool) (total : Int) : Bool := if total = 0 then s && t else decide (total < 0)

theorem sum_exact (s t : Bool) (m n a b : Nat) (r : Nat) (hr : r < 9218868437227405312)
    (h : ((if s then -((m * 2 ^ a : Nat) : Int) else ((m * 2 ^ a : Nat) : Int)) + (if t then -((n * 2 ^ b : Nat) : Int) else ((n * 2 ^ b : Nat) : Int))).natAbs = V r) :
    ((Datum.number s m (-1074 + (a : Int))).sum (.number t n (-1074 + (b : Int)))).map double.write =
      some (wd (sumSgn s t ((if s then -((m * 2 ^ a : Nat) : Int) else ((m * 2 ^ a : Nat) : Int)) + (if t then -((n * 2 ^ b : Nat) : Int) else ((n * 2 ^ b : Nat) : Int)))) r) := by
  simp only [Datum.sum, Option.map_some]
  generalize hc : min a b = c
  have h1 : (-1074 + (a : Int) - min (-1074 + (a : Int)) (-1074 + (b : Int))).toNat = a - c := by omega
  have h2 : (-1074 + (b : Int) - min (-1074 + (a : Int)) (-1074 + (b : Int))).toNat = b - c := by omega
  have h3 : min (-1074 + (a : Int)) (-1074 + (b : Int)) = -1074 + (c : Int) := by omega
  rw [h1, h2, h3]
  have ea := signed_scale s m (a - c) c
  have eb := signed_scale t n (b - c) c
  rw [Nat.sub_add_cancel (by omega)] at ea eb
  rw [← ea, ← eb, ← Int.add_mul] at h ⊢
  generalize signed s m (a - c) + signed t n (b - c) = total at *
  have hp : (0 : Int) < (2 ^ c : Nat) := by have := Nat.two_pow_pos c; omega
  have z : total * (2 ^ c : Nat) = 0 ↔ total = 0 := by
    constructor
    · intro e; rcases Int.mul_eq_zero.1 e with e | e
      · exact e
      · omega
    · intro e; rw [e, Int.zero_mul]
  have n : total * (2 ^ c : Nat) < 0 ↔ total < 0 := by
    constructor
    · intro e; rcases Int.lt_or_le total 0 with e1 | e1
      · exact e1
      · have := Int.mul_nonneg e1 (Int.le_of_lt hp); omega
    · intro e; exact Int.mul_neg_of_neg_of_pos e hp
  rw [natAbs_scale] at h
  have hs : (if total = 0 then s && t else decide (total < 0)) = sumSgn s t (total * (2 ^ c : Nat)) := by
    unfold sumSgn
    simp only [z, n]
  rw [← hs]
  simp only [Format.write]
  congr 1
  apply nearest_exact _ _ _ _ hr
  have e1 : (-1074 + (c : Int) + 1074).toNat = c := by omega
  have e2 : (-1074 - (-1074 + (c : Int))).toNat = 0 := by omega
  rw [e1, e2, h, Nat.pow_zero, Nat.mul_one]

theorem add_exact {x y r : Nat} (hx : fin x = true) (hy : fin y = true) (hr : r < 9218868437227405312) (h : (SV x + SV y).natAbs = V r) :
    double.add x y = some (wd (sumSgn (sgn x) (sgn y) (SV x + SV y)) r) := by
  unfold Format.add
  rw [read_fin hx, read_fin hy]
  exact sum_exact _ _ _ _ _ _ r hr h

theorem neg_ite (t : Bool) (n : Int) : (if (!t) = true then -n else n) = -(if t = true then -n else n) := by cases t <;> simp

theorem sub_exact {x y r : Nat} (hx : fin x = true) (hy : fin y = true) (hr : r < 9218868437227405312) (h : (SV x - SV y).natAbs = V r) :
    double.sub x y = some (wd (sumSgn (sgn x) (!sgn y) (SV x - SV y)) r) := by
  unfold Format.sub
  rw [read_fin hx, read_fin hy]
  simp only [Datum.opposite]
  have := sum_exact (sgn x) (!sgn y) (man (rung x)) (man (rung y)) (ex (rung x)) (ex (rung y)) r hr
  rw [neg_ite] at this
  exact this h

/-- 1, in units of the least place -/
def PL : Nat := 1074
theorem PL_eq : PL = 1074 := rfl
def U : Nat := 2 ^ PL
theorem U_pos : 0 < U := Nat.two_pow_pos _
theorem U_split (a : Nat) (h : a ≤ 1074) : U = 2 ^ (1074 - a) * 2 ^ a := by
  unfold U; rw [← Nat.pow_add, PL_eq]; congr 1; omega
theorem U_up (a : Nat) (h : 1074 ≤ a) : (2 : Nat) ^ a = 2 ^ (a - 1074) * U := by
  unfold U; rw [← Nat.pow_add, PL_eq]; congr 1; omega

theorem mul_exact {x y r : Nat} (hx : fin x = true) (hy : fin y = true) (hr : r < 9218868437227405312) (h : V (rung x) * V (rung y) = V r * U) :
    double.mul x y = some (wd (sgn x ^^ sgn y) r) := by
  unfold Format.mul
  rw [read_fin hx, read_fin hy]
  simp only [Datum.product, Option.map_some, Format.write]
  congr 1
  apply nearest_exact _ _ _ _ hr
  unfold V at h
  rw [Nat.mul_mul_mul_comm, ← Nat.pow_add] at h
  generalize ex (rung x) = a at *
  generalize ex (rung y) = b at *
  generalize man (rung x) * man (rung y) = m at *
  unfold V
  generalize man r * 2 ^ ex r = v at *
  by_cases hab : 1074 ≤ a + b
  · have e1 : (-1074 + (a : Int) + (-1074 + (b : Int)) + 1074).toNat = a + b - 1074 := by omega
    have e2 : (-1074 - (-1074 + (a : Int) + (-1074 + (b : Int)))).toNat = 0 := by omega
    rw [e1, e2, Nat.pow_zero, Nat.mul_one]
    rw [U_up _ hab, ← Nat.mul_assoc] at h
    exact Nat.eq_of_mul_eq_mul_right U_pos h
  · have e1 : (-1074 + (a : Int) + (-1074 + (b : Int)) + 1074).toNat = 0 := by omega
    have e2 : (-1074 - (-1074 + (a : Int) + (-1074 + (b : Int)))).toNat = 1074 - (a + b) := by omega
    rw [e1, e2, Nat.pow_zero, Nat.mul_one]
    rw [U_split (a + b) (by omega), ← Nat.mul_assoc] at h
    exact Nat.eq_of_mul_eq_mul_right (Nat.two_pow_pos (a + b)) h

/-- which numbers there are words for -/
theorem rep (e : Nat) : ∀ m : Nat, m < 9007199254740992 → e ≤ 2045 → ∃ r, r < 9218868437227405312 ∧ V r = m * 2 ^ e := by
  induction e with
  | zero =>
    intro m hm _
    refine ⟨m, by omega, ?_⟩
    unfold V man ex
    by_cases h : m < 4503599627370496
    · simp [h]
    · rw [if_neg h, if_neg h]
      have h1 : m / 4503599627370496 - 1 = 0 := by omega
      have h2 : 4503599627370496 + m % 4503599627370496 = m := by omega
      rw [h1, h2]
  | succ e ih =>
    intro m hm he
    by_cases h : m < 4503599627370496
    · obtain ⟨r, hr, hv⟩ := ih (2 * m) (by omega) (by omega)
      refine ⟨r, hr, ?_⟩
      rw [hv, Nat.pow_succ, Nat.mul_comm 2 m, Nat.mul_assoc, Nat.mul_comm 2]
    · refine ⟨(e + 2) * 4503599627370496 + (m - 4503599627370496), by omega, ?_⟩
      unfold V man ex
      rw [if_neg (by omega), if_neg (by omega)]
      have h1 : ((e + 2) * 4503599627370496 + (m - 4503599627370496)) % 4503599627370496 = m - 4503599627370496 := by omega
      have h2 : ((e + 2) * 4503599627370496 + (m - 4503599627370496)) / 4503599627370496 = e + 2 := by omega
      rw [h1, h2, show 4503599627370496 + (m - 4503599627370496) = m by omega, show e + 2 - 1 = e + 1 by omega]

/-- cutting towards nought -/
theorem cut_zero (s : Bool) (n d : Nat) : Toward.zero.cut s n d = n / 2 ^ d := by
  unfold Toward.cut
  simp only [Bool.toNat_false, Nat.add_zero, Nat.shiftLeft_eq, Nat.one_mul]
  rcases Nat.le_total d (n.log2 + 2) with h | h
  · rw [Nat.min_eq_left h]
  · rw [Nat.min_eq_right h]
    have h1 : n < 2 ^ (n.log2 + 1) := Nat.lt_log2_self
    have h2 : 2 ^ (n.log2 + 1) ≤ 2 ^ (n.log2 + 2) := Nat.pow_le_pow_right (by decide) (by omega)
    have h3 : 2 ^ (n.log2 + 2) ≤ 2 ^ d := Nat.pow_le_pow_right (by decide) h
    rw [Nat.div_eq_of_lt (by omega), Nat.div_eq_of_lt (by omega)]

theorem whole_of (m a : Nat) : m <<< (-1074 + (a : Int)).toNat / 2 ^ (-(-1074 + (a : Int))).toNat = m * 2 ^ a / U := by
  rw [Nat.shiftLeft_eq]
  by_cases h : 1074 ≤ a
  · have e1 : (-1074 + (a : Int)).toNat = a - 1074 := by omega
    have e2 : (-(-1074 + (a : Int))).toNat = 0 := by omega
    rw [e1, e2, U_up a h, Nat.pow_zero, Nat.div_one, ← Nat.mul_assoc, Nat.mul_div_cancel _ U_pos]
  · have e1 : (-1074 + (a : Int)).toNat = 0 := by omega
    have e2 : (-(-1074 + (a : Int))).toNat = 1074 - a := by omega
    rw [e1, e2, U_split a (by omega), Nat.pow_zero, Nat.mul_one, Nat.mul_div_mul_right _ _ (Nat.two_pow_pos a)]

/-- a finite word cut off to a whole number -/
theorem integral_fin {w : Nat} (h : fin w = true) : (double.read w).integral .zero = .number (sgn w) (V (rung w) / U) 0 := by
  rw [read_fin h]
  simp only [Datum.integral, cut_zero, whole_of]
  rfl

theorem toInt_fin {w : Nat} (h : fin w = true) : (double.read w).toInt .zero = some (if sgn w then -((V (rung w) / U : Nat) : Int) else ((V (rung w) / U : Nat) : Int)) := by
  unfold Datum.toInt
  rw [integral_fin h]
  simp [signed]

/-- a whole number that there is a word for -/
theorem write_whole (s : Bool) (K r : Nat) (hr : r < 9218868437227405312) (h : V r = K * U) : double.write (.number s K 0) = wd s r := by
  simp only [Format.write]
  apply nearest_exact _ _ _ _ hr
  have e1 : ((0 : Int) + 1074).toNat = PL := rfl
  have e2 : (-1074 - (0 : Int)).toNat = 0 := rfl
  rw [h, e1, e2, Nat.pow_zero, Nat.mul_one]; rfl

/-- the whole part of a word has a word -/
theorem whole_rep {r : Nat} (h : r < 9218868437227405312) : ∃ t, t < 9218868437227405312 ∧ V t = V r / U * U := by
  by_cases ha : 1074 ≤ ex r
  · refine ⟨r, h, ?_⟩
    have : V r = man r * 2 ^ (ex r - 1074) * U := by
      unfold V; rw [U_up _ ha, Nat.mul_assoc]
    rw [this, Nat.mul_div_cancel _ U_pos]
  · have hk : V r / U < 9007199254740992 := by
      have h1 := man_lt r
      have : V r < 9007199254740992 * U := by
        unfold V U
        exact Nat.mul_lt_mul_of_lt_of_le h1 (Nat.pow_le_pow_right (by decide) (by rw [PL_eq]; omega)) (Nat.two_pow_pos _)
      exact (Nat.div_lt_iff_lt_mul U_pos).2 this
    obtain ⟨t, ht, hv⟩ := rep PL _ hk (by rw [PL_eq]; omega)
    exact ⟨t, ht, hv⟩
end F64
