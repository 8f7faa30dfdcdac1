/-
  Contracts: Plain: a whole number's nearest float by its upper 64 bits and whether something is left below. The contract of the program's sticky: the float nearest to digits to any base (printed by gen_XVS.py). The contract of the program's exact, at digits to any base: the nearest float. Plain: decimal texts in their parts; what Read, Literal and Whole answer. The contract of the program's Read, at any text (printed by gen_XVV.py). The contract of the program's Literal, at any bytes (printed by gen_XVW.py).
-/
import Derived.Test.YtbakbikilbaafaaGreatDoorR14
import Derived.Test.YtbakbikilbaafaaGreatDoorR13
namespace Go.Proofs.YtbakbikilbaafaaGreatDoor
open Go.RowKit F64 Ieee
set_option linter.unusedVariables false
set_option maxHeartbeats 4000000
set_option maxRecDepth 100000

/-- with a bit that tells whether something is left below -/
def stk (q R : Nat) : Nat := if R = 0 then q else q ||| 1
theorem stk_le (q R : Nat) : q ≤ stk q R ∧ stk q R ≤ q / 2 * 2 + 1 := by
  unfold stk
  split
  · omega
  · rw [or_one]; omega
theorem stk_half (q R n : Nat) (hn : 0 < n) : stk q R / 2 ||| stk q R % 2 = stk (q / 2) (q % 2 * n + R) := by
  unfold stk
  by_cases h : R = 0
  · subst h
    rw [if_pos rfl, Nat.add_zero]
    rcases Nat.mod_two_eq_zero_or_one q with h | h
    · rw [h, Nat.zero_mul, if_pos rfl, Nat.or_zero]
    · rw [h, Nat.one_mul, if_neg (by omega)]
  · rw [if_neg h, if_neg (by omega), or_one q, show (q / 2 * 2 + 1) / 2 = q / 2 by omega, show (q / 2 * 2 + 1) % 2 = 1 by omega]
theorem half_stk {K m R n v : Nat} (hn : 0 < n) (hR : R < n) (hv : 2 ≤ v) (h : Half K (stk m R) (2 ^ v)) : Half K (m * n + R) (n * 2 ^ v) := by
  by_cases h0 : R = 0
  · subst h0
    have h : Half K m (2 ^ v) := by unfold stk at h; rw [if_pos rfl] at h; exact h
    refine half_cross (Nat.two_pow_pos v) (Nat.mul_pos hn (Nat.two_pow_pos v)) ?_ h
    rw [Nat.add_zero]; ac_rfl
  · unfold stk at h
    rw [if_neg h0, or_one] at h
    obtain ⟨w, rfl⟩ : ∃ w, v = w + 2 := ⟨v - 2, by omega⟩
    have e4 : (2 : Nat) ^ (w + 2) = 4 * 2 ^ w := by rw [Nat.pow_add, Nat.mul_comm]
    rw [e4] at h ⊢
    generalize (2 : Nat) ^ w = P at *
    obtain ⟨h1, h2⟩ := h
    have up : m + 1 ≤ 2 * (P * (2 * K + 1)) := by
      have e : 4 * P * (2 * K + 1) = 4 * (P * (2 * K + 1)) := by rw [Nat.mul_assoc]
      rw [e] at h1
      generalize P * (2 * K + 1) = T at *
      omega
    have eu : n * (4 * P) * (2 * K + 1) = 2 * (2 * (P * (2 * K + 1)) * n) := by
      rw [show (4 : Nat) = 2 * 2 from rfl]; ac_rfl
    have mu := Nat.mul_le_mul_right n up
    rw [Nat.add_mul, Nat.one_mul] at mu
    refine ⟨.inl (by rw [eu]; omega), ?_⟩
    rcases Nat.eq_zero_or_pos K with hK | hK
    · exact .inl hK
    · right; left
      have dn : 2 * (P * (2 * K - 1)) ≤ m := by
        have e : 4 * P * (2 * K - 1) = 4 * (P * (2 * K - 1)) := by rw [Nat.mul_assoc]
        rw [e] at h2
        generalize P * (2 * K - 1) = T at *
        omega
      have ed : n * (4 * P) * (2 * K - 1) = 2 * (2 * (P * (2 * K - 1)) * n) := by
        rw [show (4 : Nat) = 2 * 2 from rfl]; ac_rfl
      have md := Nat.mul_le_mul_right n dn
      rw [ed]; omega
theorem rnd_half (m : Nat) : Half (rnd m) m (2 ^ 11) := by
  rw [show (2 : Nat) ^ 11 = 2048 from rfl]
  unfold Half rnd
  split <;> omega
/-- the float nearest to a whole number -/
noncomputable def nN (N : Nat) : Nat := nearV (N * F64.U) 1
theorem nN_zero : nN 0 = 0 := by unfold nN; rw [Nat.zero_mul]; exact nearV_eq (by decide) (near_zero (by decide))
theorem wEK_min (E K : Nat) : wEK (E : Int) K = min (E * 4503599627370496 + K) 9218868437227405312 := by
  unfold wEK
  rw [show ((E : Nat) : Int).toNat = E from rfl]
  split <;> omega
/-- K, N in 2^z's, rounded -/
theorem nN_of {N K a z E : Nat} (hH : Half K (N * 2 ^ a) (2 ^ z)) (hE : E + a = 1074 + z) (hlo : 4503599627370496 * 2 ^ z ≤ N * 2 ^ a) (hK : K ≤ 9007199254740992) : wEK (E : Int) K = nN N := by
  have hU : F64.U = 2 ^ PL := rfl
  have hPL : E + a = PL + z := hE
  have he : (2 : Nat) ^ E * 2 ^ a = F64.U * 2 ^ z := by rw [hU, ← Nat.pow_add, ← Nat.pow_add, hPL]
  have hc : N * 2 ^ a * (1 * 2 ^ E) = N * F64.U * 2 ^ z := by
    calc N * 2 ^ a * (1 * 2 ^ E) = N * (2 ^ E * 2 ^ a) := by ac_rfl
      _ = N * F64.U * 2 ^ z := by rw [he]; ac_rfl
  have h2 : Half K (N * F64.U) (1 * 2 ^ E) := half_cross (Nat.two_pow_pos z) (by rw [Nat.one_mul]; exact Nat.two_pow_pos E) hc hH
  have h3 : 1 * 2 ^ E * 4503599627370496 ≤ N * F64.U := by
    refine Nat.le_of_mul_le_mul_right (c := 2 ^ z) ?_ (Nat.two_pow_pos z)
    rw [← hc]
    calc 1 * 2 ^ E * 4503599627370496 * 2 ^ z = 4503599627370496 * 2 ^ z * (1 * 2 ^ E) := by ac_rfl
      _ ≤ N * 2 ^ a * (1 * 2 ^ E) := Nat.mul_le_mul_right _ hlo
  rw [wEK_min]
  exact (nearV_eq (by decide) (near_round (by decide) h2 (.inr h3) hK)).symm
/-- by 64 bits -/
theorem nN_64 {N m R s k : Nat} (h : N * 2 ^ s = m * 2 ^ k + R) (hR : R < 2 ^ k) (h1 : 9223372036854775808 ≤ m) (h2 : m < 18446744073709551616) (hs : s ≤ 1000) : wEK (1085 + (k : Int) - (s : Int)) (rnd (stk m R)) = nN N := by
  obtain ⟨s1, s2⟩ := stk_le m R
  obtain ⟨r1, r2⟩ := rnd_le (m := stk m R) (by omega) (by omega)
  have hH := half_stk (Nat.two_pow_pos k) hR (by decide) (rnd_half (stk m R))
  rw [← h, ← Nat.pow_add] at hH
  have := nN_of (E := 1085 + k - s) hH (by omega) (by
    rw [Nat.pow_add, h]
    have e : 4503599627370496 * (2 ^ k * 2 ^ 11) = 9223372036854775808 * 2 ^ k := by
      rw [show (9223372036854775808 : Nat) = 4503599627370496 * 2 ^ 11 from rfl]; ac_rfl
    rw [e]
    have := Nat.mul_le_mul_right (2 ^ k) h1
    omega) r2
  rw [← this]
  congr 1
  omega
/-- digits to a base -/
def numB (base : Nat) (l : List Nat) : Nat := l.foldl (fun n c => n * base + wth c) 0
theorem valW_stk (base : Nat) (l : List Nat) : valW (stkW base l) = numB base l := by
  have key : ∀ (l ws : List Nat) (n : Nat), valW ws = n → valW (l.foldl (fun ws c => stepW base ws (wth c)) ws) = l.foldl (fun n c => n * base + wth c) n := by
    intro l
    induction l with
    | nil => intro ws n h; exact h
    | cons c l ih =>
      intro ws n h
      simp only [List.foldl_cons]
      exact ih _ _ (by rw [stepW_val, h])
  exact key l [] 0 rfl
/-- the last word is not nought -/
def LastNZ (ws : List Nat) : Prop := ∀ t, ws.getLast? = some t → t ≠ 0
theorem mulA_last {base : Nat} (hb : 1 ≤ base) : ∀ (ws : List Nat) (c : Nat), (∀ x ∈ ws, x < B64) → LastNZ ws → (mulA base ws c).2 = 0 → LastNZ (mulA base ws c).1
  | [], c, _, _, _ => by intro t ht; simp [mulA] at ht
  | [x], c, hw, hl, h0 => by
    intro t ht
    simp only [mulA, List.getLast?_singleton, Option.some.injEq] at ht h0
    have hx := hl x rfl
    have hxb : 1 ≤ x * base := Nat.mul_pos (by omega) (by omega)
    generalize x * base = y at *
    unfold B64 at *
    omega
  | x :: y :: ws, c, hw, hl, h0 => by
    have ih := mulA_last hb (y :: ws) ((x * base + c) / B64) (fun z hz => hw z (List.mem_cons_of_mem _ hz)) (fun t ht => hl t (by rw [List.getLast?_cons_cons]; exact ht)) h0
    intro t ht
    refine ih t ?_
    have e : mulA base (x :: y :: ws) c = ((x * base + c) % B64 :: (mulA base (y :: ws) ((x * base + c) / B64)).1, (mulA base (y :: ws) ((x * base + c) / B64)).2) := rfl
    rw [e] at ht
    have ln : (mulA base (y :: ws) ((x * base + c) / B64)).1.length = ws.length + 1 := by rw [mulA_len]; rfl
    generalize (mulA base (y :: ws) ((x * base + c) / B64)).1 = q at *
    cases q with
    | nil => simp at ln
    | cons a q => simp only [List.getLast?_cons_cons] at ht; exact ht
theorem stepW_last {base : Nat} (hb : 1 ≤ base) {ws : List Nat} {d : Nat} (hw : ∀ x ∈ ws, x < B64) (hl : LastNZ ws) : LastNZ (stepW base ws d) := by
  unfold stepW
  split
  · rename_i h0
    exact mulA_last hb ws d hw hl h0
  · rename_i h0
    intro t ht
    simp at ht
    omega
theorem stkW_last {base : Nat} (hb : 1 ≤ base) (hb2 : base ≤ 36) {l : List Nat} (hl : ∀ c ∈ l, wth c < base) : LastNZ (stkW base l) := by
  have key : ∀ k, LastNZ (stkW base (l.take k)) := by
    intro k
    induction k with
    | zero => intro t ht; simp [stkW] at ht
    | succ k ih =>
      rcases Nat.lt_or_ge k l.length with h | h
      · have hx : l[k]? = some l[k] := List.getElem?_eq_getElem h
        rw [stkW_snoc base l k _ hx]
        exact stepW_last hb (stkW_lt hb hb2 hl k) ih
      · rw [List.take_of_length_le (by omega)] at ih ⊢
        exact ih
  have := key l.length
  rwa [List.take_length] at this
theorem valW_lt : ∀ (l : List Nat), (∀ x ∈ l, x < B64) → valW l < B64 ^ l.length
  | [], _ => by simp [valW]
  | x :: l, h => by
    have ih := valW_lt l (fun y hy => h y (List.mem_cons_of_mem _ hy))
    have hx := h x (List.mem_cons_self ..)
    simp only [valW, List.length_cons, Nat.pow_succ]
    rw [Nat.mul_comm (B64 ^ l.length) B64]
    have := Nat.mul_le_mul_left B64 (show valW l + 1 ≤ B64 ^ l.length by omega)
    rw [Nat.mul_add] at this
    omega
theorem nat_or_zero {a b : Nat} : a ||| b = 0 ↔ a = 0 ∧ b = 0 := by
  constructor
  · intro h
    have h1 := Nat.left_le_or (n := a) (m := b)
    have h2 := Nat.right_le_or (n := a) (m := b)
    omega
  · rintro ⟨rfl, rfl⟩; rfl
/-- words or'ed together -/
def orL (l : List Nat) (a : Nat) : Nat := l.foldl (· ||| ·) a
theorem orL_zero : ∀ (l : List Nat) (a : Nat), orL l a = 0 ↔ a = 0 ∧ valW l = 0
  | [], a => by simp [orL, valW]
  | x :: l, a => by
    show orL l (a ||| x) = 0 ↔ _
    rw [orL_zero l, nat_or_zero]
    simp only [valW]
    unfold B64
    omega
theorem orL_take {l : List Nat} {k x a : Nat} (h : l[k]? = some x) : orL (l.take (k + 1)) a = orL (l.take k) a ||| x := by
  unfold orL
  rw [List.take_add_one, h, List.foldl_append]; rfl
theorem B64_pow (k : Nat) : B64 ^ k = 2 ^ (64 * k) := by
  have : B64 = 2 ^ 64 := by decide
  rw [this, ← Nat.pow_mul]
/-- two words at the top, and those below -/
theorem two_words {lo : List Nat} {u t s : Nat} (hlo : ∀ x ∈ lo, x < B64) (hu : u < B64) (hs : s ≤ 63) (ht : t * 2 ^ s < B64) :
    valW (lo ++ [u, t]) * 2 ^ s = (t * 2 ^ s + u / 2 ^ (64 - s)) * 2 ^ (64 * (lo.length + 1)) + (u * 2 ^ s % B64 * B64 ^ lo.length + valW lo * 2 ^ s) ∧
    u * 2 ^ s % B64 * B64 ^ lo.length + valW lo * 2 ^ s < 2 ^ (64 * (lo.length + 1)) ∧ u / 2 ^ (64 - s) < 2 ^ s := by
  have hB : B64 = 2 ^ (64 - s) * 2 ^ s := by
    rw [← Nat.pow_add, show 64 - s + s = 64 by omega]; decide
  have hpa : 0 < 2 ^ (64 - s) := Nat.two_pow_pos _
  have hps : 0 < 2 ^ s := Nat.two_pow_pos _
  have e1 : u * 2 ^ s = u / 2 ^ (64 - s) * B64 + u * 2 ^ s % B64 := by
    have hd := Nat.div_add_mod (u * 2 ^ s) B64
    have : u * 2 ^ s / B64 = u / 2 ^ (64 - s) := by
      rw [hB, Nat.mul_div_mul_right _ _ hps]
    rw [this] at hd
    rw [Nat.mul_comm (u / 2 ^ (64 - s)) B64]
    omega
  have hlv := valW_lt lo hlo
  have hq : u / 2 ^ (64 - s) < 2 ^ s := by
    rw [Nat.div_lt_iff_lt_mul hpa, Nat.mul_comm, ← hB]; exact hu
  have hmod : u * 2 ^ s % B64 + 2 ^ s ≤ B64 := by
    have h1 : u * 2 ^ s % B64 = u % 2 ^ (64 - s) * 2 ^ s := by
      rw [hB, Nat.mul_mod_mul_right]
    have h2 := Nat.mod_lt u hpa
    have h3 := Nat.mul_le_mul_right (2 ^ s) (show u % 2 ^ (64 - s) + 1 ≤ 2 ^ (64 - s) by omega)
    rw [Nat.add_mul, Nat.one_mul, ← hB] at h3
    omega
  refine ⟨?_, ?_, hq⟩
  · rw [valW_app]
    simp only [valW, Nat.mul_zero, Nat.add_zero]
    rw [← B64_pow, Nat.pow_succ]
    generalize u * 2 ^ s % B64 = r at *
    generalize u / 2 ^ (64 - s) = q at *
    generalize B64 ^ lo.length = P at *
    generalize valW lo = V0 at *
    calc (V0 + P * (u + B64 * t)) * 2 ^ s = V0 * 2 ^ s + P * (u * 2 ^ s) + t * 2 ^ s * (P * B64) := by
          rw [Nat.add_mul, Nat.mul_add, Nat.add_mul]; simp only [Nat.add_assoc]; congr 1; congr 1 <;> ac_rfl
      _ = V0 * 2 ^ s + P * (q * B64 + r) + t * 2 ^ s * (P * B64) := by rw [← e1]
      _ = (t * 2 ^ s + q) * (P * B64) + (r * P + V0 * 2 ^ s) := by
          rw [Nat.mul_add, Nat.add_mul, show P * (q * B64) = q * (P * B64) by ac_rfl, Nat.mul_comm P r]; omega
  · rw [← B64_pow, Nat.pow_succ]
    generalize u * 2 ^ s % B64 = r at *
    generalize B64 ^ lo.length = P at *
    have h1 := Nat.mul_le_mul_left P hmod
    rw [Nat.mul_add, Nat.mul_comm P r] at h1
    have h2 : valW lo * 2 ^ s < P * 2 ^ s := Nat.mul_lt_mul_of_pos_right hlv hps
    omega
end Go.Proofs.YtbakbikilbaafaaGreatDoor
namespace Go.Proofs.YtbakbikilbaafaaGreatDoor
open Go.RowKit F64 Ieee
set_option linter.unusedVariables false
set_option maxHeartbeats 4000000
set_option maxRecDepth 100000

theorem shl_ex {t : Nat} (ht0 : 0 < t) (ht : t < B64) : ∃ s : Nat, s ≤ 63 ∧ Lib.bitLen t = 64 - s ∧ 9223372036854775808 ≤ t * 2 ^ s ∧ t * 2 ^ s + 2 ^ s ≤ 18446744073709551616 ∧ 0 < 2 ^ s := by
  obtain ⟨b0, b1, b2, b3⟩ := bl_d ht0 ht
  refine ⟨64 - Lib.bitLen t, by omega, by omega, ?_, ?_, Nat.two_pow_pos _⟩
  · have h := Nat.mul_le_mul_right (2 ^ (64 - Lib.bitLen t)) b2
    rw [← Nat.pow_add, show Lib.bitLen t - 1 + (64 - Lib.bitLen t) = 63 by omega] at h
    exact h
  · have h := Nat.mul_le_mul_right (2 ^ (64 - Lib.bitLen t)) (show t + 1 ≤ 2 ^ Lib.bitLen t from b3)
    rw [← Nat.pow_add, show Lib.bitLen t + (64 - Lib.bitLen t) = 64 by omega, Nat.add_mul, Nat.one_mul] at h
    exact h
theorem top_one {t s : Nat} (hs : s ≤ 63) (h1 : 9223372036854775808 ≤ t * 2 ^ s) (h2 : t * 2 ^ s + 2 ^ s ≤ 18446744073709551616) (h3 : 0 < 2 ^ s) :
    wEK (1085 - (s : Int)) (rnd (t * 2 ^ s)) = nN (valW [t]) := by
  have h := nN_64 (N := t) (m := t * 2 ^ s) (R := 0) (s := s) (k := 0) (by simp) (by decide) h1 (by omega) (by omega)
  have e : valW [t] = t := by simp [valW]
  rw [e, ← h]
  unfold stk
  rw [if_pos rfl]
  congr 1
theorem top_two {lo : List Nat} {u t s : Nat} (hs : s ≤ 63) (h1 : 9223372036854775808 ≤ t * 2 ^ s) (h2 : t * 2 ^ s + 2 ^ s ≤ 18446744073709551616) (hu : u < B64) (hlo : ∀ x ∈ lo, x < B64) :
    u / 2 ^ (64 - s) < 2 ^ s ∧ (∀ q, q = (if orL lo (u * 2 ^ s % B64) = 0 then t * 2 ^ s + u / 2 ^ (64 - s) else (t * 2 ^ s + u / 2 ^ (64 - s)) ||| 1) → 9223372036854775808 ≤ q ∧ q < 18446744073709551616 ∧ wEK (1085 + ((64 * (lo.length + 1) : Nat) : Int) - (s : Int)) (rnd q) = nN (valW (lo ++ [u, t]))) := by
  have ht : t * 2 ^ s < B64 := by have := Nat.two_pow_pos s; unfold B64; omega
  obtain ⟨a1, a2, a3⟩ := two_words hlo hu hs ht
  refine ⟨a3, fun q hq => ?_⟩
  have hq2 : q = stk (t * 2 ^ s + u / 2 ^ (64 - s)) (u * 2 ^ s % B64 * B64 ^ lo.length + valW lo * 2 ^ s) := by
    rw [hq]
    unfold stk
    have e : (orL lo (u * 2 ^ s % B64) = 0) ↔ (u * 2 ^ s % B64 * B64 ^ lo.length + valW lo * 2 ^ s = 0) := by
      rw [orL_zero]
      have p1 : 0 < B64 ^ lo.length := Nat.pow_pos (by decide)
      have p2 : 0 < 2 ^ s := Nat.two_pow_pos s
      constructor
      · rintro ⟨r1, r2⟩; rw [r1, r2]; simp
      · intro h
        have m1 : u * 2 ^ s % B64 * B64 ^ lo.length = 0 := by omega
        have m2 : valW lo * 2 ^ s = 0 := by omega
        rcases Nat.mul_eq_zero.1 m1 with g | g
        · rcases Nat.mul_eq_zero.1 m2 with g2 | g2
          · exact ⟨g, g2⟩
          · omega
        · omega
    by_cases h : orL lo (u * 2 ^ s % B64) = 0
    · rw [if_pos h, if_pos (e.1 h)]
    · rw [if_neg h, if_neg (fun g => h (e.2 g))]
  have hm2 : t * 2 ^ s + u / 2 ^ (64 - s) < 18446744073709551616 := by omega
  have hm1 : 9223372036854775808 ≤ t * 2 ^ s + u / 2 ^ (64 - s) := Nat.le_trans h1 (Nat.le_add_right _ _)
  obtain ⟨s1, s2⟩ := stk_le (t * 2 ^ s + u / 2 ^ (64 - s)) (u * 2 ^ s % B64 * B64 ^ lo.length + valW lo * 2 ^ s)
  rw [← hq2] at s1 s2
  have h := nN_64 a1 a2 hm1 hm2 (by omega)
  rw [← hq2] at h
  refine ⟨Nat.le_trans hm1 s1, ?_, h⟩
  generalize t * 2 ^ s + u / 2 ^ (64 - s) = m at *
  omega
theorem shl_u64 (t s : Nat) (h : t * 2 ^ s < 18446744073709551616) : IntKind.u64.wrap ((t : Int) * 2 ^ s) = ((t * 2 ^ s : Nat) : Int) := by
  have e : (t : Int) * 2 ^ s = ((t * 2 ^ s : Nat) : Int) := by rw [Int.natCast_mul, Int.natCast_pow]; rfl
  rw [e]
  generalize t * 2 ^ s = y at *
  rw [IntKind.wrap_u64]
  omega
theorem shl_m64 (t s : Nat) : IntKind.u64.wrap ((t : Int) * 2 ^ s) = ((t * 2 ^ s % 18446744073709551616 : Nat) : Int) := by
  have e : (t : Int) * 2 ^ s = ((t * 2 ^ s : Nat) : Int) := by rw [Int.natCast_mul, Int.natCast_pow]; rfl
  rw [e]
  generalize t * 2 ^ s = y at *
  rw [IntKind.wrap_u64]
  omega
theorem or_top (t s b : Nat) (h : t * 2 ^ s + 2 ^ s ≤ 18446744073709551616) (hb : b < 2 ^ s) : bits BinOp.or IntKind.u64 ((t * 2 ^ s : Nat) : Int) (b : Int) = ((t * 2 ^ s + b : Nat) : Int) := by
  rw [bits_or_u64_nat _ _ (by omega) (by omega)]
  congr 1
  rw [Nat.mul_comm t (2 ^ s)]
  exact (Nat.two_pow_add_eq_or_of_lt hb t).symm
theorem or_one64 (m : Nat) (h : m < 18446744073709551616) : bits BinOp.or IntKind.u64 (m : Int) 1 = ((m ||| 1 : Nat) : Int) := by
  have := bits_or_u64_nat m 1 h (by decide)
  exact this
theorem or_lt64 {a b : Nat} (ha : a < 18446744073709551616) (hb : b < 18446744073709551616) : a ||| b < 18446744073709551616 := Nat.or_lt_two_pow (n := 64) (by omega) (by omega)
theorem orL_lt : ∀ (l : List Nat) (a : Nat), a < 18446744073709551616 → (∀ x ∈ l, x < B64) → orL l a < 18446744073709551616
  | [], a, h, _ => h
  | x :: l, a, h, hl => orL_lt l (a ||| x) (or_lt64 h (hl x (List.mem_cons_self ..))) (fun y hy => hl y (List.mem_cons_of_mem _ hy))
theorem words_form (W : List Nat) : W = [] ∨ (∃ t, W = [t]) ∨ ∃ lo u t, W = lo ++ [u, t] := by
  rcases List.eq_nil_or_concat W with h | ⟨A, t, h⟩
  · exact .inl h
  · rcases List.eq_nil_or_concat A with g | ⟨lo, u, g⟩
    · subst g; exact .inr (.inl ⟨t, by simpa using h⟩)
    · subst g; exact .inr (.inr ⟨lo, u, t, by simpa using h⟩)
/-- rounded, then Ldexp -/
theorem c_rl (q : Nat) (k : Int) (h1 : 9223372036854775808 ≤ q) (h2 : q < 18446744073709551616) (hk1 : -1085 ≤ k) (hk2 : k ≤ 1000000) :
    ∃ R0 : Nat, (∀ W, Calls Tryz.prog 111 #[.int .u64 (q : Int)] W fun e w' => e = .returned (.float .f64 R0) ∧ W = w') ∧ (∀ W, Calls Tryz.prog 110 #[.float .f64 R0, .int .i64 k] W fun e w' => e = .returned (.float .f64 (wEK (1085 + k) (rnd q))) ∧ W = w') := by
  obtain ⟨rk1, rk2⟩ := rnd_le h1 h2
  have hw85 : wEK 1085 (rnd q) = 1085 * 4503599627370496 + rnd q := by
    unfold wEK
    rw [show (1085 : Int).toNat = 1085 from rfl, if_pos (by omega)]
  refine ⟨_, fun W => c_drounded q h1 h2 W, fun W => ?_⟩
  have := c_LdexpG 1085 (rnd q) k rk1 rk2 (by omega) hk2 (by decide) W
  rw [hw85]
  rw [show k + ((1085 : Nat) : Int) = 1085 + k by omega] at this
  exact this
theorem c_dsticky (L : List Nat) (base : Nat) (hb : 2 ≤ base) (hb2 : base ≤ 36) (hL : ∀ c ∈ L, c < 256 ∧ wth c < base) (hl : L.length ≤ 10000) (w : World) :
    Calls Tryz.prog 76 #[.string (u8sG L), .int .i64 (base : Int)] w fun r w' => r = .returned (.float .f64 (nN (numB base L))) ∧ Below w.heap.size w w' := by
  have hval := Lib.hid (valW_stk base L)
  have hlast := Lib.hid (stkW_last (base := base) (l := L) (by omega) hb2 (fun c hc => (hL c hc).2))
  have hltW := Lib.hid (stkW_lt (base := base) (l := L) (by omega) hb2 (fun c hc => (hL c hc).2) L.length)
  rw [List.take_length] at hltW
  have hlenW := Lib.hid (stkW_len base L)
  generalize hV : nN (numB base L) = V at *
  replace hV := Lib.hid hV
  obtain ⟨i0, hi0, hz0, hz1, hz2⟩ := info_parts infoU64
  have hsz : (u8sG L).size = L.length := uG_size L
  have hget := Lib.hid (fun j c (h1 : L[j]? = some c) (h2 : c < 256) h3 => uG_get L j c h1 h2 h3)
  have hwl := Lib.hid (stkW_lt (base := base) (l := L) (by omega) hb2 (fun c hc => (hL c hc).2))
  have hst := Lib.hid (stkW_snoc base L)
  have hwlen := Lib.hid (fun k => stkW_len base (L.take k))
  have hW := Lib.hid (fun (c : Nat) (hc : c < 256) W => c_dworth c hc W)
  have hM := Lib.hid (fun x (hx : x < 18446744073709551616) W => d_Mul64 x base hx (by omega) W)
  have hA := r_Add64
  have hLc := Lib.hid hL
  have hszl : (u8sG L).size ≤ 10000000 := by omega
  replace hsz := Lib.hid hsz
  generalize u8sG L = S at *
  clear hL
  go_enter Tryz.func76, Tryz.ntmps76
  go_wp2
  go_loopw [5, 19] (fun v5 v19 wr => ∃ j : Nat, j ≤ L.length ∧ v19 = .int .i64 (j : Int) ∧ wr.ownsRow w.heap.size 102 1 v5 (stkW base (L.take j)).length (u64s (stkW base (L.take j))) ∧ Below w.heap.size w wr) (fun _ v19 _ => L.length - (intOf v19).toNat)
  case atStart => exact ⟨0, Nat.zero_le _, rfl, World.ownsRow_nil _ _ _ _, Below.refl _ _⟩
  case round =>
    obtain ⟨j, hj, rfl, hown, hbel⟩ := hrel
    by_cases hjl : j < L.length
    · obtain ⟨c, hc⟩ : ∃ c, L[j]? = some c := ⟨L[j], List.getElem?_eq_getElem hjl⟩
      obtain ⟨hc1, hc2⟩ := hLc.out c (List.mem_of_getElem? hc)
      have hjs : j < S.size := by have := hsz.out; omega
      have hg := hget.out j c hc hc1 hjs
      have hjI : (j : Int) < (S.size : Int) := by omega
      have hWc := Lib.hid (fun W => hW.out c hc1 W)
      have hs := Lib.hid (hst.out j c hc)
      have hlt := Lib.hid (hwl.out j)
      have hwn := hwlen.out j
      rw [List.length_take] at hwn
      generalize stkW base (L.take j) = ws at *
      generalize wth c = d at *
      have hwn2 : ws.length ≤ 10000000 := by omega
      replace hwn := Lib.hid hwn
      have hIn : ∀ k, (inW base ws d k).length = ws.length ∨ ws.length < k := fun k => by
        rcases Nat.lt_or_ge ws.length k with h | h
        · exact .inr h
        · exact .inl (inW_len base ws d k h)
      have hIg := Lib.hid (inW_get base ws d)
      have hIs := Lib.hid (inW_set base ws d)
      have hMs := Lib.hid (fun k x (h : ws[k]? = some x) => mulA_snoc base ws k x d h)
      have hMc := Lib.hid (fun k => mulA_carry base (by omega) (ws.take k) d hc2 (fun x hx => hlt.out x (List.mem_of_mem_take hx)))
      have hstep : Hid (stepW base ws d = if (mulA base (ws.take ws.length) d).2 = 0 then inW base ws d ws.length else inW base ws d ws.length ++ [(mulA base (ws.take ws.length) d).2]) := by
        show _ = _
        unfold stepW inW
        rw [List.take_length, List.drop_length, List.append_nil]
      have hI0 : inW base ws d 0 = ws := by unfold inW; simp [mulA]
      have hM0 : (mulA base (ws.take 0) d).2 = d := by simp [mulA]
      obtain ⟨p, cap, rfl⟩ : ∃ p cap, u5 = .slice p ws.length cap := by
        rcases hown.2 with ⟨rfl, h0⟩ | ⟨g, cap, cur, rfl, _⟩
        · exact ⟨none, 0, by rw [h0]⟩
        · exact ⟨_, _, rfl⟩
      rw [← hI0] at hown
      replace hI0 := Lib.hid hI0
      replace hM0 := Lib.hid hM0
      replace hIn := Lib.hid hIn
      have hown := Lib.hid hown
      replace hbel := Lib.hid hbel
      clear hc hc1
      go_wp2_with (go_at_call 46; refine (hWc.out _).mono ?_; rintro e w' ⟨rfl, rfl⟩)
      go_loopw [7, 29] (fun v7 v29 wi => ∃ k : Nat, k ≤ ws.length ∧ v29 = .int .i64 (k : Int) ∧ v7 = .int .u64 ((mulA base (ws.take k) d).2 : Int) ∧ wi.ownsRow w.heap.size 102 1 (.slice p ws.length cap) ws.length (u64s (inW base ws d k)) ∧ Below w.heap.size w wi) (fun _ v29 _ => ws.length - (intOf v29).toNat)
      case atStart => exact ⟨0, Nat.zero_le _, rfl, by rw [hM0.out], by rw [hI0.out] at hown ⊢; exact hown.out, hbel.out⟩
      case round =>
        obtain ⟨k, hk, rfl, rfl, hown, hbel⟩ := hrel
        by_cases hkl : k < ws.length
        · obtain ⟨x, hx⟩ : ∃ x, ws[k]? = some x := ⟨ws[k], List.getElem?_eq_getElem hkl⟩
          have hxB : x < 18446744073709551616 := hlt.out x (List.mem_of_getElem? hx)
          have hset := Lib.hid (hIs.out k x hx)
          have hms := Lib.hid (hMs.out k x hx)
          have hmc := hMc.out k
          have hIgk := hIg.out k hkl
          rw [hx] at hIgk
          obtain ⟨g, cap2, e1, hr⟩ := hown.form (by omega)
          injection e1 with e1 _ e2
          subst e1 e2
          have hcell := World.ownsRow.cells hown (g := g) rfl k (.int .u64 (x : Int)) (by simp [u64s, hIgk])
          rw [add_zero_addr] at hcell
          have hfz := World.ownsRow.frozenAt hown k
          obtain ⟨hown2, hgr⟩ := World.ownsRow.stored hown k (.int .u64 (((x * base + (mulA base (ws.take k) d).2) % B64 : Nat) : Int))
          rw [u64s_set, hset.out] at hown2
          have hbel2 : Below w.heap.size w (wr.setCell ⟨g, k, none⟩ (.int .u64 (((x * base + (mulA base (ws.take k) d).2) % B64 : Nat) : Int))) := hbel.grown hgr hbel.size (own_base hown)
          have hms2 : (mulA base (ws.take (k + 1)) d).2 = (x * base + (mulA base (ws.take k) d).2) / B64 := by rw [hms.out]
          rw [show B64 = 18446744073709551616 from rfl] at hms2 hown2 hbel2
          have hMx := Lib.hid (fun W => hM.out x hxB W)
          generalize (mulA base (ws.take k) d).2 = cr at *
          have hAx := Lib.hid (hA (x * base % 18446744073709551616) cr)
          have hyb : x * base ≤ 18446744073709551615 * 36 := Nat.mul_le_mul (by omega) hb2
          have q0 : (x * base % 18446744073709551616 + cr) % 18446744073709551616 = (x * base + cr) % 18446744073709551616 := by omega
          have q1 : x * base / 18446744073709551616 + (x * base % 18446744073709551616 + cr) / 18446744073709551616 = (x * base + cr) / 18446744073709551616 := by omega
          have q2 : x * base / 18446744073709551616 + (x * base % 18446744073709551616 + cr) / 18446744073709551616 < 100 := by omega
          rw [← q0] at hown2 hbel2
          rw [← q1] at hms2
          generalize x * base / 18446744073709551616 = y1 at *
          generalize x * base % 18446744073709551616 = y0 at *
          generalize (y0 + cr) % 18446744073709551616 = z0 at *
          generalize (y0 + cr) / 18446744073709551616 = z1 at *
          have hAx := hAx.out
          have hkI : (k : Int) < (ws.length : Int) := by omega
          replace hown2 := Lib.hid hown2
          replace hms2 := Lib.hid hms2
          clear q0 q1 hyb hown hgr hms hset hx hIgk hxB hmc hA hr
          go_wp2_with (go_at_call 107; refine (hMx.out _).mono ?_; rintro e w' ⟨rfl, rfl⟩)
          exact ⟨⟨k + 1, by omega, by go_num, by rw [hms2.out, Int.natCast_add], hown2.out, hbel2⟩, by simp [intOf]; omega⟩
        · obtain rfl : k = ws.length := by omega
          have hst2 := hs.out.trans hstep.out
          have hcr := hMc.out ws.length
          clear hstep hs
          have hkI : ¬ ((ws.length : Nat) : Int) < (ws.length : Int) := by omega
          have hlen := inW_len base ws d ws.length (Nat.le_refl _)
          generalize (mulA base (ws.take ws.length) d).2 = cr at *
          generalize inW base ws d ws.length = vs at *
          clear hIg hIs hMs hMc hA hI0 hM0 hIn
          by_cases h0 : cr = 0
          · rw [if_pos h0] at hst2
            subst h0
            rw [← hlen, ← hst2] at hown
            rw [← hlen, ← hst2]
            replace hown := Lib.hid hown
            clear hst2 hlen
            have hkI2 : ¬ ((stkW base (L.take (j + 1))).length : Int) < ((stkW base (L.take (j + 1))).length : Int) := by omega
            go_wp2_with fail
            go_roundw
            case rel => exact ⟨j + 1, by omega, by go_num, hown.out, hbel⟩
            case measure => simp [intOf]; omega
          · rw [if_neg h0] at hst2
            have hcr0 : 0 < cr := by omega
            have hcB : u64s vs ++ [.int .u64 (cr : Int)] = u64s (stkW base (L.take (j + 1))) := by rw [hst2]; simp [u64s]
            have hsl : (stkW base (L.take (j + 1))).length = ws.length + 1 := by rw [hst2]; simp [hlen]
            replace hcB := Lib.hid hcB
            replace hsl := Lib.hid hsl
            clear hst2 h0 hlen
            go_wp2_with (at_builtin; refine wpList_append_lies _ (by rfl) _ _ _ (by rfl) w.heap.size 102 i0 _ 1 8 Tryz.underlying121 hi0 hz0 hz1 hz2 rfl (by omega) (.slice p ws.length cap) ws.length (u64s vs) (by rfl) (hown.alloc _) ⟨wr.heap.size, 0, none⟩ 1 1 [.int .u64 (cr : Int)] (by rfl) (by rfl) (World.news_of_block (cs := #[.int .u64 (cr : Int)]) (t := 102) (fr := (0, 0)) (by exact heap_alloc_new wr _)) (by simp [Value.oneCell']) (by omega) (by unfold maxLen; omega) (by omega) (by have := hbel.size; simp; omega) (wr.heap.size + 1) (by simp) ?_; intro gg cap2 w2 hown2 hgrow hat hlt2)
            have hown3 : w2.ownsRow w.heap.size 102 1 (.slice (some ⟨gg, 0, none⟩) (ws.length + 1) cap2) (stkW base (L.take (j + 1))).length (u64s (stkW base (L.take (j + 1)))) := by
              rw [← hcB.out, hsl.out]; exact hown2
            have hbel2 : Below w.heap.size w w2 := (hbel.alloc hbel.size _).grown hgrow (by have := hbel.size; simp; omega) (own_base hown)
            clear hown2 hgrow
            go_roundw
            case rel => exact ⟨j + 1, by omega, by go_num, hown3, hbel2⟩
            case measure => simp [intOf]; omega
    · obtain rfl : j = L.length := by omega
      rw [List.take_length] at hown
      have hjI : ¬ (L.length : Int) < (S.size : Int) := by have := hsz.out; omega
      have hvalW := Lib.hid hval.out
      clear hM hW hLc hst hwlen hwl hget hsz
      generalize stkW base L = W at *
      rcases words_form W with rfl | ⟨t, rfl⟩ | ⟨lo, u, t, rfl⟩
      · have hr : Hid (V = 0) := by
          show _ = _
          rw [← hV.out, ← hvalW.out]; exact nN_zero
        obtain ⟨p, cap, rfl⟩ : ∃ p cap, u5 = .slice p 0 cap := by
          rcases hown.2 with ⟨rfl, h0⟩ | ⟨g, cap, cur, rfl, _⟩
          · exact ⟨none, 0, rfl⟩
          · exact ⟨_, _, rfl⟩
        clear hval hvalW hV hown hlast hltW hlenW
        go_wp2_with fail
        go_ret
        exact ⟨by rw [hr.out]; rfl, hbel⟩
      · have ht0 : 0 < t := Nat.pos_of_ne_zero (hlast.out t rfl)
        have htB : t < B64 := hltW.out t (by simp)
        obtain ⟨s, hs, hbl, hv1, hv2, hs0⟩ := shl_ex ht0 htB
        have hvB : t < 18446744073709551616 := htB
        have hLZ := Lib.hid (fun W => s_LZ64 (t : Int) W (by omega) (by omega))
        rw [Int.toNat_natCast, hbl, show (64 : Int) - ((64 - s : Nat) : Int) = (s : Int) by omega] at hLZ
        obtain ⟨R0, hR1, hR2⟩ := c_rl (t * 2 ^ s) (-(s : Int)) hv1 (by omega) (by omega) (by omega)
        have hr := top_one hs hv1 hv2 hs0
        rw [hvalW.out, hV.out] at hr
        rw [show (1085 : Int) + -(s : Int) = 1085 - (s : Int) by omega, hr] at hR2
        have hshl := shl_u64 t s (by omega)
        replace hR1 := Lib.hid hR1
        replace hR2 := Lib.hid hR2
        have n0 : ((t * 2 ^ s : Nat) : Int) ≠ 0 := by omega
        generalize t * 2 ^ s = mm at *
        obtain ⟨g, cap, rfl, hr2⟩ := hown.form (by simp)
        have hcell := World.ownsRow.cells hown (g := g) rfl 0 (.int .u64 (t : Int)) rfl
        rw [add_zero_addr] at hcell
        clear hval hvalW hV hown hlast hltW hlenW hr hr2 hbl n0
        go_wp2_with (go_at_call 109; refine (hLZ.out _).mono ?_; rintro e w' ⟨rfl, rfl⟩)
        go_loop [15, 16] (fun v15 v16 => v15 = .int .u64 0 ∧ v16 = .int .i64 0) (fun _ _ => 0)
        case atStart => exact ⟨rfl, rfl⟩
        case round =>
          obtain ⟨rfl, rfl⟩ := hrel
          go_wp2_with (first | (go_at_call 111; refine (hR1.out _).mono ?_; rintro e w'' ⟨rfl, rfl⟩) | (go_at_call 110; refine (hR2.out _).mono ?_; rintro e w'' ⟨rfl, rfl⟩))
          go_ret
          exact ⟨rfl, hbel⟩
      · have ht0 : 0 < t := Nat.pos_of_ne_zero (hlast.out t (by simp))
        have htB : t < B64 := hltW.out t (by simp)
        have huB : u < B64 := hltW.out u (by simp)
        have hlo : ∀ x ∈ lo, x < B64 := fun x hx => hltW.out x (List.mem_append_left _ hx)
        obtain ⟨s, hs, hbl, hv1, hv2, hs0⟩ := shl_ex ht0 htB
        have hvB : t < 18446744073709551616 := htB
        have huB2 : u < 18446744073709551616 := huB
        have hLZ := Lib.hid (fun W => s_LZ64 (t : Int) W (by omega) (by omega))
        rw [Int.toNat_natCast, hbl, show (64 : Int) - ((64 - s : Nat) : Int) = (s : Int) by omega] at hLZ
        obtain ⟨hq0, hq⟩ := top_two hs hv1 hv2 huB hlo
        rw [hvalW.out, hV.out] at hq
        have hlen2 : lo.length ≤ 10000 := by have := hlenW.out; simp at this; omega
        have hshl := shl_u64 t s (by omega)
        have hshm := shl_m64 u s
        have hort := or_top t s (u / 2 ^ (64 - s)) hv2 hq0
        obtain ⟨g, cap, rfl, hr2⟩ := hown.form (by simp)
        have hcells := World.ownsRow.cells hown (g := g) rfl
        have hct := hcells (lo.length + 1) (.int .u64 (t : Int)) (by simp [u64s])
        have hcu := hcells lo.length (.int .u64 (u : Int)) (by simp [u64s])
        have hck := Lib.hid (fun (k x : Nat) (h : lo[k]? = some x) => (add_zero_addr g k ▸ hcells k (.int .u64 (x : Int)) (by rw [u64s, List.getElem?_map, List.getElem?_append_left (List.getElem?_eq_some_iff.1 h).1, h]; rfl) : wr.cell? ⟨g, k, none⟩ = some (.int .u64 (x : Int))))
        have hol := Lib.hid (fun k => orL_lt (lo.take k) (u * 2 ^ s % B64) (Nat.mod_lt _ (by decide)) (fun x hx => hlo x (List.mem_of_mem_take hx)))
        have hot := Lib.hid (fun (k x : Nat) (h : lo[k]? = some x) => orL_take (a := u * 2 ^ s % B64) h)
        have hoe : Hid (orL (lo.take lo.length) (u * 2 ^ s % B64) = orL lo (u * 2 ^ s % B64)) := by show _ = _; rw [List.take_length]
        have ho0 : Hid (orL (lo.take 0) (u * 2 ^ s % B64) = u * 2 ^ s % B64) := rfl
        have hloB := Lib.hid hlo
        have hsh : (u : Int) / 2 ^ (64 - s) = ((u / 2 ^ (64 - s) : Nat) : Int) := by rw [Int.natCast_ediv, Int.natCast_pow]; rfl
        have hs64 : (64 : Int) - (s : Int) = ((64 - s : Nat) : Int) := by omega
        have hlenc : (lo ++ [u, t]).length = lo.length + 2 := by simp
        rw [hlenc] at hown ⊢
        have htop : (lo.length : Int) + 2 - 1 = (lo.length : Int) + 1 := by omega
        have htop2 : (lo.length : Int) + 1 - 1 = (lo.length : Int) := by omega
        have htn : ((lo.length : Int) + 1).toNat = lo.length + 1 := by omega
        have htg : (0 : Int) < (lo.length : Int) + 1 := by omega
        have htl : (lo.length : Int) + 1 < (lo.length : Int) + 2 := by omega
        have htl0 : (lo.length : Int) < (lo.length : Int) + 2 := by omega
        have htl1 : (0 : Int) ≤ (lo.length : Int) + 1 := by omega
        rw [add_zero_addr] at hct hcu
        have hu0 : Hid (s = 0 → u * 2 ^ s % B64 = u ∧ u / 2 ^ (64 - s) = 0) := fun h => by
          subst h
          exact ⟨by rw [Nat.pow_zero, Nat.mul_one]; exact Nat.mod_eq_of_lt huB, Nat.div_eq_of_lt huB⟩
        have hm1 : t * 2 ^ s + u / 2 ^ (64 - s) < 18446744073709551616 := by omega
        have hoo := or_one64 _ hm1
        have hB64 : B64 = 18446744073709551616 := rfl
        have hts : (t : Int) * 2 ^ s = ((t * 2 ^ s : Nat) : Int) := by rw [Int.natCast_mul, Int.natCast_pow]; rfl
        rw [← hts] at hort
        clear hts
        generalize hz : 64 - s = z at *
        have hz64 : z ≤ 64 := by omega
        rw [← hsh] at hort
        clear hz hsh
        replace hq := Lib.hid hq
        have h14 : Hid ((t : Int) * 2 ^ s + (u : Int) / 2 ^ z = ((t * 2 ^ s + u / 2 ^ z : Nat) : Int)) := by
          show _ = _
          rw [Int.natCast_add, Int.natCast_mul, Int.natCast_pow, Int.natCast_ediv, Int.natCast_pow]; rfl
        have h15 : Hid ((u : Int) * 2 ^ s % 18446744073709551616 = ((u * 2 ^ s % B64 : Nat) : Int)) := by
          show _ = _
          rw [Int.natCast_emod, Int.natCast_mul, Int.natCast_pow]; rfl
        clear hval hvalW hV hown hlast hltW hlenW hr2 hbl hcells hlo hlenc
        generalize hMM : t * 2 ^ s + u / 2 ^ z = M at *
        generalize hr0 : u * 2 ^ s % B64 = r0 at *
        by_cases hsp : 0 < s
        · clear hu0
          have hspI : (0 : Int) < (s : Int) := by omega
          go_wp2_with (go_at_call 109; refine (hLZ.out _).mono ?_; rintro e w' ⟨rfl, rfl⟩)
          rw [h15.out]
          clear hct hcu hshl hshm hort
          go_loop [15, 16] (fun v15 v16 => ∃ k : Nat, k ≤ lo.length ∧ v15 = .int .u64 (orL (lo.take k) r0 : Int) ∧ v16 = .int .i64 (k : Int)) (fun _ v16 => lo.length - (intOf v16).toNat)
          case atStart => exact ⟨0, Nat.zero_le _, by rw [ho0.out], rfl⟩
          case round =>
            obtain ⟨k, hk, rfl, rfl⟩ := hrel
            by_cases hkl : k < lo.length
            · obtain ⟨x, hx⟩ : ∃ x, lo[k]? = some x := ⟨lo[k], List.getElem?_eq_getElem hkl⟩
              have hxB : x < 18446744073709551616 := hloB.out x (List.mem_of_getElem? hx)
              have hc1 := hck.out k x hx
              have hok := hol.out k
              have hor := bits_or_u64_nat _ _ hok hxB
              have ho1 := hot.out k x hx
              rw [← ho1] at hor
              replace ho1 := Lib.hid ho1
              have hkI : (k : Int) < (lo.length : Int) := by omega
              have hkI2 : (k : Int) < (lo.length : Int) + 2 := by omega
              generalize orL (lo.take k) r0 = o1 at *
              generalize hq1 : orL (lo.take (k + 1)) r0 = o2 at *
              replace hq1 := Lib.hid hq1
              clear hx
              go_wp2_with fail
              exact ⟨⟨k + 1, by omega, by rw [hq1.out], by go_num⟩, by simp [intOf]; omega⟩
            · obtain rfl : k = lo.length := by omega
              have hkI : ¬ (lo.length : Int) < (lo.length : Int) := by omega
              have hok := hol.out lo.length
              rw [hoe.out] at hok
              rw [hoe.out]
              clear hck hot hoe ho0 hol hloB
              generalize orL lo r0 = oo at *
              by_cases hz0 : oo = 0
              · have hq2 := hq.out M (by rw [if_pos hz0])
                obtain ⟨R0, hR1, hR2⟩ := c_rl M (64 * ((lo.length : Int) + 1) - (s : Int)) hq2.1 hq2.2.1 (by omega) (by omega)
                have hr := hq2.2.2
                rw [show (1085 : Int) + ((64 * (lo.length + 1) : Nat) : Int) - (s : Int) = 1085 + (64 * ((lo.length : Int) + 1) - (s : Int)) by omega] at hr
                rw [hr] at hR2
                replace hR1 := Lib.hid hR1
                replace hR2 := Lib.hid hR2
                subst hz0
                clear hq hr hq2 hoo
                go_wp2_with (first | (go_at_call 111; refine (hR1.out _).mono ?_; rintro e w'' ⟨rfl, rfl⟩) | (go_at_call 110; refine (hR2.out _).mono ?_; rintro e w'' ⟨rfl, rfl⟩))
                go_ret
                exact ⟨rfl, hbel⟩
              · have n1 : ((oo : Int) != 0) = true := by simp; omega
                have hq2 := hq.out (M ||| 1) (by rw [if_neg hz0])
                obtain ⟨R0, hR1, hR2⟩ := c_rl (M ||| 1) (64 * ((lo.length : Int) + 1) - (s : Int)) hq2.1 hq2.2.1 (by omega) (by omega)
                have hr := hq2.2.2
                rw [show (1085 : Int) + ((64 * (lo.length + 1) : Nat) : Int) - (s : Int) = 1085 + (64 * ((lo.length : Int) + 1) - (s : Int)) by omega] at hr
                rw [hr] at hR2
                replace hR1 := Lib.hid hR1
                replace hR2 := Lib.hid hR2
                generalize M ||| 1 = M1 at *
                clear hq hr hq2 hz0
                go_wp2_with (first | (go_at_call 111; refine (hR1.out _).mono ?_; rintro e w'' ⟨rfl, rfl⟩) | (go_at_call 110; refine (hR2.out _).mono ?_; rintro e w'' ⟨rfl, rfl⟩))
                go_ret
                exact ⟨rfl, hbel⟩
        · obtain rfl : s = 0 := by omega
          obtain ⟨hu1, hu2⟩ := hu0.out rfl
          rw [hu2, Nat.add_zero, Nat.pow_zero, Nat.mul_one] at hMM
          have e14 : Hid ((t : Int) = (M : Int)) := by show _ = _; rw [hMM]
          have e15 : Hid ((u : Int) = (r0 : Int)) := by show _ = _; rw [hu1]
          clear hu0 hu1 hu2 hMM hr0
          go_wp2_with (go_at_call 109; refine (hLZ.out _).mono ?_; rintro e w' ⟨rfl, rfl⟩)
          rw [e14.out, e15.out]
          clear hct hcu hshl hshm hort
          go_loop [15, 16] (fun v15 v16 => ∃ k : Nat, k ≤ lo.length ∧ v15 = .int .u64 (orL (lo.take k) r0 : Int) ∧ v16 = .int .i64 (k : Int)) (fun _ v16 => lo.length - (intOf v16).toNat)
          case atStart => exact ⟨0, Nat.zero_le _, by rw [ho0.out], rfl⟩
          case round =>
            obtain ⟨k, hk, rfl, rfl⟩ := hrel
            by_cases hkl : k < lo.length
            · obtain ⟨x, hx⟩ : ∃ x, lo[k]? = some x := ⟨lo[k], List.getElem?_eq_getElem hkl⟩
              have hxB : x < 18446744073709551616 := hloB.out x (List.mem_of_getElem? hx)
              have hc1 := hck.out k x hx
              have hok := hol.out k
              have hor := bits_or_u64_nat _ _ hok hxB
              have ho1 := hot.out k x hx
              rw [← ho1] at hor
              replace ho1 := Lib.hid ho1
              have hkI : (k : Int) < (lo.length : Int) := by omega
              have hkI2 : (k : Int) < (lo.length : Int) + 2 := by omega
              generalize orL (lo.take k) r0 = o1 at *
              generalize hq1 : orL (lo.take (k + 1)) r0 = o2 at *
              replace hq1 := Lib.hid hq1
              clear hx
              go_wp2_with fail
              exact ⟨⟨k + 1, by omega, by rw [hq1.out], by go_num⟩, by simp [intOf]; omega⟩
            · obtain rfl : k = lo.length := by omega
              have hkI : ¬ (lo.length : Int) < (lo.length : Int) := by omega
              have hok := hol.out lo.length
              rw [hoe.out] at hok
              rw [hoe.out]
              clear hck hot hoe ho0 hol hloB
              generalize orL lo r0 = oo at *
              by_cases hz0 : oo = 0
              · have hq2 := hq.out M (by rw [if_pos hz0])
                obtain ⟨R0, hR1, hR2⟩ := c_rl M (64 * ((lo.length : Int) + 1) - ((0 : Nat) : Int)) hq2.1 hq2.2.1 (by omega) (by omega)
                have hr := hq2.2.2
                rw [show (1085 : Int) + ((64 * (lo.length + 1) : Nat) : Int) - ((0 : Nat) : Int) = 1085 + (64 * ((lo.length : Int) + 1) - ((0 : Nat) : Int)) by omega] at hr
                rw [hr] at hR2
                replace hR1 := Lib.hid hR1
                replace hR2 := Lib.hid hR2
                subst hz0
                clear hq hr hq2 hoo
                go_wp2_with (first | (go_at_call 111; refine (hR1.out _).mono ?_; rintro e w'' ⟨rfl, rfl⟩) | (go_at_call 110; refine (hR2.out _).mono ?_; rintro e w'' ⟨rfl, rfl⟩))
                go_ret
                exact ⟨rfl, hbel⟩
              · have n1 : ((oo : Int) != 0) = true := by simp; omega
                have hq2 := hq.out (M ||| 1) (by rw [if_neg hz0])
                obtain ⟨R0, hR1, hR2⟩ := c_rl (M ||| 1) (64 * ((lo.length : Int) + 1) - ((0 : Nat) : Int)) hq2.1 hq2.2.1 (by omega) (by omega)
                have hr := hq2.2.2
                rw [show (1085 : Int) + ((64 * (lo.length + 1) : Nat) : Int) - ((0 : Nat) : Int) = 1085 + (64 * ((lo.length : Int) + 1) - ((0 : Nat) : Int)) by omega] at hr
                rw [hr] at hR2
                replace hR1 := Lib.hid hR1
                replace hR2 := Lib.hid hR2
                generalize M ||| 1 = M1 at *
                clear hq hr hq2 hz0
                go_wp2_with (first | (go_at_call 111; refine (hR1.out _).mono ?_; rintro e w'' ⟨rfl, rfl⟩) | (go_at_call 110; refine (hR2.out _).mono ?_; rintro e w'' ⟨rfl, rfl⟩))
                go_ret
                exact ⟨rfl, hbel⟩
end Go.Proofs.YtbakbikilbaafaaGreatDoor
namespace Go.Proofs.YtbakbikilbaafaaGreatDoor
open Go.RowKit F64 Ieee
set_option linter.unusedVariables false
set_option maxHeartbeats 4000000
set_option maxRecDepth 100000

theorem drop_cons_ne {c : Nat} {l : List Nat} (h : c ≠ 48) : (c :: l).dropWhile (· == 48) = c :: l := by
  rw [List.dropWhile_cons]; simp [h]
theorem drop_cons_eq {l : List Nat} : (48 :: l).dropWhile (· == 48) = l.dropWhile (· == 48) := by
  rw [List.dropWhile_cons]; simp
theorem rfF_zz : ∀ (L : List Nat) (p : Int), (∀ c ∈ L, 48 ≤ c ∧ c ≤ 57) → ∃ q : Int,
    L.foldl rfS ⟨false, 0, 0, p, 0, false⟩ = ⟨false, (L.dropWhile (· == 48)).length, min (L.dropWhile (· == 48)).length 19, q, numL ((L.dropWhile (· == 48)).take 19), anyNZ ((L.dropWhile (· == 48)).drop 19)⟩
  | [], p, _ => ⟨p, rfl⟩
  | c :: L, p, h => by
    have hc := h c (List.mem_cons_self ..)
    have hL := fun x hx => h x (List.mem_cons_of_mem c hx)
    by_cases h48 : c = 48
    · subst h48
      rw [drop_cons_eq, List.foldl_cons]
      have e : rfS ⟨false, 0, 0, p, 0, false⟩ 48 = ⟨false, 0, 0, p - 1, 0, false⟩ := by
        unfold rfS; rw [if_neg (by decide), if_pos ⟨rfl, rfl⟩]
      rw [e]
      exact rfF_zz L (p - 1) hL
    · rw [drop_cons_ne h48, List.foldl_cons]
      have e : rfS ⟨false, 0, 0, p, 0, false⟩ c = ⟨false, 1, 1, p, c - 48, false⟩ := by
        unfold rfS; rw [if_neg (by omega), if_neg (fun g => h48 g.1), if_pos (show 0 < 19 by decide)]; simp
      rw [e, rfF_dig L _ hL (by simp only; omega) (by simp only; omega) (fun _ => rfl)]
      refine ⟨p, ?_⟩
      simp only [List.length_cons]
      rw [show (c :: L).take 19 = c :: L.take 18 from rfl, show (c :: L).drop 19 = L.drop 18 from rfl, show 19 - 1 = 18 from rfl, Bool.false_or]
      have : numL (c :: L.take 18) = (L.take 18).foldl (fun e c => e * 10 + (c - 48)) (c - 48) := by
        show List.foldl _ 0 (c :: L.take 18) = _
        rw [List.foldl_cons, Nat.zero_mul, Nat.zero_add]
      rw [this]
      congr 1 <;> omega
theorem dfF_zz : ∀ (L : List Nat) (p : Int), (∀ c ∈ L, 48 ≤ c ∧ c ≤ 57) → ∃ q : Int, L.foldl dfS ⟨false, [], p⟩ = ⟨false, L.dropWhile (· == 48), q⟩
  | [], p, _ => ⟨p, rfl⟩
  | c :: L, p, h => by
    have hc := h c (List.mem_cons_self ..)
    have hL := fun x hx => h x (List.mem_cons_of_mem c hx)
    by_cases h48 : c = 48
    · subst h48
      rw [drop_cons_eq, List.foldl_cons]
      have e : dfS ⟨false, [], p⟩ 48 = ⟨false, [], p - 1⟩ := by
        unfold dfS; rw [if_neg (by decide), if_pos ⟨rfl, rfl⟩]
      rw [e]
      exact dfF_zz L (p - 1) hL
    · rw [drop_cons_ne h48, List.foldl_cons]
      have e : dfS ⟨false, [], p⟩ c = ⟨false, [c], p⟩ := by
        unfold dfS; rw [if_neg (by omega), if_neg (fun g => h48 g.1)]; rfl
      rw [e, dfF_dig L _ hL (by simp)]
      exact ⟨p, by simp⟩
theorem wth_dig {c : Nat} (h : 48 ≤ c ∧ c ≤ 57) : wth c = c - 48 := by unfold wth; rw [if_pos h]
theorem numB_10 : ∀ (L : List Nat), (∀ c ∈ L, 48 ≤ c ∧ c ≤ 57) → numB 10 L = numL L := by
  have key : ∀ (L : List Nat) (n : Nat), (∀ c ∈ L, 48 ≤ c ∧ c ≤ 57) → L.foldl (fun n c => n * 10 + wth c) n = L.foldl (fun e c => e * 10 + (c - 48)) n := by
    intro L
    induction L with
    | nil => intro n _; rfl
    | cons c L ih =>
      intro n h
      simp only [List.foldl_cons]
      rw [wth_dig (h c (List.mem_cons_self ..))]
      exact ih _ (fun x hx => h x (List.mem_cons_of_mem _ hx))
  exact fun L h => key L 0 h
theorem numL_drop : ∀ (L : List Nat), numL (L.dropWhile (· == 48)) = numL L
  | [] => rfl
  | c :: L => by
    by_cases h48 : c = 48
    · subst h48
      rw [drop_cons_eq, numL_drop L, numL_cons]; simp
    · rw [drop_cons_ne h48]
theorem nv_whole (d : Nat) : nv d 0 = nN d := by
  unfold nv nN
  rw [frN_U, frD_1]
  simp
theorem dig_of_wth {c : Nat} (hc : c < 256) (h : wth c < 10) : 48 ≤ c ∧ c ≤ 57 := by
  unfold wth at h
  split at h
  · assumption
  · split at h <;> omega
theorem c_PF10 (L : List Nat) (hL : ∀ c ∈ L, 48 ≤ c ∧ c ≤ 57) (h0 : 1 ≤ L.length) (hl : L.length ≤ 800) (w : World) (hW : LibW w) :
    Calls Tryz.prog 75 #[.string (u8sG L), .int .i64 64] w fun r w' => PfR (nN (numL L)) r ∧ Below w.heap.size w w' := by
  have hsz : (u8sG L).size = L.length := uG_size L
  have hget : ∀ (j c : Nat), L[j]? = some c → ∀ h : j < (u8sG L).size, ((u8sG L)[j]'h).toNat = c := fun j c hc h => uG_get L j c hc (by have := hL c (List.mem_of_getElem? hc); omega) h
  refine c_ParseFloat _ _ w hW (by rw [hsz]; omega) ?_
  obtain ⟨c0, hc0⟩ : ∃ c, L[0]? = some c := ⟨L[0], List.getElem?_eq_getElem h0⟩
  have hc0d := hL c0 (List.mem_of_getElem? hc0)
  have hs0 : 0 < (u8sG L).size := by omega
  have hR0 := fun W => c_readI L (u8sG L) hsz hL h0 (by omega) hget W
  obtain ⟨q, hq⟩ := rfF_zz L 0 hL
  have hrf : rfF L = _ := hq
  have hdd := drop_dig L hL
  have hdh := drop_head L hL
  have hdl : (L.dropWhile (· == 48)).length ≤ 800 := Nat.le_trans (List.dropWhile_sublist _).length_le hl
  rw [hrf] at hR0
  obtain ⟨q2, hq2⟩ := dfF_zz L 0 hL
  have hdf : dfF L = _ := hq2
  rw [← numL_drop L]
  by_cases hd : L.dropWhile (· == 48) = []
  · rw [hd] at hR0 ⊢
    have h := c_atofN (u8sG L) 0 0 c0 hs0 (hget 0 c0 hc0 hs0) hc0d (by decide) (by decide) (by decide) w hW hR0
    rw [if_pos rfl] at h
    rw [show numL [] = 0 from rfl, nN_zero]
    exact h
  · have hm1 : 0 < numL ((L.dropWhile (· == 48)).take 19) := numL_pos1 (by
      cases hx : L.dropWhile (· == 48) with
      | nil => exact absurd hx hd
      | cons x xs => simp) (fun c hc => hdh c (by
      cases hx : L.dropWhile (· == 48) with
      | nil => exact absurd hx hd
      | cons x xs => rw [hx] at hc; exact hc))
    generalize L.dropWhile (· == 48) = d at *
    have h := c_atofG (u8sG L) d d.length c0 hs0 (hget 0 c0 hc0 hs0) hc0d hdd hd hdh (by omega) (by omega) (by omega) w hW (by
      intro W
      have h := hR0 W
      unfold expI at h
      simp only at h
      rw [if_neg (by omega)] at h
      exact h) (by
      intro b W hI hG
      have h := c_setI b L (u8sG L) hsz hL h0 (by omega) (by rw [hdf]) hget W hI hG
      rw [hdf] at h
      simp only at h
      rw [Nat.min_eq_left hdl] at h
      exact h)
    rw [Int.sub_self, nv_whole] at h
    exact h
theorem c_dexact (L : List Nat) (base : Nat) (hb : 2 ≤ base) (hb2 : base ≤ 36) (hL : ∀ c ∈ L, c < 256 ∧ wth c < base) (h0 : 1 ≤ L.length) (hl : L.length ≤ 10000) (hl2 : base = 10 → L.length ≤ 800) (w : World) (hW : LibW w) :
    Calls Tryz.prog 40 #[.string (u8sG L), .int .i64 (base : Int)] w fun r w' => r = .returned (.float .f64 (nN (numB base L))) ∧ Below w.heap.size w w' := by
  by_cases h10 : base = 10
  · subst h10
    have hd : ∀ c ∈ L, 48 ≤ c ∧ c ≤ 57 := fun c hc => dig_of_wth (hL c hc).1 (hL c hc).2
    rw [numB_10 L hd]
    exact c_dexact10 _ _ w (c_PF10 L hd h0 (hl2 rfl) w hW)
  · exact c_dexactS _ base _ h10 hb2 w (c_dsticky L base hb hb2 hL hl w)
end Go.Proofs.YtbakbikilbaafaaGreatDoor
namespace Go.Proofs.YtbakbikilbaafaaGreatDoor
open Go.RowKit F64 Ieee
set_option linter.unusedVariables false
set_option maxHeartbeats 4000000
set_option maxRecDepth 100000

/-- with a sign -/
def sgW (neg : Bool) (v : Nat) : Nat := if neg then v + 9223372036854775808 else v
theorem mul_sg (neg : Bool) {v : Nat} (h : v ≤ 9218868437227405312) : double.mul (oneB neg) v = some (sgW neg v) := by
  rcases Nat.eq_or_lt_of_le h with h | h
  · subst h
    cases neg <;> decide +kernel
  · cases neg with
    | false => exact mul_one h
    | true =>
      have := mul_exact (x := 13830554455654793216) (y := v) (r := v) (by decide +kernel) (fin_small h) h (by
        rw [show rung 13830554455654793216 = 4607182418800017408 by decide +kernel, rung_small (by omega), V_one, Nat.mul_comm])
      show double.mul 13830554455654793216 v = some (v + 9223372036854775808)
      rw [this, show sgn 13830554455654793216 = true by decide +kernel, sgn_small (by omega)]
      show some (9223372036854775808 + v) = some (v + 9223372036854775808)
      rw [Nat.add_comm]
theorem nN_le (N : Nat) : nN N ≤ 9218868437227405312 := by
  unfold nN nearV
  split
  · rename_i h; exact (Classical.choose_spec h).le
  · decide
theorem nv_le (d : Nat) (p : Int) : nv d p ≤ 9218868437227405312 := by
  unfold nv nearV
  split
  · rename_i h; exact (Classical.choose_spec h).le
  · decide
theorem fltV_le (ws ps : List Nat) (neg : Bool) (es : List Nat) : fltV ws ps neg es ≤ 9218868437227405312 := by
  rw [fltV_eq]
  split
  · decide
  · split
    · decide
    · split
      · decide
      · exact nv_le _ _
/-- a sign -/
def ngL (L : List Nat) : Bool := decide (L.head? = some 45)
theorem sgnL_1 (L : List Nat) : (sgnL L).1 = oneB (ngL L) := by
  cases L with
  | nil => rfl
  | cons c M =>
    rw [show sgnL (c :: M) = if c = 45 then (13830554455654793216, M) else if c = 43 then (4607182418800017408, M) else (4607182418800017408, c :: M) from rfl]
    unfold ngL oneB
    by_cases h : c = 45
    · subst h; simp
    · rw [if_neg h]
      simp only [List.head?_cons, Option.some.injEq, h, decide_false, Bool.false_eq_true, if_false]
      split <;> rfl
def Dg (l : List Nat) : Prop := ∀ c ∈ l, 48 ≤ c ∧ c ≤ 57
theorem run_mem {n : Nat} {l : List Nat} : ∀ c ∈ l.take (runL n l), wth c < n := by
  intro c hc
  obtain ⟨i, hi⟩ := List.mem_iff_getElem?.1 hc
  rw [List.getElem?_take] at hi
  split at hi
  · rename_i h; exact runL_lt n l i c hi h
  · cases hi
theorem Dg.wth {l : List Nat} (h : Dg l) : ∀ c ∈ l, wth c < 10 := fun c hc => by
  have := h c hc
  rw [wth_dig this]; omega
/-- a decimal text and its value -/
def DcT (T : List Nat) (v : Nat) : Prop := ∃ ws ps pt, Dg ws ∧ Dg ps ∧ (pt = false → ps = []) ∧ (ws ≠ [] ∨ ps ≠ []) ∧
  ((T = mantL ws ps pt ∧ v = fltV ws ps false []) ∨ ∃ e sg es neg, (e = 101 ∨ e = 69) ∧ (sg = [] ∧ neg = false ∨ sg = [43] ∧ neg = false ∨ sg = [45] ∧ neg = true) ∧ es ≠ [] ∧ Dg es ∧ T = mantL ws ps pt ++ e :: (sg ++ es) ∧ v = fltV ws ps neg es)
theorem DcT.le {T : List Nat} {v : Nat} (h : DcT T v) : v ≤ 9218868437227405312 := by
  obtain ⟨ws, ps, pt, hw, hp, hpt, hne, ⟨-, rfl⟩ | ⟨e, sg, es, neg, -, -, -, -, -, rfl⟩⟩ := h <;> exact fltV_le _ _ _ _
end Go.Proofs.YtbakbikilbaafaaGreatDoor
namespace Go.Proofs.YtbakbikilbaafaaGreatDoor
open Go.RowKit F64 Ieee
set_option linter.unusedVariables false
set_option maxHeartbeats 4000000
set_option maxRecDepth 100000

def nanW : Nat := 9221120237041090561
theorem sgnL_mem {L : List Nat} : ∀ c ∈ (sgnL L).2, c ∈ L := by
  cases L with
  | nil => intro c hc; exact hc
  | cons c M =>
    rw [show sgnL (c :: M) = if c = 45 then (13830554455654793216, M) else if c = 43 then (4607182418800017408, M) else (4607182418800017408, c :: M) from rfl]
    intro x hx
    split at hx
    · exact List.mem_cons_of_mem _ hx
    · split at hx
      · exact List.mem_cons_of_mem _ hx
      · exact hx
theorem sgnL_len (L : List Nat) : (sgnL L).2.length ≤ L.length := by
  cases L with
  | nil => exact Nat.le_refl _
  | cons c M =>
    rw [show sgnL (c :: M) = if c = 45 then (13830554455654793216, M) else if c = 43 then (4607182418800017408, M) else (4607182418800017408, c :: M) from rfl]
    split
    · simp
    · split <;> simp
theorem u_empty (L : List Nat) : (u8sG L).toList.isEmpty = decide (L = []) ∧ ((u8sG L).toList == []) = decide (L = []) := by
  rw [ByteArray.toList_eq, uG_data]
  cases L <;> simp
end Go.Proofs.YtbakbikilbaafaaGreatDoor
namespace Go.Proofs.YtbakbikilbaafaaGreatDoor
open Go.RowKit F64 Ieee
set_option linter.unusedVariables false
set_option maxHeartbeats 4000000
set_option maxRecDepth 100000

theorem uG_ext (L : List Nat) (i j : Nat) : (u8sG L).extract i j = u8sG ((L.take j).drop i) := by
  apply ByteArray.ext
  rw [ByteArray.data_extract]
  apply Array.ext'
  rw [Array.toList_extract, uG_data, uG_data, List.map_drop, List.map_take]
  simp only [List.extract, List.take_drop]
  rcases Nat.le_total i j with h | h
  · rw [show i + (j - i) = j by omega]
  · rw [List.drop_of_length_le (by rw [List.length_take]; omega), List.drop_of_length_le (by rw [List.length_take]; omega)]
end Go.Proofs.YtbakbikilbaafaaGreatDoor
