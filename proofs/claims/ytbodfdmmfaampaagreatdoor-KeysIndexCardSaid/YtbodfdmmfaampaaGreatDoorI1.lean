/-
  Contracts of both Index functions of keys: the number that a text is.
-/
import Derived.Test.YtbodfdmmfaampaaGreatDoorC3
namespace Go.Proofs.YtbodfdmmfaampaaGreatDoor
open Go.RowKit
set_option maxHeartbeats 400000
set_option maxRecDepth 100000

def numU : List Nat → Nat → Option Nat
  | [], a => some a
  | x :: l, a => if x < 48 ∨ 57 < x then none else numU l (10 * a + (x - 48))
/-- the number that a list of units is -/
def idxOf (l : List Nat) : Option Nat :=
  if l.length = 0 ∨ 10 < l.length ∨ (l[0]? = some 48 ∧ 1 < l.length) then none
  else match numU l 0 with
    | none => none
    | some n => if 4294967294 < n then none else some n
def idxV (r : Option Nat) : Value := .tuple #[.int .u32 ((r.getD 0 : Nat) : Int), .bool r.isSome]
theorem numU_le (l : List Nat) (a n : Nat) (h : numU l a = some n) : n < (a + 1) * 10 ^ l.length := by
  induction l generalizing a with
  | nil => simp [numU] at h; subst h; simp
  | cons x l ih =>
    simp only [numU] at h
    split at h
    · cases h
    · have := ih _ h
      rw [List.length_cons, Nat.pow_succ]
      refine Nat.lt_of_lt_of_le this ?_
      rw [Nat.mul_comm (10 ^ l.length), ← Nat.mul_assoc]
      exact Nat.mul_le_mul_right _ (by omega)
theorem u64_step (v x : Nat) (hv : v < 1000000000000) (h1 : ¬ (x < 48 ∨ 57 < x)) : IntKind.u64.wrap (IntKind.u64.wrap (10 * (v : Int)) + IntKind.u64.wrap (IntKind.u16.wrap ((x : Int) - 48))) = ((10 * v + (x - 48) : Nat) : Int) := by
  simp only [IntKind.wrap_u64, IntKind.wrap_u16]; omega

theorem c_Index (s : ByteArray) (hs : s.size ≤ 1099511627776) (w : World) :
    Calls Tryz.prog 5 #[.string s] w fun e w' => e = .returned (idxV (idxOf (U s))) ∧ Below w.heap.size w w' := by
  have H1 := Lib.hid (c_ULen s hs)
  have H2 := Lib.hid (c_Units s hs w)
  have hls := U_len s
  unfold U at *
  generalize unitsN s (s.size / 2) = A at *
  rw [← hls] at H1 H2
  have hm1 : A.length ≤ 1099511627776 := by omega
  clear hls
  generalize hR : idxOf A = R
  by_cases hn : A.length = 0 ∨ 10 < A.length
  · have hR' : R = none := by rw [← hR]; unfold idxOf; rw [if_pos (by omega)]
    subst hR'
    clear hR
    have hn' : A.length < 1 ∨ 10 < A.length := by omega
    rcases hn' with h | h
    · have : A.length = 0 := by omega
      go_enter Tryz.func5, Tryz.ntmps5
      go_wp2_with (go_at_call 15; refine (H1.out _).mono ?_; rintro e w' ⟨rfl, rfl⟩)
      go_ret2
      exact ⟨rfl, Below.refl _ _⟩
    · have : ¬ A.length < 1 := by omega
      go_enter Tryz.func5, Tryz.ntmps5
      go_wp2_with (go_at_call 15; refine (H1.out _).mono ?_; rintro e w' ⟨rfl, rfl⟩)
      go_ret2
      exact ⟨rfl, Below.refl _ _⟩
  · have hn1 : ¬ (A.length : Int) < 1 := by omega
    have hn2 : ¬ (10 : Int) < A.length := by omega
    have hn3 : A.length ≤ 10 := by omega
    replace hR := Lib.hid hR
    replace hn := Lib.hid hn
    go_enter Tryz.func5, Tryz.ntmps5
    go_wp2_with (go_at_call 15; refine (H1.out _).mono ?_; rintro e w' ⟨rfl, rfl⟩)
    refine H2.out.mono ?_
    rintro e w1 ⟨v1, rfl, hown1, hb1⟩
    have r1 := Rd_own hown1
    clear hown1
    obtain ⟨b1, c1, rfl, q1⟩ := r1
    rw [u16s_len] at *
    have q1 := Lib.hid q1
    go_wp2
    go_loopw [19, 5, 6, 7] (fun i v _ _ wr => ∃ k a : Nat, k ≤ A.length ∧ i = .int .i64 (k : Int) ∧ v = .int .u64 (a : Int) ∧ a < 10 ^ k ∧ Hid (numU (A.drop k) a = numU A 0) ∧ Hid (0 < k → ¬ (A[0]? = some 48 ∧ 1 < A.length)) ∧ Below w.heap.size w wr ∧ Below w1.heap.size w1 wr) (fun i _ _ _ _ => A.length - (intOf i).toNat)
    case atStart => exact ⟨0, 0, by omega, rfl, rfl, by decide, rfl, fun h => by omega, hb1, Below.refl _ _⟩
    case round =>
      obtain ⟨k, a, hk, rfl, rfl, ha, hnum, hz, hbel1, hbel2⟩ := hrel
      have hpow : (10 : Nat) ^ k ≤ 10 ^ 10 := Nat.pow_le_pow_right (by decide) (by omega)
      have ha2 : a < 10000000000 := by omega
      rcases Nat.lt_or_ge k A.length with hlt | hge
      · obtain ⟨x, hx, hdx⟩ := drop_one A k hlt
        obtain ⟨g1, hg1, rfl, hc1, hcell1⟩ := q1.out k _ (u16s_get A k x hx)
        clear q1
        rw [← hbel2.cell (p := ⟨g1, k, none⟩) (by show g1 < _; omega)] at hcell1
        have hlow : (0 : Int) ≤ x := by omega
        by_cases hx1 : x < 48 ∨ 57 < x
        · have hRn : R = none := by
            have : numU A 0 = none := by rw [← hnum.out, hdx]; simp only [numU]; rw [if_pos hx1]
            rw [← hR.out]; unfold idxOf; split
            · rfl
            · rw [this]
          subst hRn
          clear hnum
          rcases hx1 with hx1 | hx1
          · have : (x : Int) < 48 := by omega
            go_wp2
            go_ret2
            exact ⟨rfl, hbel1⟩
          · have : ¬ (x : Int) < 48 := by omega
            have : (57 : Int) < x := by omega
            go_wp2
            go_ret2
            exact ⟨rfl, hbel1⟩
        · have f1 : ¬ (x : Int) < 48 := by omega
          have f2 : ¬ (57 : Int) < x := by omega
          by_cases hz1 : k = 0 ∧ x = 48 ∧ 1 < A.length
          · obtain ⟨rfl, rfl, h3⟩ := hz1
            have hRn : R = none := by
              rw [← hR.out]; unfold idxOf; rw [if_pos (.inr (.inr ⟨hx, h3⟩))]
            subst hRn
            clear hnum hz hx
            go_wp2
            go_ret2
            exact ⟨rfl, hbel1⟩
          · have hnum' : Hid (numU (A.drop (k + 1)) (10 * a + (x - 48)) = numU A 0) := by
              have := hnum.out
              rw [hdx] at this
              simp only [numU] at this
              rw [if_neg hx1] at this
              exact this
            have hz' : Hid (0 < k + 1 → ¬ (A[0]? = some 48 ∧ 1 < A.length)) := by
              intro _ ⟨g1, g2⟩
              rcases Nat.eq_zero_or_pos k with h | h
              · subst h; rw [hx] at g1; injection g1 with g1; exact hz1 ⟨rfl, g1, g2⟩
              · exact hz.out h ⟨g1, g2⟩
            have ha' : Hid (10 * a + (x - 48) < 10 ^ (k + 1)) := by show _ < _; rw [Nat.pow_succ]; omega
            clear hnum hz hx hx1 hdx
            have hz2 : k ≠ 0 ∨ (k = 0 ∧ x ≠ 48) ∨ (k = 0 ∧ x = 48 ∧ A.length = 1) := by omega
            clear hz1
            rcases hz2 with h | ⟨h, h2⟩ | ⟨h, h2, h3⟩
            · go_wp2
              go_roundw
              case rel => exact ⟨k + 1, 10 * a + (x - 48), by omega, by go_num, by go_num, ha'.out, hnum', hz', hbel1, hbel2⟩
              case measure => simp [intOf]; omega
            · have : ¬ (x : Int) = 48 := by omega
              subst h
              go_wp2
              go_roundw
              case rel => exact ⟨0 + 1, 10 * a + (x - 48), by omega, by go_num, by go_num, ha'.out, hnum', hz', hbel1, hbel2⟩
              case measure => simp [intOf]; omega
            · subst h
              subst h2
              have : ¬ (1 : Int) < A.length := by omega
              go_wp2
              go_roundw
              case rel => exact ⟨0 + 1, 10 * a + (48 - 48), by omega, by go_num, by go_num, ha'.out, hnum', hz', hbel1, hbel2⟩
              case measure => simp [intOf]; omega
      · have hk2 : k = A.length := by omega
        subst hk2
        have hnum := hnum.out
        rw [List.drop_length] at hnum
        simp only [numU] at hnum
        have hR2 : R = if 4294967294 < a then none else some a := by
          have h1 := hz.out (by omega)
          have h2 := hn.out
          rw [← hR.out]; unfold idxOf
          have h3 : ¬ (A.length = 0 ∨ 10 < A.length ∨ (A[0]? = some 48 ∧ 1 < A.length)) := by
            rintro (h | h | h)
            · exact h2 (.inl h)
            · exact h2 (.inr h)
            · exact h1 h
          rw [if_neg h3, ← hnum]
        clear hR hz hn hnum hpow ha
        rcases Nat.lt_or_ge 4294967294 a with h | h
        · rw [if_pos h] at hR2
          subst hR2
          go_wp2
          go_ret2
          exact ⟨rfl, hbel1⟩
        · rw [if_neg (by omega)] at hR2
          subst hR2
          have e : IntKind.u32.wrap (a : Int) = (a : Int) := by rw [IntKind.wrap_u32]; omega
          go_wp2
          go_ret2
          exact ⟨rfl, hbel1⟩

theorem c_Index4 (s : ByteArray) (hs : s.size ≤ 1099511627776) (w : World) :
    Calls Tryz.prog 6 #[.string s] w fun e w' => e = .returned (idxV (idxOf (U s))) ∧ Below w.heap.size w w' := by
  have H2 := Lib.hid (c_UnitsR s hs w)
  have hls := U_len s
  unfold U at *
  generalize unitsN s (s.size / 2) = A at *
  rw [← hls] at H2
  have hm1 : A.length ≤ 1099511627776 := by omega
  clear hls
  generalize hR : idxOf A = R
  replace hR := Lib.hid hR
  go_enter Tryz.func6, Tryz.ntmps6
  go_wp2_with fail
  refine H2.out.mono ?_
  rintro e w1 ⟨v1, rfl, hown1, hb1⟩
  have r1 := Rd_own hown1
  clear hown1
  obtain ⟨b1, c1, rfl, q1⟩ := r1
  rw [u16s_len] at *
  by_cases hn : A.length = 0 ∨ 10 < A.length
  · have hR' : R = none := by rw [← hR.out]; unfold idxOf; rw [if_pos (by omega)]
    subst hR'
    clear hR
    rcases hn with h | h
    · go_wp2
      go_ret2
      exact ⟨rfl, hb1⟩
    · have h1 : ¬ A.length = 0 := by omega
      have h2 : ¬ (A.length : Int) = 0 := by omega
      go_wp2
      go_ret2
      exact ⟨rfl, hb1⟩
  · obtain ⟨x0, hx0, _⟩ := drop_one A 0 (by omega)
    obtain ⟨g1, hg1, rfl, hc1, hcell0⟩ := q1 0 _ (u16s_get A 0 x0 hx0)
    have hn1 : ¬ A.length = 0 := by omega
    have hn1' : ((A.length : Int) == 0) = false := beq_eq_false_iff_ne.2 (by omega)
    have hn2 : ¬ (10 : Int) < A.length := by omega
    have hn3 : A.length ≤ 10 := by omega
    replace hn := Lib.hid hn
    replace q1 := Lib.hid q1
    by_cases hz1 : x0 = 48 ∧ 1 < A.length
    · obtain ⟨h1, h2⟩ := hz1
      have hR' : R = none := by rw [← hR.out]; unfold idxOf; rw [if_pos (.inr (.inr ⟨by rw [hx0, h1], h2⟩))]
      subst hR'
      subst h1
      clear hR
      go_wp2
      go_ret2
      exact ⟨rfl, hb1⟩
    · have hz : Hid (¬ (A[0]? = some 48 ∧ 1 < A.length)) := by
        intro ⟨g1, g2⟩
        rw [hx0] at g1; injection g1 with g1
        exact hz1 ⟨g1, g2⟩
      have hz2 : ¬ x0 = 48 ∨ (x0 = 48 ∧ A.length = 1) := by omega
      clear hz1
      have hx0' := Lib.hid hx0
      clear hx0
      have hz3 : (¬ (x0 : Int) = 48) ∨ (x0 = 48 ∧ A.length = 1) := by omega
      clear hz2
      rcases hz3 with h | ⟨h, h'⟩
      · go_wp2
        go_loopw [31, 5, 7] (fun i v _ wr => ∃ k a : Nat, k ≤ A.length ∧ i = .int .i64 (k : Int) ∧ v = .int .u64 (a : Int) ∧ a < 10 ^ k ∧ Hid (numU (A.drop k) a = numU A 0) ∧ Below w.heap.size w wr ∧ Below w1.heap.size w1 wr) (fun i _ _ _ => A.length - (intOf i).toNat)
        case atStart => exact ⟨0, 0, by omega, rfl, rfl, by decide, rfl, hb1, Below.refl _ _⟩
        case round =>
          obtain ⟨k, a, hk, rfl, rfl, ha, hnum, hbel1, hbel2⟩ := hrel
          have hpow : (10 : Nat) ^ k ≤ 10 ^ 10 := Nat.pow_le_pow_right (by decide) (by omega)
          have ha2 : a < 10000000000 := by omega
          rcases Nat.lt_or_ge k A.length with hlt | hge
          · obtain ⟨x, hx, hdx⟩ := drop_one A k hlt
            obtain ⟨g2, hg2, hgg, hc2, hcell1⟩ := q1.out k _ (u16s_get A k x hx)
            have hgg2 : g1 = g2 := by injection hgg with hgg; injection hgg
            subst hgg2
            clear q1 hgg
            rw [← hbel2.cell (p := ⟨g1, k, none⟩) (by show g1 < _; omega)] at hcell1
            by_cases hx1 : x < 48 ∨ 57 < x
            · have hRn : R = none := by
                have : numU A 0 = none := by rw [← hnum.out, hdx]; simp only [numU]; rw [if_pos hx1]
                rw [← hR.out]; unfold idxOf; split
                · rfl
                · rw [this]
              subst hRn
              clear hnum
              rcases hx1 with hx1 | hx1
              · have : (x : Int) < 48 := by omega
                go_wp2
                go_ret2
                exact ⟨rfl, hbel1⟩
              · have : ¬ (x : Int) < 48 := by omega
                have : (57 : Int) < x := by omega
                go_wp2
                go_ret2
                exact ⟨rfl, hbel1⟩
            · have f1 : ¬ (x : Int) < 48 := by omega
              have f2 : ¬ (57 : Int) < x := by omega
              have hnum' : Hid (numU (A.drop (k + 1)) (10 * a + (x - 48)) = numU A 0) := by
                have := hnum.out
                rw [hdx] at this
                simp only [numU] at this
                rw [if_neg hx1] at this
                exact this
              have ha' : Hid (10 * a + (x - 48) < 10 ^ (k + 1)) := by show _ < _; rw [Nat.pow_succ]; omega
              clear hnum hx hx1 hdx
              go_wp2
              go_roundw
              case rel => exact ⟨k + 1, 10 * a + (x - 48), by omega, by go_num, by go_num, ha'.out, hnum', hbel1, hbel2⟩
              case measure => simp [intOf]; omega
          · have hk2 : k = A.length := by omega
            subst hk2
            have hnum := hnum.out
            rw [List.drop_length] at hnum
            simp only [numU] at hnum
            have hR2 : R = if 4294967294 < a then none else some a := by
              have h1 := hz.out
              have h2 := hn.out
              have h3 : ¬ (A.length = 0 ∨ 10 < A.length ∨ (A[0]? = some 48 ∧ 1 < A.length)) := by
                rintro (h | h | h)
                · exact h2 (.inl h)
                · exact h2 (.inr h)
                · exact h1 h
              rw [← hR.out]; unfold idxOf
              rw [if_neg h3, ← hnum]
            clear hR hz hn hnum hpow ha
            rcases Nat.lt_or_ge 4294967294 a with h | h
            · rw [if_pos h] at hR2
              subst hR2
              go_wp2
              go_ret2
              exact ⟨rfl, hbel1⟩
            · rw [if_neg (by omega)] at hR2
              subst hR2
              have e : IntKind.u32.wrap (a : Int) = (a : Int) := by rw [IntKind.wrap_u32]; omega
              go_wp2
              go_ret2
              exact ⟨rfl, hbel1⟩
      · subst h
        have : ¬ (1 : Int) < A.length := by omega
        go_wp2
        go_loopw [31, 5, 7] (fun i v _ wr => ∃ k a : Nat, k ≤ A.length ∧ i = .int .i64 (k : Int) ∧ v = .int .u64 (a : Int) ∧ a < 10 ^ k ∧ Hid (numU (A.drop k) a = numU A 0) ∧ Below w.heap.size w wr ∧ Below w1.heap.size w1 wr) (fun i _ _ _ => A.length - (intOf i).toNat)
        case atStart => exact ⟨0, 0, by omega, rfl, rfl, by decide, rfl, hb1, Below.refl _ _⟩
        case round =>
          obtain ⟨k, a, hk, rfl, rfl, ha, hnum, hbel1, hbel2⟩ := hrel
          have hpow : (10 : Nat) ^ k ≤ 10 ^ 10 := Nat.pow_le_pow_right (by decide) (by omega)
          have ha2 : a < 10000000000 := by omega
          rcases Nat.lt_or_ge k A.length with hlt | hge
          · obtain ⟨x, hx, hdx⟩ := drop_one A k hlt
            obtain ⟨g2, hg2, hgg, hc2, hcell1⟩ := q1.out k _ (u16s_get A k x hx)
            have hgg2 : g1 = g2 := by injection hgg with hgg; injection hgg
            subst hgg2
            clear q1 hgg
            rw [← hbel2.cell (p := ⟨g1, k, none⟩) (by show g1 < _; omega)] at hcell1
            by_cases hx1 : x < 48 ∨ 57 < x
            · have hRn : R = none := by
                have : numU A 0 = none := by rw [← hnum.out, hdx]; simp only [numU]; rw [if_pos hx1]
                rw [← hR.out]; unfold idxOf; split
                · rfl
                · rw [this]
              subst hRn
              clear hnum
              rcases hx1 with hx1 | hx1
              · have : (x : Int) < 48 := by omega
                go_wp2
                go_ret2
                exact ⟨rfl, hbel1⟩
              · have : ¬ (x : Int) < 48 := by omega
                have : (57 : Int) < x := by omega
                go_wp2
                go_ret2
                exact ⟨rfl, hbel1⟩
            · have f1 : ¬ (x : Int) < 48 := by omega
              have f2 : ¬ (57 : Int) < x := by omega
              have hnum' : Hid (numU (A.drop (k + 1)) (10 * a + (x - 48)) = numU A 0) := by
                have := hnum.out
                rw [hdx] at this
                simp only [numU] at this
                rw [if_neg hx1] at this
                exact this
              have ha' : Hid (10 * a + (x - 48) < 10 ^ (k + 1)) := by show _ < _; rw [Nat.pow_succ]; omega
              clear hnum hx hx1 hdx
              go_wp2
              go_roundw
              case rel => exact ⟨k + 1, 10 * a + (x - 48), by omega, by go_num, by go_num, ha'.out, hnum', hbel1, hbel2⟩
              case measure => simp [intOf]; omega
          · have hk2 : k = A.length := by omega
            subst hk2
            have hnum := hnum.out
            rw [List.drop_length] at hnum
            simp only [numU] at hnum
            have hR2 : R = if 4294967294 < a then none else some a := by
              have h1 := hz.out
              have h2 := hn.out
              have h3 : ¬ (A.length = 0 ∨ 10 < A.length ∨ (A[0]? = some 48 ∧ 1 < A.length)) := by
                rintro (h | h | h)
                · exact h2 (.inl h)
                · exact h2 (.inr h)
                · exact h1 h
              rw [← hR.out]; unfold idxOf
              rw [if_neg h3, ← hnum]
            clear hR hz hn hnum hpow ha
            rcases Nat.lt_or_ge 4294967294 a with h | h
            · rw [if_pos h] at hR2
              subst hR2
              go_wp2
              go_ret2
              exact ⟨rfl, hbel1⟩
            · rw [if_neg (by omega)] at hR2
              subst hR2
              have e : IntKind.u32.wrap (a : Int) = (a : Int) := by rw [IntKind.wrap_u32]; omega
              go_wp2
              go_ret2
              exact ⟨rfl, hbel1⟩
end Go.Proofs.YtbodfdmmfaampaaGreatDoor
