/-
  Contracts: The contract of the library's floatBits of a decimal (printed by gen_XVJ.py). What the library's decimal has taken of a decimal text, plain and in memory.
-/
import Derived.Test.YtbakbikilbaafaaGreatDoorS10
import Derived.Test.YtbakbikilbaafaaGreatDoorS6
namespace Go.Proofs.YtbakbikilbaafaaGreatDoor
open Go.RowKit F64 Ieee
set_option linter.unusedVariables false
set_option maxHeartbeats 8000000
set_option maxRecDepth 100000

theorem exitTwo_ret {J1 J0 : Act → World → Prop} {Q : Exit → Act → World → Prop} {a : Act} {w : World} (h : Q .ret a w) : exitTwo J1 J0 Q .ret a w := h
theorem noGoto_ret1 {Q : Exit → Act → World → Prop} {a : Act} {w : World} (h : Q .ret a w) : Exit.noGoto Q .ret a w := h
theorem DecV.cells {b t : Nat} {dp : Int} {tr : Bool} {w : World} (h : DecV b t dp tr w) : ∃ nd : Nat, 1 ≤ nd ∧ w.cell? ⟨b, 800, none⟩ = some (.int .i64 (nd : Int)) ∧ w.cell? ⟨b, 801, none⟩ = some (.int .i64 dp) ∧ w.cell? ⟨b, 802, none⟩ = some (.bool false) := by
  obtain ⟨C, nd, h1, h3, _⟩ := h
  exact ⟨nd, h1.pos, h3.n, h3.p, h3.g⟩
theorem DecV.head {b t : Nat} {dp : Int} {tr : Bool} {w : World} (h : DecV b t dp tr w) (hd : -500 ≤ dp) : ∃ c : Nat, 49 ≤ c ∧ c ≤ 57 ∧ w.cell? ⟨b, 0, none⟩ = some (.int .u8 (c : Int)) ∧ (dp = 0 → (c < 53 ↔ 2 * t < SC)) := by
  obtain ⟨C, nd, h1, h3, rfl⟩ := h
  obtain ⟨p1, p2, p3, p4⟩ := h1
  refine ⟨C 0, p4, (p3 0 (by omega)).2, h3.c 0 (by omega), fun e => ?_⟩
  subst e
  obtain ⟨e1, e2⟩ := tOf_split (C := C) (d := 0) (by omega : 0 ≤ nd) p2
  obtain ⟨m, rfl⟩ : ∃ m, nd = m + 1 := ⟨nd - 1, by omega⟩
  rw [numF_zero, Nat.zero_mul, Nat.zero_add, Nat.sub_zero, numF_congr (C' := fun k => C (0 + k)) (fun i _ => rfl), numF_cons] at e1
  rw [Nat.sub_zero] at e2
  have hF : numF (fun k => C (0 + 1 + k)) m < 10 ^ m := numF_lt fun i hi => p3 (0 + 1 + i) (by omega)
  have hu : 0 < 10 ^ (1300 - (m + 1)) := Nat.pow_pos (by decide)
  have h10 : (10 : Nat) ^ (m + 1) = 10 * 10 ^ m := by rw [Nat.pow_succ, Nat.mul_comm]
  rw [show ((0 : Nat) : Int) = 0 from rfl] at e1
  rw [e1, e2, h10]
  generalize numF (fun k => C (0 + 1 + k)) m = F at *
  generalize 10 ^ (1300 - (m + 1)) = u at *
  generalize 10 ^ m = v at *
  have c0 := p3 0 (by omega)
  constructor
  · intro hc
    have h1 := Nat.mul_le_mul_right v (show C 0 - 48 ≤ 4 by omega)
    have h2 : ((C 0 - 48) * v + F) * u < 5 * v * u := Nat.mul_lt_mul_of_pos_right (by omega) hu
    have h3 : 10 * v * u = 2 * (5 * v * u) := by rw [← Nat.mul_assoc, ← Nat.mul_assoc]
    omega
  · intro hlt
    rcases Nat.lt_or_ge (C 0) 53 with g | g
    · exact g
    · exfalso
      have h1 := Nat.mul_le_mul_right v (show 5 ≤ C 0 - 48 by omega)
      have h2 : 5 * v * u ≤ ((C 0 - 48) * v + F) * u := Nat.mul_le_mul_right u (by omega)
      have h3 : 10 * v * u = 2 * (5 * v * u) := by rw [← Nat.mul_assoc, ← Nat.mul_assoc]
      omega
/-- what floatBits answers: the float nearest to A / B -/
def FbR (A B : Nat) (r : Ending) : Prop := ∃ (v : Nat) (ov : Bool), r = .returned (.tuple #[.int .u64 (v : Int), .bool ov]) ∧ Near v A B
theorem pt_bound : ∀ j : Fin 9, 1 ≤ (PTL.getD j.val 0) ∧ (PTL.getD j.val 0) ≤ 26 ∧ 2 * 2 ^ (PTL.getD j.val 0).toNat ≤ 2 * 10 ^ j.val * (if j.val = 0 then 2 else 1) := by decide +kernel
/-- how far a decimal of that point is shifted -/
def shN (j : Nat) : Nat := if j < 9 then (PTL.getD j 0).toNat else 27
theorem shN_b (j : Nat) : 1 ≤ shN j ∧ shN j ≤ 27 ∧ (1 ≤ j → 2 ^ shN j ≤ 10 ^ j) ∧ (j = 0 → shN j = 1) := by
  unfold shN
  by_cases h : j < 9
  · rw [if_pos h]
    have hp := pt_bound ⟨j, h⟩
    simp only at hp
    refine ⟨by omega, by omega, fun hj => ?_, fun e => by subst e; rfl⟩
    rw [if_neg (by omega)] at hp
    omega
  · rw [if_neg h]
    refine ⟨by omega, by omega, fun _ => ?_, fun e => by omega⟩
    refine Nat.le_trans (show 2 ^ 27 ≤ 10 ^ 9 by decide) (Nat.pow_le_pow_right (by decide) (by omega))
def E161 : Nat := 1610
theorem E161_eq : E161 = 1610 := rfl
theorem q_bound {a bb q t : Nat} (hbb : 0 < bb) (hab : a < SC * bb * 2 ^ E11) (h : t * (bb * 2 ^ q) ≤ a * 2 ^ 0) (ht : SC ≤ t) : q < 1100 := by
  rcases Nat.lt_or_ge q 1100 with g | g
  · exact g
  · exfalso
    rw [Nat.pow_zero, Nat.mul_one] at h
    have h1 : 2 ^ E11 ≤ 2 ^ q := Nat.pow_le_pow_right (by decide) g
    have h2 := Nat.mul_le_mul ht (Nat.mul_le_mul_left bb h1)
    have e : SC * bb * 2 ^ E11 = SC * (bb * 2 ^ E11) := Nat.mul_assoc _ _ _
    omega
theorem ab_bound {a bb t : Nat} {tr : Bool} (hA : App a bb 0 0 t tr 1100) (ht : t < 10 ^ E161) : a < SC * bb * 2 ^ E11 := by
  rcases Nat.lt_or_ge a (SC * bb * 2 ^ E11) with g | g
  · exact g
  · exfalso
    have hk := hA.kp 1 0 E11 (by decide) (by omega)
    rw [Nat.one_mul, Nat.zero_add, Nat.zero_add, Nat.pow_zero, Nat.mul_one, Nat.mul_one] at hk
    have h1 := hk (by rw [← Nat.mul_assoc]; omega)
    have h2 : 2 * 10 ^ E161 < SC * 2 ^ E11 := by decide +kernel
    omega
def E12 : Nat := 1200
def E34 : Nat := 340
theorem lo_bound {a bb q t L : Nat} (h : t * (bb * 2 ^ q) ≤ a * 2 ^ 0) (hS : SC ≤ t * 2 ^ L) : SC * (bb * 2 ^ q) ≤ a * 2 ^ L := by
  rw [Nat.pow_zero, Nat.mul_one] at h
  calc SC * (bb * 2 ^ q) ≤ t * 2 ^ L * (bb * 2 ^ q) := Nat.mul_le_mul_right _ hS
    _ = t * (bb * 2 ^ q) * 2 ^ L := by ac_rfl
    _ ≤ a * 2 ^ L := Nat.mul_le_mul_right _ h
theorem lo_ex {a bb q t : Nat} {dp : Int} (h : t * (bb * 2 ^ q) ≤ a * 2 ^ 0) (ht : 10 ^ ((dp + 500).toNat + 799) ≤ t) (hr : q = 0 ∧ -330 ≤ dp ∨ -99 ≤ dp) : ∃ L, (q = 0 ∧ L = 1100 ∨ L = 340) ∧ L ≤ 1100 ∧ SC * (bb * 2 ^ q) ≤ a * 2 ^ L := by
  rcases hr with ⟨rfl, hr⟩ | hr
  · refine ⟨E11, .inl ⟨rfl, rfl⟩, Nat.le_refl _, lo_bound h ?_⟩
    have h1 : SC ≤ 10 ^ E969 * 2 ^ E11 := by decide +kernel
    refine Nat.le_trans h1 (Nat.mul_le_mul_right _ (Nat.le_trans (Nat.pow_le_pow_right (by decide) ?_) ht))
    rw [show E969 = 969 from rfl]; omega
  · refine ⟨E34, .inr rfl, by decide, lo_bound h ?_⟩
    have h1 : SC ≤ 10 ^ E12 * 2 ^ E34 := by decide +kernel
    refine Nat.le_trans h1 (Nat.mul_le_mul_right _ (Nat.le_trans (Nat.pow_le_pow_right (by decide) ?_) ht))
    rw [show E12 = 1200 from rfl]; omega
theorem pn_bound {a bb p q t L n : Nat} {tr : Bool} (hA : App a bb p q t tr (1100 - p)) (hlo : SC * (bb * 2 ^ q) ≤ a * 2 ^ L) (hp : p ≤ L) (hL : L ≤ 1100) (h : t * 2 ^ n < SC) : p + n ≤ L := by
  rcases Nat.lt_or_ge L (p + n) with g | g
  · exfalso
    have hk := hA.kp 2 (L - p) 0 (by decide) (by omega)
    rw [Nat.add_zero, show p + (L - p) = L by omega, Nat.pow_zero, Nat.mul_one] at hk
    have h1 := hk (by rw [Nat.mul_assoc, Nat.mul_assoc]; exact Nat.mul_le_mul_left 2 hlo)
    have h2 : t * 2 ^ (L - p) ≤ t * 2 ^ n := Nat.mul_le_mul_left t (Nat.pow_le_pow_right (by decide) (by omega))
    rw [Nat.mul_assoc] at h1
    omega
  · exact g
theorem sh_lt {t j : Nat} {dp : Int} (ht : t < 10 ^ (dp + 1300).toNat) (hj : dp = -(j : Int)) (hb : j ≤ 1000) (h0 : j = 0 → 2 * t < SC) : t * 2 ^ shN j < SC := by
  obtain ⟨s1, s2, s3, s4⟩ := shN_b j
  rcases Nat.eq_zero_or_pos j with z | z
  · have := h0 z
    rw [s4 z, Nat.pow_one]; omega
  · have h1 := Nat.mul_lt_mul_of_lt_of_le ht (s3 z) (Nat.pow_pos (by decide))
    rw [← Nat.pow_add, show (dp + 1300).toNat + j = EX by rw [EX_eq]; omega] at h1
    exact h1
theorem and_b52 (K : Nat) (h : K < 9007199254740992) : bits BinOp.and IntKind.u64 (K : Int) 4503599627370496 = if 4503599627370496 ≤ K then 4503599627370496 else 0 := by
  have h1 := bits_and_u64_nat K 4503599627370496 (by omega) (by decide)
  rw [show ((4503599627370496 : Nat) : Int) = 4503599627370496 from rfl] at h1
  rw [h1]
  have h2 : K &&& 2 ^ 52 = if K.testBit 52 then 2 ^ 52 else 0 := by
    apply Nat.eq_of_testBit_eq
    intro i
    rw [Nat.testBit_and, Nat.testBit_two_pow]
    by_cases hi : 52 = i
    · subst hi
      cases hk : K.testBit 52
      · rw [if_neg (by decide)]; simp
      · rw [if_pos rfl, Nat.testBit_two_pow]; rfl
    · have : decide (52 = i) = false := by simp [hi]
      rw [this, Bool.and_false]
      split
      · rw [Nat.testBit_two_pow, this]
      · simp
  have h3 : K.testBit 52 = decide (4503599627370496 ≤ K) := by
    rw [Nat.testBit_eq_decide_div_mod_eq]
    apply decide_eq_decide.2
    omega
  rw [show (4503599627370496 : Nat) = 2 ^ 52 by decide, h2, h3]
  by_cases h5 : 4503599627370496 ≤ K
  · simp [h5]
  · simp [h5]
theorem c_floatBits (b t : Nat) (dp : Int) (tr : Bool) (a bb : Nat) (hbb : 0 < bb) (hA0 : App a bb 0 0 t tr 1100) (hd1 : -500 ≤ dp) (hd2 : dp ≤ 700) (w0 : World) (hW : LibW w0) (hb : b = w0.heap.size) (w : World) (hB : Below b w0 w) (h : DecV b t dp tr w) :
    Calls Tryz.prog 209 #[.pointer (some ⟨b, 0, none⟩), .pointer (some ⟨9, 0, none⟩)] w fun r w' => FbR (a * U) (bb * SC) r ∧ Below b w0 w' := by
  have hK := Lib.hid (fun W (hB : Below b w0 W) => (hW.keep (by rw [← hb]; exact hB) : LibW W))
  have hge := Lib.hid (fun (t : Nat) (dp : Int) (tr : Bool) (W : World) (h : DecV b t dp tr W) => h.ge)
  have hlt := Lib.hid (fun (t : Nat) (dp : Int) (tr : Bool) (W : World) (h : DecV b t dp tr W) => h.lt)
  obtain ⟨f0, f1, f2⟩ := (hK.out w hB).fi
  obtain ⟨nd, n1, cN, cP, cG⟩ := h.cells
  have n0 : ((nd : Int) == 0) = false := by simp; omega
  clear hW
  replace hb := Lib.hid hb
  by_cases hbig : 310 < dp
  · have hN : Near 9218868437227405312 (a * U) (bb * SC) := by
      have hle := hA0.le
      rw [Nat.pow_zero, Nat.mul_one, Nat.mul_one] at hle
      refine fb_big hle hbb (Nat.le_trans ?_ (h.ge hd1))
      unfold SC
      rw [← Nat.pow_add]
      exact Nat.pow_le_pow_right (by decide) (by rw [EX_eq, show E310 = 310 from rfl]; omega)
    have hN := Lib.hid hN
    have hB := Lib.hid hB
    go_enter Tryz.func209, Tryz.ntmps209
    go_wp2_with fail
    refine wp_scope_two rfl rfl ?_
    go_hide hQ
    go_wp2_with fail
    refine wp_goto ?_
    subst hQ
    refine Or.inl ⟨rfl, ?_⟩
    show Code.wp _ _ _ _ _
    go_hide hQ2
    go_wp2_with fail
    go_quiet (fail)
    go_wp2_with fail
    go_step3
    go_wp2_with fail
    go_quiet (fail)
    go_wp2_with fail
    subst hQ2
    refine exitTwo_ret ?_
    go_ret2
    exact ⟨⟨9218868437227405312, true, by rfl, hN.out⟩, below_drewG hB.out _⟩
  by_cases hsm : dp < -330
  · have hN : Near 0 (a * U) (bb * SC) := by
      refine fb_small hA0 (Nat.lt_of_lt_of_le (h.lt hd1) ?_)
      exact Nat.pow_le_pow_right (by decide) (by rw [show E969 = 969 from rfl]; omega)
    have hN := Lib.hid hN
    have hB := Lib.hid hB
    go_enter Tryz.func209, Tryz.ntmps209
    go_wp2_with fail
    refine wp_scope_two rfl rfl ?_
    go_hide hQ
    go_wp2_with fail
    refine wp_goto ?_
    subst hQ
    refine Or.inr ⟨rfl, ?_⟩
    show Code.wp _ _ _ _ _
    go_hide hQ2
    go_wp2_with fail
    go_quiet (fail)
    go_wp2_with fail
    subst hQ2
    refine noGoto_ret1 ?_
    go_ret2
    exact ⟨⟨0, false, by rfl, hN.out⟩, below_drewG hB.out _⟩
  have hab : a < SC * bb * 2 ^ E11 := ab_bound hA0 (Nat.lt_of_lt_of_le (h.lt hd1) (Nat.pow_le_pow_right (by decide) (by rw [E161_eq]; omega)))
  have hab := Lib.hid hab
  have hSh := Lib.hid (fun t dp tr p q B k (hk : 1 ≤ k ∧ k ≤ 60) hA e1 e2 W hD => c_shR1 b t dp tr a bb p q B k hk hbb hA e1 e2 W hD)
  have hSl := Lib.hid (fun t dp tr p q B k (hk : 1 ≤ k ∧ k ≤ 60) hA hB hkB e1 e2 W hD (hBW : Below b w0 W) => c_shL b t dp tr a bb p q B k hk hbb hA hB hkB e1 e2 W hD (hK.out W hBW).lc)
  replace hA0 := Lib.hid hA0
  replace hB := Lib.hid hB
  replace h := Lib.hid h
  have q1 : ¬ (310 : Int) < dp := hbig
  have q2 : ¬ dp < -330 := hsm
  go_enter Tryz.func209, Tryz.ntmps209
  go_wp2_with fail
  refine wp_scope_two rfl rfl ?_
  go_hide hQ
  replace hQ := Lib.hid hQ
  go_upto_block 0 with fail
  go_cut [6] (fun v6 wx => ∃ (q t : Nat) (dp : Int) (tr : Bool), v6 = .int .i64 (q : Int) ∧ q ≤ 1200 ∧ dp ≤ 0 ∧ (q = 0 ∧ -330 ≤ dp ∨ -99 ≤ dp) ∧ DecV b t dp tr wx ∧ App a bb 0 q t tr 1100 ∧ Below b w0 wx)
  case first =>
    go_wp2_with fail
    go_loopg [6] t (fun g v6 wr => ∃ (q t : Nat) (dp : Int) (tr : Bool), t = g ∧ v6 = .int .i64 (q : Int) ∧ q ≤ 1200 ∧ dp ≤ 310 ∧ (q = 0 ∧ -330 ≤ dp ∨ -99 ≤ dp) ∧ DecV b t dp tr wr ∧ App a bb 0 q t tr 1100 ∧ Below b w0 wr)
    case atStart => exact ⟨0, t, dp, tr, rfl, rfl, by decide, by omega, .inl ⟨rfl, by omega⟩, h.out, hA0.out, hB.out⟩
    case round =>
      clear h hA0 hB q1 q2 f0 f1 f2 cN cP cG n0 n1 hd1 hd2 hbig hsm
      obtain ⟨q, t, dp, tr, rfl, rfl, hq, hdp, hr, hD, hA, hBw⟩ := hrel
      obtain ⟨nd, n1, cN, cP, cG⟩ := hD.cells
      obtain ⟨pb, po, pc, p0, p1⟩ := (hK.out wr hBw).pt
      by_cases hp : 0 < dp
      · obtain ⟨j, rfl⟩ : ∃ j : Nat, dp = (j : Int) := ⟨dp.toNat, by omega⟩
        have hsb := shN_b j
        have hgt := hge.out _ _ _ _ hD (by omega)
        have hSt : SC ≤ t := by
          refine Nat.le_trans ?_ hgt
          unfold SC
          exact Nat.pow_le_pow_right (by decide) (by rw [EX_eq]; omega)
        have hqb := q_bound hbb hab.out hA.le hSt
        have hj1 : 0 < j := by omega
        have hX := Lib.hid (fun W hW => hSh.out t (j : Int) tr 0 q 1100 (shN j) ⟨hsb.1, by omega⟩ hA (by omega) (by omega) W hW)
        have ht0 := Lib.hid (show 0 < t from Nat.lt_of_lt_of_le SC_pos hSt)
        have hw1 : Hid (∀ n, Below b w0 (wr.drewN n)) := fun n => below_drewG hBw n
        have hD1 : Hid (∀ n, DecV b t (j : Int) tr (wr.drewN n)) := fun n => hD.drew n
        have hsb1 := Lib.hid hsb.2.2
        by_cases h9 : j < 9
        · have hn : shN j = (PTL.getD j 0).toNat := if_pos h9
          have hn2 : PTL.getD j 0 = ((shN j : Nat) : Int) := by
            have := (pt_bound ⟨j, h9⟩).1
            simp only at this
            omega
          have hpj := p1 j h9
          rw [hn2] at hpj
          replace hn2 := Lib.hid hn2
          have q9 : ¬ (9 : Int) ≤ (j : Int) := by omega
          have q9b : ¬ 9 ≤ j := by omega
          have qj : (j : Int) < 9 := by omega
          clear hn p1 hSt hgt hA hD hBw
          generalize shN j = n at *
          go_wp2_with fail
          go_quiet (fail)
          have hD2 := hD1.out nq
          have hw2 := hw1.out nq
          obtain ⟨pb, po, pc, p0, p1⟩ := (hK.out _ hw2).pt
          obtain ⟨nd, n1, cN, cP, cG⟩ := hD2.cells
          have hpj := p1 j h9
          rw [hn2.out] at hpj
          clear hD1 hw1 p1
          generalize wr.drewN nq = wr at *
          have hw1 : Hid (∀ n, Below b w0 (wr.drewN n)) := fun n => below_drewG hw2 n
          have hD1 : Hid (∀ n, DecV b t (j : Int) tr (wr.drewN n)) := fun n => hD2.drew n
          go_wp2_with fail
          go_quiet (fail)
          have hD2 := hD1.out nq
          have hw2 := hw1.out nq
          obtain ⟨pb, po, pc, p0, p1⟩ := (hK.out _ hw2).pt
          obtain ⟨nd, n1, cN, cP, cG⟩ := hD2.cells
          have hpj := p1 j h9
          rw [hn2.out] at hpj
          clear hD1 hw1 p1
          generalize wr.drewN nq = wr at *
          have hw1 : Hid (∀ n, Below b w0 (wr.drewN n)) := fun n => below_drewG hw2 n
          have hD1 : Hid (∀ n, DecV b t (j : Int) tr (wr.drewN n)) := fun n => hD2.drew n
          go_wp2_with fail
          refine (hX.out _ hD2).mono ?_
          rintro e w1 ⟨rfl, t', dp', tr', g1, g2, g3, g4, g5, g6⟩
          have hw3 := hw2.trans g2
          rw [show min (1100 + n) 1100 = 1100 by omega] at g5
          have g6 := Lib.hid g6
          have hw3 := Lib.hid hw3
          have g1 := Lib.hid g1
          have g5 := Lib.hid g5
          go_wp2_with fail
          go_roundg t'
          case measure =>
            have h2 := Nat.mul_le_mul_left t' (show 2 ^ 1 ≤ 2 ^ n from Nat.pow_le_pow_right (by decide) hsb.1)
            have := g6.out
            have := ht0.out
            omega
          case rel => exact ⟨q + n, t', dp', tr', rfl, by go_num, by omega, by omega, .inr (by omega), g1.out, g5.out, hw3.out⟩
        · have hn : shN j = 27 := if_neg h9
          have q9 : (9 : Int) ≤ (j : Int) := by omega
          rw [hn] at hX hsb1 hsb
          clear hn p1 hSt hgt hA hD hBw
          obtain ⟨n, hnn⟩ : ∃ n, n = 27 := ⟨_, rfl⟩
          have hneg : (-27 : Int) = -((27 : Nat) : Int) := rfl
          go_wp2_with fail
          go_quiet (fail)
          have hD2 := hD1.out nq
          have hw2 := hw1.out nq
          obtain ⟨pb, po, pc, p0, p1⟩ := (hK.out _ hw2).pt
          obtain ⟨nd, n1, cN, cP, cG⟩ := hD2.cells
          clear hD1 hw1 p1
          generalize wr.drewN nq = wr at *
          have hw1 : Hid (∀ n, Below b w0 (wr.drewN n)) := fun n => below_drewG hw2 n
          have hD1 : Hid (∀ n, DecV b t (j : Int) tr (wr.drewN n)) := fun n => hD2.drew n
          go_wp2_with fail
          refine (hX.out _ hD2).mono ?_
          rintro e w1 ⟨rfl, t', dp', tr', g1, g2, g3, g4, g5, g6⟩
          have hw3 := hw2.trans g2
          rw [show min (1100 + 27) 1100 = 1100 by omega] at g5
          have g6 := Lib.hid g6
          have hw3 := Lib.hid hw3
          have g1 := Lib.hid g1
          have g5 := Lib.hid g5
          go_wp2_with fail
          go_roundg t'
          case measure =>
            have h2 := Nat.mul_le_mul_left t' (show 2 ^ 1 ≤ 2 ^ 27 from Nat.pow_le_pow_right (by decide) hsb.1)
            have := g6.out
            have := ht0.out
            omega
          case rel => exact ⟨q + 27, t', dp', tr', rfl, by go_num, by omega, by omega, .inr (by omega), g1.out, g5.out, hw3.out⟩
      · have hp2 : ¬ (0 : Int) < dp := hp
        have hBw := Lib.hid hBw
        have hD := Lib.hid hD
        have hA := Lib.hid hA
        go_wp2_with fail
        go_meet
        exact ⟨q, t, dp, tr, rfl, hq, by omega, hr, hD.out, hA.out, hBw.out⟩
  case rest =>
    clear h hA0 hB q1 q2 f0 f1 f2 cN cP cG n0 n1 hd1 hd2 hbig hsm
    obtain ⟨q, t, dp, tr, rfl, hq, hdp0, hr, hD, hA, hBw⟩ := hcut
    obtain ⟨L, hL1, hL2, hlo⟩ := lo_ex hA.le (hge.out _ _ _ _ hD (by omega)) hr
    have htS : t < SC := by
      have h1 := hlt.out _ _ _ _ hD (by omega)
      refine Nat.lt_of_lt_of_le h1 ?_
      unfold SC
      exact Nat.pow_le_pow_right (by decide) (by rw [EX_eq]; omega)
    have hD := Lib.hid hD
    have hA := Lib.hid hA
    have hBw := Lib.hid hBw
    replace htS := Lib.hid htS
    replace hlo := Lib.hid hlo
    replace hL1 := Lib.hid hL1
    go_upto_block 2 with fail
    go_cut [6] (fun v6 wx => ∃ (p t : Nat) (tr : Bool), v6 = .int .i64 ((q : Int) - (p : Int)) ∧ p ≤ L ∧ DecV b t 0 tr wx ∧ App a bb p q t tr (1100 - p) ∧ SC ≤ 2 * t ∧ t < SC ∧ Below b w0 wx)
    case first =>
      go_wp2_with fail
      go_loopg [6] (SC - t) (fun g v6 wr => ∃ (p t : Nat) (dp : Int) (tr : Bool), t + g = SC ∧ v6 = .int .i64 ((q : Int) - (p : Int)) ∧ p ≤ L ∧ -330 ≤ dp ∧ dp ≤ 0 ∧ DecV b t dp tr wr ∧ App a bb p q t tr (1100 - p) ∧ t < SC ∧ Below b w0 wr)
      case atStart => exact ⟨0, t, dp, tr, by have := htS.out; omega, by go_num, Nat.zero_le _, by omega, hdp0, hD.out, hA.out, htS.out, hBw.out⟩
      case round =>
        clear hD hA hBw htS hdp0 hr
        obtain ⟨p, t, dp, tr, hg, rfl, hpL, hdl, hdp, hD, hA, htS, hBw⟩ := hrel
        obtain ⟨nd, n1, cN, cP, cG⟩ := hD.cells
        obtain ⟨c, hc1, hc2, cC, hcS⟩ := hD.head (by omega)
        obtain ⟨pb, po, pc, p0, p1⟩ := (hK.out _ hBw).pt
        obtain ⟨j, hj⟩ : ∃ j : Nat, dp = -(j : Int) := ⟨(-dp).toNat, by omega⟩
        have hhc := Lib.hid hcS
        clear hcS
        by_cases hgo : dp < 0 ∨ c < 53
        · have hj0 : j = 0 → 2 * t < SC := fun e => by
            rcases hgo with g | g
            · omega
            · exact (hhc.out (by omega)).1 g
          have hsl := sh_lt (hlt.out _ _ _ _ hD (by omega)) hj (by omega) hj0
          have hpn := pn_bound hA hlo.out hpL hL2 hsl
          have hsb := shN_b j
          have hX := Lib.hid (fun W hW hBW => hSl.out t dp tr p q (1100 - p) (shN j) ⟨hsb.1, by omega⟩ hA (by omega) (by omega) (by omega) (by omega) W hW hBW)
          have hw1 : Hid (∀ n, Below b w0 (wr.drewN n)) := fun n => below_drewG hBw n
          have hD1 : Hid (∀ n, DecV b t dp tr (wr.drewN n)) := fun n => hD.drew n
          have hnj : -dp = (j : Int) := by omega
          have hsl := Lib.hid hsl
          have hpn := Lib.hid hpn
          have hg := Lib.hid hg
          have hj0 := Lib.hid hj0
          replace hsb : 1 ≤ shN j ∧ shN j ≤ 27 := ⟨hsb.1, hsb.2.1⟩
          clear hA hD hBw htS
          replace hj := Lib.hid hj
          have hc53 : (c : Int) < 53 ∨ 53 ≤ (c : Int) := by omega
          rcases (show dp < 0 ∨ dp = 0 ∧ c < 53 by omega) with q0 | ⟨q0, hc5⟩
          · by_cases h9 : j < 9
            · have hn2 : PTL.getD j 0 = ((shN j : Nat) : Int) := by
                have := (pt_bound ⟨j, h9⟩).1
                simp only at this
                unfold shN
                rw [if_pos h9]
                omega
              have hpj := p1 j h9
              rw [hn2] at hpj
              replace hn2 := Lib.hid hn2
              have q9 : ¬ (9 : Int) ≤ (j : Int) := by omega
              clear p1
              generalize shN j = n at *
              have hc53 := Lib.hid hc53
              go_wp2_with fail
              go_quiet (fail)
              have hD2 := hD1.out nq
              have hw2 := hw1.out nq
              obtain ⟨pb, po, pc, p0, p1⟩ := (hK.out _ hw2).pt
              obtain ⟨nd, n1, cN, cP, cG⟩ := hD2.cells
              have hpj := p1 j h9
              rw [hn2.out] at hpj
              clear hD1 hw1 p1 cC
              generalize wr.drewN nq = wr at *
              have hw1 : Hid (∀ n, Below b w0 (wr.drewN n)) := fun n => below_drewG hw2 n
              have hD1 : Hid (∀ n, DecV b t dp tr (wr.drewN n)) := fun n => hD2.drew n
              go_wp2_with fail
              go_quiet (fail)
              have hD2 := hD1.out nq
              have hw2 := hw1.out nq
              obtain ⟨pb, po, pc, p0, p1⟩ := (hK.out _ hw2).pt
              obtain ⟨nd, n1, cN, cP, cG⟩ := hD2.cells
              have hpj := p1 j h9
              rw [hn2.out] at hpj
              clear hD1 hw1 p1
              generalize wr.drewN nq = wr at *
              have hw1 : Hid (∀ n, Below b w0 (wr.drewN n)) := fun n => below_drewG hw2 n
              have hD1 : Hid (∀ n, DecV b t dp tr (wr.drewN n)) := fun n => hD2.drew n
              go_wp2_with fail
              refine (hX.out _ hD2 hw2).mono ?_
              rintro e w1 ⟨rfl, t', dp', tr', g1, g2, g3, g4, g5, g6, g7⟩
              have hw3 := hw2.trans g2
              have hge' := hge.out _ _ _ _ g1.v (by omega)
              have htS' : t' < SC := Nat.lt_of_le_of_lt g6 hsl.out
              have hdp' : dp' ≤ 0 := by
                rcases (show dp' ≤ 0 ∨ 1 ≤ dp' by omega) with z | z
                · exact z
                · exfalso
                  have h1 : SC ≤ 10 ^ ((dp' + 500).toNat + 799) := by
                    unfold SC
                    exact Nat.pow_le_pow_right (by decide) (by rw [EX_eq]; omega)
                  omega
              rw [show 1100 - p - n = 1100 - (p + n) by omega] at g5
              have g5 := Lib.hid g5
              have g1 := Lib.hid g1.v
              have hw3 := Lib.hid hw3
              replace htS' := Lib.hid htS'
              replace g6 := Lib.hid g6
              replace g7 := Lib.hid g7
              clear hge' g2
              go_wp2_with fail
              go_roundg (SC - t')
              case measure => have := htS'.out; have := g7.out; have := hg.out; omega
              case rel => exact ⟨p + n, t', dp', tr', by have := htS'.out; omega, by go_num, hpn.out, by omega, hdp', g1.out, g5.out, htS'.out, hw3.out⟩
            · have hn : shN j = 27 := if_neg h9
              have q9 : (9 : Int) ≤ (j : Int) := by omega
              rw [hn] at hX hsb hpn hsl
              clear hn p1
              have hc53 := Lib.hid hc53
              go_wp2_with fail
              go_quiet (fail)
              have hD2 := hD1.out nq
              have hw2 := hw1.out nq
              obtain ⟨pb, po, pc, p0, p1⟩ := (hK.out _ hw2).pt
              obtain ⟨nd, n1, cN, cP, cG⟩ := hD2.cells
              skip
              clear hD1 hw1 p1 cC
              generalize wr.drewN nq = wr at *
              have hw1 : Hid (∀ n, Below b w0 (wr.drewN n)) := fun n => below_drewG hw2 n
              have hD1 : Hid (∀ n, DecV b t dp tr (wr.drewN n)) := fun n => hD2.drew n
              go_wp2_with fail
              refine (hX.out _ hD2 hw2).mono ?_
              rintro e w1 ⟨rfl, t', dp', tr', g1, g2, g3, g4, g5, g6, g7⟩
              have hw3 := hw2.trans g2
              have hge' := hge.out _ _ _ _ g1.v (by omega)
              have htS' : t' < SC := Nat.lt_of_le_of_lt g6 hsl.out
              have hdp' : dp' ≤ 0 := by
                rcases (show dp' ≤ 0 ∨ 1 ≤ dp' by omega) with z | z
                · exact z
                · exfalso
                  have h1 : SC ≤ 10 ^ ((dp' + 500).toNat + 799) := by
                    unfold SC
                    exact Nat.pow_le_pow_right (by decide) (by rw [EX_eq]; omega)
                  omega
              rw [show 1100 - p - 27 = 1100 - (p + 27) by omega] at g5
              have g5 := Lib.hid g5
              have g1 := Lib.hid g1.v
              have hw3 := Lib.hid hw3
              replace htS' := Lib.hid htS'
              replace g6 := Lib.hid g6
              replace g7 := Lib.hid g7
              clear hge' g2
              go_wp2_with fail
              go_roundg (SC - t')
              case measure => have := htS'.out; have := g7.out; have := hg.out; omega
              case rel => exact ⟨p + 27, t', dp', tr', by have := htS'.out; omega, by go_num, hpn.out, by omega, hdp', g1.out, g5.out, htS'.out, hw3.out⟩
          · subst q0
            have hj' : j = 0 := by have := hj.out; omega
            subst hj'
            have hn : shN 0 = 1 := rfl
            rw [hn] at hX hsb hpn hsl
            have hpj := p1 0 (by decide)
            rw [show PTL.getD 0 0 = 1 from rfl, Nat.add_zero] at hpj
            have hc6 : (c : Int) < 53 := by omega
            clear hn p1 hc53 hnj
            go_wp2_with fail
            go_quiet (fail)
            have hD2 := hD1.out nq
            have hw2 := hw1.out nq
            obtain ⟨pb, po, pc, p0, p1⟩ := (hK.out _ hw2).pt
            obtain ⟨nd, n1, cN, cP, cG⟩ := hD2.cells
            have hpj := p1 0 (by decide)
            rw [show PTL.getD 0 0 = 1 from rfl, Nat.add_zero] at hpj
            clear hD1 hw1 p1 cC
            generalize wr.drewN nq = wr at *
            have hw1 : Hid (∀ n, Below b w0 (wr.drewN n)) := fun n => below_drewG hw2 n
            have hD1 : Hid (∀ n, DecV b t 0 tr (wr.drewN n)) := fun n => hD2.drew n
            go_wp2_with fail
            go_quiet (fail)
            have hD2 := hD1.out nq
            have hw2 := hw1.out nq
            obtain ⟨pb, po, pc, p0, p1⟩ := (hK.out _ hw2).pt
            obtain ⟨nd, n1, cN, cP, cG⟩ := hD2.cells
            have hpj := p1 0 (by decide)
            rw [show PTL.getD 0 0 = 1 from rfl, Nat.add_zero] at hpj
            clear hD1 hw1 p1
            generalize wr.drewN nq = wr at *
            have hw1 : Hid (∀ n, Below b w0 (wr.drewN n)) := fun n => below_drewG hw2 n
            have hD1 : Hid (∀ n, DecV b t 0 tr (wr.drewN n)) := fun n => hD2.drew n
            go_wp2_with fail
            refine (hX.out _ hD2 hw2).mono ?_
            rintro e w1 ⟨rfl, t', dp', tr', g1, g2, g3, g4, g5, g6, g7⟩
            have hw3 := hw2.trans g2
            have hge' := hge.out _ _ _ _ g1.v (by omega)
            have htS' : t' < SC := Nat.lt_of_le_of_lt g6 hsl.out
            have hdp' : dp' ≤ 0 := by
              rcases (show dp' ≤ 0 ∨ 1 ≤ dp' by omega) with z | z
              · exact z
              · exfalso
                have h1 : SC ≤ 10 ^ ((dp' + 500).toNat + 799) := by
                  unfold SC
                  exact Nat.pow_le_pow_right (by decide) (by rw [EX_eq]; omega)
                omega
            rw [show 1100 - p - 1 = 1100 - (p + 1) by omega] at g5
            have g5 := Lib.hid g5
            have g1 := Lib.hid g1.v
            have hw3 := Lib.hid hw3
            replace htS' := Lib.hid htS'
            replace g6 := Lib.hid g6
            replace g7 := Lib.hid g7
            clear hge' g2
            go_wp2_with fail
            go_roundg (SC - t')
            case measure => have := htS'.out; have := g7.out; have := hg.out; omega
            case rel => exact ⟨p + 1, t', dp', tr', by have := htS'.out; omega, by go_num, hpn.out, by omega, hdp', g1.out, g5.out, htS'.out, hw3.out⟩
        · have hd0 : dp = 0 := by omega
          subst hd0
          have hc53 : ¬ (c : Int) < 53 := by omega
          have h2t : SC ≤ 2 * t := by
            rcases Nat.lt_or_ge (2 * t) SC with g | g
            · have := (hhc.out rfl).2 g; omega
            · exact g
          have hD := Lib.hid hD
          have hA := Lib.hid hA
          have hBw := Lib.hid hBw
          replace htS := Lib.hid htS
          replace h2t := Lib.hid h2t
          replace hj := Lib.hid hj
          replace hg := Lib.hid hg
          clear p1
          go_wp2_with fail
          go_meet
          exact ⟨p, t, tr, rfl, hpL, hD.out, hA.out, h2t.out, htS.out, hBw.out⟩
    case rest =>
      clear hr hdp0 hD hA hBw htS
      obtain ⟨p, t, tr, rfl, hpL, hD, hA, h2t, htS, hBw⟩ := hcut
      obtain ⟨f0, f1, f2⟩ := (hK.out _ hBw).fi
      have hlow : SC * (bb * 2 ^ q) ≤ 2 * (a * 2 ^ p) := by
        have h1 := Nat.mul_le_mul_right (bb * 2 ^ q) h2t
        have h2 := hA.le
        rw [Nat.mul_assoc] at h1
        omega
      have hSh2 := Lib.hid (fun t dp tr p q B k (hk : 61 ≤ k ∧ k ≤ 120) hA e1 e2 W hD => c_shR2 b t dp tr a bb p q B k hk hbb hA e1 e2 W hD)
      have hD := Lib.hid hD
      have hA := Lib.hid hA
      have hBw := Lib.hid hBw
      replace htS := Lib.hid htS
      replace h2t := Lib.hid h2t
      replace hlow := Lib.hid hlow
      go_upto_if 111 with fail
      go_cut [6] (fun v6 wx => ∃ (q' t' : Nat) (dp' : Int) (tr' : Bool) (B E : Nat), v6 = .int .i64 ((E : Int) - 1022) ∧ p + E = 1021 + q' ∧ E ≤ 2500 ∧ DecV b t' dp' tr' wx ∧ App a bb p q' t' tr' B ∧ 53 ≤ B ∧ B ≤ 1100 ∧ t' < SC ∧ (E = 0 ∨ SC * (bb * 2 ^ q') ≤ 2 * (a * 2 ^ p)) ∧ -300 ≤ dp' ∧ dp' ≤ 0 ∧ Below b w0 wx)
      case first =>
        by_cases hsub : (q : Int) - (p : Int) - 1 < -1022
        · have hq0 : q = 0 := by
            rcases hL1.out with ⟨z, _⟩ | z
            · exact z
            · omega
          subst hq0
          obtain ⟨n, hn⟩ : ∃ n : Nat, p = 1021 + n := ⟨p - 1021, by omega⟩
          have hn1 : 1 ≤ n ∧ n ≤ 79 := by omega
          have hX : Hid (∀ W, DecV b t 0 tr W → Calls Tryz.prog 167 #[.pointer (some ⟨b, 0, none⟩), .int .i64 (-(n : Int))] W fun r w' => r = .returned (.tuple #[]) ∧ ∃ t' dp' tr', DecV b t' dp' tr' w' ∧ Below b W w' ∧ -200 ≤ dp' ∧ dp' ≤ 0 ∧ App a bb p n t' tr' 79) := by
            intro W hWD
            by_cases h60 : n ≤ 60
            · refine (hSh.out t 0 tr p 0 (1100 - p) n ⟨hn1.1, h60⟩ hA.out (by decide) (by decide) W hWD).mono ?_
              rintro r w' ⟨e, t', dp', tr', g1, g2, g3, g4, g5, g6⟩
              rw [Nat.zero_add] at g5
              exact ⟨e, t', dp', tr', g1, g2, by omega, by omega, g5.weak (by omega)⟩
            · refine (hSh2.out t 0 tr p 0 (1100 - p) n ⟨by omega, by omega⟩ hA.out (by decide) (by decide) W hWD).mono ?_
              rintro r w' ⟨e, t', dp', tr', g1, g2, g3, g4, g5⟩
              rw [Nat.zero_add] at g5
              exact ⟨e, t', dp', tr', g1, g2, by omega, by omega, g5.weak (by omega)⟩
          have e1 : (-1022 : Int) - (((0 : Nat) : Int) - (p : Int) - 1) = (n : Int) := by omega
          have e2 : ((0 : Nat) : Int) - (p : Int) - 1 + (n : Int) = -1022 := by omega
          have e3 : ((0 : Nat) : Int) - (p : Int) - 1 = -(1022 + n : Int) := by omega
          have e4 : -(1022 + (n : Int)) + (n : Int) = -1022 := by omega
          have e5 : (-1022 : Int) - -(1022 + (n : Int)) = (n : Int) := by omega
          replace hn := Lib.hid hn
          replace hX := hX
          rw [e3]
          clear e1 e2 e3
          have hs2 : -(1022 + (n : Int)) < -1022 := by omega
          go_wp2_with fail
          refine (hX.out _ hD.out).mono ?_
          rintro e w1 ⟨rfl, t', dp', tr', g1, g2, g3, g4, g5⟩
          have hw3 := hBw.out.trans g2
          have g1 := Lib.hid g1
          have g5 := Lib.hid g5
          replace hw3 := Lib.hid hw3
          clear g2
          go_wp2_with fail
          go_meet
          have ht' : t' < SC := by
            have h1 := hlt.out _ _ _ _ g1.out (by omega)
            refine Nat.lt_of_lt_of_le h1 ?_
            unfold SC
            exact Nat.pow_le_pow_right (by decide) (by rw [EX_eq]; omega)
          exact ⟨n, t', dp', tr', 79, 0, by go_num, by have := hn.out; omega, by omega, g1.out, g5.out, by decide, by decide, ht', .inl rfl, by omega, g4, hw3.out⟩
        · obtain ⟨E, hE⟩ : ∃ E : Nat, (q : Int) - (p : Int) - 1 = (E : Int) - 1022 := ⟨((q : Int) - (p : Int) + 1021).toNat, by omega⟩
          have hsub2 : ¬ (E : Int) - 1022 < -1022 := by omega
          have hEb : Hid (p + E = 1021 + q ∧ E ≤ 2500) := ⟨by omega, by omega⟩
          have hBb : 53 ≤ 1100 - p := by
            rcases hL1.out with ⟨z, _⟩ | z
            · omega
            · omega
          rw [hE]
          go_wp2_with fail
          go_meet
          exact ⟨q, t, 0, tr, 1100 - p, E, rfl, hEb.out.1, hEb.out.2, hD.out, hA.out, hBb, by omega, htS.out, .inr hlow.out, by decide, by decide, hBw.out⟩
      case rest =>
        clear hD hA hBw htS h2t hlow f0 f1 f2
        obtain ⟨q', t', dp', tr', B, E, rfl, hE, hEb, hD, hA, hB1, hB2, htS, hlo2, hdl, hdu, hBw⟩ := hcut
        obtain ⟨f0, f1, f2⟩ := (hK.out _ hBw).fi
        have hBd : Hid (∀ n, Below b w0 (wc.drewN n)) := fun n => below_drewG hBw n
        have hDd : Hid (∀ n, DecV b t' dp' tr' (wc.drewN n)) := fun n => hD.drew n
        by_cases hov : 2046 ≤ E
        · have hN : Hid (Near 9218868437227405312 (a * U) (bb * SC)) := fb_over hbb hE hov (by
            rcases hlo2 with z | z
            · omega
            · exact z)
          have hcmp : (2047 : Int) ≤ (E : Int) - 1022 - -1023 := by omega
          have hB9 := hBd
          obtain ⟨nd, n1, cN, cP, cG⟩ := hD.cells
          clear hA hD hBw hlo2 htS cN cP
          go_wp2_with fail
          go_quiet (fail)
          go_wp2_with fail
          refine wp_goto ?_
          replace hQ := hQ.out
          subst hQ
          refine Or.inl ⟨rfl, ?_⟩
          show Code.wp _ _ _ _ _
          go_hide hQ2
          go_wp2_with fail
          go_quiet (fail)
          go_wp2_with fail
          go_step3
          go_wp2_with fail
          go_quiet (fail)
          go_wp2_with fail
          subst hQ2
          refine exitTwo_ret ?_
          go_ret2
          exact ⟨⟨9218868437227405312, true, by rfl, hN.out⟩, hB9.out _⟩
        · have hcmp : ¬ (2047 : Int) ≤ (E : Int) - 1022 - -1023 := by omega
          have hX := Lib.hid (fun W hWD hBW => hSl.out t' dp' tr' p q' B 53 ⟨by decide, by decide⟩ hA hB2 hB1 (by omega) (by omega) W hWD hBW)
          have hlo2 := Lib.hid hlo2
          replace htS := Lib.hid htS
          clear hA hD hBw
          go_wp2_with fail
          go_quiet (fail)
          have hD2 := hDd.out nq
          have hB2' := hBd.out nq
          obtain ⟨f0, f1, f2⟩ := (hK.out _ hB2').fi
          clear hDd hBd
          generalize wc.drewN nq = wc at *
          go_wp2_with fail
          refine (hX.out _ hD2 hB2').mono ?_
          rintro e w1 ⟨rfl, t1, dp1, tr1, g1, g2, g3, g4, g5, g6, g7⟩
          have hw3 := hB2'.trans g2
          have ht1 : t1 < 9007199254740992 * SC := by
            refine Nat.lt_of_le_of_lt g6 ?_
            rw [show (2 : Nat) ^ 53 = 9007199254740992 by decide, Nat.mul_comm]
            exact Nat.mul_lt_mul_of_pos_left htS.out (by decide)
          have hR := Lib.hid (c_rounded10 b t1 dp1 tr1 (by omega) ht1 w1 g1)
          obtain ⟨hN1, hK1, hK2⟩ := fb_near (E := E) hbb g5 ht1 (by omega) (by
            rcases hlo2.out with z | z
            · exact .inl z
            · right
              have h2 := Nat.mul_le_mul_right 4503599627370496 z
              refine Nat.le_trans h2 (Nat.le_of_eq ?_)
              rw [Nat.pow_add, show (2 : Nat) ^ 53 = 2 * 4503599627370496 by decide]
              ac_rfl)
          obtain ⟨f0, f1, f2⟩ := (hK.out _ hw3).fi
          obtain ⟨nd, n1, cN, cP, cG⟩ := g1.v.cells
          generalize rndT t1 tr1 = K at *
          have hBd : Hid (∀ n, Below b w0 (w1.drewN n)) := fun n => below_drewG hw3 n
          clear g1 g2 g3 g4 g5 g6 g7 ht1 hw3 hX hSh hSl hSh2 hD2 hB2' hlo2 htS cN cP n1
          replace hN1 := Lib.hid hN1
          have hK2 := Lib.hid hK2
          go_wp2_with fail
          refine hR.out.mono ?_
          rintro e w2 ⟨rfl, rfl⟩
          clear hR
          by_cases k1 : K = 9007199254740992
          · subst k1
            have hkb : (((9007199254740992 : Nat) : Int) == 9007199254740992) = true := by decide
            have hand := and_b52 4503599627370496 (by decide)
            rw [if_pos (Nat.le_refl _)] at hand
            by_cases hE5 : E = 2045
            · subst hE5
              have hN : Hid (Near 9218868437227405312 (a * U) (bb * SC)) := hN1.out
              have hB9 := hBd
              go_wp2_with fail
              go_quiet (fail)
              go_wp2_with fail
              refine wp_goto ?_
              replace hQ := hQ.out
              subst hQ
              refine Or.inl ⟨rfl, ?_⟩
              show Code.wp _ _ _ _ _
              go_hide hQ2
              go_wp2_with fail
              go_quiet (fail)
              go_wp2_with fail
              go_step3
              go_wp2_with fail
              go_quiet (fail)
              go_wp2_with fail
              subst hQ2
              refine exitTwo_ret ?_
              go_ret2
              exact ⟨⟨9218868437227405312, true, by rfl, hN.out⟩, hB9.out _⟩
            · have hN : Hid (Near ((E + 2) * 4503599627370496 + 4503599627370496 % 4503599627370496) (a * U) (bb * SC)) := by
                have h := hN1.out
                rw [Nat.min_eq_left (by omega)] at h
                rw [show (E + 2) * 4503599627370496 + 4503599627370496 % 4503599627370496 = E * 4503599627370496 + 9007199254740992 by omega]
                exact h
              have hfb := Lib.hid (fin_bits 4503599627370496 (E + 2) (by decide) (by omega))
              have hB9 := hBd
              have hcmp2 : ¬ (2047 : Int) ≤ (E : Int) - 1022 + 1 - -1023 := by omega
              go_wp2_with fail
              go_quiet (fail)
              go_wp2_with fail
              refine wp_goto ?_
              replace hQ := hQ.out
              subst hQ
              refine Or.inr ⟨rfl, ?_⟩
              show Code.wp _ _ _ _ _
              go_hide hQ2
              go_wp2_with fail
              go_quiet (fail)
              go_wp2_with fail
              subst hQ2
              refine noGoto_ret1 ?_
              go_ret2
              exact ⟨⟨_, false, congrArg (fun z : Int => Ending.returned (.tuple #[.int .u64 z, .bool false])) ((congrArg (fun q : Int => bits BinOp.or IntKind.u64 (bits BinOp.and IntKind.u64 4503599627370496 4503599627370495) (IntKind.u64.wrap (IntKind.u64.wrap (bits BinOp.and IntKind.i64 q 2047) * 4503599627370496))) (show _ = ((E + 2 : Nat) : Int) by omega)).trans hfb.out), hN.out⟩, hB9.out _⟩
          · have hkb : (((K : Nat) : Int) == 9007199254740992) = false := by simp; omega
            have hand := and_b52 K (by omega)
            by_cases k2 : 4503599627370496 ≤ K
            · rw [if_pos k2] at hand
              have hN : Hid (Near ((E + 1) * 4503599627370496 + K % 4503599627370496) (a * U) (bb * SC)) := by
                have h := hN1.out
                rw [Nat.min_eq_left (by omega)] at h
                rw [show (E + 1) * 4503599627370496 + K % 4503599627370496 = E * 4503599627370496 + K by omega]
                exact h
              have hfb := Lib.hid (fin_bits K (E + 1) (by omega) (by omega))
              have hB9 := hBd
              go_wp2_with fail
              refine wp_goto ?_
              replace hQ := hQ.out
              subst hQ
              refine Or.inr ⟨rfl, ?_⟩
              show Code.wp _ _ _ _ _
              go_hide hQ2
              go_wp2_with fail
              go_quiet (fail)
              go_wp2_with fail
              subst hQ2
              refine noGoto_ret1 ?_
              go_ret2
              exact ⟨⟨_, false, congrArg (fun z : Int => Ending.returned (.tuple #[.int .u64 z, .bool false])) ((congrArg (fun q : Int => bits BinOp.or IntKind.u64 (bits BinOp.and IntKind.u64 (K : Int) 4503599627370495) (IntKind.u64.wrap (IntKind.u64.wrap (bits BinOp.and IntKind.i64 q 2047) * 4503599627370496))) (show _ = ((E + 1 : Nat) : Int) by omega)).trans hfb.out), hN.out⟩, hB9.out _⟩
            · rw [if_neg k2] at hand
              have hE0 : E = 0 := by
                rcases Nat.eq_zero_or_pos E with z | z
                · exact z
                · have := hK2.out z; omega
              subst hE0
              have hN : Hid (Near (0 * 4503599627370496 + K % 4503599627370496) (a * U) (bb * SC)) := by
                have h := hN1.out
                rw [Nat.min_eq_left (by omega)] at h
                rw [Nat.mod_eq_of_lt (by omega)]
                exact h
              have hfb := Lib.hid (fin_bits K 0 (by omega) (by decide))
              have hB9 := hBd
              go_wp2_with fail
              refine wp_goto ?_
              replace hQ := hQ.out
              subst hQ
              refine Or.inr ⟨rfl, ?_⟩
              show Code.wp _ _ _ _ _
              go_hide hQ2
              go_wp2_with fail
              go_quiet (fail)
              go_wp2_with fail
              subst hQ2
              refine noGoto_ret1 ?_
              go_ret2
              exact ⟨⟨_, false, congrArg (fun z : Int => Ending.returned (.tuple #[.int .u64 z, .bool false])) ((congrArg (fun q : Int => bits BinOp.or IntKind.u64 (bits BinOp.and IntKind.u64 (K : Int) 4503599627370495) (IntKind.u64.wrap (IntKind.u64.wrap (bits BinOp.and IntKind.i64 q 2047) * 4503599627370496))) (show _ = ((0 : Nat) : Int) by omega)).trans hfb.out), hN.out⟩, hB9.out _⟩
end Go.Proofs.YtbakbikilbaafaaGreatDoor
namespace Go.Proofs.YtbakbikilbaafaaGreatDoor
open Go.RowKit F64 Ieee
set_option linter.unusedVariables false
set_option maxHeartbeats 4000000
set_option maxRecDepth 100000

structure DF where
  dot : Bool
  D : List Nat
  dp : Int
def df0 : DF := ⟨false, [], 0⟩
def dfS (σ : DF) (c : Nat) : DF :=
  if c = 46 then { σ with dot := true, dp := ((min σ.D.length 800 : Nat) : Int) }
  else if c = 48 ∧ σ.D = [] then { σ with dp := σ.dp - 1 }
  else { σ with D := σ.D ++ [c] }
def dfF (l : List Nat) : DF := l.foldl dfS df0
theorem dfF_take {l : List Nat} {k c : Nat} (h : l[k]? = some c) : dfF (l.take (k + 1)) = dfS (dfF (l.take k)) c := by
  rw [List.take_add_one, h]; unfold dfF; rw [Option.toList, List.foldl_append]; rfl
def anyNZ (l : List Nat) : Bool := l.any fun c => !(c == 48)
structure DFb (σ : DF) (k : Nat) : Prop where
  n : σ.D.length ≤ k
  d1 : -(k : Int) ≤ σ.dp
  d2 : σ.dp ≤ (k : Int)
  dig : ∀ c ∈ σ.D, 48 ≤ c ∧ c ≤ 57
  hd : ∀ c, σ.D[0]? = some c → 49 ≤ c
theorem dfF_b (l : List Nat) (h : ∀ c ∈ l, c = 46 ∨ 48 ≤ c ∧ c ≤ 57) : DFb (dfF l) l.length := by
  have key : ∀ (l : List Nat) (σ : DF) (k : Nat), (∀ c ∈ l, c = 46 ∨ 48 ≤ c ∧ c ≤ 57) → DFb σ k → DFb (l.foldl dfS σ) (k + l.length) := by
    intro l
    induction l with
    | nil => intro σ k _ hb; exact hb
    | cons c l ih =>
      intro σ k hl hb
      rw [List.foldl_cons, List.length_cons, show k + (l.length + 1) = (k + 1) + l.length by omega]
      apply ih _ _ (fun x hx => hl x (List.mem_cons_of_mem _ hx))
      have hc := hl c (List.mem_cons_self ..)
      obtain ⟨b1, b2, b3, b4, b5⟩ := hb
      unfold dfS
      split
      · exact ⟨by simp only; omega, by simp only; omega, by simp only; omega, b4, b5⟩
      · rename_i h46
        split
        · exact ⟨by simp only; omega, by simp only; omega, by simp only; omega, b4, b5⟩
        · rename_i h48
          refine ⟨by simp only [List.length_append, List.length_singleton]; omega, by simp only; omega, by simp only; omega, fun x hx => ?_, fun x hx => ?_⟩
          · rcases List.mem_append.1 hx with hx | hx
            · exact b4 x hx
            · simp at hx; subst hx; omega
          · by_cases e : σ.D = []
            · simp only [e, List.nil_append] at hx
              simp at hx
              have : c ≠ 48 := fun e2 => h48 ⟨e2, e⟩
              omega
            · have hpos : 0 < σ.D.length := List.length_pos_iff.2 e
              rw [List.getElem?_append_left hpos] at hx
              exact b5 x hx
  have := key l df0 0 h ⟨Nat.le_refl _, by decide, by decide, by simp [df0], by simp [df0]⟩
  rwa [Nat.zero_add] at this
/-- the digits lie in the decimal -/
def SetI (b : Nat) (D : List Nat) (dp : Int) (w : World) : Prop := ∃ C, Dec b C (min D.length 800) dp (anyNZ (D.drop 800)) w ∧ ∀ i, i < min D.length 800 → C i = D.getD i 0
theorem SetI.dp {b : Nat} {D : List Nat} {dp : Int} {w : World} (h : SetI b D dp w) (n : Int) : SetI b D n (w.setCell ⟨b, 801, none⟩ (.int .i64 n)) := by
  obtain ⟨C, h1, h2⟩ := h
  exact ⟨C, h1.setP n, h2⟩
theorem SetI.drew {b : Nat} {D : List Nat} {dp : Int} {w : World} (h : SetI b D dp w) (n : Nat) : SetI b D dp (w.drewN n) := by
  obtain ⟨C, h1, h2⟩ := h
  exact ⟨C, h1.drew n, h2⟩
theorem SetI.put {b : Nat} {D : List Nat} {dp : Int} {w : World} {c : Nat} (h : SetI b D dp w) (hD : D.length < 800) (hc : c < 256) :
    SetI b (D ++ [c]) dp ((w.setCell ⟨b, D.length, none⟩ (.int .u8 (c : Int))).setCell ⟨b, 800, none⟩ (.int .i64 ((D.length + 1 : Nat) : Int))) := by
  obtain ⟨C, h1, h2⟩ := h
  have e1 : min D.length 800 = D.length := by omega
  have e2 : min (D ++ [c]).length 800 = D.length + 1 := by simp; omega
  have e3 : anyNZ ((D ++ [c]).drop 800) = anyNZ (D.drop 800) := by
    rw [List.drop_of_length_le (by simp; omega), List.drop_of_length_le (by omega)]
  rw [e1] at h1 h2
  refine ⟨upd C D.length c, ?_, ?_⟩
  · rw [e2, e3]
    exact (h1.setC hD hc).setN (D.length + 1)
  · rw [e2]
    intro i hi
    rcases Nat.lt_or_ge i D.length with g | g
    · rw [upd_other C c (by omega), h2 i g, List.getD_eq_getElem?_getD, List.getD_eq_getElem?_getD, List.getElem?_append_left g]
    · obtain rfl : i = D.length := by omega
      rw [upd_same, List.getD_eq_getElem?_getD, List.getElem?_append_right (Nat.le_refl _)]
      simp
theorem SetI.over {b : Nat} {D : List Nat} {dp : Int} {w : World} {c : Nat} (h : SetI b D dp w) (hD : ¬ D.length < 800) :
    SetI b (D ++ [c]) dp (if c = 48 then w else w.setCell ⟨b, 803, none⟩ (.bool true)) := by
  obtain ⟨C, h1, h2⟩ := h
  have e1 : min D.length 800 = 800 := by omega
  have e2 : min (D ++ [c]).length 800 = 800 := by simp; omega
  have e3 : anyNZ ((D ++ [c]).drop 800) = (anyNZ (D.drop 800) || !(c == 48)) := by
    rw [List.drop_append_of_le_length (by omega)]
    unfold anyNZ
    simp
  rw [e1] at h1 h2
  refine ⟨C, ?_, ?_⟩
  · rw [e2, e3]
    by_cases hc : c = 48
    · subst hc
      rw [if_pos rfl, show (!((48 : Nat) == 48)) = false by decide, Bool.or_false]
      exact h1
    · rw [if_neg hc, show (!(c == 48)) = true by simp [hc], Bool.or_true]
      exact h1.setT true
  · rw [e2]
    intro i hi
    rw [h2 i hi, List.getD_eq_getElem?_getD, List.getD_eq_getElem?_getD, List.getElem?_append_left (by omega)]
theorem SetI.cells {b : Nat} {D : List Nat} {dp : Int} {w : World} (h : SetI b D dp w) :
    w.cell? ⟨b, 800, none⟩ = some (.int .i64 ((min D.length 800 : Nat) : Int)) ∧ w.cell? ⟨b, 801, none⟩ = some (.int .i64 dp) ∧ (∃ x, w.cell? ⟨b, 803, none⟩ = some (.bool x)) ∧ (∀ i, w.frozen? ⟨b, i, none⟩ = false) ∧ ∀ i, i < 800 → ∃ v : Nat, w.cell? ⟨b, i, none⟩ = some (.int .u8 (v : Int)) := by
  obtain ⟨C, h1, h2⟩ := h
  exact ⟨h1.n, h1.p, ⟨_, h1.t⟩, h1.f, fun i hi => ⟨_, h1.c i hi⟩⟩
/-- a list's digits by places -/
theorem numL_numF (D : List Nat) : ∀ n, n ≤ D.length → numL (D.take n) = numF (fun i => D.getD i 0) n
  | 0, _ => by simp [numL, numF]
  | n + 1, h => by
    have ih := numL_numF D n (by omega)
    have hx : D[n]? = some (D[n]'(by omega)) := List.getElem?_eq_getElem (by omega)
    rw [List.take_add_one, hx, numF_succ, ← ih]
    show List.foldl _ 0 (D.take n ++ [D[n]]) = _
    rw [List.foldl_append]
    show List.foldl _ 0 (D.take n) * 10 + (D[n] - 48) = _
    rw [List.getD_eq_getElem?_getD, hx]
    rfl
theorem numL_split (D : List Nat) (n : Nat) : numL D = numL (D.take n) * 10 ^ (D.drop n).length + numL (D.drop n) := by
  have e : D = D.take n ++ D.drop n := (List.take_append_drop n D).symm
  have h1 : numL (D.take n ++ D.drop n) = numL (D.take n) * 10 ^ (D.drop n).length + numL (D.drop n) := by
    show List.foldl _ 0 (D.take n ++ D.drop n) = _
    rw [List.foldl_append]
    exact foldl_num (D.drop n) _
  rw [List.take_append_drop] at h1
  exact h1
theorem nz_num : ∀ (l : List Nat), (∀ c ∈ l, 48 ≤ c ∧ c ≤ 57) → (anyNZ l = true ↔ 0 < numL l)
  | [], _ => by simp [anyNZ, numL]
  | x :: xs, h => by
    have ih := nz_num xs (fun c hc => h c (List.mem_cons_of_mem _ hc))
    have hx := h x (List.mem_cons_self ..)
    have hp : 0 < 10 ^ xs.length := Nat.pow_pos (by decide)
    rw [numL_cons]
    have e : anyNZ (x :: xs) = (!(x == 48) || anyNZ xs) := by unfold anyNZ; rfl
    rw [e]
    by_cases hx48 : x = 48
    · subst hx48
      simp only [show (!((48 : Nat) == 48)) = false by decide, Bool.false_or, Nat.sub_self, Nat.zero_mul, Nat.zero_add]
      exact ih
    · have : 1 ≤ x - 48 := by omega
      have h2 := Nat.mul_le_mul_right (10 ^ xs.length) this
      simp only [show (!(x == 48)) = true by simp [hx48], Bool.true_or, true_iff]
      omega
/-- a decimal of digits D stands for them, cut off behind the 800th -/
theorem SetI.app {b : Nat} {D : List Nat} {dp : Int} {w : World} (h : SetI b D dp w) (hdig : ∀ c ∈ D, 48 ≤ c ∧ c ≤ 57) (hpos : 0 < D.length) (hhd : ∀ c, D[0]? = some c → 49 ≤ c) (hd1 : -450 ≤ dp) (hd2 : dp ≤ 800) :
    ∃ (C : Nat → Nat), DecD C (min D.length 800) ∧ Dec b C (min D.length 800) dp (anyNZ (D.drop 800)) w ∧
      App (numL D * 10 ^ (1300 + dp).toNat) (10 ^ D.length) 0 0 (tOf C (min D.length 800) dp) (anyNZ (D.drop 800)) 1100 := by
  obtain ⟨C, h1, h2⟩ := h
  have hC0 : 49 ≤ C 0 := by
    rw [h2 0 (by omega), List.getD_eq_getElem?_getD, List.getElem?_eq_getElem hpos]
    exact hhd _ (List.getElem?_eq_getElem hpos)
  have hCd : DigOK C (min D.length 800) := fun i hi => by
    rw [h2 i hi, List.getD_eq_getElem?_getD, List.getElem?_eq_getElem (by omega)]
    exact hdig _ (List.getElem_mem _)
  have hDD : DecD C (min D.length 800) := ⟨by omega, by omega, hCd, hC0⟩
  refine ⟨C, hDD, h1, ?_⟩
  have hnum : numF C (min D.length 800) = numL (D.take 800) := by
    rw [numF_congr (C' := fun i => D.getD i 0) (fun i hi => h2 i hi), ← numL_numF D _ (by omega)]
    congr 1
    rcases Nat.lt_or_ge D.length 800 with g | g
    · rw [Nat.min_eq_left (by omega), List.take_length, List.take_of_length_le (by omega)]
    · rw [Nat.min_eq_right g]
  have hsp := numL_split D 800
  have hrest : numL (D.drop 800) < 10 ^ (D.drop 800).length := numL_lt (fun c hc => hdig c (List.mem_of_mem_drop hc))
  have hnz := nz_num (D.drop 800) (fun c hc => hdig c (List.mem_of_mem_drop hc))
  obtain ⟨z, hz⟩ : ∃ z, (D.drop 800).length = z := ⟨_, rfl⟩
  have hzl : D.length = min D.length 800 + z := by rw [← hz, List.length_drop]; omega
  rw [hz] at hsp hrest
  obtain ⟨nd, hnd⟩ : ∃ nd, min D.length 800 = nd := ⟨_, rfl⟩
  rw [hnd] at hnum hzl ⊢
  have hge := tOf_ge (dp := dp) (by omega) hC0 (by omega) (by omega : nd ≤ 800)
  have hpz : 0 < 10 ^ z := Nat.pow_pos (by decide)
  have ht : tOf C nd dp = numL (D.take 800) * 10 ^ (800 - nd) * 10 ^ (dp + 500).toNat := by
    unfold tOf
    rw [hnum, Nat.mul_assoc, ← Nat.pow_add]
    congr 2; omega
  have hb : 0 < 10 ^ D.length := Nat.pow_pos (by decide)
  have hA0 : 0 < 10 ^ (dp + 500).toNat := Nat.pow_pos (by decide)
  have hpow : (10 : Nat) ^ (1300 + dp).toNat * 10 ^ z = 10 ^ D.length * 10 ^ (dp + 500).toNat * 10 ^ (800 - nd) := by
    rw [← Nat.pow_add, ← Nat.pow_add, ← Nat.pow_add]; congr 1; omega
  have hcase : z = 0 ∨ nd = 800 := by omega
  refine App.start hb (d := (dp + 500).toNat) (by omega) ?_ hge ?_
  · rw [ht]
    congr 1
    symm
    have e : numL D * 10 ^ (1300 + dp).toNat * 10 ^ z = numL D * 10 ^ (800 - nd) * (10 ^ D.length * 10 ^ (dp + 500).toNat) := by
      rw [Nat.mul_assoc, hpow]; ac_rfl
    have hY : 0 < 10 ^ D.length * 10 ^ (dp + 500).toNat := Nat.mul_pos hb hA0
    rw [← Nat.mul_div_mul_right _ _ hpz, e, Nat.mul_comm (10 ^ D.length * 10 ^ (dp + 500).toNat) (10 ^ z), Nat.mul_div_mul_right _ _ hY]
    rcases hcase with hc | hc
    · subst hc
      rw [Nat.pow_zero, Nat.div_one, hsp]
      have : numL (D.drop 800) = 0 := by rw [Nat.pow_zero] at hrest; omega
      rw [this]; simp
    · rw [hc, Nat.sub_self, Nat.pow_zero, Nat.mul_one, Nat.mul_one, hsp, Nat.mul_comm, Nat.mul_add_div hpz, Nat.div_eq_of_lt hrest, Nat.add_zero]
  · have key : tOf C nd dp * 10 ^ D.length = numL D * 10 ^ (1300 + dp).toNat ↔ numL (D.drop 800) = 0 := by
      have e1 : tOf C nd dp * 10 ^ D.length = numL (D.take 800) * 10 ^ z * 10 ^ (1300 + dp).toNat := by
        rw [ht]
        calc numL (D.take 800) * 10 ^ (800 - nd) * 10 ^ (dp + 500).toNat * 10 ^ D.length = numL (D.take 800) * (10 ^ D.length * 10 ^ (dp + 500).toNat * 10 ^ (800 - nd)) := by ac_rfl
          _ = numL (D.take 800) * (10 ^ (1300 + dp).toNat * 10 ^ z) := by rw [hpow]
          _ = _ := by ac_rfl
      rw [e1]
      have hq : 0 < 10 ^ (1300 + dp).toNat := Nat.pow_pos (by decide)
      constructor
      · intro h
        have := Nat.eq_of_mul_eq_mul_right hq h
        omega
      · intro h
        rw [hsp, h, Nat.add_zero]
    by_cases h0 : numL (D.drop 800) = 0
    · have hn : anyNZ (D.drop 800) = false := by
        cases hh : anyNZ (D.drop 800) with
        | false => rfl
        | true => have := hnz.1 hh; omega
      rw [hn]
      have := key.2 h0
      simp [this]
    · have hn : anyNZ (D.drop 800) = true := hnz.2 (by omega)
      rw [hn]
      have : ¬ tOf C nd dp * 10 ^ D.length = numL D * 10 ^ (1300 + dp).toNat := fun e => h0 (key.1 e)
      simp [this]
end Go.Proofs.YtbakbikilbaafaaGreatDoor
