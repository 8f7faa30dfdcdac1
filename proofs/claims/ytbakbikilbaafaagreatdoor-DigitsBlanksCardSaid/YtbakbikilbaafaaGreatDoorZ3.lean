/-
  Contracts: The contract of the library's shortFloat at any float64 (printed by gen_XWC.py).
-/
import Derived.Test.YtbakbikilbaafaaGreatDoorZ2
import GoSem.PinnedTables
namespace Go.Proofs.YtbakbikilbaafaaGreatDoor
open Go.RowKit
set_option linter.unusedVariables false
set_option maxHeartbeats 16000000
set_option maxRecDepth 100000

/-- the table of powers of ten lies in the world -/
def PowT (w : World) : Prop := ∀ (i : Nat) (x : Nat × Nat), Pinned.pow10Rows[i]? = some x → w.cell? ⟨12, i * 2, none⟩ = some (.int .u64 (x.1 : Int)) ∧ w.cell? ⟨12, i * 2 + 1, none⟩ = some (.int .u64 (x.2 : Int))
theorem rows_len : Pinned.pow10Rows.length = 696 := by decide +kernel
theorem rows_b : (Pinned.pow10Rows.all fun x => decide (9223372036854775808 ≤ x.1) && (decide (x.1 < 18446744073709551616) && decide (x.2 < 18446744073709551616))) = true := by decide +kernel
def rowOf (p : Int) : Nat × Nat := Pinned.pow10Rows.getD (p + 348).toNat (0, 0)
theorem row_of {p : Int} (h1 : -348 ≤ p) (h2 : p ≤ 347) : Pinned.pow10Rows[(p + 348).toNat]? = some (rowOf p) := by
  unfold rowOf
  have hl : (p + 348).toNat < Pinned.pow10Rows.length := by rw [rows_len]; omega
  rw [List.getD_eq_getElem?_getD, List.getElem?_eq_getElem hl]
  rfl
theorem row_b {p : Int} (h1 : -348 ≤ p) (h2 : p ≤ 347) : 9223372036854775808 ≤ (rowOf p).1 ∧ (rowOf p).1 < 18446744073709551616 ∧ (rowOf p).2 < 18446744073709551616 := by
  have := List.all_eq_true.1 rows_b _ (List.mem_of_getElem? (row_of h1 h2))
  simpa using this
def sD (m : Nat) (e : Int) : Nat := sfD (rowOf (sfP m e)).1 (rowOf (sfP m e)).2 m e
def sQ (m : Nat) (e : Int) : Int := sfQ (rowOf (sfP m e)).1 (rowOf (sfP m e)).2 m e
theorem s_b {m : Nat} {e : Int} (h : SfIn m e) : 1 ≤ sD m e ∧ sD m e < 1000000000000000000 ∧ -332 ≤ sQ m e ∧ sQ m e ≤ 332 := by
  obtain ⟨_, _, p1, p2⟩ := h.s
  obtain ⟨r1, r2, _⟩ := row_b (p := sfP m e) (by omega) (by omega)
  exact sf_b h r1 r2
theorem lt_ofC {w : World} {a : Addr} {u : Value} (h : w.cell? a = some u) : a.block < w.heap.size := by
  rcases Nat.lt_or_ge a.block w.heap.size with h1 | h1
  · exact h1
  · unfold World.cell? at h
    rw [Array.getElem?_eq_none h1] at h
    simp at h
/-- a scaler lies in block b; below it nothing has turned since w -/
def ScG (b ph pl s : Nat) (w w' : World) : Prop := w'.cell? ⟨b, 0, none⟩ = some (.int .u64 (ph : Int)) ∧ w'.cell? ⟨b, 1, none⟩ = some (.int .u64 (pl : Int)) ∧ w'.cell? ⟨b, 2, none⟩ = some (.int .i64 (s : Int)) ∧ Below b w w'
theorem below_drewG {B : Nat} {a w : World} (h : Below B a w) (n : Nat) : Below B a (w.drewN n) := ⟨h.os, h.tape, h.output, h.size, h.block⟩
theorem set_otherG {w : World} {b i j : Nat} {v : Value} (h : i ≠ j) : (w.setCell ⟨b, i, none⟩ v).cell? ⟨b, j, none⟩ = w.cell? ⟨b, j, none⟩ :=
  World.cell?_setCell_other w _ _ v (fun e => h (by injection e))
theorem set_sameG {w : World} {b i : Nat} {u v : Value} (h : w.cell? ⟨b, i, none⟩ = some u) : (w.setCell ⟨b, i, none⟩ v).cell? ⟨b, i, none⟩ = some v :=
  World.cell?_setCell_same w _ v h
theorem c_prescaleG (b ph pl s : Nat) (p lp e : Int) (h1 : -348 ≤ p) (h2 : p ≤ 347) (h3 : -2000 ≤ e) (h4 : e ≤ 2000) (h5 : -2000 ≤ lp) (h6 : lp ≤ 2000) (hs : -(e + lp + 3) = (s : Int)) (w W : World) (hW : Below b w W)
    (c0 : W.cell? ⟨b, 0, none⟩ = some (.int .u64 0)) (c1 : W.cell? ⟨b, 1, none⟩ = some (.int .u64 0)) (c2 : W.cell? ⟨b, 2, none⟩ = some (.int .i64 0))
    (f0 : W.frozen? ⟨b, 0, none⟩ = false) (f1 : W.frozen? ⟨b, 1, none⟩ = false) (f2 : W.frozen? ⟨b, 2, none⟩ = false)
    (t0 : W.cell? ⟨12, (p + 348).toNat * 2, none⟩ = some (.int .u64 (ph : Int))) (t1 : W.cell? ⟨12, (p + 348).toNat * 2 + 1, none⟩ = some (.int .u64 (pl : Int))) :
    Calls Tryz.prog 185 #[.pointer (some ⟨b, 0, none⟩), .int .i64 e, .int .i64 p, .int .i64 lp] W fun r w' => r = .returned (.tuple #[]) ∧ ScG b ph pl s w w' := by
  refine (d_prescale b e p lp (ph : Int) (pl : Int) h1 h2 h3 h4 h5 h6 W c0 c1 c2 f0 f1 f2 t0 t1).mono ?_
  rintro r w' ⟨rfl, rfl⟩
  rw [hs]
  refine ⟨rfl, ?_, ?_, ?_, ((hW.setCell (Nat.le_refl _) _).setCell (Nat.le_refl _) _).setCell (Nat.le_refl _) _⟩
  · exact (set_otherG (by decide)).trans ((set_otherG (by decide)).trans (set_sameG c0))
  · exact (set_otherG (by decide)).trans (set_sameG ((set_otherG (by decide)).trans c1))
  · exact set_sameG ((set_otherG (by decide)).trans ((set_otherG (by decide)).trans c2))
theorem c_uscaleG (x ph pl s b : Nat) (hx : x < 18446744073709551616) (hp : ph < 18446744073709551616) (hpl : pl < 18446744073709551616) (hs : s < 64) (w W : World) (h : ScG b ph pl s w W) :
    Calls Tryz.prog 187 #[.int .u64 (x : Int), .pointer (some ⟨b, 0, none⟩)] W fun e w' => e = .returned (.int .u64 (usc x ph pl s : Int)) ∧ ScG b ph pl s w w' := by
  obtain ⟨c0, c1, c2, hb⟩ := h
  refine (d_uscaleG x ph pl s b hx hp hpl hs W c0 c1 c2).mono ?_
  rintro e w' ⟨rfl, nq, rfl⟩
  exact ⟨rfl, c0, c1, c2, below_drewG hb nq⟩
theorem and_i64G (a b : Nat) (ha : a < 9223372036854775808) (hb : b < 9223372036854775808) : bits BinOp.and IntKind.i64 (a : Int) (b : Int) = ((a &&& b : Nat) : Int) := by
  have h0 : ∀ x : Nat, x < 9223372036854775808 → (BitVec.ofInt 64 (x : Int)).toNat = x := by
    intro x hx
    rw [BitVec.toNat_ofInt]
    omega
  show IntKind.i64.wrap ((BitVec.ofInt 64 (a : Int) &&& BitVec.ofInt 64 (b : Int)).toNat : Nat) = _
  rw [BitVec.toNat_and, h0 a ha, h0 b hb]
  have := Nat.and_le_left (n := a) (m := b)
  rw [IntKind.wrap_i64]; omega
theorem odd_i64 (a : Nat) (ha : a < 9223372036854775808) : bits BinOp.and IntKind.i64 (a : Int) 1 = ((a % 2 : Nat) : Int) := by
  have := and_i64G a 1 ha (by decide)
  rw [Nat.and_one_is_mod] at this
  exact this
theorem d2048 {m : Nat} (h : m < 18446744073709551616) : m / 2048 < 9223372036854775808 := by omega
theorem c_shortG (m : Nat) (e : Int) (h : SfIn m e) (w : World) (hT : PowT w) :
    Calls Tryz.prog 169 #[.int .u64 (m : Int), .int .i64 e] w fun r w' => r = .returned (.tuple #[.int .u64 (sD m e : Int), .int .i64 (sQ m e)]) ∧ Below w.heap.size w w' := by
  obtain ⟨⟨s1, s2⟩, s0, p1, p2⟩ := h.s
  obtain ⟨mn1, mn2⟩ := h.mn
  obtain ⟨mx1, mx2⟩ := h.mx
  have m64 := h.m64
  have mlo := h.lo
  have e1 := h.e1
  have e2 := h.e2
  have hzb := sfZ_b e1
  obtain ⟨r1, r2, r3⟩ := row_b (p := sfP m e) (by omega) (by omega)
  obtain ⟨t0, t1⟩ := hT _ _ (row_of (p := sfP m e) (by omega) (by omega))
  have hT0 : 12 < w.heap.size := lt_ofC t0
  have hS : -(e + sfP m e * 108853 / 32768 + 3) = (sfS m e : Int) := by unfold sfS; omega
  have hod : sfOdd m e ≤ 1 := by unfold sfOdd; omega
  have hsb := s_b h
  have dP : sfP m e = if sfSk m e then -(((e + 11) * 631305 - 261663) / 2097152) else -((e + sfZ e) * 78913 / 262144) := rfl
  have dN : sfMin m e = if sfSk m e then m - 512 else m - 2 ^ (sfZ e - 1) := rfl
  have dX : sfMax m e = m + 2 ^ (sfZ e - 1) := rfl
  have dO : sfOdd m e = m / 2 ^ sfZ e % 2 := rfl
  have dZ : sfZ e = if -1085 ≤ e then 11 else (11 + (-1085 - e)).toNat := rfl
  have dK : sfSk m e = (decide (m = 9223372036854775808) && decide (-1085 < e)) := rfl
  have hD : sD m e = if sfLo (rowOf (sfP m e)).1 (rowOf (sfP m e)).2 m e ≤ sfHi (rowOf (sfP m e)).1 (rowOf (sfP m e)).2 m e / 10 * 10 then sfHi (rowOf (sfP m e)).1 (rowOf (sfP m e)).2 m e / 10
    else if sfLo (rowOf (sfP m e)).1 (rowOf (sfP m e)).2 m e < sfHi (rowOf (sfP m e)).1 (rowOf (sfP m e)).2 m e then rou (usc m (rowOf (sfP m e)).1 (rowOf (sfP m e)).2 (sfS m e)) else sfLo (rowOf (sfP m e)).1 (rowOf (sfP m e)).2 m e := rfl
  have hQ : sQ m e = if sfLo (rowOf (sfP m e)).1 (rowOf (sfP m e)).2 m e ≤ sfHi (rowOf (sfP m e)).1 (rowOf (sfP m e)).2 m e / 10 * 10 then -(sfP m e - 1) else -(sfP m e) := rfl
  have hLo : sfLo (rowOf (sfP m e)).1 (rowOf (sfP m e)).2 m e = cei (ndg (usc (sfMin m e) (rowOf (sfP m e)).1 (rowOf (sfP m e)).2 (sfS m e)) (sfOdd m e)) := rfl
  have hHi : sfHi (rowOf (sfP m e)).1 (rowOf (sfP m e)).2 m e = ndg (usc (sfMax m e) (rowOf (sfP m e)).1 (rowOf (sfP m e)).2 (sfS m e)) (-(sfOdd m e : Int)) / 4 := rfl
  generalize sfLo (rowOf (sfP m e)).1 (rowOf (sfP m e)).2 m e = LO at *
  generalize sfHi (rowOf (sfP m e)).1 (rowOf (sfP m e)).2 m e = HI at *
  generalize (rowOf (sfP m e)).1 = ph at *
  generalize (rowOf (sfP m e)).2 = pl at *
  generalize sfP m e = p at *
  generalize sfS m e = s at *
  generalize sfMin m e = mn at *
  generalize sfMax m e = mx at *
  generalize sfOdd m e = od at *
  generalize hsk : sfSk m e = sk at *
  have hlp1 : -2000 ≤ p * 108853 / 32768 ∧ p * 108853 / 32768 ≤ 2000 := by omega
  have hl2 := Lib.hid (fun W => d_log2Pow10 p (by omega) (by omega) W)
  obtain ⟨lp, hlp⟩ : ∃ lp, p * 108853 / 32768 = lp := ⟨_, rfl⟩
  rw [hlp] at hS hlp1 hl2
  have hP := Lib.hid (fun W hW => c_prescaleG w.heap.size ph pl s p lp e (by omega) (by omega) (by omega) (by omega) hlp1.1 hlp1.2 hS w W hW)
  have hU1 := Lib.hid (fun W => c_uscaleG mn ph pl s w.heap.size mn2 r2 r3 (by omega) w W)
  have hU2 := Lib.hid (fun W => c_uscaleG mx ph pl s w.heap.size mx2 r2 r3 (by omega) w W)
  have hU3 := Lib.hid (fun W => c_uscaleG m ph pl s w.heap.size m64 r2 r3 (by omega) w W)
  have b1 := usc_le (pl := pl) mn2 r2 s1 (by omega)
  have b2 := usc_le (pl := pl) mx2 r2 s1 (by omega)
  have b3 := usc_le (pl := pl) m64 r2 s1 (by omega)
  have b4 := usc_ge (pl := pl) mn1 mn2 r1 r2 s2
  have b5 := usc_ge (pl := pl) (x := mx) (by omega) mx2 r1 r2 s2
  have hn1 := Lib.hid (fun W => d_nudgeG (usc mn ph pl s) (od : Int) (by omega) (by omega) (by omega) W)
  have hn2 := Lib.hid (fun W => d_nudgeG (usc mx ph pl s) (-(od : Int)) (by omega) (by omega) (by omega) W)
  have g1 := ndg_add (usc mn ph pl s) od (by omega)
  have g2 := ndg_sub (usc mx ph pl s) od (by omega) (by omega)
  have hc := Lib.hid (fun W => d_uceil (ndg (usc mn ph pl s) (od : Int)) (by omega) W)
  have hf := Lib.hid (fun W => d_ufloor (ndg (usc mx ph pl s) (-(od : Int))) (by omega) W)
  have hr := Lib.hid (fun W => d_uround (usc m ph pl s) (by omega) W)
  have hLo' : (ndg (usc mn ph pl s) (od : Int) + 3) / 4 = LO := by rw [hLo]; rfl
  rw [hLo'] at hc
  rw [← hHi] at hf
  have hHb : HI < 4611686018427387904 := by omega
  have hLb : LO < 4611686018427387904 := by omega
  generalize ndg (usc mn ph pl s) (od : Int) = un at *
  generalize ndg (usc mx ph pl s) (-(od : Int)) = ux at *
  generalize usc mn ph pl s = vn at *
  generalize usc mx ph pl s = vx at *
  generalize usc m ph pl s = vm at *
  generalize rou vm = RO at *
  obtain ⟨DD, hDD⟩ : ∃ DD, HI / 10 = DD := ⟨_, rfl⟩
  rw [hDD] at hD hQ
  have q1 : (HI : Int) / 10 = (DD : Int) := by omega
  have q0 : IntKind.u64.wrap (DD : Int) = (DD : Int) := by rw [IntKind.wrap_u64]; omega
  have q2 : IntKind.u64.wrap ((DD : Int) * 10) = (DD : Int) * 10 := by rw [IntKind.wrap_u64]; omega
  clear hT s1 s2 s0 r1 r2 r3 mn1 mn2 mx1 b1 b2 b3 b4 b5 g1 g2 hLo' hLo hHi hlp hlp1 hsb h hDD hHb hLb
  cases sk with
  | true =>
    have hk0 := dK.symm
    simp only [Bool.and_eq_true, decide_eq_true_eq] at hk0
    obtain ⟨hm, hk⟩ := hk0
    clear hsk
    have hz : sfZ e = 11 := by rw [dZ, if_pos (by omega)]
    rw [hz] at dX dO
    rw [show (2 : Nat) ^ (11 - 1) = 1024 by decide] at dX
    rw [show (2 : Nat) ^ 11 = 2048 by decide] at dO
    simp only [if_true] at dP dN
    have n1 : ((m : Int) == 9223372036854775808) = true := by simp; omega
    have n0 : decide ((-1085 : Int) < e) = true := by simp; omega
    have n2 : IntKind.u64.wrap ((m : Int) - 512) = (mn : Int) := by rw [IntKind.wrap_u64]; omega
    have n3 : IntKind.u64.wrap ((m : Int) + 1024) = (mx : Int) := by rw [IntKind.wrap_u64]; omega
    have n5 : (m : Int) / 2048 = ((m / 2048 : Nat) : Int) := by omega
    have n4 : bits BinOp.and IntKind.i64 ((m / 2048 : Nat) : Int) 1 = (od : Int) := by rw [odd_i64 _ (d2048 m64), dO]
    have n7 : bits BinOp.and IntKind.i64 ((m : Int) / 2048) 1 = (od : Int) := by rw [n5, n4]
    have hl0 := Lib.hid (fun W => d_skewed (e + 11) (by omega) (by omega) W)
    rw [show ((e + 11) * 631305 - 261663) / 2097152 = -p by omega] at hl0
    clear dP dN dX dO dZ dK hz hzb n5 n4 mx2 hm
    by_cases hLL : LO ≤ DD * 10
    · skip
      have c1 : LO ≤ DD * 10 := hLL
      rw [if_pos c1] at hD hQ
      have q3 : (LO : Int) ≤ (DD : Int) * 10 := by omega
      rw [hD, hQ]
      clear hD hQ mlo
      go_enter Tryz.func169, Tryz.ntmps169
      go_wp2_with (first | (go_at_call 184; refine (hl0.out _).mono ?_; rintro e' w1 ⟨rfl, rfl⟩) | (go_at_call 186; refine (hl2.out _).mono ?_; rintro e' w1 ⟨rfl, rfl⟩))
      refine (hP.out _ ((Below.refl _ _).alloc (Nat.le_refl _) _) ?_ ?_ ?_ ?_ ?_ ?_ ?_ ?_).mono ?_
      case refine_9 =>
        rintro e' w1 ⟨rfl, hsc⟩
        go_wp2_with fail
        refine (hU1.out _ hsc).mono ?_
        rintro e' w2 ⟨rfl, hsc2⟩
        go_wp2_with fail
        refine (hn1.out _).mono ?_
        rintro e' w3 ⟨rfl, rfl⟩
        go_wp2_with fail
        refine (hc.out _).mono ?_
        rintro e' w3 ⟨rfl, rfl⟩
        go_wp2_with fail
        refine (hU2.out _ hsc2).mono ?_
        rintro e' w3 ⟨rfl, hsc3⟩
        go_wp2_with fail
        refine (hn2.out _).mono ?_
        rintro e' w4 ⟨rfl, rfl⟩
        go_wp2_with fail
        refine (hf.out _).mono ?_
        rintro e' w4 ⟨rfl, rfl⟩
        go_wp2_with fail
        refine bodyPost_ret (v := .tuple #[.int .u64 (DD : Int), .int .i64 (-(p - 1))]) (by simp [results, Tryz.results169, go_sem]) rfl ?_
        exact ⟨rfl, hsc3.2.2.2⟩
      case refine_1 => simp
      case refine_2 => simp
      case refine_3 => simp
      case refine_4 => simp
      case refine_5 => simp
      case refine_6 => simp
      case refine_7 => exact (World.cell?_alloc_lt _ _ _ hT0).trans t0
      case refine_8 => exact (World.cell?_alloc_lt _ _ _ hT0).trans t1
    · by_cases hLH : LO < HI
      · skip
        rw [if_neg hLL, if_pos hLH] at hD
        rw [if_neg hLL] at hQ
        have q3 : decide ((LO : Int) ≤ (DD : Int) * 10) = false := by simp; omega
        have q3n : decide (LO ≤ DD * 10) = false := by simp; omega
        have q4 : (LO : Int) < (HI : Int) := by omega
        rw [hD, hQ]
        clear hD hQ mlo
        go_enter Tryz.func169, Tryz.ntmps169
        go_wp2_with (first | (go_at_call 184; refine (hl0.out _).mono ?_; rintro e' w1 ⟨rfl, rfl⟩) | (go_at_call 186; refine (hl2.out _).mono ?_; rintro e' w1 ⟨rfl, rfl⟩))
        refine (hP.out _ ((Below.refl _ _).alloc (Nat.le_refl _) _) ?_ ?_ ?_ ?_ ?_ ?_ ?_ ?_).mono ?_
        case refine_9 =>
          rintro e' w1 ⟨rfl, hsc⟩
          go_wp2_with fail
          refine (hU1.out _ hsc).mono ?_
          rintro e' w2 ⟨rfl, hsc2⟩
          go_wp2_with fail
          refine (hn1.out _).mono ?_
          rintro e' w3 ⟨rfl, rfl⟩
          go_wp2_with fail
          refine (hc.out _).mono ?_
          rintro e' w3 ⟨rfl, rfl⟩
          go_wp2_with fail
          refine (hU2.out _ hsc2).mono ?_
          rintro e' w3 ⟨rfl, hsc3⟩
          go_wp2_with fail
          refine (hn2.out _).mono ?_
          rintro e' w4 ⟨rfl, rfl⟩
          go_wp2_with fail
          refine (hf.out _).mono ?_
          rintro e' w4 ⟨rfl, rfl⟩
          go_wp2_with fail
          refine (hU3.out _ hsc3).mono ?_
          rintro e' w5 ⟨rfl, hsc4⟩
          go_wp2_with fail
          refine (hr.out _).mono ?_
          rintro e' w6 ⟨rfl, rfl⟩
          go_wp2_with fail
          refine bodyPost_ret (v := .tuple #[.int .u64 (RO : Int), .int .i64 (-p)]) (by simp [results, Tryz.results169, go_sem]) rfl ?_
          exact ⟨rfl, hsc4.2.2.2⟩
        case refine_1 => simp
        case refine_2 => simp
        case refine_3 => simp
        case refine_4 => simp
        case refine_5 => simp
        case refine_6 => simp
        case refine_7 => exact (World.cell?_alloc_lt _ _ _ hT0).trans t0
        case refine_8 => exact (World.cell?_alloc_lt _ _ _ hT0).trans t1
      · skip
        rw [if_neg hLL, if_neg hLH] at hD
        rw [if_neg hLL] at hQ
        have q3 : decide ((LO : Int) ≤ (DD : Int) * 10) = false := by simp; omega
        have q3n : decide (LO ≤ DD * 10) = false := by simp; omega
        have q4 : decide ((LO : Int) < (HI : Int)) = false := by simp; omega
        have q4n : decide (LO < HI) = false := by simp; omega
        rw [hD, hQ]
        clear hD hQ mlo
        go_enter Tryz.func169, Tryz.ntmps169
        go_wp2_with (first | (go_at_call 184; refine (hl0.out _).mono ?_; rintro e' w1 ⟨rfl, rfl⟩) | (go_at_call 186; refine (hl2.out _).mono ?_; rintro e' w1 ⟨rfl, rfl⟩))
        refine (hP.out _ ((Below.refl _ _).alloc (Nat.le_refl _) _) ?_ ?_ ?_ ?_ ?_ ?_ ?_ ?_).mono ?_
        case refine_9 =>
          rintro e' w1 ⟨rfl, hsc⟩
          go_wp2_with fail
          refine (hU1.out _ hsc).mono ?_
          rintro e' w2 ⟨rfl, hsc2⟩
          go_wp2_with fail
          refine (hn1.out _).mono ?_
          rintro e' w3 ⟨rfl, rfl⟩
          go_wp2_with fail
          refine (hc.out _).mono ?_
          rintro e' w3 ⟨rfl, rfl⟩
          go_wp2_with fail
          refine (hU2.out _ hsc2).mono ?_
          rintro e' w3 ⟨rfl, hsc3⟩
          go_wp2_with fail
          refine (hn2.out _).mono ?_
          rintro e' w4 ⟨rfl, rfl⟩
          go_wp2_with fail
          refine (hf.out _).mono ?_
          rintro e' w4 ⟨rfl, rfl⟩
          go_wp2_with fail
          refine bodyPost_ret (v := .tuple #[.int .u64 (LO : Int), .int .i64 (-p)]) (by simp [results, Tryz.results169, go_sem]) rfl ?_
          exact ⟨rfl, hsc3.2.2.2⟩
        case refine_1 => simp
        case refine_2 => simp
        case refine_3 => simp
        case refine_4 => simp
        case refine_5 => simp
        case refine_6 => simp
        case refine_7 => exact (World.cell?_alloc_lt _ _ _ hT0).trans t0
        case refine_8 => exact (World.cell?_alloc_lt _ _ _ hT0).trans t1
  | false =>
    by_cases he : -1085 ≤ e
    · have hz : sfZ e = 11 := by rw [dZ, if_pos (by omega)]
      rw [hz] at dX dO dP dN
      simp only [Bool.false_eq_true, if_false] at dP dN
      rw [show (2 : Nat) ^ (11 - 1) = 1024 by decide] at dX dN
      rw [show (2 : Nat) ^ 11 = 2048 by decide] at dO
      have hk := dK.symm
      rw [Bool.and_eq_false_iff] at hk
      simp only [decide_eq_false_iff_not] at hk
      have n9 : decide (e < -1085) = false := by simp; omega
      have n2 : IntKind.u64.wrap ((m : Int) - 1024) = (mn : Int) := by rw [IntKind.wrap_u64]; omega
      have n3 : IntKind.u64.wrap ((m : Int) + 1024) = (mx : Int) := by rw [IntKind.wrap_u64]; omega
      have n5 : (m : Int) / 2048 = ((m / 2048 : Nat) : Int) := by omega
      have n4 : bits BinOp.and IntKind.i64 ((m / 2048 : Nat) : Int) 1 = (od : Int) := by rw [odd_i64 _ (d2048 m64), dO]
      have n7 : bits BinOp.and IntKind.i64 ((m : Int) / 2048) 1 = (od : Int) := by rw [n5, n4]
      have hl0 := Lib.hid (fun W => d_log10Pow2 (e + 11) (by omega) (by omega) W)
      rw [show (e + 11) * 78913 / 262144 = -p by omega] at hl0
      by_cases hm : m = 9223372036854775808
      · skip
        have n1 : ((m : Int) == 9223372036854775808) = true := by simp; omega
        have n0 : decide ((-1085 : Int) < e) = false := by simp; omega
        clear dP dN dX dO dZ dK hz hzb n5 n4 mx2 hk hsk hm
        by_cases hLL : LO ≤ DD * 10
        · skip
          have c1 : LO ≤ DD * 10 := hLL
          rw [if_pos c1] at hD hQ
          have q3 : (LO : Int) ≤ (DD : Int) * 10 := by omega
          rw [hD, hQ]
          clear hD hQ mlo
          go_enter Tryz.func169, Tryz.ntmps169
          go_wp2_with (first | (go_at_call 153; refine (hl0.out _).mono ?_; rintro e' w1 ⟨rfl, rfl⟩) | (go_at_call 186; refine (hl2.out _).mono ?_; rintro e' w1 ⟨rfl, rfl⟩))
          refine (hP.out _ ((Below.refl _ _).alloc (Nat.le_refl _) _) ?_ ?_ ?_ ?_ ?_ ?_ ?_ ?_).mono ?_
          case refine_9 =>
            rintro e' w1 ⟨rfl, hsc⟩
            go_wp2_with fail
            refine (hU1.out _ hsc).mono ?_
            rintro e' w2 ⟨rfl, hsc2⟩
            go_wp2_with fail
            refine (hn1.out _).mono ?_
            rintro e' w3 ⟨rfl, rfl⟩
            go_wp2_with fail
            refine (hc.out _).mono ?_
            rintro e' w3 ⟨rfl, rfl⟩
            go_wp2_with fail
            refine (hU2.out _ hsc2).mono ?_
            rintro e' w3 ⟨rfl, hsc3⟩
            go_wp2_with fail
            refine (hn2.out _).mono ?_
            rintro e' w4 ⟨rfl, rfl⟩
            go_wp2_with fail
            refine (hf.out _).mono ?_
            rintro e' w4 ⟨rfl, rfl⟩
            go_wp2_with fail
            refine bodyPost_ret (v := .tuple #[.int .u64 (DD : Int), .int .i64 (-(p - 1))]) (by simp [results, Tryz.results169, go_sem]) rfl ?_
            exact ⟨rfl, hsc3.2.2.2⟩
          case refine_1 => simp
          case refine_2 => simp
          case refine_3 => simp
          case refine_4 => simp
          case refine_5 => simp
          case refine_6 => simp
          case refine_7 => exact (World.cell?_alloc_lt _ _ _ hT0).trans t0
          case refine_8 => exact (World.cell?_alloc_lt _ _ _ hT0).trans t1
        · by_cases hLH : LO < HI
          · skip
            rw [if_neg hLL, if_pos hLH] at hD
            rw [if_neg hLL] at hQ
            have q3 : decide ((LO : Int) ≤ (DD : Int) * 10) = false := by simp; omega
            have q3n : decide (LO ≤ DD * 10) = false := by simp; omega
            have q4 : (LO : Int) < (HI : Int) := by omega
            rw [hD, hQ]
            clear hD hQ mlo
            go_enter Tryz.func169, Tryz.ntmps169
            go_wp2_with (first | (go_at_call 153; refine (hl0.out _).mono ?_; rintro e' w1 ⟨rfl, rfl⟩) | (go_at_call 186; refine (hl2.out _).mono ?_; rintro e' w1 ⟨rfl, rfl⟩))
            refine (hP.out _ ((Below.refl _ _).alloc (Nat.le_refl _) _) ?_ ?_ ?_ ?_ ?_ ?_ ?_ ?_).mono ?_
            case refine_9 =>
              rintro e' w1 ⟨rfl, hsc⟩
              go_wp2_with fail
              refine (hU1.out _ hsc).mono ?_
              rintro e' w2 ⟨rfl, hsc2⟩
              go_wp2_with fail
              refine (hn1.out _).mono ?_
              rintro e' w3 ⟨rfl, rfl⟩
              go_wp2_with fail
              refine (hc.out _).mono ?_
              rintro e' w3 ⟨rfl, rfl⟩
              go_wp2_with fail
              refine (hU2.out _ hsc2).mono ?_
              rintro e' w3 ⟨rfl, hsc3⟩
              go_wp2_with fail
              refine (hn2.out _).mono ?_
              rintro e' w4 ⟨rfl, rfl⟩
              go_wp2_with fail
              refine (hf.out _).mono ?_
              rintro e' w4 ⟨rfl, rfl⟩
              go_wp2_with fail
              refine (hU3.out _ hsc3).mono ?_
              rintro e' w5 ⟨rfl, hsc4⟩
              go_wp2_with fail
              refine (hr.out _).mono ?_
              rintro e' w6 ⟨rfl, rfl⟩
              go_wp2_with fail
              refine bodyPost_ret (v := .tuple #[.int .u64 (RO : Int), .int .i64 (-p)]) (by simp [results, Tryz.results169, go_sem]) rfl ?_
              exact ⟨rfl, hsc4.2.2.2⟩
            case refine_1 => simp
            case refine_2 => simp
            case refine_3 => simp
            case refine_4 => simp
            case refine_5 => simp
            case refine_6 => simp
            case refine_7 => exact (World.cell?_alloc_lt _ _ _ hT0).trans t0
            case refine_8 => exact (World.cell?_alloc_lt _ _ _ hT0).trans t1
          · skip
            rw [if_neg hLL, if_neg hLH] at hD
            rw [if_neg hLL] at hQ
            have q3 : decide ((LO : Int) ≤ (DD : Int) * 10) = false := by simp; omega
            have q3n : decide (LO ≤ DD * 10) = false := by simp; omega
            have q4 : decide ((LO : Int) < (HI : Int)) = false := by simp; omega
            have q4n : decide (LO < HI) = false := by simp; omega
            rw [hD, hQ]
            clear hD hQ mlo
            go_enter Tryz.func169, Tryz.ntmps169
            go_wp2_with (first | (go_at_call 153; refine (hl0.out _).mono ?_; rintro e' w1 ⟨rfl, rfl⟩) | (go_at_call 186; refine (hl2.out _).mono ?_; rintro e' w1 ⟨rfl, rfl⟩))
            refine (hP.out _ ((Below.refl _ _).alloc (Nat.le_refl _) _) ?_ ?_ ?_ ?_ ?_ ?_ ?_ ?_).mono ?_
            case refine_9 =>
              rintro e' w1 ⟨rfl, hsc⟩
              go_wp2_with fail
              refine (hU1.out _ hsc).mono ?_
              rintro e' w2 ⟨rfl, hsc2⟩
              go_wp2_with fail
              refine (hn1.out _).mono ?_
              rintro e' w3 ⟨rfl, rfl⟩
              go_wp2_with fail
              refine (hc.out _).mono ?_
              rintro e' w3 ⟨rfl, rfl⟩
              go_wp2_with fail
              refine (hU2.out _ hsc2).mono ?_
              rintro e' w3 ⟨rfl, hsc3⟩
              go_wp2_with fail
              refine (hn2.out _).mono ?_
              rintro e' w4 ⟨rfl, rfl⟩
              go_wp2_with fail
              refine (hf.out _).mono ?_
              rintro e' w4 ⟨rfl, rfl⟩
              go_wp2_with fail
              refine bodyPost_ret (v := .tuple #[.int .u64 (LO : Int), .int .i64 (-p)]) (by simp [results, Tryz.results169, go_sem]) rfl ?_
              exact ⟨rfl, hsc3.2.2.2⟩
            case refine_1 => simp
            case refine_2 => simp
            case refine_3 => simp
            case refine_4 => simp
            case refine_5 => simp
            case refine_6 => simp
            case refine_7 => exact (World.cell?_alloc_lt _ _ _ hT0).trans t0
            case refine_8 => exact (World.cell?_alloc_lt _ _ _ hT0).trans t1
      · skip
        have n1 : ((m : Int) == 9223372036854775808) = false := by simp; omega
        clear dP dN dX dO dZ dK hz hzb n5 n4 mx2 hk hsk hm
        by_cases hLL : LO ≤ DD * 10
        · skip
          have c1 : LO ≤ DD * 10 := hLL
          rw [if_pos c1] at hD hQ
          have q3 : (LO : Int) ≤ (DD : Int) * 10 := by omega
          rw [hD, hQ]
          clear hD hQ mlo
          go_enter Tryz.func169, Tryz.ntmps169
          go_wp2_with (first | (go_at_call 153; refine (hl0.out _).mono ?_; rintro e' w1 ⟨rfl, rfl⟩) | (go_at_call 186; refine (hl2.out _).mono ?_; rintro e' w1 ⟨rfl, rfl⟩))
          refine (hP.out _ ((Below.refl _ _).alloc (Nat.le_refl _) _) ?_ ?_ ?_ ?_ ?_ ?_ ?_ ?_).mono ?_
          case refine_9 =>
            rintro e' w1 ⟨rfl, hsc⟩
            go_wp2_with fail
            refine (hU1.out _ hsc).mono ?_
            rintro e' w2 ⟨rfl, hsc2⟩
            go_wp2_with fail
            refine (hn1.out _).mono ?_
            rintro e' w3 ⟨rfl, rfl⟩
            go_wp2_with fail
            refine (hc.out _).mono ?_
            rintro e' w3 ⟨rfl, rfl⟩
            go_wp2_with fail
            refine (hU2.out _ hsc2).mono ?_
            rintro e' w3 ⟨rfl, hsc3⟩
            go_wp2_with fail
            refine (hn2.out _).mono ?_
            rintro e' w4 ⟨rfl, rfl⟩
            go_wp2_with fail
            refine (hf.out _).mono ?_
            rintro e' w4 ⟨rfl, rfl⟩
            go_wp2_with fail
            refine bodyPost_ret (v := .tuple #[.int .u64 (DD : Int), .int .i64 (-(p - 1))]) (by simp [results, Tryz.results169, go_sem]) rfl ?_
            exact ⟨rfl, hsc3.2.2.2⟩
          case refine_1 => simp
          case refine_2 => simp
          case refine_3 => simp
          case refine_4 => simp
          case refine_5 => simp
          case refine_6 => simp
          case refine_7 => exact (World.cell?_alloc_lt _ _ _ hT0).trans t0
          case refine_8 => exact (World.cell?_alloc_lt _ _ _ hT0).trans t1
        · by_cases hLH : LO < HI
          · skip
            rw [if_neg hLL, if_pos hLH] at hD
            rw [if_neg hLL] at hQ
            have q3 : decide ((LO : Int) ≤ (DD : Int) * 10) = false := by simp; omega
            have q3n : decide (LO ≤ DD * 10) = false := by simp; omega
            have q4 : (LO : Int) < (HI : Int) := by omega
            rw [hD, hQ]
            clear hD hQ mlo
            go_enter Tryz.func169, Tryz.ntmps169
            go_wp2_with (first | (go_at_call 153; refine (hl0.out _).mono ?_; rintro e' w1 ⟨rfl, rfl⟩) | (go_at_call 186; refine (hl2.out _).mono ?_; rintro e' w1 ⟨rfl, rfl⟩))
            refine (hP.out _ ((Below.refl _ _).alloc (Nat.le_refl _) _) ?_ ?_ ?_ ?_ ?_ ?_ ?_ ?_).mono ?_
            case refine_9 =>
              rintro e' w1 ⟨rfl, hsc⟩
              go_wp2_with fail
              refine (hU1.out _ hsc).mono ?_
              rintro e' w2 ⟨rfl, hsc2⟩
              go_wp2_with fail
              refine (hn1.out _).mono ?_
              rintro e' w3 ⟨rfl, rfl⟩
              go_wp2_with fail
              refine (hc.out _).mono ?_
              rintro e' w3 ⟨rfl, rfl⟩
              go_wp2_with fail
              refine (hU2.out _ hsc2).mono ?_
              rintro e' w3 ⟨rfl, hsc3⟩
              go_wp2_with fail
              refine (hn2.out _).mono ?_
              rintro e' w4 ⟨rfl, rfl⟩
              go_wp2_with fail
              refine (hf.out _).mono ?_
              rintro e' w4 ⟨rfl, rfl⟩
              go_wp2_with fail
              refine (hU3.out _ hsc3).mono ?_
              rintro e' w5 ⟨rfl, hsc4⟩
              go_wp2_with fail
              refine (hr.out _).mono ?_
              rintro e' w6 ⟨rfl, rfl⟩
              go_wp2_with fail
              refine bodyPost_ret (v := .tuple #[.int .u64 (RO : Int), .int .i64 (-p)]) (by simp [results, Tryz.results169, go_sem]) rfl ?_
              exact ⟨rfl, hsc4.2.2.2⟩
            case refine_1 => simp
            case refine_2 => simp
            case refine_3 => simp
            case refine_4 => simp
            case refine_5 => simp
            case refine_6 => simp
            case refine_7 => exact (World.cell?_alloc_lt _ _ _ hT0).trans t0
            case refine_8 => exact (World.cell?_alloc_lt _ _ _ hT0).trans t1
          · skip
            rw [if_neg hLL, if_neg hLH] at hD
            rw [if_neg hLL] at hQ
            have q3 : decide ((LO : Int) ≤ (DD : Int) * 10) = false := by simp; omega
            have q3n : decide (LO ≤ DD * 10) = false := by simp; omega
            have q4 : decide ((LO : Int) < (HI : Int)) = false := by simp; omega
            have q4n : decide (LO < HI) = false := by simp; omega
            rw [hD, hQ]
            clear hD hQ mlo
            go_enter Tryz.func169, Tryz.ntmps169
            go_wp2_with (first | (go_at_call 153; refine (hl0.out _).mono ?_; rintro e' w1 ⟨rfl, rfl⟩) | (go_at_call 186; refine (hl2.out _).mono ?_; rintro e' w1 ⟨rfl, rfl⟩))
            refine (hP.out _ ((Below.refl _ _).alloc (Nat.le_refl _) _) ?_ ?_ ?_ ?_ ?_ ?_ ?_ ?_).mono ?_
            case refine_9 =>
              rintro e' w1 ⟨rfl, hsc⟩
              go_wp2_with fail
              refine (hU1.out _ hsc).mono ?_
              rintro e' w2 ⟨rfl, hsc2⟩
              go_wp2_with fail
              refine (hn1.out _).mono ?_
              rintro e' w3 ⟨rfl, rfl⟩
              go_wp2_with fail
              refine (hc.out _).mono ?_
              rintro e' w3 ⟨rfl, rfl⟩
              go_wp2_with fail
              refine (hU2.out _ hsc2).mono ?_
              rintro e' w3 ⟨rfl, hsc3⟩
              go_wp2_with fail
              refine (hn2.out _).mono ?_
              rintro e' w4 ⟨rfl, rfl⟩
              go_wp2_with fail
              refine (hf.out _).mono ?_
              rintro e' w4 ⟨rfl, rfl⟩
              go_wp2_with fail
              refine bodyPost_ret (v := .tuple #[.int .u64 (LO : Int), .int .i64 (-p)]) (by simp [results, Tryz.results169, go_sem]) rfl ?_
              exact ⟨rfl, hsc3.2.2.2⟩
            case refine_1 => simp
            case refine_2 => simp
            case refine_3 => simp
            case refine_4 => simp
            case refine_5 => simp
            case refine_6 => simp
            case refine_7 => exact (World.cell?_alloc_lt _ _ _ hT0).trans t0
            case refine_8 => exact (World.cell?_alloc_lt _ _ _ hT0).trans t1
    · obtain ⟨z, hze⟩ : ∃ z : Nat, sfZ e = z := ⟨_, rfl⟩
      have hz : sfZ e = (11 + (-1085 - e)).toNat := by rw [dZ, if_neg he]
      have hez : e = -1074 - (z : Int) := by omega
      rw [hze] at dX dO dP dN hzb
      simp only [Bool.false_eq_true, if_false] at dP dN
      subst hez
      have z1 : (12 : Int) ≤ (z : Int) := by omega
      have z2 : (z : Int) ≤ 63 := by omega
      clear hsk dK dZ hz hze
      have n0 : decide ((-1085 : Int) < -1074 - (z : Int)) = false := by simp; omega
      have n9 : decide ((-1085 : Int) ≤ -1074 - (z : Int)) = false := by simp; omega
      have hl0 := Lib.hid (fun W => d_log10Pow2 (-1074) (by omega) (by omega) W)
      rw [show (-1074 : Int) * 78913 / 262144 = -p by omega] at hl0
      have n5 : (m : Int) / 2 ^ z = ((m / 2 ^ z : Nat) : Int) := pow_cast m z
      have hmz : m / 2 ^ z < 9223372036854775808 := Nat.lt_of_le_of_lt (Nat.div_le_div_left (Nat.pow_le_pow_right (by decide) (show 1 ≤ z by omega)) (by decide)) (show m / 2 ^ 1 < 9223372036854775808 by omega)
      have n4 : bits BinOp.and IntKind.i64 ((m / 2 ^ z : Nat) : Int) 1 = (od : Int) := by rw [odd_i64 _ hmz, dO]
      clear dO
      generalize m / 2 ^ z = mz at *
      have z0 : 11 + (-1085 - (-1074 - (z : Int))) = (z : Int) := by omega
      have z3 : -1074 - (z : Int) + (z : Int) = -1074 := by omega
      have z4 : ((z : Int) - 1).toNat = z - 1 := by omega
      have z5 : z < 64 := by omega
      have z6 : (0 : Int) ≤ (z : Int) := by omega
      have z7 : (z : Int) < 64 := by omega
      have z8 : z ≤ 64 := by omega
      have z9 : (z : Int) ≤ 64 := by omega
      have e9 : ((2 : Int) ^ (z - 1)) = ((2 ^ (z - 1) : Nat) : Int) := by simp
      have n23 : IntKind.u64.wrap ((m : Int) - IntKind.u64.wrap (2 ^ (z - 1))) = (mn : Int) ∧ IntKind.u64.wrap ((m : Int) + IntKind.u64.wrap (2 ^ (z - 1))) = (mx : Int) := by
        rw [e9]
        have hpz : 2 ^ (z - 1) ≤ 2 ^ 62 := Nat.pow_le_pow_right (by decide) (by omega)
        rw [show (2 : Nat) ^ 62 = 4611686018427387904 by decide] at hpz
        clear e9
        generalize 2 ^ (z - 1) = P at *
        simp only [IntKind.wrap_u64]
        omega
      obtain ⟨n2, n3⟩ := n23
      clear e9
      by_cases hm : m = 9223372036854775808
      · skip
        have n1 : ((m : Int) == 9223372036854775808) = true := by simp; omega
        clear hm dP dN dX
        by_cases hLL : LO ≤ DD * 10
        · skip
          have c1 : LO ≤ DD * 10 := hLL
          rw [if_pos c1] at hD hQ
          have q3 : (LO : Int) ≤ (DD : Int) * 10 := by omega
          rw [hD, hQ]
          clear hD hQ mlo
          go_enter Tryz.func169, Tryz.ntmps169
          go_wp2_with (first | (go_at_call 153; refine (hl0.out _).mono ?_; rintro e' w1 ⟨rfl, rfl⟩) | (go_at_call 186; refine (hl2.out _).mono ?_; rintro e' w1 ⟨rfl, rfl⟩))
          refine (hP.out _ ((Below.refl _ _).alloc (Nat.le_refl _) _) ?_ ?_ ?_ ?_ ?_ ?_ ?_ ?_).mono ?_
          case refine_9 =>
            rintro e' w1 ⟨rfl, hsc⟩
            go_wp2_with fail
            refine (hU1.out _ hsc).mono ?_
            rintro e' w2 ⟨rfl, hsc2⟩
            go_wp2_with fail
            refine (hn1.out _).mono ?_
            rintro e' w3 ⟨rfl, rfl⟩
            go_wp2_with fail
            refine (hc.out _).mono ?_
            rintro e' w3 ⟨rfl, rfl⟩
            go_wp2_with fail
            refine (hU2.out _ hsc2).mono ?_
            rintro e' w3 ⟨rfl, hsc3⟩
            go_wp2_with fail
            refine (hn2.out _).mono ?_
            rintro e' w4 ⟨rfl, rfl⟩
            go_wp2_with fail
            refine (hf.out _).mono ?_
            rintro e' w4 ⟨rfl, rfl⟩
            go_wp2_with fail
            refine bodyPost_ret (v := .tuple #[.int .u64 (DD : Int), .int .i64 (-(p - 1))]) (by simp [results, Tryz.results169, go_sem]) rfl ?_
            exact ⟨rfl, hsc3.2.2.2⟩
          case refine_1 => simp
          case refine_2 => simp
          case refine_3 => simp
          case refine_4 => simp
          case refine_5 => simp
          case refine_6 => simp
          case refine_7 => exact (World.cell?_alloc_lt _ _ _ hT0).trans t0
          case refine_8 => exact (World.cell?_alloc_lt _ _ _ hT0).trans t1
        · by_cases hLH : LO < HI
          · skip
            rw [if_neg hLL, if_pos hLH] at hD
            rw [if_neg hLL] at hQ
            have q3 : decide ((LO : Int) ≤ (DD : Int) * 10) = false := by simp; omega
            have q3n : decide (LO ≤ DD * 10) = false := by simp; omega
            have q4 : (LO : Int) < (HI : Int) := by omega
            rw [hD, hQ]
            clear hD hQ mlo
            go_enter Tryz.func169, Tryz.ntmps169
            go_wp2_with (first | (go_at_call 153; refine (hl0.out _).mono ?_; rintro e' w1 ⟨rfl, rfl⟩) | (go_at_call 186; refine (hl2.out _).mono ?_; rintro e' w1 ⟨rfl, rfl⟩))
            refine (hP.out _ ((Below.refl _ _).alloc (Nat.le_refl _) _) ?_ ?_ ?_ ?_ ?_ ?_ ?_ ?_).mono ?_
            case refine_9 =>
              rintro e' w1 ⟨rfl, hsc⟩
              go_wp2_with fail
              refine (hU1.out _ hsc).mono ?_
              rintro e' w2 ⟨rfl, hsc2⟩
              go_wp2_with fail
              refine (hn1.out _).mono ?_
              rintro e' w3 ⟨rfl, rfl⟩
              go_wp2_with fail
              refine (hc.out _).mono ?_
              rintro e' w3 ⟨rfl, rfl⟩
              go_wp2_with fail
              refine (hU2.out _ hsc2).mono ?_
              rintro e' w3 ⟨rfl, hsc3⟩
              go_wp2_with fail
              refine (hn2.out _).mono ?_
              rintro e' w4 ⟨rfl, rfl⟩
              go_wp2_with fail
              refine (hf.out _).mono ?_
              rintro e' w4 ⟨rfl, rfl⟩
              go_wp2_with fail
              refine (hU3.out _ hsc3).mono ?_
              rintro e' w5 ⟨rfl, hsc4⟩
              go_wp2_with fail
              refine (hr.out _).mono ?_
              rintro e' w6 ⟨rfl, rfl⟩
              go_wp2_with fail
              refine bodyPost_ret (v := .tuple #[.int .u64 (RO : Int), .int .i64 (-p)]) (by simp [results, Tryz.results169, go_sem]) rfl ?_
              exact ⟨rfl, hsc4.2.2.2⟩
            case refine_1 => simp
            case refine_2 => simp
            case refine_3 => simp
            case refine_4 => simp
            case refine_5 => simp
            case refine_6 => simp
            case refine_7 => exact (World.cell?_alloc_lt _ _ _ hT0).trans t0
            case refine_8 => exact (World.cell?_alloc_lt _ _ _ hT0).trans t1
          · skip
            rw [if_neg hLL, if_neg hLH] at hD
            rw [if_neg hLL] at hQ
            have q3 : decide ((LO : Int) ≤ (DD : Int) * 10) = false := by simp; omega
            have q3n : decide (LO ≤ DD * 10) = false := by simp; omega
            have q4 : decide ((LO : Int) < (HI : Int)) = false := by simp; omega
            have q4n : decide (LO < HI) = false := by simp; omega
            rw [hD, hQ]
            clear hD hQ mlo
            go_enter Tryz.func169, Tryz.ntmps169
            go_wp2_with (first | (go_at_call 153; refine (hl0.out _).mono ?_; rintro e' w1 ⟨rfl, rfl⟩) | (go_at_call 186; refine (hl2.out _).mono ?_; rintro e' w1 ⟨rfl, rfl⟩))
            refine (hP.out _ ((Below.refl _ _).alloc (Nat.le_refl _) _) ?_ ?_ ?_ ?_ ?_ ?_ ?_ ?_).mono ?_
            case refine_9 =>
              rintro e' w1 ⟨rfl, hsc⟩
              go_wp2_with fail
              refine (hU1.out _ hsc).mono ?_
              rintro e' w2 ⟨rfl, hsc2⟩
              go_wp2_with fail
              refine (hn1.out _).mono ?_
              rintro e' w3 ⟨rfl, rfl⟩
              go_wp2_with fail
              refine (hc.out _).mono ?_
              rintro e' w3 ⟨rfl, rfl⟩
              go_wp2_with fail
              refine (hU2.out _ hsc2).mono ?_
              rintro e' w3 ⟨rfl, hsc3⟩
              go_wp2_with fail
              refine (hn2.out _).mono ?_
              rintro e' w4 ⟨rfl, rfl⟩
              go_wp2_with fail
              refine (hf.out _).mono ?_
              rintro e' w4 ⟨rfl, rfl⟩
              go_wp2_with fail
              refine bodyPost_ret (v := .tuple #[.int .u64 (LO : Int), .int .i64 (-p)]) (by simp [results, Tryz.results169, go_sem]) rfl ?_
              exact ⟨rfl, hsc3.2.2.2⟩
            case refine_1 => simp
            case refine_2 => simp
            case refine_3 => simp
            case refine_4 => simp
            case refine_5 => simp
            case refine_6 => simp
            case refine_7 => exact (World.cell?_alloc_lt _ _ _ hT0).trans t0
            case refine_8 => exact (World.cell?_alloc_lt _ _ _ hT0).trans t1
      · skip
        have n1 : ((m : Int) == 9223372036854775808) = false := by simp; omega
        clear hm dP dN dX
        by_cases hLL : LO ≤ DD * 10
        · skip
          have c1 : LO ≤ DD * 10 := hLL
          rw [if_pos c1] at hD hQ
          have q3 : (LO : Int) ≤ (DD : Int) * 10 := by omega
          rw [hD, hQ]
          clear hD hQ mlo
          go_enter Tryz.func169, Tryz.ntmps169
          go_wp2_with (first | (go_at_call 153; refine (hl0.out _).mono ?_; rintro e' w1 ⟨rfl, rfl⟩) | (go_at_call 186; refine (hl2.out _).mono ?_; rintro e' w1 ⟨rfl, rfl⟩))
          refine (hP.out _ ((Below.refl _ _).alloc (Nat.le_refl _) _) ?_ ?_ ?_ ?_ ?_ ?_ ?_ ?_).mono ?_
          case refine_9 =>
            rintro e' w1 ⟨rfl, hsc⟩
            go_wp2_with fail
            refine (hU1.out _ hsc).mono ?_
            rintro e' w2 ⟨rfl, hsc2⟩
            go_wp2_with fail
            refine (hn1.out _).mono ?_
            rintro e' w3 ⟨rfl, rfl⟩
            go_wp2_with fail
            refine (hc.out _).mono ?_
            rintro e' w3 ⟨rfl, rfl⟩
            go_wp2_with fail
            refine (hU2.out _ hsc2).mono ?_
            rintro e' w3 ⟨rfl, hsc3⟩
            go_wp2_with fail
            refine (hn2.out _).mono ?_
            rintro e' w4 ⟨rfl, rfl⟩
            go_wp2_with fail
            refine (hf.out _).mono ?_
            rintro e' w4 ⟨rfl, rfl⟩
            go_wp2_with fail
            refine bodyPost_ret (v := .tuple #[.int .u64 (DD : Int), .int .i64 (-(p - 1))]) (by simp [results, Tryz.results169, go_sem]) rfl ?_
            exact ⟨rfl, hsc3.2.2.2⟩
          case refine_1 => simp
          case refine_2 => simp
          case refine_3 => simp
          case refine_4 => simp
          case refine_5 => simp
          case refine_6 => simp
          case refine_7 => exact (World.cell?_alloc_lt _ _ _ hT0).trans t0
          case refine_8 => exact (World.cell?_alloc_lt _ _ _ hT0).trans t1
        · by_cases hLH : LO < HI
          · skip
            rw [if_neg hLL, if_pos hLH] at hD
            rw [if_neg hLL] at hQ
            have q3 : decide ((LO : Int) ≤ (DD : Int) * 10) = false := by simp; omega
            have q3n : decide (LO ≤ DD * 10) = false := by simp; omega
            have q4 : (LO : Int) < (HI : Int) := by omega
            rw [hD, hQ]
            clear hD hQ mlo
            go_enter Tryz.func169, Tryz.ntmps169
            go_wp2_with (first | (go_at_call 153; refine (hl0.out _).mono ?_; rintro e' w1 ⟨rfl, rfl⟩) | (go_at_call 186; refine (hl2.out _).mono ?_; rintro e' w1 ⟨rfl, rfl⟩))
            refine (hP.out _ ((Below.refl _ _).alloc (Nat.le_refl _) _) ?_ ?_ ?_ ?_ ?_ ?_ ?_ ?_).mono ?_
            case refine_9 =>
              rintro e' w1 ⟨rfl, hsc⟩
              go_wp2_with fail
              refine (hU1.out _ hsc).mono ?_
              rintro e' w2 ⟨rfl, hsc2⟩
              go_wp2_with fail
              refine (hn1.out _).mono ?_
              rintro e' w3 ⟨rfl, rfl⟩
              go_wp2_with fail
              refine (hc.out _).mono ?_
              rintro e' w3 ⟨rfl, rfl⟩
              go_wp2_with fail
              refine (hU2.out _ hsc2).mono ?_
              rintro e' w3 ⟨rfl, hsc3⟩
              go_wp2_with fail
              refine (hn2.out _).mono ?_
              rintro e' w4 ⟨rfl, rfl⟩
              go_wp2_with fail
              refine (hf.out _).mono ?_
              rintro e' w4 ⟨rfl, rfl⟩
              go_wp2_with fail
              refine (hU3.out _ hsc3).mono ?_
              rintro e' w5 ⟨rfl, hsc4⟩
              go_wp2_with fail
              refine (hr.out _).mono ?_
              rintro e' w6 ⟨rfl, rfl⟩
              go_wp2_with fail
              refine bodyPost_ret (v := .tuple #[.int .u64 (RO : Int), .int .i64 (-p)]) (by simp [results, Tryz.results169, go_sem]) rfl ?_
              exact ⟨rfl, hsc4.2.2.2⟩
            case refine_1 => simp
            case refine_2 => simp
            case refine_3 => simp
            case refine_4 => simp
            case refine_5 => simp
            case refine_6 => simp
            case refine_7 => exact (World.cell?_alloc_lt _ _ _ hT0).trans t0
            case refine_8 => exact (World.cell?_alloc_lt _ _ _ hT0).trans t1
          · skip
            rw [if_neg hLL, if_neg hLH] at hD
            rw [if_neg hLL] at hQ
            have q3 : decide ((LO : Int) ≤ (DD : Int) * 10) = false := by simp; omega
            have q3n : decide (LO ≤ DD * 10) = false := by simp; omega
            have q4 : decide ((LO : Int) < (HI : Int)) = false := by simp; omega
            have q4n : decide (LO < HI) = false := by simp; omega
            rw [hD, hQ]
            clear hD hQ mlo
            go_enter Tryz.func169, Tryz.ntmps169
            go_wp2_with (first | (go_at_call 153; refine (hl0.out _).mono ?_; rintro e' w1 ⟨rfl, rfl⟩) | (go_at_call 186; refine (hl2.out _).mono ?_; rintro e' w1 ⟨rfl, rfl⟩))
            refine (hP.out _ ((Below.refl _ _).alloc (Nat.le_refl _) _) ?_ ?_ ?_ ?_ ?_ ?_ ?_ ?_).mono ?_
            case refine_9 =>
              rintro e' w1 ⟨rfl, hsc⟩
              go_wp2_with fail
              refine (hU1.out _ hsc).mono ?_
              rintro e' w2 ⟨rfl, hsc2⟩
              go_wp2_with fail
              refine (hn1.out _).mono ?_
              rintro e' w3 ⟨rfl, rfl⟩
              go_wp2_with fail
              refine (hc.out _).mono ?_
              rintro e' w3 ⟨rfl, rfl⟩
              go_wp2_with fail
              refine (hU2.out _ hsc2).mono ?_
              rintro e' w3 ⟨rfl, hsc3⟩
              go_wp2_with fail
              refine (hn2.out _).mono ?_
              rintro e' w4 ⟨rfl, rfl⟩
              go_wp2_with fail
              refine (hf.out _).mono ?_
              rintro e' w4 ⟨rfl, rfl⟩
              go_wp2_with fail
              refine bodyPost_ret (v := .tuple #[.int .u64 (LO : Int), .int .i64 (-p)]) (by simp [results, Tryz.results169, go_sem]) rfl ?_
              exact ⟨rfl, hsc3.2.2.2⟩
            case refine_1 => simp
            case refine_2 => simp
            case refine_3 => simp
            case refine_4 => simp
            case refine_5 => simp
            case refine_6 => simp
            case refine_7 => exact (World.cell?_alloc_lt _ _ _ hT0).trans t0
            case refine_8 => exact (World.cell?_alloc_lt _ _ _ hT0).trans t1
end Go.Proofs.YtbakbikilbaafaaGreatDoor
