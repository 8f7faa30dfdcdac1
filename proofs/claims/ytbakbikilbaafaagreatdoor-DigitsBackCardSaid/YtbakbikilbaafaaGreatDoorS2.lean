/-
  Contracts: Contracts: uscale with both words of a power, nudge, round, prescale: at any float64. The contract of the library's shortFloat at any float64 (printed by gen_XWC.py). A decimal of the library lies in the world; the contracts of trim and prefixIsLessThan. Plain: what rightShift's digits are.
-/
import Derived.Test.YtbakbikilbaafaaGreatDoorS1
import GoSem.PinnedTables
import Derived.WalkKit
import Derived.LoopTactic
import Derived.Below
import Derived.WalkSpells
import Derived.WalkLawsBesides
import Derived.BigCall
import Derived.BigGuard
import Derived.BigQuiet
import Derived.WalkMore
import Derived.Outline
import Derived.Deep.QuietTactic
import Derived.Deep.LoopGhost
import Derived.Lib.Hide
namespace Go.Proofs.YtbakbikilbaafaaGreatDoor
open Go.RowKit
set_option linter.unusedVariables false
set_option maxHeartbeats 1000000
set_option maxRecDepth 100000

theorem d_uscale2G (x ph pl s b : Nat) (hx : x < 18446744073709551616) (hp : ph < 18446744073709551616) (hpl : pl < 18446744073709551616) (hs : s < 64) (w : World)
    (c0 : w.cell? ⟨b, 0, none⟩ = some (.int .u64 (ph : Int))) (c2 : w.cell? ⟨b, 2, none⟩ = some (.int .i64 (s : Int))) (c1 : w.cell? ⟨b, 1, none⟩ = some (.int .u64 (pl : Int)))
    (h : x * ph / W64 / 2 ^ s * 2 ^ s = x * ph / W64) :
    Calls Tryz.prog 187 #[.int .u64 (x : Int), .pointer (some ⟨b, 0, none⟩)] w fun e w' => e = .returned (.int .u64 (usc x ph pl s : Int)) ∧ ∃ nq, w' = w.drewN nq := by
  have hM := Lib.hid (fun w => d_Mul64 x ph hx hp w)
  have hM2 := Lib.hid (fun w => d_Mul64 x pl hx hpl w)
  have hhi : x * ph / 18446744073709551616 < 18446744073709551616 := Nat.div_lt_of_lt_mul (Nat.mul_lt_mul'' hx hp)
  have hmid : x * ph % 18446744073709551616 < 18446744073709551616 := Nat.mod_lt _ (by decide)
  have hmd2 : x * pl / 18446744073709551616 < 18446744073709551616 := Nat.div_lt_of_lt_mul (Nat.mul_lt_mul'' hx hpl)
  have hu : usc x ph pl s = ((x * ph / W64 + W64 - b2n (decide (x * ph % W64 < x * pl / W64))) % W64) / 2 ^ s ||| b2n (decide (1 < (x * ph % W64 + W64 - x * pl / W64) % W64)) := by
    unfold usc
    rw [if_neg (by rw [h]; exact fun e => e rfl)]
  rw [hu]
  clear hu
  rw [W64_eq] at *
  generalize x * ph / 18446744073709551616 = hi at *
  generalize x * ph % 18446744073709551616 = mid at *
  generalize x * pl / 18446744073709551616 = md2 at *
  generalize x * pl % 18446744073709551616 = ml2 at *
  have hq : hi / 2 ^ s ≤ hi := Nat.div_le_self _ _
  have a1 := and63 s hs
  have a2 := pow_cast hi s
  have a3 : IntKind.u64.wrap (((hi / 2 ^ s : Nat) : Int) * 2 ^ s) = (hi : Int) := by
    have : ((hi / 2 ^ s : Nat) : Int) * 2 ^ s = ((hi / 2 ^ s * 2 ^ s : Nat) : Int) := by rw [Int.natCast_mul]; congr 1
    rw [this, IntKind.wrap_u64, h]; omega
  have a6 : decide ((mid : Int) < (md2 : Int)) = decide (mid < md2) := by apply decide_eq_decide.2; omega
  have hB1 := Lib.hid (fun w => d_bool2u64 (decide (mid < md2)) w)
  generalize hdd1 : decide (mid < md2) = d1 at *
  have hd1 : b2n d1 ≤ 1 := by cases d1 <;> decide
  generalize b2n d1 = n1 at *
  obtain ⟨H, hH⟩ : ∃ H, (hi + 18446744073709551616 - n1) % 18446744073709551616 = H := ⟨_, rfl⟩
  obtain ⟨M, hM'⟩ : ∃ M, (mid + 18446744073709551616 - md2) % 18446744073709551616 = M := ⟨_, rfl⟩
  rw [hH, hM']
  have a8 : IntKind.u64.wrap ((hi : Int) - (n1 : Int)) = (H : Int) := by rw [IntKind.wrap_u64]; omega
  have a9 : IntKind.u64.wrap ((mid : Int) - (md2 : Int)) = (M : Int) := by rw [IntKind.wrap_u64]; omega
  have hHl : H < 18446744073709551616 := by omega
  have a10 := pow_cast H s
  have hqH : H / 2 ^ s ≤ H := Nat.div_le_self _ _
  have a7 : decide ((1 : Int) < (M : Int)) = decide (1 < M) := by apply decide_eq_decide.2; omega
  have hb : b2n (decide (1 < M)) ≤ 1 := by cases decide (1 < M) <;> decide
  have a5 := bits_or_u64_nat (H / 2 ^ s) (b2n (decide (1 < M))) (by omega) (by omega)
  have hB := Lib.hid (fun w => d_bool2u64 (decide (1 < M)) w)
  have a4 : ((hi : Int) != (hi : Int)) = false := by simp
  generalize hi / 2 ^ s = q at *
  generalize H / 2 ^ s = qH at *
  clear h hq hmid hhi hmd2 hH hM' hHl hqH
  generalize hdd2 : decide (1 < M) = d at *
  generalize b2n d = dn at *
  go_enter Tryz.func187, Tryz.ntmps187
  go_wp2_with fail
  refine (hM.out _).mono ?_
  rintro e w1 ⟨rfl, rfl⟩
  go_wp2_with fail
  refine (hM2.out _).mono ?_
  rintro e w1 ⟨rfl, rfl⟩
  go_wp2_with fail
  refine (hB1.out _).mono ?_
  rintro e w1 ⟨rfl, rfl⟩
  go_wp2_with fail
  go_quiet ((go_at_call 210; exact Calls.quiet_of_same ((hB.out _).mono fun _ _ ⟨h1, h2⟩ => ⟨h1, h2.symm⟩)))
  go_wp2_with fail
  go_ret
  exact ⟨rfl, _, rfl⟩
theorem d_uscaleG (x ph pl s b : Nat) (hx : x < 18446744073709551616) (hp : ph < 18446744073709551616) (hpl : pl < 18446744073709551616) (hs : s < 64) (w : World)
    (c0 : w.cell? ⟨b, 0, none⟩ = some (.int .u64 (ph : Int))) (c1 : w.cell? ⟨b, 1, none⟩ = some (.int .u64 (pl : Int))) (c2 : w.cell? ⟨b, 2, none⟩ = some (.int .i64 (s : Int))) :
    Calls Tryz.prog 187 #[.int .u64 (x : Int), .pointer (some ⟨b, 0, none⟩)] w fun e w' => e = .returned (.int .u64 (usc x ph pl s : Int)) ∧ ∃ nq, w' = w.drewN nq := by
  by_cases h : x * ph / W64 / 2 ^ s * 2 ^ s = x * ph / W64
  · exact d_uscale2G x ph pl s b hx hp hpl hs w c0 c2 c1 h
  · exact (d_uscale1 x ph pl s b hx hp hs w c0 c2 h).mono fun e w' ⟨h1, h2⟩ => ⟨h1, 0, by rw [← h2]; rfl⟩
theorem d_nudgeG (u : Nat) (d : Int) (hu : u < 18446744073709551616) (h1 : -1 ≤ d) (h2 : d ≤ 1) (w : World) : Calls Tryz.prog 188 #[.int .u64 (u : Int), .int .i64 d] w fun e w' => e = .returned (.int .u64 (ndg u d : Int)) ∧ w = w' := by
  have e : (ndg u d : Int) = ((u : Int) + d) % 18446744073709551616 := by unfold ndg; omega
  rw [e]
  go_enter Tryz.func188, Tryz.ntmps188
  go_wp2
  go_ret
  refine ⟨d_ret ?_, rfl⟩
  simp only [IntKind.wrap_u64]
  omega
theorem d_uround (u : Nat) (hu : u < 4611686018427387904) (w : World) : Calls Tryz.prog 191 #[.int .u64 (u : Int)] w fun e w' => e = .returned (.int .u64 (rou u : Int)) ∧ w = w' := by
  have a1 : bits BinOp.and IntKind.u64 ((u : Int) / 4) 1 = ((u / 4 % 2 : Nat) : Int) := by
    have := bits_and_u64_nat (u / 4) 1 (by omega) (by omega)
    rw [Nat.and_one_is_mod] at this
    exact this
  have a2 : IntKind.u64.wrap ((u : Int) + 1) = (u : Int) + 1 := by rw [IntKind.wrap_u64]; omega
  have a3 : IntKind.u64.wrap ((u : Int) + 1 + ((u / 4 % 2 : Nat) : Int)) = ((u + 1 + u / 4 % 2 : Nat) : Int) := by rw [IntKind.wrap_u64]; omega
  have a4 : ((u + 1 + u / 4 % 2 : Nat) : Int) / 4 = (rou u : Int) := by unfold rou; omega
  go_enter Tryz.func191, Tryz.ntmps191
  go_wp2
  go_ret
  refine ⟨d_ret ?_, rfl⟩
  first | rfl | (rw [← a4]) | (simp only [a1, a2, a3, a4])
end Go.Proofs.YtbakbikilbaafaaGreatDoor
namespace Go.Proofs.YtbakbikilbaafaaGreatDoor
open Go.RowKit
set_option linter.unusedVariables false
set_option maxHeartbeats 16000000
set_option maxRecDepth 100000

/-- the table of powers of ten lies in the world -/
def PowT (w : World) : Prop := ∀ (i : Nat) (x : Nat × Nat), Pinned.pow10Rows[i]? = some x → w.cell? ⟨12, i * 2, none⟩ = some (.int .u64 (x.1 : Int)) ∧ w.cell? ⟨12, i * 2 + 1, none⟩ = some (.int .u64 (x.2 : Int))
theorem rows_len : Pinned.pow10Rows.length = 696 := by decide +kernel
theorem rows_b : (Pinned.pow10Rows.all fun x => decide (9223372036854775808 ≤ x.1) && (decide (x.1 < 18446744073709551616) && decide (x.2 < 18446744073709551616))) = true := by decide +kernel
def rowOf (p : Int) : Nat × Nat := Pinned.pow10Rows.getD (p + 348).toNat (0, 0)
theorem row_of {p : Int} (h1 : -348 ≤ p) (h2 : p ≤ 347) : Pinned.pow10Rows[(p + 348).toNat]? = some (rowOf p) := by
  unfold rowOf
  have hl : (p + 348).toNat < Pinned.pow10Rows.length := by rw [rows_len]; omega
  rw [List.getD_eq_getElem?_getD, List.getElem?_eq_getElem hl]
  rfl
theorem row_b {p : Int} (h1 : -348 ≤ p) (h2 : p ≤ 347) : 9223372036854775808 ≤ (rowOf p).1 ∧ (rowOf p).1 < 18446744073709551616 ∧ (rowOf p).2 < 18446744073709551616 := by
  have := List.all_eq_true.1 rows_b _ (List.mem_of_getElem? (row_of h1 h2))
  simpa using this
def sD (m : Nat) (e : Int) : Nat := sfD (rowOf (sfP m e)).1 (rowOf (sfP m e)).2 m e
def sQ (m : Nat) (e : Int) : Int := sfQ (rowOf (sfP m e)).1 (rowOf (sfP m e)).2 m e
theorem s_b {m : Nat} {e : Int} (h : SfIn m e) : 1 ≤ sD m e ∧ sD m e < 1000000000000000000 ∧ -332 ≤ sQ m e ∧ sQ m e ≤ 332 := by
  obtain ⟨_, _, p1, p2⟩ := h.s
  obtain ⟨r1, r2, _⟩ := row_b (p := sfP m e) (by omega) (by omega)
  exact sf_b h r1 r2
theorem lt_ofC {w : World} {a : Addr} {u : Value} (h : w.cell? a = some u) : a.block < w.heap.size := by
  rcases Nat.lt_or_ge a.block w.heap.size with h1 | h1
  · exact h1
  · unfold World.cell? at h
    rw [Array.getElem?_eq_none h1] at h
    simp at h
/-- a scaler lies in block b; below it nothing has turned since w -/
def ScG (b ph pl s : Nat) (w w' : World) : Prop := w'.cell? ⟨b, 0, none⟩ = some (.int .u64 (ph : Int)) ∧ w'.cell? ⟨b, 1, none⟩ = some (.int .u64 (pl : Int)) ∧ w'.cell? ⟨b, 2, none⟩ = some (.int .i64 (s : Int)) ∧ Below b w w'
theorem below_drewG {B : Nat} {a w : World} (h : Below B a w) (n : Nat) : Below B a (w.drewN n) := ⟨h.os, h.tape, h.output, h.size, h.block⟩
theorem set_otherG {w : World} {b i j : Nat} {v : Value} (h : i ≠ j) : (w.setCell ⟨b, i, none⟩ v).cell? ⟨b, j, none⟩ = w.cell? ⟨b, j, none⟩ :=
  World.cell?_setCell_other w _ _ v (fun e => h (by injection e))
theorem set_sameG {w : World} {b i : Nat} {u v : Value} (h : w.cell? ⟨b, i, none⟩ = some u) : (w.setCell ⟨b, i, none⟩ v).cell? ⟨b, i, none⟩ = some v :=
  World.cell?_setCell_same w _ v h
theorem c_prescaleG (b ph pl s : Nat) (p lp e : Int) (h1 : -348 ≤ p) (h2 : p ≤ 347) (h3 : -2000 ≤ e) (h4 : e ≤ 2000) (h5 : -2000 ≤ lp) (h6 : lp ≤ 2000) (hs : -(e + lp + 3) = (s : Int)) (w W : World) (hW : Below b w W)
    (c0 : W.cell? ⟨b, 0, none⟩ = some (.int .u64 0)) (c1 : W.cell? ⟨b, 1, none⟩ = some (.int .u64 0)) (c2 : W.cell? ⟨b, 2, none⟩ = some (.int .i64 0))
    (f0 : W.frozen? ⟨b, 0, none⟩ = false) (f1 : W.frozen? ⟨b, 1, none⟩ = false) (f2 : W.frozen? ⟨b, 2, none⟩ = false)
    (t0 : W.cell? ⟨12, (p + 348).toNat * 2, none⟩ = some (.int .u64 (ph : Int))) (t1 : W.cell? ⟨12, (p + 348).toNat * 2 + 1, none⟩ = some (.int .u64 (pl : Int))) :
    Calls Tryz.prog 185 #[.pointer (some ⟨b, 0, none⟩), .int .i64 e, .int .i64 p, .int .i64 lp] W fun r w' => r = .returned (.tuple #[]) ∧ ScG b ph pl s w w' := by
  refine (d_prescale b e p lp (ph : Int) (pl : Int) h1 h2 h3 h4 h5 h6 W c0 c1 c2 f0 f1 f2 t0 t1).mono ?_
  rintro r w' ⟨rfl, rfl⟩
  rw [hs]
  refine ⟨rfl, ?_, ?_, ?_, ((hW.setCell (Nat.le_refl _) _).setCell (Nat.le_refl _) _).setCell (Nat.le_refl _) _⟩
  · exact (set_otherG (by decide)).trans ((set_otherG (by decide)).trans (set_sameG c0))
  · exact (set_otherG (by decide)).trans (set_sameG ((set_otherG (by decide)).trans c1))
  · exact set_sameG ((set_otherG (by decide)).trans ((set_otherG (by decide)).trans c2))
theorem c_uscaleG (x ph pl s b : Nat) (hx : x < 18446744073709551616) (hp : ph < 18446744073709551616) (hpl : pl < 18446744073709551616) (hs : s < 64) (w W : World) (h : ScG b ph pl s w W) :
    Calls Tryz.prog 187 #[.int .u64 (x : Int), .pointer (some ⟨b, 0, none⟩)] W fun e w' => e = .returned (.int .u64 (usc x ph pl s : Int)) ∧ ScG b ph pl s w w' := by
  obtain ⟨c0, c1, c2, hb⟩ := h
  refine (d_uscaleG x ph pl s b hx hp hpl hs W c0 c1 c2).mono ?_
  rintro e w' ⟨rfl, nq, rfl⟩
  exact ⟨rfl, c0, c1, c2, below_drewG hb nq⟩
theorem and_i64G (a b : Nat) (ha : a < 9223372036854775808) (hb : b < 9223372036854775808) : bits BinOp.and IntKind.i64 (a : Int) (b : Int) = ((a &&& b : Nat) : Int) := by
  have h0 : ∀ x : Nat, x < 9223372036854775808 → (BitVec.ofInt 64 (x : Int)).toNat = x := by
    intro x hx
    rw [BitVec.toNat_ofInt]
    omega
  show IntKind.i64.wrap ((BitVec.ofInt 64 (a : Int) &&& BitVec.ofInt 64 (b : Int)).toNat : Nat) = _
  rw [BitVec.toNat_and, h0 a ha, h0 b hb]
  have := Nat.and_le_left (n := a) (m := b)
  rw [IntKind.wrap_i64]; omega
theorem odd_i64 (a : Nat) (ha : a < 9223372036854775808) : bits BinOp.and IntKind.i64 (a : Int) 1 = ((a % 2 : Nat) : Int) := by
  have := and_i64G a 1 ha (by decide)
  rw [Nat.and_one_is_mod] at this
  exact this
theorem d2048 {m : Nat} (h : m < 18446744073709551616) : m / 2048 < 9223372036854775808 := by omega
theorem c_shortG (m : Nat) (e : Int) (h : SfIn m e) (w : World) (hT : PowT w) :
    Calls Tryz.prog 169 #[.int .u64 (m : Int), .int .i64 e] w fun r w' => r = .returned (.tuple #[.int .u64 (sD m e : Int), .int .i64 (sQ m e)]) ∧ Below w.heap.size w w' := by
  obtain ⟨⟨s1, s2⟩, s0, p1, p2⟩ := h.s
  obtain ⟨mn1, mn2⟩ := h.mn
  obtain ⟨mx1, mx2⟩ := h.mx
  have m64 := h.m64
  have mlo := h.lo
  have e1 := h.e1
  have e2 := h.e2
  have hzb := sfZ_b e1
  obtain ⟨r1, r2, r3⟩ := row_b (p := sfP m e) (by omega) (by omega)
  obtain ⟨t0, t1⟩ := hT _ _ (row_of (p := sfP m e) (by omega) (by omega))
  have hT0 : 12 < w.heap.size := lt_ofC t0
  have hS : -(e + sfP m e * 108853 / 32768 + 3) = (sfS m e : Int) := by unfold sfS; omega
  have hod : sfOdd m e ≤ 1 := by unfold sfOdd; omega
  have hsb := s_b h
  have dP : sfP m e = if sfSk m e then -(((e + 11) * 631305 - 261663) / 2097152) else -((e + sfZ e) * 78913 / 262144) := rfl
  have dN : sfMin m e = if sfSk m e then m - 512 else m - 2 ^ (sfZ e - 1) := rfl
  have dX : sfMax m e = m + 2 ^ (sfZ e - 1) := rfl
  have dO : sfOdd m e = m / 2 ^ sfZ e % 2 := rfl
  have dZ : sfZ e = if -1085 ≤ e then 11 else (11 + (-1085 - e)).toNat := rfl
  have dK : sfSk m e = (decide (m = 9223372036854775808) && decide (-1085 < e)) := rfl
  have hD : sD m e = if sfLo (rowOf (sfP m e)).1 (rowOf (sfP m e)).2 m e ≤ sfHi (rowOf (sfP m e)).1 (rowOf (sfP m e)).2 m e / 10 * 10 then sfHi (rowOf (sfP m e)).1 (rowOf (sfP m e)).2 m e / 10
    else if sfLo (rowOf (sfP m e)).1 (rowOf (sfP m e)).2 m e < sfHi (rowOf (sfP m e)).1 (rowOf (sfP m e)).2 m e then rou (usc m (rowOf (sfP m e)).1 (rowOf (sfP m e)).2 (sfS m e)) else sfLo (rowOf (sfP m e)).1 (rowOf (sfP m e)).2 m e := rfl
  have hQ : sQ m e = if sfLo (rowOf (sfP m e)).1 (rowOf (sfP m e)).2 m e ≤ sfHi (rowOf (sfP m e)).1 (rowOf (sfP m e)).2 m e / 10 * 10 then -(sfP m e - 1) else -(sfP m e) := rfl
  have hLo : sfLo (rowOf (sfP m e)).1 (rowOf (sfP m e)).2 m e = cei (ndg (usc (sfMin m e) (rowOf (sfP m e)).1 (rowOf (sfP m e)).2 (sfS m e)) (sfOdd m e)) := rfl
  have hHi : sfHi (rowOf (sfP m e)).1 (rowOf (sfP m e)).2 m e = ndg (usc (sfMax m e) (rowOf (sfP m e)).1 (rowOf (sfP m e)).2 (sfS m e)) (-(sfOdd m e : Int)) / 4 := rfl
  generalize sfLo (rowOf (sfP m e)).1 (rowOf (sfP m e)).2 m e = LO at *
  generalize sfHi (rowOf (sfP m e)).1 (rowOf (sfP m e)).2 m e = HI at *
  generalize (rowOf (sfP m e)).1 = ph at *
  generalize (rowOf (sfP m e)).2 = pl at *
  generalize sfP m e = p at *
  generalize sfS m e = s at *
  generalize sfMin m e = mn at *
  generalize sfMax m e = mx at *
  generalize sfOdd m e = od at *
  generalize hsk : sfSk m e = sk at *
  have hlp1 : -2000 ≤ p * 108853 / 32768 ∧ p * 108853 / 32768 ≤ 2000 := by omega
  have hl2 := Lib.hid (fun W => d_log2Pow10 p (by omega) (by omega) W)
  obtain ⟨lp, hlp⟩ : ∃ lp, p * 108853 / 32768 = lp := ⟨_, rfl⟩
  rw [hlp] at hS hlp1 hl2
  have hP := Lib.hid (fun W hW => c_prescaleG w.heap.size ph pl s p lp e (by omega) (by omega) (by omega) (by omega) hlp1.1 hlp1.2 hS w W hW)
  have hU1 := Lib.hid (fun W => c_uscaleG mn ph pl s w.heap.size mn2 r2 r3 (by omega) w W)
  have hU2 := Lib.hid (fun W => c_uscaleG mx ph pl s w.heap.size mx2 r2 r3 (by omega) w W)
  have hU3 := Lib.hid (fun W => c_uscaleG m ph pl s w.heap.size m64 r2 r3 (by omega) w W)
  have b1 := usc_le (pl := pl) mn2 r2 s1 (by omega)
  have b2 := usc_le (pl := pl) mx2 r2 s1 (by omega)
  have b3 := usc_le (pl := pl) m64 r2 s1 (by omega)
  have b4 := usc_ge (pl := pl) mn1 mn2 r1 r2 s2
  have b5 := usc_ge (pl := pl) (x := mx) (by omega) mx2 r1 r2 s2
  have hn1 := Lib.hid (fun W => d_nudgeG (usc mn ph pl s) (od : Int) (by omega) (by omega) (by omega) W)
  have hn2 := Lib.hid (fun W => d_nudgeG (usc mx ph pl s) (-(od : Int)) (by omega) (by omega) (by omega) W)
  have g1 := ndg_add (usc mn ph pl s) od (by omega)
  have g2 := ndg_sub (usc mx ph pl s) od (by omega) (by omega)
  have hc := Lib.hid (fun W => d_uceil (ndg (usc mn ph pl s) (od : Int)) (by omega) W)
  have hf := Lib.hid (fun W => d_ufloor (ndg (usc mx ph pl s) (-(od : Int))) (by omega) W)
  have hr := Lib.hid (fun W => d_uround (usc m ph pl s) (by omega) W)
  have hLo' : (ndg (usc mn ph pl s) (od : Int) + 3) / 4 = LO := by rw [hLo]; rfl
  rw [hLo'] at hc
  rw [← hHi] at hf
  have hHb : HI < 4611686018427387904 := by omega
  have hLb : LO < 4611686018427387904 := by omega
  generalize ndg (usc mn ph pl s) (od : Int) = un at *
  generalize ndg (usc mx ph pl s) (-(od : Int)) = ux at *
  generalize usc mn ph pl s = vn at *
  generalize usc mx ph pl s = vx at *
  generalize usc m ph pl s = vm at *
  generalize rou vm = RO at *
  obtain ⟨DD, hDD⟩ : ∃ DD, HI / 10 = DD := ⟨_, rfl⟩
  rw [hDD] at hD hQ
  have q1 : (HI : Int) / 10 = (DD : Int) := by omega
  have q0 : IntKind.u64.wrap (DD : Int) = (DD : Int) := by rw [IntKind.wrap_u64]; omega
  have q2 : IntKind.u64.wrap ((DD : Int) * 10) = (DD : Int) * 10 := by rw [IntKind.wrap_u64]; omega
  clear hT s1 s2 s0 r1 r2 r3 mn1 mn2 mx1 b1 b2 b3 b4 b5 g1 g2 hLo' hLo hHi hlp hlp1 hsb h hDD hHb hLb
  cases sk with
  | true =>
    have hk0 := dK.symm
    simp only [Bool.and_eq_true, decide_eq_true_eq] at hk0
    obtain ⟨hm, hk⟩ := hk0
    clear hsk
    have hz : sfZ e = 11 := by rw [dZ, if_pos (by omega)]
    rw [hz] at dX dO
    rw [show (2 : Nat) ^ (11 - 1) = 1024 by decide] at dX
    rw [show (2 : Nat) ^ 11 = 2048 by decide] at dO
    simp only [if_true] at dP dN
    have n1 : ((m : Int) == 9223372036854775808) = true := by simp; omega
    have n0 : decide ((-1085 : Int) < e) = true := by simp; omega
    have n2 : IntKind.u64.wrap ((m : Int) - 512) = (mn : Int) := by rw [IntKind.wrap_u64]; omega
    have n3 : IntKind.u64.wrap ((m : Int) + 1024) = (mx : Int) := by rw [IntKind.wrap_u64]; omega
    have n5 : (m : Int) / 2048 = ((m / 2048 : Nat) : Int) := by omega
    have n4 : bits BinOp.and IntKind.i64 ((m / 2048 : Nat) : Int) 1 = (od : Int) := by rw [odd_i64 _ (d2048 m64), dO]
    have n7 : bits BinOp.and IntKind.i64 ((m : Int) / 2048) 1 = (od : Int) := by rw [n5, n4]
    have hl0 := Lib.hid (fun W => d_skewed (e + 11) (by omega) (by omega) W)
    rw [show ((e + 11) * 631305 - 261663) / 2097152 = -p by omega] at hl0
    clear dP dN dX dO dZ dK hz hzb n5 n4 mx2 hm
    by_cases hLL : LO ≤ DD * 10
    · skip
      have c1 : LO ≤ DD * 10 := hLL
      rw [if_pos c1] at hD hQ
      have q3 : (LO : Int) ≤ (DD : Int) * 10 := by omega
      rw [hD, hQ]
      clear hD hQ mlo
      go_enter Tryz.func169, Tryz.ntmps169
      go_wp2_with (first | (go_at_call 184; refine (hl0.out _).mono ?_; rintro e' w1 ⟨rfl, rfl⟩) | (go_at_call 186; refine (hl2.out _).mono ?_; rintro e' w1 ⟨rfl, rfl⟩))
      refine (hP.out _ ((Below.refl _ _).alloc (Nat.le_refl _) _) ?_ ?_ ?_ ?_ ?_ ?_ ?_ ?_).mono ?_
      case refine_9 =>
        rintro e' w1 ⟨rfl, hsc⟩
        go_wp2_with fail
        refine (hU1.out _ hsc).mono ?_
        rintro e' w2 ⟨rfl, hsc2⟩
        go_wp2_with fail
        refine (hn1.out _).mono ?_
        rintro e' w3 ⟨rfl, rfl⟩
        go_wp2_with fail
        refine (hc.out _).mono ?_
        rintro e' w3 ⟨rfl, rfl⟩
        go_wp2_with fail
        refine (hU2.out _ hsc2).mono ?_
        rintro e' w3 ⟨rfl, hsc3⟩
        go_wp2_with fail
        refine (hn2.out _).mono ?_
        rintro e' w4 ⟨rfl, rfl⟩
        go_wp2_with fail
        refine (hf.out _).mono ?_
        rintro e' w4 ⟨rfl, rfl⟩
        go_wp2_with fail
        refine bodyPost_ret (v := .tuple #[.int .u64 (DD : Int), .int .i64 (-(p - 1))]) (by simp [results, Tryz.results169, go_sem]) rfl ?_
        exact ⟨rfl, hsc3.2.2.2⟩
      case refine_1 => simp
      case refine_2 => simp
      case refine_3 => simp
      case refine_4 => simp
      case refine_5 => simp
      case refine_6 => simp
      case refine_7 => exact (World.cell?_alloc_lt _ _ _ hT0).trans t0
      case refine_8 => exact (World.cell?_alloc_lt _ _ _ hT0).trans t1
    · by_cases hLH : LO < HI
      · skip
        rw [if_neg hLL, if_pos hLH] at hD
        rw [if_neg hLL] at hQ
        have q3 : decide ((LO : Int) ≤ (DD : Int) * 10) = false := by simp; omega
        have q3n : decide (LO ≤ DD * 10) = false := by simp; omega
        have q4 : (LO : Int) < (HI : Int) := by omega
        rw [hD, hQ]
        clear hD hQ mlo
        go_enter Tryz.func169, Tryz.ntmps169
        go_wp2_with (first | (go_at_call 184; refine (hl0.out _).mono ?_; rintro e' w1 ⟨rfl, rfl⟩) | (go_at_call 186; refine (hl2.out _).mono ?_; rintro e' w1 ⟨rfl, rfl⟩))
        refine (hP.out _ ((Below.refl _ _).alloc (Nat.le_refl _) _) ?_ ?_ ?_ ?_ ?_ ?_ ?_ ?_).mono ?_
        case refine_9 =>
          rintro e' w1 ⟨rfl, hsc⟩
          go_wp2_with fail
          refine (hU1.out _ hsc).mono ?_
          rintro e' w2 ⟨rfl, hsc2⟩
          go_wp2_with fail
          refine (hn1.out _).mono ?_
          rintro e' w3 ⟨rfl, rfl⟩
          go_wp2_with fail
          refine (hc.out _).mono ?_
          rintro e' w3 ⟨rfl, rfl⟩
          go_wp2_with fail
          refine (hU2.out _ hsc2).mono ?_
          rintro e' w3 ⟨rfl, hsc3⟩
          go_wp2_with fail
          refine (hn2.out _).mono ?_
          rintro e' w4 ⟨rfl, rfl⟩
          go_wp2_with fail
          refine (hf.out _).mono ?_
          rintro e' w4 ⟨rfl, rfl⟩
          go_wp2_with fail
          refine (hU3.out _ hsc3).mono ?_
          rintro e' w5 ⟨rfl, hsc4⟩
          go_wp2_with fail
          refine (hr.out _).mono ?_
          rintro e' w6 ⟨rfl, rfl⟩
          go_wp2_with fail
          refine bodyPost_ret (v := .tuple #[.int .u64 (RO : Int), .int .i64 (-p)]) (by simp [results, Tryz.results169, go_sem]) rfl ?_
          exact ⟨rfl, hsc4.2.2.2⟩
        case refine_1 => simp
        case refine_2 => simp
        case refine_3 => simp
        case refine_4 => simp
        case refine_5 => simp
        case refine_6 => simp
        case refine_7 => exact (World.cell?_alloc_lt _ _ _ hT0).trans t0
        case refine_8 => exact (World.cell?_alloc_lt _ _ _ hT0).trans t1
      · skip
        rw [if_neg hLL, if_neg hLH] at hD
        rw [if_neg hLL] at hQ
        have q3 : decide ((LO : Int) ≤ (DD : Int) * 10) = false := by simp; omega
        have q3n : decide (LO ≤ DD * 10) = false := by simp; omega
        have q4 : decide ((LO : Int) < (HI : Int)) = false := by simp; omega
        have q4n : decide (LO < HI) = false := by simp; omega
        rw [hD, hQ]
        clear hD hQ mlo
        go_enter Tryz.func169, Tryz.ntmps169
        go_wp2_with (first | (go_at_call 184; refine (hl0.out _).mono ?_; rintro e' w1 ⟨rfl, rfl⟩) | (go_at_call 186; refine (hl2.out _).mono ?_; rintro e' w1 ⟨rfl, rfl⟩))
        refine (hP.out _ ((Below.refl _ _).alloc (Nat.le_refl _) _) ?_ ?_ ?_ ?_ ?_ ?_ ?_ ?_).mono ?_
        case refine_9 =>
          rintro e' w1 ⟨rfl, hsc⟩
          go_wp2_with fail
          refine (hU1.out _ hsc).mono ?_
          rintro e' w2 ⟨rfl, hsc2⟩
          go_wp2_with fail
          refine (hn1.out _).mono ?_
          rintro e' w3 ⟨rfl, rfl⟩
          go_wp2_with fail
          refine (hc.out _).mono ?_
          rintro e' w3 ⟨rfl, rfl⟩
          go_wp2_with fail
          refine (hU2.out _ hsc2).mono ?_
          rintro e' w3 ⟨rfl, hsc3⟩
          go_wp2_with fail
          refine (hn2.out _).mono ?_
          rintro e' w4 ⟨rfl, rfl⟩
          go_wp2_with fail
          refine (hf.out _).mono ?_
          rintro e' w4 ⟨rfl, rfl⟩
          go_wp2_with fail
          refine bodyPost_ret (v := .tuple #[.int .u64 (LO : Int), .int .i64 (-p)]) (by simp [results, Tryz.results169, go_sem]) rfl ?_
          exact ⟨rfl, hsc3.2.2.2⟩
        case refine_1 => simp
        case refine_2 => simp
        case refine_3 => simp
        case refine_4 => simp
        case refine_5 => simp
        case refine_6 => simp
        case refine_7 => exact (World.cell?_alloc_lt _ _ _ hT0).trans t0
        case refine_8 => exact (World.cell?_alloc_lt _ _ _ hT0).trans t1
  | false =>
    by_cases he : -1085 ≤ e
    · have hz : sfZ e = 11 := by rw [dZ, if_pos (by omega)]
      rw [hz] at dX dO dP dN
      simp only [Bool.false_eq_true, if_false] at dP dN
      rw [show (2 : Nat) ^ (11 - 1) = 1024 by decide] at dX dN
      rw [show (2 : Nat) ^ 11 = 2048 by decide] at dO
      have hk := dK.symm
      rw [Bool.and_eq_false_iff] at hk
      simp only [decide_eq_false_iff_not] at hk
      have n9 : decide (e < -1085) = false := by simp; omega
      have n2 : IntKind.u64.wrap ((m : Int) - 1024) = (mn : Int) := by rw [IntKind.wrap_u64]; omega
      have n3 : IntKind.u64.wrap ((m : Int) + 1024) = (mx : Int) := by rw [IntKind.wrap_u64]; omega
      have n5 : (m : Int) / 2048 = ((m / 2048 : Nat) : Int) := by omega
      have n4 : bits BinOp.and IntKind.i64 ((m / 2048 : Nat) : Int) 1 = (od : Int) := by rw [odd_i64 _ (d2048 m64), dO]
      have n7 : bits BinOp.and IntKind.i64 ((m : Int) / 2048) 1 = (od : Int) := by rw [n5, n4]
      have hl0 := Lib.hid (fun W => d_log10Pow2 (e + 11) (by omega) (by omega) W)
      rw [show (e + 11) * 78913 / 262144 = -p by omega] at hl0
      by_cases hm : m = 9223372036854775808
      · skip
        have n1 : ((m : Int) == 9223372036854775808) = true := by simp; omega
        have n0 : decide ((-1085 : Int) < e) = false := by simp; omega
        clear dP dN dX dO dZ dK hz hzb n5 n4 mx2 hk hsk hm
        by_cases hLL : LO ≤ DD * 10
        · skip
          have c1 : LO ≤ DD * 10 := hLL
          rw [if_pos c1] at hD hQ
          have q3 : (LO : Int) ≤ (DD : Int) * 10 := by omega
          rw [hD, hQ]
          clear hD hQ mlo
          go_enter Tryz.func169, Tryz.ntmps169
          go_wp2_with (first | (go_at_call 153; refine (hl0.out _).mono ?_; rintro e' w1 ⟨rfl, rfl⟩) | (go_at_call 186; refine (hl2.out _).mono ?_; rintro e' w1 ⟨rfl, rfl⟩))
          refine (hP.out _ ((Below.refl _ _).alloc (Nat.le_refl _) _) ?_ ?_ ?_ ?_ ?_ ?_ ?_ ?_).mono ?_
          case refine_9 =>
            rintro e' w1 ⟨rfl, hsc⟩
            go_wp2_with fail
            refine (hU1.out _ hsc).mono ?_
            rintro e' w2 ⟨rfl, hsc2⟩
            go_wp2_with fail
            refine (hn1.out _).mono ?_
            rintro e' w3 ⟨rfl, rfl⟩
            go_wp2_with fail
            refine (hc.out _).mono ?_
            rintro e' w3 ⟨rfl, rfl⟩
            go_wp2_with fail
            refine (hU2.out _ hsc2).mono ?_
            rintro e' w3 ⟨rfl, hsc3⟩
            go_wp2_with fail
            refine (hn2.out _).mono ?_
            rintro e' w4 ⟨rfl, rfl⟩
            go_wp2_with fail
            refine (hf.out _).mono ?_
            rintro e' w4 ⟨rfl, rfl⟩
            go_wp2_with fail
            refine bodyPost_ret (v := .tuple #[.int .u64 (DD : Int), .int .i64 (-(p - 1))]) (by simp [results, Tryz.results169, go_sem]) rfl ?_
            exact ⟨rfl, hsc3.2.2.2⟩
          case refine_1 => simp
          case refine_2 => simp
          case refine_3 => simp
          case refine_4 => simp
          case refine_5 => simp
          case refine_6 => simp
          case refine_7 => exact (World.cell?_alloc_lt _ _ _ hT0).trans t0
          case refine_8 => exact (World.cell?_alloc_lt _ _ _ hT0).trans t1
        · by_cases hLH : LO < HI
          · skip
            rw [if_neg hLL, if_pos hLH] at hD
            rw [if_neg hLL] at hQ
            have q3 : decide ((LO : Int) ≤ (DD : Int) * 10) = false := by simp; omega
            have q3n : decide (LO ≤ DD * 10) = false := by simp; omega
            have q4 : (LO : Int) < (HI : Int) := by omega
            rw [hD, hQ]
            clear hD hQ mlo
            go_enter Tryz.func169, Tryz.ntmps169
            go_wp2_with (first | (go_at_call 153; refine (hl0.out _).mono ?_; rintro e' w1 ⟨rfl, rfl⟩) | (go_at_call 186; refine (hl2.out _).mono ?_; rintro e' w1 ⟨rfl, rfl⟩))
            refine (hP.out _ ((Below.refl _ _).alloc (Nat.le_refl _) _) ?_ ?_ ?_ ?_ ?_ ?_ ?_ ?_).mono ?_
            case refine_9 =>
              rintro e' w1 ⟨rfl, hsc⟩
              go_wp2_with fail
              refine (hU1.out _ hsc).mono ?_
              rintro e' w2 ⟨rfl, hsc2⟩
              go_wp2_with fail
              refine (hn1.out _).mono ?_
              rintro e' w3 ⟨rfl, rfl⟩
              go_wp2_with fail
              refine (hc.out _).mono ?_
              rintro e' w3 ⟨rfl, rfl⟩
              go_wp2_with fail
              refine (hU2.out _ hsc2).mono ?_
              rintro e' w3 ⟨rfl, hsc3⟩
              go_wp2_with fail
              refine (hn2.out _).mono ?_
              rintro e' w4 ⟨rfl, rfl⟩
              go_wp2_with fail
              refine (hf.out _).mono ?_
              rintro e' w4 ⟨rfl, rfl⟩
              go_wp2_with fail
              refine (hU3.out _ hsc3).mono ?_
              rintro e' w5 ⟨rfl, hsc4⟩
              go_wp2_with fail
              refine (hr.out _).mono ?_
              rintro e' w6 ⟨rfl, rfl⟩
              go_wp2_with fail
              refine bodyPost_ret (v := .tuple #[.int .u64 (RO : Int), .int .i64 (-p)]) (by simp [results, Tryz.results169, go_sem]) rfl ?_
              exact ⟨rfl, hsc4.2.2.2⟩
            case refine_1 => simp
            case refine_2 => simp
            case refine_3 => simp
            case refine_4 => simp
            case refine_5 => simp
            case refine_6 => simp
            case refine_7 => exact (World.cell?_alloc_lt _ _ _ hT0).trans t0
            case refine_8 => exact (World.cell?_alloc_lt _ _ _ hT0).trans t1
          · skip
            rw [if_neg hLL, if_neg hLH] at hD
            rw [if_neg hLL] at hQ
            have q3 : decide ((LO : Int) ≤ (DD : Int) * 10) = false := by simp; omega
            have q3n : decide (LO ≤ DD * 10) = false := by simp; omega
            have q4 : decide ((LO : Int) < (HI : Int)) = false := by simp; omega
            have q4n : decide (LO < HI) = false := by simp; omega
            rw [hD, hQ]
            clear hD hQ mlo
            go_enter Tryz.func169, Tryz.ntmps169
            go_wp2_with (first | (go_at_call 153; refine (hl0.out _).mono ?_; rintro e' w1 ⟨rfl, rfl⟩) | (go_at_call 186; refine (hl2.out _).mono ?_; rintro e' w1 ⟨rfl, rfl⟩))
            refine (hP.out _ ((Below.refl _ _).alloc (Nat.le_refl _) _) ?_ ?_ ?_ ?_ ?_ ?_ ?_ ?_).mono ?_
            case refine_9 =>
              rintro e' w1 ⟨rfl, hsc⟩
              go_wp2_with fail
              refine (hU1.out _ hsc).mono ?_
              rintro e' w2 ⟨rfl, hsc2⟩
              go_wp2_with fail
              refine (hn1.out _).mono ?_
              rintro e' w3 ⟨rfl, rfl⟩
              go_wp2_with fail
              refine (hc.out _).mono ?_
              rintro e' w3 ⟨rfl, rfl⟩
              go_wp2_with fail
              refine (hU2.out _ hsc2).mono ?_
              rintro e' w3 ⟨rfl, hsc3⟩
              go_wp2_with fail
              refine (hn2.out _).mono ?_
              rintro e' w4 ⟨rfl, rfl⟩
              go_wp2_with fail
              refine (hf.out _).mono ?_
              rintro e' w4 ⟨rfl, rfl⟩
              go_wp2_with fail
              refine bodyPost_ret (v := .tuple #[.int .u64 (LO : Int), .int .i64 (-p)]) (by simp [results, Tryz.results169, go_sem]) rfl ?_
              exact ⟨rfl, hsc3.2.2.2⟩
            case refine_1 => simp
            case refine_2 => simp
            case refine_3 => simp
            case refine_4 => simp
            case refine_5 => simp
            case refine_6 => simp
            case refine_7 => exact (World.cell?_alloc_lt _ _ _ hT0).trans t0
            case refine_8 => exact (World.cell?_alloc_lt _ _ _ hT0).trans t1
      · skip
        have n1 : ((m : Int) == 9223372036854775808) = false := by simp; omega
        clear dP dN dX dO dZ dK hz hzb n5 n4 mx2 hk hsk hm
        by_cases hLL : LO ≤ DD * 10
        · skip
          have c1 : LO ≤ DD * 10 := hLL
          rw [if_pos c1] at hD hQ
          have q3 : (LO : Int) ≤ (DD : Int) * 10 := by omega
          rw [hD, hQ]
          clear hD hQ mlo
          go_enter Tryz.func169, Tryz.ntmps169
          go_wp2_with (first | (go_at_call 153; refine (hl0.out _).mono ?_; rintro e' w1 ⟨rfl, rfl⟩) | (go_at_call 186; refine (hl2.out _).mono ?_; rintro e' w1 ⟨rfl, rfl⟩))
          refine (hP.out _ ((Below.refl _ _).alloc (Nat.le_refl _) _) ?_ ?_ ?_ ?_ ?_ ?_ ?_ ?_).mono ?_
          case refine_9 =>
            rintro e' w1 ⟨rfl, hsc⟩
            go_wp2_with fail
            refine (hU1.out _ hsc).mono ?_
            rintro e' w2 ⟨rfl, hsc2⟩
            go_wp2_with fail
            refine (hn1.out _).mono ?_
            rintro e' w3 ⟨rfl, rfl⟩
            go_wp2_with fail
            refine (hc.out _).mono ?_
            rintro e' w3 ⟨rfl, rfl⟩
            go_wp2_with fail
            refine (hU2.out _ hsc2).mono ?_
            rintro e' w3 ⟨rfl, hsc3⟩
            go_wp2_with fail
            refine (hn2.out _).mono ?_
            rintro e' w4 ⟨rfl, rfl⟩
            go_wp2_with fail
            refine (hf.out _).mono ?_
            rintro e' w4 ⟨rfl, rfl⟩
            go_wp2_with fail
            refine bodyPost_ret (v := .tuple #[.int .u64 (DD : Int), .int .i64 (-(p - 1))]) (by simp [results, Tryz.results169, go_sem]) rfl ?_
            exact ⟨rfl, hsc3.2.2.2⟩
          case refine_1 => simp
          case refine_2 => simp
          case refine_3 => simp
          case refine_4 => simp
          case refine_5 => simp
          case refine_6 => simp
          case refine_7 => exact (World.cell?_alloc_lt _ _ _ hT0).trans t0
          case refine_8 => exact (World.cell?_alloc_lt _ _ _ hT0).trans t1
        · by_cases hLH : LO < HI
          · skip
            rw [if_neg hLL, if_pos hLH] at hD
            rw [if_neg hLL] at hQ
            have q3 : decide ((LO : Int) ≤ (DD : Int) * 10) = false := by simp; omega
            have q3n : decide (LO ≤ DD * 10) = false := by simp; omega
            have q4 : (LO : Int) < (HI : Int) := by omega
            rw [hD, hQ]
            clear hD hQ mlo
            go_enter Tryz.func169, Tryz.ntmps169
            go_wp2_with (first | (go_at_call 153; refine (hl0.out _).mono ?_; rintro e' w1 ⟨rfl, rfl⟩) | (go_at_call 186; refine (hl2.out _).mono ?_; rintro e' w1 ⟨rfl, rfl⟩))
            refine (hP.out _ ((Below.refl _ _).alloc (Nat.le_refl _) _) ?_ ?_ ?_ ?_ ?_ ?_ ?_ ?_).mono ?_
            case refine_9 =>
              rintro e' w1 ⟨rfl, hsc⟩
              go_wp2_with fail
              refine (hU1.out _ hsc).mono ?_
              rintro e' w2 ⟨rfl, hsc2⟩
              go_wp2_with fail
              refine (hn1.out _).mono ?_
              rintro e' w3 ⟨rfl, rfl⟩
              go_wp2_with fail
              refine (hc.out _).mono ?_
              rintro e' w3 ⟨rfl, rfl⟩
              go_wp2_with fail
              refine (hU2.out _ hsc2).mono ?_
              rintro e' w3 ⟨rfl, hsc3⟩
              go_wp2_with fail
              refine (hn2.out _).mono ?_
              rintro e' w4 ⟨rfl, rfl⟩
              go_wp2_with fail
              refine (hf.out _).mono ?_
              rintro e' w4 ⟨rfl, rfl⟩
              go_wp2_with fail
              refine (hU3.out _ hsc3).mono ?_
              rintro e' w5 ⟨rfl, hsc4⟩
              go_wp2_with fail
              refine (hr.out _).mono ?_
              rintro e' w6 ⟨rfl, rfl⟩
              go_wp2_with fail
              refine bodyPost_ret (v := .tuple #[.int .u64 (RO : Int), .int .i64 (-p)]) (by simp [results, Tryz.results169, go_sem]) rfl ?_
              exact ⟨rfl, hsc4.2.2.2⟩
            case refine_1 => simp
            case refine_2 => simp
            case refine_3 => simp
            case refine_4 => simp
            case refine_5 => simp
            case refine_6 => simp
            case refine_7 => exact (World.cell?_alloc_lt _ _ _ hT0).trans t0
            case refine_8 => exact (World.cell?_alloc_lt _ _ _ hT0).trans t1
          · skip
            rw [if_neg hLL, if_neg hLH] at hD
            rw [if_neg hLL] at hQ
            have q3 : decide ((LO : Int) ≤ (DD : Int) * 10) = false := by simp; omega
            have q3n : decide (LO ≤ DD * 10) = false := by simp; omega
            have q4 : decide ((LO : Int) < (HI : Int)) = false := by simp; omega
            have q4n : decide (LO < HI) = false := by simp; omega
            rw [hD, hQ]
            clear hD hQ mlo
            go_enter Tryz.func169, Tryz.ntmps169
            go_wp2_with (first | (go_at_call 153; refine (hl0.out _).mono ?_; rintro e' w1 ⟨rfl, rfl⟩) | (go_at_call 186; refine (hl2.out _).mono ?_; rintro e' w1 ⟨rfl, rfl⟩))
            refine (hP.out _ ((Below.refl _ _).alloc (Nat.le_refl _) _) ?_ ?_ ?_ ?_ ?_ ?_ ?_ ?_).mono ?_
            case refine_9 =>
              rintro e' w1 ⟨rfl, hsc⟩
              go_wp2_with fail
              refine (hU1.out _ hsc).mono ?_
              rintro e' w2 ⟨rfl, hsc2⟩
              go_wp2_with fail
              refine (hn1.out _).mono ?_
              rintro e' w3 ⟨rfl, rfl⟩
              go_wp2_with fail
              refine (hc.out _).mono ?_
              rintro e' w3 ⟨rfl, rfl⟩
              go_wp2_with fail
              refine (hU2.out _ hsc2).mono ?_
              rintro e' w3 ⟨rfl, hsc3⟩
              go_wp2_with fail
              refine (hn2.out _).mono ?_
              rintro e' w4 ⟨rfl, rfl⟩
              go_wp2_with fail
              refine (hf.out _).mono ?_
              rintro e' w4 ⟨rfl, rfl⟩
              go_wp2_with fail
              refine bodyPost_ret (v := .tuple #[.int .u64 (LO : Int), .int .i64 (-p)]) (by simp [results, Tryz.results169, go_sem]) rfl ?_
              exact ⟨rfl, hsc3.2.2.2⟩
            case refine_1 => simp
            case refine_2 => simp
            case refine_3 => simp
            case refine_4 => simp
            case refine_5 => simp
            case refine_6 => simp
            case refine_7 => exact (World.cell?_alloc_lt _ _ _ hT0).trans t0
            case refine_8 => exact (World.cell?_alloc_lt _ _ _ hT0).trans t1
    · obtain ⟨z, hze⟩ : ∃ z : Nat, sfZ e = z := ⟨_, rfl⟩
      have hz : sfZ e = (11 + (-1085 - e)).toNat := by rw [dZ, if_neg he]
      have hez : e = -1074 - (z : Int) := by omega
      rw [hze] at dX dO dP dN hzb
      simp only [Bool.false_eq_true, if_false] at dP dN
      subst hez
      have z1 : (12 : Int) ≤ (z : Int) := by omega
      have z2 : (z : Int) ≤ 63 := by omega
      clear hsk dK dZ hz hze
      have n0 : decide ((-1085 : Int) < -1074 - (z : Int)) = false := by simp; omega
      have n9 : decide ((-1085 : Int) ≤ -1074 - (z : Int)) = false := by simp; omega
      have hl0 := Lib.hid (fun W => d_log10Pow2 (-1074) (by omega) (by omega) W)
      rw [show (-1074 : Int) * 78913 / 262144 = -p by omega] at hl0
      have n5 : (m : Int) / 2 ^ z = ((m / 2 ^ z : Nat) : Int) := pow_cast m z
      have hmz : m / 2 ^ z < 9223372036854775808 := Nat.lt_of_le_of_lt (Nat.div_le_div_left (Nat.pow_le_pow_right (by decide) (show 1 ≤ z by omega)) (by decide)) (show m / 2 ^ 1 < 9223372036854775808 by omega)
      have n4 : bits BinOp.and IntKind.i64 ((m / 2 ^ z : Nat) : Int) 1 = (od : Int) := by rw [odd_i64 _ hmz, dO]
      clear dO
      generalize m / 2 ^ z = mz at *
      have z0 : 11 + (-1085 - (-1074 - (z : Int))) = (z : Int) := by omega
      have z3 : -1074 - (z : Int) + (z : Int) = -1074 := by omega
      have z4 : ((z : Int) - 1).toNat = z - 1 := by omega
      have z5 : z < 64 := by omega
      have z6 : (0 : Int) ≤ (z : Int) := by omega
      have z7 : (z : Int) < 64 := by omega
      have z8 : z ≤ 64 := by omega
      have z9 : (z : Int) ≤ 64 := by omega
      have e9 : ((2 : Int) ^ (z - 1)) = ((2 ^ (z - 1) : Nat) : Int) := by simp
      have n23 : IntKind.u64.wrap ((m : Int) - IntKind.u64.wrap (2 ^ (z - 1))) = (mn : Int) ∧ IntKind.u64.wrap ((m : Int) + IntKind.u64.wrap (2 ^ (z - 1))) = (mx : Int) := by
        rw [e9]
        have hpz : 2 ^ (z - 1) ≤ 2 ^ 62 := Nat.pow_le_pow_right (by decide) (by omega)
        rw [show (2 : Nat) ^ 62 = 4611686018427387904 by decide] at hpz
        clear e9
        generalize 2 ^ (z - 1) = P at *
        simp only [IntKind.wrap_u64]
        omega
      obtain ⟨n2, n3⟩ := n23
      clear e9
      by_cases hm : m = 9223372036854775808
      · skip
        have n1 : ((m : Int) == 9223372036854775808) = true := by simp; omega
        clear hm dP dN dX
        by_cases hLL : LO ≤ DD * 10
        · skip
          have c1 : LO ≤ DD * 10 := hLL
          rw [if_pos c1] at hD hQ
          have q3 : (LO : Int) ≤ (DD : Int) * 10 := by omega
          rw [hD, hQ]
          clear hD hQ mlo
          go_enter Tryz.func169, Tryz.ntmps169
          go_wp2_with (first | (go_at_call 153; refine (hl0.out _).mono ?_; rintro e' w1 ⟨rfl, rfl⟩) | (go_at_call 186; refine (hl2.out _).mono ?_; rintro e' w1 ⟨rfl, rfl⟩))
          refine (hP.out _ ((Below.refl _ _).alloc (Nat.le_refl _) _) ?_ ?_ ?_ ?_ ?_ ?_ ?_ ?_).mono ?_
          case refine_9 =>
            rintro e' w1 ⟨rfl, hsc⟩
            go_wp2_with fail
            refine (hU1.out _ hsc).mono ?_
            rintro e' w2 ⟨rfl, hsc2⟩
            go_wp2_with fail
            refine (hn1.out _).mono ?_
            rintro e' w3 ⟨rfl, rfl⟩
            go_wp2_with fail
            refine (hc.out _).mono ?_
            rintro e' w3 ⟨rfl, rfl⟩
            go_wp2_with fail
            refine (hU2.out _ hsc2).mono ?_
            rintro e' w3 ⟨rfl, hsc3⟩
            go_wp2_with fail
            refine (hn2.out _).mono ?_
            rintro e' w4 ⟨rfl, rfl⟩
            go_wp2_with fail
            refine (hf.out _).mono ?_
            rintro e' w4 ⟨rfl, rfl⟩
            go_wp2_with fail
            refine bodyPost_ret (v := .tuple #[.int .u64 (DD : Int), .int .i64 (-(p - 1))]) (by simp [results, Tryz.results169, go_sem]) rfl ?_
            exact ⟨rfl, hsc3.2.2.2⟩
          case refine_1 => simp
          case refine_2 => simp
          case refine_3 => simp
          case refine_4 => simp
          case refine_5 => simp
          case refine_6 => simp
          case refine_7 => exact (World.cell?_alloc_lt _ _ _ hT0).trans t0
          case refine_8 => exact (World.cell?_alloc_lt _ _ _ hT0).trans t1
        · by_cases hLH : LO < HI
          · skip
            rw [if_neg hLL, if_pos hLH] at hD
            rw [if_neg hLL] at hQ
            have q3 : decide ((LO : Int) ≤ (DD : Int) * 10) = false := by simp; omega
            have q3n : decide (LO ≤ DD * 10) = false := by simp; omega
            have q4 : (LO : Int) < (HI : Int) := by omega
            rw [hD, hQ]
            clear hD hQ mlo
            go_enter Tryz.func169, Tryz.ntmps169
            go_wp2_with (first | (go_at_call 153; refine (hl0.out _).mono ?_; rintro e' w1 ⟨rfl, rfl⟩) | (go_at_call 186; refine (hl2.out _).mono ?_; rintro e' w1 ⟨rfl, rfl⟩))
            refine (hP.out _ ((Below.refl _ _).alloc (Nat.le_refl _) _) ?_ ?_ ?_ ?_ ?_ ?_ ?_ ?_).mono ?_
            case refine_9 =>
              rintro e' w1 ⟨rfl, hsc⟩
              go_wp2_with fail
              refine (hU1.out _ hsc).mono ?_
              rintro e' w2 ⟨rfl, hsc2⟩
              go_wp2_with fail
              refine (hn1.out _).mono ?_
              rintro e' w3 ⟨rfl, rfl⟩
              go_wp2_with fail
              refine (hc.out _).mono ?_
              rintro e' w3 ⟨rfl, rfl⟩
              go_wp2_with fail
              refine (hU2.out _ hsc2).mono ?_
              rintro e' w3 ⟨rfl, hsc3⟩
              go_wp2_with fail
              refine (hn2.out _).mono ?_
              rintro e' w4 ⟨rfl, rfl⟩
              go_wp2_with fail
              refine (hf.out _).mono ?_
              rintro e' w4 ⟨rfl, rfl⟩
              go_wp2_with fail
              refine (hU3.out _ hsc3).mono ?_
              rintro e' w5 ⟨rfl, hsc4⟩
              go_wp2_with fail
              refine (hr.out _).mono ?_
              rintro e' w6 ⟨rfl, rfl⟩
              go_wp2_with fail
              refine bodyPost_ret (v := .tuple #[.int .u64 (RO : Int), .int .i64 (-p)]) (by simp [results, Tryz.results169, go_sem]) rfl ?_
              exact ⟨rfl, hsc4.2.2.2⟩
            case refine_1 => simp
            case refine_2 => simp
            case refine_3 => simp
            case refine_4 => simp
            case refine_5 => simp
            case refine_6 => simp
            case refine_7 => exact (World.cell?_alloc_lt _ _ _ hT0).trans t0
            case refine_8 => exact (World.cell?_alloc_lt _ _ _ hT0).trans t1
          · skip
            rw [if_neg hLL, if_neg hLH] at hD
            rw [if_neg hLL] at hQ
            have q3 : decide ((LO : Int) ≤ (DD : Int) * 10) = false := by simp; omega
            have q3n : decide (LO ≤ DD * 10) = false := by simp; omega
            have q4 : decide ((LO : Int) < (HI : Int)) = false := by simp; omega
            have q4n : decide (LO < HI) = false := by simp; omega
            rw [hD, hQ]
            clear hD hQ mlo
            go_enter Tryz.func169, Tryz.ntmps169
            go_wp2_with (first | (go_at_call 153; refine (hl0.out _).mono ?_; rintro e' w1 ⟨rfl, rfl⟩) | (go_at_call 186; refine (hl2.out _).mono ?_; rintro e' w1 ⟨rfl, rfl⟩))
            refine (hP.out _ ((Below.refl _ _).alloc (Nat.le_refl _) _) ?_ ?_ ?_ ?_ ?_ ?_ ?_ ?_).mono ?_
            case refine_9 =>
              rintro e' w1 ⟨rfl, hsc⟩
              go_wp2_with fail
              refine (hU1.out _ hsc).mono ?_
              rintro e' w2 ⟨rfl, hsc2⟩
              go_wp2_with fail
              refine (hn1.out _).mono ?_
              rintro e' w3 ⟨rfl, rfl⟩
              go_wp2_with fail
              refine (hc.out _).mono ?_
              rintro e' w3 ⟨rfl, rfl⟩
              go_wp2_with fail
              refine (hU2.out _ hsc2).mono ?_
              rintro e' w3 ⟨rfl, hsc3⟩
              go_wp2_with fail
              refine (hn2.out _).mono ?_
              rintro e' w4 ⟨rfl, rfl⟩
              go_wp2_with fail
              refine (hf.out _).mono ?_
              rintro e' w4 ⟨rfl, rfl⟩
              go_wp2_with fail
              refine bodyPost_ret (v := .tuple #[.int .u64 (LO : Int), .int .i64 (-p)]) (by simp [results, Tryz.results169, go_sem]) rfl ?_
              exact ⟨rfl, hsc3.2.2.2⟩
            case refine_1 => simp
            case refine_2 => simp
            case refine_3 => simp
            case refine_4 => simp
            case refine_5 => simp
            case refine_6 => simp
            case refine_7 => exact (World.cell?_alloc_lt _ _ _ hT0).trans t0
            case refine_8 => exact (World.cell?_alloc_lt _ _ _ hT0).trans t1
      · skip
        have n1 : ((m : Int) == 9223372036854775808) = false := by simp; omega
        clear hm dP dN dX
        by_cases hLL : LO ≤ DD * 10
        · skip
          have c1 : LO ≤ DD * 10 := hLL
          rw [if_pos c1] at hD hQ
          have q3 : (LO : Int) ≤ (DD : Int) * 10 := by omega
          rw [hD, hQ]
          clear hD hQ mlo
          go_enter Tryz.func169, Tryz.ntmps169
          go_wp2_with (first | (go_at_call 153; refine (hl0.out _).mono ?_; rintro e' w1 ⟨rfl, rfl⟩) | (go_at_call 186; refine (hl2.out _).mono ?_; rintro e' w1 ⟨rfl, rfl⟩))
          refine (hP.out _ ((Below.refl _ _).alloc (Nat.le_refl _) _) ?_ ?_ ?_ ?_ ?_ ?_ ?_ ?_).mono ?_
          case refine_9 =>
            rintro e' w1 ⟨rfl, hsc⟩
            go_wp2_with fail
            refine (hU1.out _ hsc).mono ?_
            rintro e' w2 ⟨rfl, hsc2⟩
            go_wp2_with fail
            refine (hn1.out _).mono ?_
            rintro e' w3 ⟨rfl, rfl⟩
            go_wp2_with fail
            refine (hc.out _).mono ?_
            rintro e' w3 ⟨rfl, rfl⟩
            go_wp2_with fail
            refine (hU2.out _ hsc2).mono ?_
            rintro e' w3 ⟨rfl, hsc3⟩
            go_wp2_with fail
            refine (hn2.out _).mono ?_
            rintro e' w4 ⟨rfl, rfl⟩
            go_wp2_with fail
            refine (hf.out _).mono ?_
            rintro e' w4 ⟨rfl, rfl⟩
            go_wp2_with fail
            refine bodyPost_ret (v := .tuple #[.int .u64 (DD : Int), .int .i64 (-(p - 1))]) (by simp [results, Tryz.results169, go_sem]) rfl ?_
            exact ⟨rfl, hsc3.2.2.2⟩
          case refine_1 => simp
          case refine_2 => simp
          case refine_3 => simp
          case refine_4 => simp
          case refine_5 => simp
          case refine_6 => simp
          case refine_7 => exact (World.cell?_alloc_lt _ _ _ hT0).trans t0
          case refine_8 => exact (World.cell?_alloc_lt _ _ _ hT0).trans t1
        · by_cases hLH : LO < HI
          · skip
            rw [if_neg hLL, if_pos hLH] at hD
            rw [if_neg hLL] at hQ
            have q3 : decide ((LO : Int) ≤ (DD : Int) * 10) = false := by simp; omega
            have q3n : decide (LO ≤ DD * 10) = false := by simp; omega
            have q4 : (LO : Int) < (HI : Int) := by omega
            rw [hD, hQ]
            clear hD hQ mlo
            go_enter Tryz.func169, Tryz.ntmps169
            go_wp2_with (first | (go_at_call 153; refine (hl0.out _).mono ?_; rintro e' w1 ⟨rfl, rfl⟩) | (go_at_call 186; refine (hl2.out _).mono ?_; rintro e' w1 ⟨rfl, rfl⟩))
            refine (hP.out _ ((Below.refl _ _).alloc (Nat.le_refl _) _) ?_ ?_ ?_ ?_ ?_ ?_ ?_ ?_).mono ?_
            case refine_9 =>
              rintro e' w1 ⟨rfl, hsc⟩
              go_wp2_with fail
              refine (hU1.out _ hsc).mono ?_
              rintro e' w2 ⟨rfl, hsc2⟩
              go_wp2_with fail
              refine (hn1.out _).mono ?_
              rintro e' w3 ⟨rfl, rfl⟩
              go_wp2_with fail
              refine (hc.out _).mono ?_
              rintro e' w3 ⟨rfl, rfl⟩
              go_wp2_with fail
              refine (hU2.out _ hsc2).mono ?_
              rintro e' w3 ⟨rfl, hsc3⟩
              go_wp2_with fail
              refine (hn2.out _).mono ?_
              rintro e' w4 ⟨rfl, rfl⟩
              go_wp2_with fail
              refine (hf.out _).mono ?_
              rintro e' w4 ⟨rfl, rfl⟩
              go_wp2_with fail
              refine (hU3.out _ hsc3).mono ?_
              rintro e' w5 ⟨rfl, hsc4⟩
              go_wp2_with fail
              refine (hr.out _).mono ?_
              rintro e' w6 ⟨rfl, rfl⟩
              go_wp2_with fail
              refine bodyPost_ret (v := .tuple #[.int .u64 (RO : Int), .int .i64 (-p)]) (by simp [results, Tryz.results169, go_sem]) rfl ?_
              exact ⟨rfl, hsc4.2.2.2⟩
            case refine_1 => simp
            case refine_2 => simp
            case refine_3 => simp
            case refine_4 => simp
            case refine_5 => simp
            case refine_6 => simp
            case refine_7 => exact (World.cell?_alloc_lt _ _ _ hT0).trans t0
            case refine_8 => exact (World.cell?_alloc_lt _ _ _ hT0).trans t1
          · skip
            rw [if_neg hLL, if_neg hLH] at hD
            rw [if_neg hLL] at hQ
            have q3 : decide ((LO : Int) ≤ (DD : Int) * 10) = false := by simp; omega
            have q3n : decide (LO ≤ DD * 10) = false := by simp; omega
            have q4 : decide ((LO : Int) < (HI : Int)) = false := by simp; omega
            have q4n : decide (LO < HI) = false := by simp; omega
            rw [hD, hQ]
            clear hD hQ mlo
            go_enter Tryz.func169, Tryz.ntmps169
            go_wp2_with (first | (go_at_call 153; refine (hl0.out _).mono ?_; rintro e' w1 ⟨rfl, rfl⟩) | (go_at_call 186; refine (hl2.out _).mono ?_; rintro e' w1 ⟨rfl, rfl⟩))
            refine (hP.out _ ((Below.refl _ _).alloc (Nat.le_refl _) _) ?_ ?_ ?_ ?_ ?_ ?_ ?_ ?_).mono ?_
            case refine_9 =>
              rintro e' w1 ⟨rfl, hsc⟩
              go_wp2_with fail
              refine (hU1.out _ hsc).mono ?_
              rintro e' w2 ⟨rfl, hsc2⟩
              go_wp2_with fail
              refine (hn1.out _).mono ?_
              rintro e' w3 ⟨rfl, rfl⟩
              go_wp2_with fail
              refine (hc.out _).mono ?_
              rintro e' w3 ⟨rfl, rfl⟩
              go_wp2_with fail
              refine (hU2.out _ hsc2).mono ?_
              rintro e' w3 ⟨rfl, hsc3⟩
              go_wp2_with fail
              refine (hn2.out _).mono ?_
              rintro e' w4 ⟨rfl, rfl⟩
              go_wp2_with fail
              refine (hf.out _).mono ?_
              rintro e' w4 ⟨rfl, rfl⟩
              go_wp2_with fail
              refine bodyPost_ret (v := .tuple #[.int .u64 (LO : Int), .int .i64 (-p)]) (by simp [results, Tryz.results169, go_sem]) rfl ?_
              exact ⟨rfl, hsc3.2.2.2⟩
            case refine_1 => simp
            case refine_2 => simp
            case refine_3 => simp
            case refine_4 => simp
            case refine_5 => simp
            case refine_6 => simp
            case refine_7 => exact (World.cell?_alloc_lt _ _ _ hT0).trans t0
            case refine_8 => exact (World.cell?_alloc_lt _ _ _ hT0).trans t1
end Go.Proofs.YtbakbikilbaafaaGreatDoor
namespace Go.Proofs.YtbakbikilbaafaaGreatDoor
open Go.RowKit F64 Ieee
set_option linter.unusedVariables false
set_option maxHeartbeats 4000000
set_option maxRecDepth 100000

/-- the library's decimal lies in block b -/
structure Dec (b : Nat) (C : Nat → Nat) (nd : Nat) (dp : Int) (tr : Bool) (w : World) : Prop where
  c : ∀ i, i < 800 → w.cell? ⟨b, i, none⟩ = some (.int .u8 (C i : Int))
  lt : ∀ i, i < 800 → C i < 256
  n : w.cell? ⟨b, 800, none⟩ = some (.int .i64 (nd : Int))
  p : w.cell? ⟨b, 801, none⟩ = some (.int .i64 dp)
  g : w.cell? ⟨b, 802, none⟩ = some (.bool false)
  t : w.cell? ⟨b, 803, none⟩ = some (.bool tr)
  f : ∀ i, w.frozen? ⟨b, i, none⟩ = false
def upd (C : Nat → Nat) (i v : Nat) : Nat → Nat := fun j => if j = i then v else C j
theorem upd_same (C : Nat → Nat) (i v : Nat) : upd C i v i = v := if_pos rfl
theorem upd_other (C : Nat → Nat) {i j : Nat} (v : Nat) (h : j ≠ i) : upd C i v j = C j := if_neg h
theorem Dec.setC {b : Nat} {C : Nat → Nat} {nd : Nat} {dp : Int} {tr : Bool} {w : World} (h : Dec b C nd dp tr w) {i v : Nat} (hi : i < 800) (hv : v < 256) : Dec b (upd C i v) nd dp tr (w.setCell ⟨b, i, none⟩ (.int .u8 (v : Int))) := by
  refine ⟨fun j hj => ?_, fun j hj => ?_, (set_otherG (by omega)).trans h.n, (set_otherG (by omega)).trans h.p, (set_otherG (by omega)).trans h.g, (set_otherG (by omega)).trans h.t, fun j => by rw [World.frozen?_setCell]; exact h.f j⟩
  · by_cases e : i = j
    · subst e; rw [upd_same]; exact set_sameG (h.c i hi)
    · rw [set_otherG e, upd_other C v (Ne.symm e)]; exact h.c j hj
  · by_cases e : i = j
    · subst e; rw [upd_same]; exact hv
    · rw [upd_other C v (Ne.symm e)]; exact h.lt j hj
theorem Dec.setN {b : Nat} {C : Nat → Nat} {nd : Nat} {dp : Int} {tr : Bool} {w : World} (h : Dec b C nd dp tr w) (n : Nat) : Dec b C n dp tr (w.setCell ⟨b, 800, none⟩ (.int .i64 (n : Int))) :=
  ⟨fun j hj => (set_otherG (by omega)).trans (h.c j hj), h.lt, set_sameG h.n, (set_otherG (by omega)).trans h.p, (set_otherG (by omega)).trans h.g, (set_otherG (by omega)).trans h.t, fun j => by rw [World.frozen?_setCell]; exact h.f j⟩
theorem Dec.setP {b : Nat} {C : Nat → Nat} {nd : Nat} {dp : Int} {tr : Bool} {w : World} (h : Dec b C nd dp tr w) (n : Int) : Dec b C nd n tr (w.setCell ⟨b, 801, none⟩ (.int .i64 n)) :=
  ⟨fun j hj => (set_otherG (by omega)).trans (h.c j hj), h.lt, (set_otherG (by omega)).trans h.n, set_sameG h.p, (set_otherG (by omega)).trans h.g, (set_otherG (by omega)).trans h.t, fun j => by rw [World.frozen?_setCell]; exact h.f j⟩
theorem Dec.setT {b : Nat} {C : Nat → Nat} {nd : Nat} {dp : Int} {tr : Bool} {w : World} (h : Dec b C nd dp tr w) (x : Bool) : Dec b C nd dp x (w.setCell ⟨b, 803, none⟩ (.bool x)) :=
  ⟨fun j hj => (set_otherG (by omega)).trans (h.c j hj), h.lt, (set_otherG (by omega)).trans h.n, (set_otherG (by omega)).trans h.p, (set_otherG (by omega)).trans h.g, set_sameG h.t, fun j => by rw [World.frozen?_setCell]; exact h.f j⟩
theorem Dec.drew {b : Nat} {C : Nat → Nat} {nd : Nat} {dp : Int} {tr : Bool} {w : World} (h : Dec b C nd dp tr w) (n : Nat) : Dec b C nd dp tr (w.drewN n) :=
  ⟨h.c, h.lt, h.n, h.p, h.g, h.t, h.f⟩
/-- what the decimal's digits are, trimmed -/
structure DecD (C : Nat → Nat) (nd : Nat) : Prop where
  pos : 1 ≤ nd
  le : nd ≤ 800
  dig : DigOK C nd
  hd : 49 ≤ C 0
theorem c_trim (b : Nat) (C : Nat → Nat) (nd : Nat) (dp : Int) (tr : Bool) (h0 : 1 ≤ nd) (h1 : nd ≤ 800) (hC : C 0 ≠ 48) (w : World) (h : Dec b C nd dp tr w) :
    Calls Tryz.prog 194 #[.pointer (some ⟨b, 0, none⟩)] w fun r w' => r = .returned (.tuple #[]) ∧ ∃ n, 1 ≤ n ∧ n ≤ nd ∧ C (n - 1) ≠ 48 ∧ (∀ i, n ≤ i → i < nd → C i = 48) ∧ Dec b C n dp tr w' ∧ Below b w w' := by
  have hC := Lib.hid hC
  have h := Lib.hid h
  have h0 := Lib.hid h0
  go_enter Tryz.func194, Tryz.ntmps194
  go_wp2
  go_loopg [] nd (fun g wr => ∃ n : Nat, n = g ∧ 1 ≤ n ∧ n ≤ nd ∧ (∀ i, n ≤ i → i < nd → C i = 48) ∧ Dec b C n dp tr wr ∧ Below b w wr)
  case atStart => exact ⟨nd, rfl, h0.out, Nat.le_refl _, fun i a c => by omega, h.out, Below.refl _ _⟩
  case round =>
    obtain ⟨n, rfl, n1, n2, hz, hD, hb⟩ := hrel
    have cN := hD.n
    have cN1 := hD.c (n - 1) (by omega)
    have fN := hD.f 800
    have hI : 0 < n := by omega
    by_cases hz0 : C (n - 1) = 48
    · have n3 : 2 ≤ n := by
        rcases Nat.lt_or_ge n 2 with hn | hn
        · exfalso
          have : n - 1 = 0 := by omega
          rw [this] at hz0
          exact hC.out hz0
        · exact hn
      have q0 : (((C (n - 1) : Nat) : Int) == 48) = true := by simp; omega
      have e1 : (n : Int) - 1 = ((n - 1 : Nat) : Int) := by omega
      go_wp2_with fail
      go_quiet (fail)
      have hD2 := hD.drew nq
      have hb2 := below_drewG hb nq
      clear cN cN1 fN hD hb
      generalize wr.drewN nq = wr2 at *
      have cN := hD2.n
      have fN := hD2.f 800
      have hS := hD2.setN (n - 1)
      have hB := hb2.setCell (p := ⟨b, 800, none⟩) (Nat.le_refl _) (.int .i64 ((n - 1 : Nat) : Int))
      replace hD2 := Lib.hid hD2
      replace hb2 := Lib.hid hb2
      go_wp2_with fail
      go_roundg (n - 1)
      case measure => omega
      case rel =>
        refine ⟨n - 1, rfl, by omega, by omega, fun i a c => ?_, hS, hB⟩
        rcases Nat.lt_or_ge i n with hin | hin
        · rw [show i = n - 1 by omega]; exact hz0
        · exact hz i hin c
    · have q0 : (((C (n - 1) : Nat) : Int) == 48) = false := by simp; omega
      have e1 : (n : Int) - 1 = ((n - 1 : Nat) : Int) := by omega
      go_wp2_with fail
      go_quiet (fail)
      have hD2 := hD.drew nq
      have hb2 := below_drewG hb nq
      clear cN cN1 fN hD hb
      generalize wr.drewN nq = wr2 at *
      have cN := hD2.n
      have q1 : ((n : Int) == 0) = false := by simp; omega
      go_wp2_with fail
      go_end0
      exact ⟨rfl, n, n1, n2, hz0, hz, hD2, hb2⟩
/-- whether the digits, as a fraction, are below another one's: from the place i on -/
def preLt (C : Nat → Nat) (nd : Nat) : List Nat → Nat → Bool
  | [], _ => false
  | x :: xs, i => if nd ≤ i then true else if C i = x then preLt C nd xs (i + 1) else decide (C i < x)
theorem c_prefixLt (b : Nat) (C : Nat → Nat) (nd : Nat) (dp : Int) (tr : Bool) (L : List Nat) (S : ByteArray) (h1 : nd ≤ 800) (hS : S.size = L.length) (hl : L.length ≤ 1000) (hL : ∀ c ∈ L, c < 256)
    (hget0 : ∀ (j c : Nat), L[j]? = some c → ∀ h : j < S.size, (S[j]'h).toNat = c) (w : World) (h : Dec b C nd dp tr w) :
    Calls Tryz.prog 215 #[.slice (some ⟨b, 0, none⟩) nd 800, .string S] w fun r w' => r = .returned (.bool (preLt C nd L 0)) ∧ ∃ n, w' = w.drewN n := by
  have h := Lib.hid h
  have hget := Lib.hid hget0
  have hL := Lib.hid hL
  have hS := Lib.hid hS
  clear hget0
  go_enter Tryz.func215, Tryz.ntmps215
  go_wp2
  go_loopg [4, 5] L.length (fun g v4 v5 wr => ∃ i : Nat, i + g = L.length ∧ v4 = .bool false ∧ v5 = .int .i64 (i : Int) ∧ preLt C nd L 0 = preLt C nd (L.drop i) i ∧ ∃ n, wr = w.drewN n)
  case atStart => exact ⟨0, by omega, rfl, rfl, rfl, 0, rfl⟩
  case round =>
    obtain ⟨i, hi, rfl, rfl, hp, n0, rfl⟩ := hrel
    have hi := Lib.hid hi
    have hp := Lib.hid hp
    by_cases hlt : i < L.length
    · obtain ⟨x, hx⟩ : ∃ x, L[i]? = some x := ⟨L[i], List.getElem?_eq_getElem hlt⟩
      have hdr : L.drop i = x :: L.drop (i + 1) := by
        rw [List.drop_eq_getElem_cons hlt]
        congr 1
        exact Option.some.inj ((List.getElem?_eq_getElem hlt).symm.trans hx)
      have hstep : Hid (preLt C nd (L.drop i) i = if nd ≤ i then true else if C i = x then preLt C nd (L.drop (i + 1)) (i + 1) else decide (C i < x)) := by
        show _ = _
        rw [hdr, preLt]
      have hx256 := hL.out x (List.mem_of_getElem? hx)
      have hiS : i < S.size := by have := hS.out; omega
      have hg := hget.out i x hx hiS
      have q0 : (i : Int) < (S.size : Int) := by omega
      clear hdr hx
      by_cases hnd : nd ≤ i
      · have q1 : (nd : Int) ≤ (i : Int) := by omega
        have hfin : preLt C nd L 0 = true := by rw [hp.out, hstep.out, if_pos hnd]
        replace hfin := Lib.hid hfin
        clear hstep hx256
        go_wp2_with fail
        go_ret
        exact ⟨by rw [hfin.out]; rfl, n0, rfl⟩
      · have q1 : ¬ (nd : Int) ≤ (i : Int) := by omega
        have hD := h.out.drew n0
        generalize hwd : w.drewN n0 = wd at *
        replace hwd := Lib.hid hwd
        have cC := hD.c i (by omega)
        have hCl := hD.lt i (by omega)
        by_cases he : C i = x
        · have hfin : preLt C nd L 0 = preLt C nd (L.drop (i + 1)) (i + 1) := by rw [hp.out, hstep.out, if_neg hnd, if_pos he]
          replace hfin := Lib.hid hfin
          have q2 : (((C i : Nat) : Int) == ((x : Nat) : Int)) = true := by simp; omega
          have q3 : (((C i : Nat) : Int) != ((x : Nat) : Int)) = false := by simp; omega
          clear hstep
          go_wp2_with fail
          go_quiet (fail)
          go_wp2_with fail
          have hi := hi.out
          go_roundg (gk - 1)
          case measure => omega
          case rel => exact ⟨i + 1, by omega, rfl, by go_num, hfin.out, n0 + nq, by rw [← hwd.out, World.drewN_drewN]⟩
        · have hfin : preLt C nd L 0 = decide (C i < x) := by rw [hp.out, hstep.out, if_neg hnd, if_neg he]
          replace hfin := Lib.hid hfin
          have q2 : (((C i : Nat) : Int) == ((x : Nat) : Int)) = false := by simp; omega
          have q3 : (((C i : Nat) : Int) != ((x : Nat) : Int)) = true := by simp; omega
          clear hstep
          go_wp2_with fail
          go_quiet (fail)
          have cC2 : (wd.drewN nq).cell? ⟨b, i, none⟩ = some (.int .u8 (C i : Int)) := cC
          replace cC := Lib.hid cC
          generalize hwe : wd.drewN nq = we at *
          replace hwe := Lib.hid (show ∃ n, wd.drewN n = we from ⟨_, hwe⟩)
          go_wp2_with fail
          go_quiet (fail)
          go_wp2_with fail
          go_ret
          obtain ⟨n1, hn1⟩ := hwe.out
          exact ⟨by rw [hfin.out]; rfl, n0 + (n1 + nq), by rw [← hn1, ← hwd.out, World.drewN_drewN, World.drewN_drewN]⟩
    · have hfin : preLt C nd L 0 = false := by
        rw [hp.out, List.drop_of_length_le (by omega), preLt]
      replace hfin := Lib.hid hfin
      have q0 : ¬ (i : Int) < (S.size : Int) := by have := hS.out; omega
      go_wp2_with fail
      go_ret
      exact ⟨by first | (rw [hfin.out]; rfl) | (rw [← hp.out, hfin.out]; rfl), n0, rfl⟩
/-- a list's digits as a number -/
def numL (l : List Nat) : Nat := l.foldl (fun e c => e * 10 + (c - 48)) 0
theorem foldl_num (l : List Nat) : ∀ e : Nat, l.foldl (fun e c => e * 10 + (c - 48)) e = e * 10 ^ l.length + numL l := by
  unfold numL
  induction l with
  | nil => intro e; simp
  | cons x xs ih =>
    intro e
    rw [List.foldl_cons, List.foldl_cons, ih, ih (0 * 10 + (x - 48)), List.length_cons, Nat.pow_succ]
    rw [Nat.zero_mul, Nat.zero_add, Nat.add_mul, Nat.mul_comm (10 ^ xs.length) 10, Nat.mul_assoc]
    omega
theorem numL_cons (x : Nat) (xs : List Nat) : numL (x :: xs) = (x - 48) * 10 ^ xs.length + numL xs := by
  show xs.foldl _ (0 * 10 + (x - 48)) = _
  rw [foldl_num, Nat.zero_mul, Nat.zero_add]
theorem numL_lt : ∀ {l : List Nat}, (∀ c ∈ l, 48 ≤ c ∧ c ≤ 57) → numL l < 10 ^ l.length
  | [], _ => by decide
  | x :: xs, h => by
    have ih := numL_lt (l := xs) (fun c hc => h c (List.mem_cons_of_mem _ hc))
    have hx := h x (List.mem_cons_self ..)
    rw [numL_cons, List.length_cons, Nat.pow_succ]
    have := Nat.mul_le_mul_right (10 ^ xs.length) (show x - 48 ≤ 9 by omega)
    omega
theorem numL_pos : ∀ {l : List Nat} (h : l ≠ []), l.getLast h ≠ 48 → (∀ c ∈ l, 48 ≤ c ∧ c ≤ 57) → 0 < numL l
  | [], h, _, _ => absurd rfl h
  | [x], _, hl, hd => by
    have := hd x (List.mem_cons_self ..)
    rw [numL_cons]
    simp at hl
    simp [numL]
    omega
  | x :: y :: r, _, hl, hd => by
    have ih := numL_pos (l := y :: r) (by simp) (by rw [List.getLast_cons (by simp)] at hl; exact hl) (fun c hc => hd c (List.mem_cons_of_mem _ hc))
    rw [numL_cons]
    omega
theorem numF_cons (C : Nat → Nat) (i : Nat) : ∀ m : Nat, numF (fun k => C (i + k)) (m + 1) = (C i - 48) * 10 ^ m + numF (fun k => C (i + 1 + k)) m
  | 0 => by simp [numF_succ, numF_zero]
  | m + 1 => by
    rw [numF_succ, numF_cons C i m, numF_succ, Nat.pow_succ, Nat.add_mul, Nat.mul_assoc, show i + (m + 1) = i + 1 + m by omega]
    omega
theorem preLt_num (C : Nat → Nat) (nd : Nat) (hC : DigOK C nd) : ∀ (L : List Nat) (i : Nat), (∀ c ∈ L, 48 ≤ c ∧ c ≤ 57) → (∀ h : L ≠ [], L.getLast h ≠ 48) → i ≤ nd →
    (preLt C nd L i = true ↔ numF (fun k => C (i + k)) (nd - i) * 10 ^ L.length < numL L * 10 ^ (nd - i))
  | [], i, _, _, _ => by simp [preLt, numL]
  | x :: xs, i, hL, hz, hi => by
    unfold preLt
    by_cases h : nd ≤ i
    · rw [if_pos h, show nd - i = 0 by omega, numF_zero, Nat.zero_mul, Nat.pow_zero, Nat.mul_one]
      have := numL_pos (l := x :: xs) (by simp) (hz (by simp)) hL
      simp [this]
    · rw [if_neg h]
      obtain ⟨m, hm⟩ : ∃ m, nd - i = m + 1 := ⟨nd - i - 1, by omega⟩
      have ih := preLt_num C nd hC xs (i + 1) (fun c hc => hL c (List.mem_cons_of_mem _ hc)) (fun h2 => by have := hz (by simp); rwa [List.getLast_cons h2] at this) (by omega)
      rw [show nd - (i + 1) = m by omega] at ih
      rw [hm, numF_cons, numL_cons, List.length_cons]
      have hd : numF (fun k => C (i + 1 + k)) m < 10 ^ m := numF_lt fun k hk => hC (i + 1 + k) (by omega)
      have he := numL_lt (l := xs) (fun c hc => hL c (List.mem_cons_of_mem _ hc))
      have hc := hC i (by omega)
      have hx := hL x (List.mem_cons_self ..)
      generalize numF (fun k => C (i + 1 + k)) m = d at *
      generalize numL xs = e at *
      have hpm : 0 < 10 ^ m := Nat.pow_pos (by decide)
      have hpq : 0 < 10 ^ xs.length := Nat.pow_pos (by decide)
      rw [Nat.pow_succ, Nat.pow_succ]
      generalize 10 ^ m = M at *
      generalize 10 ^ xs.length = Q at *
      have e1 : ((C i - 48) * M + d) * (Q * 10) = 10 * ((C i - 48) * (M * Q) + d * Q) := by
        rw [Nat.add_mul, Nat.mul_add]
        congr 1
        · ac_rfl
        · ac_rfl
      have e2 : ((x - 48) * Q + e) * (M * 10) = 10 * ((x - 48) * (M * Q) + e * M) := by
        rw [Nat.add_mul, Nat.mul_add]
        congr 1
        · ac_rfl
        · ac_rfl
      have b1 : d * Q < M * Q := Nat.mul_lt_mul_of_pos_right hd hpq
      have b2 : e * M < M * Q := by rw [Nat.mul_comm M Q]; exact Nat.mul_lt_mul_of_pos_right he hpm
      rw [e1, e2]
      generalize M * Q = W at *
      by_cases hcx : C i = x
      · rw [if_pos hcx, ih, hcx]
        omega
      · rw [if_neg hcx]
        simp only [decide_eq_true_eq]
        rcases Nat.lt_or_ge (C i) x with g | g
        · have := Nat.mul_le_mul_right W (show C i - 48 + 1 ≤ x - 48 by omega)
          rw [Nat.add_mul, Nat.one_mul] at this
          constructor
          · intro _; omega
          · intro _; exact g
        · have := Nat.mul_le_mul_right W (show x - 48 + 1 ≤ C i - 48 by omega)
          rw [Nat.add_mul, Nat.one_mul] at this
          constructor
          · intro _; omega
          · intro _; omega
end Go.Proofs.YtbakbikilbaafaaGreatDoor
namespace Go.Proofs.YtbakbikilbaafaaGreatDoor
open Go.RowKit F64 Ieee
set_option linter.unusedVariables false
set_option maxHeartbeats 4000000
set_option maxRecDepth 100000

/-- noughts behind the digits -/
def ext (C : Nat → Nat) (nd : Nat) : Nat → Nat := fun i => if i < nd then C i else 48
theorem ext_lt (C : Nat → Nat) {nd i : Nat} (h : i < nd) : ext C nd i = C i := if_pos h
theorem ext_ge (C : Nat → Nat) {nd i : Nat} (h : nd ≤ i) : ext C nd i = 48 := if_neg (by omega)
theorem ext_dig {C : Nat → Nat} {nd : Nat} (h : DigOK C nd) (i : Nat) : 48 ≤ ext C nd i ∧ ext C nd i ≤ 57 := by
  rcases Nat.lt_or_ge i nd with g | g
  · rw [ext_lt C g]; exact h i g
  · rw [ext_ge C g]; decide
theorem ext_num (C : Nat → Nat) (nd : Nat) : numF (ext C nd) nd = numF C nd := numF_congr fun i hi => ext_lt C hi
theorem ext_more (C : Nat → Nat) (nd : Nat) : ∀ m : Nat, numF (ext C nd) (nd + m) = numF C nd * 10 ^ m
  | 0 => by rw [Nat.add_zero, ext_num]; simp
  | m + 1 => by
    rw [show nd + (m + 1) = (nd + m) + 1 by omega, numF_succ, ext_more C nd m, ext_ge C (by omega), Nat.pow_succ]
    rw [Nat.sub_self, Nat.add_zero, Nat.mul_assoc]
theorem ext_le (C : Nat → Nat) {nd r : Nat} (h : r ≤ nd) : numF (ext C nd) r = numF C r := numF_congr fun i hi => ext_lt C (by omega)
/-- how far the digits of a number over M are told: v digits O, n left -/
structure RsI (C0 : Nat → Nat) (nd M r0 : Nat) (tr : Bool) (v n : Nat) (C' : Nat → Nat) (w : Nat) (tr' : Bool) (O : Nat) : Prop where
  eq : O * (10 * M) + n = numF (ext C0 nd) (r0 + v)
  lt : n < 10 * M
  wv : w = min v 800
  num : numF C' w = O / 10 ^ (v - w)
  t : tr' = (tr || decide (O % 10 ^ (v - w) ≠ 0))
  dig : DigOK C' w
  hd : (v = 0 ∧ M ≤ n) ∨ (1 ≤ v ∧ 49 ≤ C' 0)
theorem RsI.start {C0 : Nat → Nat} {nd M r0 n : Nat} {tr : Bool} (C' : Nat → Nat) (he : n = numF (ext C0 nd) r0) (h1 : M ≤ n) (h2 : n < 10 * M) : RsI C0 nd M r0 tr 0 n C' 0 tr 0 :=
  ⟨by rw [he, Nat.add_zero, Nat.zero_mul, Nat.zero_add], h2, rfl, by simp [numF], by simp, fun i hi => by omega, .inl ⟨rfl, h1⟩⟩
theorem rs_arith {O M n c : Nat} (hM : 0 < M) : (O * 10 + n / M) * (10 * M) + (n % M * 10 + c) = (O * (10 * M) + n) * 10 + c := by
  have h := Nat.div_add_mod n M
  generalize n / M = q at *
  generalize n % M = z at *
  have e1 : (O * 10 + q) * (10 * M) = O * (10 * M) * 10 + M * q * 10 := by
    rw [Nat.add_mul]
    congr 1
    · ac_rfl
    · ac_rfl
  rw [e1, Nat.add_mul]
  omega
theorem div_10 (O d z : Nat) (hd : d < 10) (hz : 0 < z) : (O * 10 + d) / (z * 10) = O / z := by
  rw [Nat.mul_comm z 10, ← Nat.div_div_eq_div_mul]
  congr 1
  omega
theorem mod_10 (O d z : Nat) (hd : d < 10) (hz : 0 < z) : (O * 10 + d) % (z * 10) = O % z * 10 + d := by
  have h1 := Nat.div_add_mod O z
  have h2 := Nat.div_add_mod (O * 10 + d) (z * 10)
  rw [div_10 O d z hd hz] at h2
  have e : z * 10 * (O / z) = z * (O / z) * 10 := by ac_rfl
  rw [e] at h2
  omega
theorem RsI.stepA {C0 C' : Nat → Nat} {nd M r0 v n w O c : Nat} {tr tr' : Bool} (h : RsI C0 nd M r0 tr v n C' w tr' O) (hM : 0 < M) (hw : w < 800) (hc : ext C0 nd (r0 + v) = c) (hc1 : 48 ≤ c ∧ c ≤ 57) :
    RsI C0 nd M r0 tr (v + 1) (n % M * 10 + (c - 48)) (upd C' w (n / M + 48)) (w + 1) tr' (O * 10 + n / M) ∧ n / M < 10 ∧ n % M < M := by
  obtain ⟨h1, h2, h3, h4, h5, h6, h7⟩ := h
  have hv : v < 800 := by omega
  have hwv : w = v := by omega
  have hd : n / M < 10 := by rw [Nat.div_lt_iff_lt_mul hM]; omega
  have hm := Nat.mod_lt n hM
  refine ⟨⟨?_, by omega, by omega, ?_, ?_, ?_, .inr ⟨by omega, ?_⟩⟩, hd, hm⟩
  · rw [rs_arith hM, h1, ← Nat.add_assoc, numF_succ, hc]
  · rw [show v + 1 - (w + 1) = 0 by omega, Nat.pow_zero, Nat.div_one, numF_succ, upd_same]
    rw [show v - w = 0 by omega, Nat.pow_zero, Nat.div_one] at h4
    rw [numF_congr (C' := C') (fun i hi => upd_other C' _ (by omega)), h4]
    generalize n / M = q at *
    omega
  · rw [show v + 1 - (w + 1) = 0 by omega, Nat.pow_zero, Nat.mod_one]
    rw [show v - w = 0 by omega, Nat.pow_zero, Nat.mod_one] at h5
    exact h5
  · intro i hi
    rcases Nat.lt_or_ge i w with g | g
    · rw [upd_other C' _ (by omega)]; exact h6 i g
    · rw [show i = w by omega, upd_same]; generalize n / M = q at *; omega
  · rcases Nat.eq_zero_or_pos w with g | g
    · rcases h7 with ⟨_, h7⟩ | ⟨h7, _⟩
      · rw [g, upd_same]
        have := (Nat.le_div_iff_mul_le (x := 1) (y := n) hM).2 (by omega)
        omega
      · omega
    · rw [upd_other C' _ (by omega)]
      rcases h7 with ⟨h7, _⟩ | ⟨_, h7⟩
      · omega
      · exact h7
theorem RsI.stepB {C0 C' : Nat → Nat} {nd M r0 v n w O c : Nat} {tr tr' : Bool} (h : RsI C0 nd M r0 tr v n C' w tr' O) (hM : 0 < M) (hw : ¬ w < 800) (hc : ext C0 nd (r0 + v) = c) (hc1 : 48 ≤ c ∧ c ≤ 57) :
    RsI C0 nd M r0 tr (v + 1) (n % M * 10 + (c - 48)) C' w (tr' || decide (0 < n / M)) (O * 10 + n / M) ∧ n / M < 10 ∧ n % M < M := by
  obtain ⟨h1, h2, h3, h4, h5, h6, h7⟩ := h
  have hv : 800 ≤ v := by omega
  have hwv : w = 800 := by omega
  subst hwv
  have hd : n / M < 10 := by rw [Nat.div_lt_iff_lt_mul hM]; omega
  have hm := Nat.mod_lt n hM
  have hz : 0 < 10 ^ (v - 800) := Nat.pow_pos (by decide)
  have hp : 10 ^ (v + 1 - 800) = 10 ^ (v - 800) * 10 := by rw [show v + 1 - 800 = (v - 800) + 1 by omega, Nat.pow_succ]
  refine ⟨⟨?_, by omega, by omega, ?_, ?_, h6, .inr ⟨by omega, ?_⟩⟩, hd, hm⟩
  · rw [rs_arith hM, h1, ← Nat.add_assoc, numF_succ, hc]
  · rw [hp, div_10 _ _ _ hd hz]; exact h4
  · rw [hp, mod_10 _ _ _ hd hz, h5]
    generalize O % 10 ^ (v - 800) = a
    generalize n / M = q
    rw [Bool.or_assoc]
    congr 1
    rw [← Bool.decide_or]
    apply decide_eq_decide.2
    omega
  · rcases h7 with ⟨h7, _⟩ | ⟨_, h7⟩
    · omega
    · exact h7
/-- the scale of a decimal -/
def tOf (C : Nat → Nat) (nd : Nat) (dp : Int) : Nat := numF C nd * 10 ^ (dp - (nd : Int) + 1300).toNat
theorem tOf_ge {C : Nat → Nat} {nd : Nat} {dp : Int} (h0 : 1 ≤ nd) (h1 : 49 ≤ C 0) (hd : -500 ≤ dp) (hn : nd ≤ 800) : 10 ^ ((dp + 500).toNat + 799) ≤ tOf C nd dp := by
  obtain ⟨m, rfl⟩ : ∃ m, nd = m + 1 := ⟨nd - 1, by omega⟩
  have h := numF_ge h1 m
  unfold tOf
  have := Nat.mul_le_mul_right (10 ^ (dp - ((m + 1 : Nat) : Int) + 1300).toNat) h
  rw [← Nat.pow_add] at this
  rw [show (dp + 500).toNat + 799 = m + (dp - ((m + 1 : Nat) : Int) + 1300).toNat by omega]
  exact this
theorem tOf_lt {C : Nat → Nat} {nd : Nat} {dp : Int} (h1 : DigOK C nd) (hd : -500 ≤ dp) (hn : nd ≤ 800) : tOf C nd dp < 10 ^ (dp + 1300).toNat := by
  have h := numF_lt h1
  unfold tOf
  have := Nat.mul_lt_mul_of_pos_right h (Nat.pow_pos (n := (dp - (nd : Int) + 1300).toNat) (a := 10) (by decide))
  rw [← Nat.pow_add] at this
  rw [show (dp + 1300).toNat = nd + (dp - (nd : Int) + 1300).toNat by omega]
  exact this
/-- noughts behind tell nothing -/
theorem tOf_trim {C : Nat → Nat} {n nd : Nat} {dp : Int} (h : n ≤ nd) (hz : ∀ i, n ≤ i → i < nd → C i = 48) (hd : -500 ≤ dp) (hn : nd ≤ 800) : tOf C n dp = tOf C nd dp := by
  obtain ⟨m, rfl⟩ : ∃ m, nd = n + m := ⟨nd - n, by omega⟩
  have e : numF C (n + m) = numF C n * 10 ^ m := by
    rw [← ext_more C n m]
    refine numF_congr fun i hi => ?_
    rcases Nat.lt_or_ge i n with g | g
    · rw [ext_lt C g]
    · rw [ext_ge C g, hz i g hi]
  unfold tOf
  rw [e, Nat.mul_assoc, ← Nat.pow_add]
  congr 2
  omega
theorem RsI.fin {C0 C' : Nat → Nat} {nd k r0 v w O : Nat} {tr tr' : Bool} {dp : Int} (h : RsI C0 nd (2 ^ k) r0 tr v 0 C' w tr' O) (hr : 1 ≤ r0) (hv : nd ≤ r0 + v) (h1 : 1 ≤ v) (hnd : 1 ≤ nd ∧ nd ≤ 800) (hd : -300 ≤ dp) (hd2 : dp ≤ 700) (hr2 : r0 ≤ 100) (hv2 : v ≤ 870) :
    1 ≤ w ∧ w ≤ 800 ∧ 49 ≤ C' 0 ∧ DigOK C' w ∧
      tOf C' w (dp - ((r0 : Int) - 1)) = tOf C0 nd dp / (2 ^ k * 10 ^ (dp - ((r0 : Int) - 1) + 500).toNat) * 10 ^ (dp - ((r0 : Int) - 1) + 500).toNat ∧
      tr' = (tr || decide (tOf C' w (dp - ((r0 : Int) - 1)) * 2 ^ k ≠ tOf C0 nd dp)) := by
  obtain ⟨e1, e2, e3, e4, e5, e6, e7⟩ := h
  have hK : 0 < 2 ^ k := Nat.two_pow_pos k
  have h49 : 49 ≤ C' 0 := by
    rcases e7 with ⟨a, _⟩ | ⟨_, a⟩
    · omega
    · exact a
  obtain ⟨m, hm⟩ : ∃ m, r0 + v = nd + m := ⟨r0 + v - nd, by omega⟩
  rw [Nat.add_zero, hm, ext_more] at e1
  obtain ⟨A, hA⟩ : ∃ A, (dp - ((r0 : Int) - 1) + 500).toNat = A := ⟨_, rfl⟩
  rw [hA]
  have hT : tOf C' w (dp - ((r0 : Int) - 1)) = O / 10 ^ (v - w) * 10 ^ (800 - w) * 10 ^ A := by
    unfold tOf
    rw [e4, Nat.mul_assoc, ← Nat.pow_add]
    congr 2
    omega
  have hT0 : tOf C0 nd dp * 10 ^ (v - w) = O * 10 ^ (800 - w) * (2 ^ k * 10 ^ A) := by
    have key : numF C0 nd * 10 ^ (dp - (nd : Int) + 1300).toNat * 10 ^ (v - w) * 10 = numF C0 nd * 10 ^ m * (10 ^ (800 - w) * 10 ^ A) := by
      rw [Nat.mul_assoc, Nat.mul_assoc, Nat.mul_assoc (numF C0 nd) (10 ^ m), ← Nat.pow_add, ← Nat.pow_succ, ← Nat.pow_add, ← Nat.pow_add]
      congr 2
      omega
    unfold tOf
    refine Nat.eq_of_mul_eq_mul_right (show 0 < 10 by decide) ?_
    rw [key, ← e1]
    ac_rfl
  have hz : 0 < 10 ^ (v - w) := Nat.pow_pos (by decide)
  have hy : 0 < 2 ^ k * 10 ^ A := Nat.mul_pos hK (Nat.pow_pos (by decide))
  have hA0 : 0 < 10 ^ A := Nat.pow_pos (by decide)
  have hcase : 10 ^ (v - w) = 1 ∨ 10 ^ (800 - w) = 1 := by
    rcases Nat.lt_or_ge v 800 with g | g
    · left; rw [show v - w = 0 by omega, Nat.pow_zero]
    · right; rw [show 800 - w = 0 by omega, Nat.pow_zero]
  refine ⟨by omega, by omega, h49, e6, ?_, ?_⟩
  · rw [hT]
    congr 1
    generalize 10 ^ (v - w) = z at *
    generalize 10 ^ (800 - w) = y at *
    generalize tOf C0 nd dp = T at *
    generalize 2 ^ k * 10 ^ A = Y at *
    rcases hcase with rfl | rfl
    · rw [Nat.div_one, Nat.mul_one] at *
      rw [hT0, Nat.mul_div_cancel _ hy]
    · rw [Nat.mul_one] at *
      rw [← Nat.mul_div_mul_right T Y hz, hT0, Nat.mul_comm Y z, Nat.mul_div_mul_right O z hy]
  · rw [hT, e5]
    congr 1
    apply decide_eq_decide.2
    have eY : O / 10 ^ (v - w) * 10 ^ (800 - w) * 10 ^ A * 2 ^ k = O / 10 ^ (v - w) * 10 ^ (800 - w) * (2 ^ k * 10 ^ A) := by ac_rfl
    rw [eY]
    generalize 10 ^ (v - w) = z at *
    generalize 10 ^ (800 - w) = y at *
    generalize tOf C0 nd dp = T at *
    generalize 2 ^ k * 10 ^ A = Y at *
    have hdm := Nat.div_add_mod O z
    refine not_congr ⟨fun h => ?_, fun h => ?_⟩
    · refine Nat.eq_of_mul_eq_mul_right hz ?_
      rw [hT0]
      have hO : O = O / z * z := by rw [h, Nat.add_zero] at hdm; rw [Nat.mul_comm]; exact hdm.symm
      calc O / z * y * Y * z = O / z * z * y * Y := by ac_rfl
        _ = O * y * Y := by rw [← hO]
    · rw [← h] at hT0
      rcases hcase with rfl | rfl
      · exact Nat.mod_one O
      · have h2 : O / z * z * Y = O * Y := by
          calc O / z * z * Y = O / z * 1 * Y * z := by rw [Nat.mul_one]; ac_rfl
            _ = O * 1 * Y := hT0
            _ = O * Y := by rw [Nat.mul_one]
        have h3 := Nat.eq_of_mul_eq_mul_right hy h2
        rw [Nat.mul_comm] at h3
        omega
end Go.Proofs.YtbakbikilbaafaaGreatDoor
