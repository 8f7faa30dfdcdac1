/-
  The contract of the library's shortFloat at whole numbers below 2^32.
-/
import Derived.Test.YtbodfdmmfaampaaGreatDoorD4
namespace Go.Proofs.YtbodfdmmfaampaaGreatDoor
open Go.RowKit
set_option maxHeartbeats 1000000
set_option maxRecDepth 100000

/-- the table of powers of ten, where it is exact -/
def Pows (w : World) : Prop := ∀ p : Nat, 7 ≤ p → p ≤ 17 → w.cell? ⟨5, (p + 348) * 2, none⟩ = some (.int .u64 ((10 ^ p * 2 ^ (63 - (l2 p).toNat) : Nat) : Int)) ∧ w.cell? ⟨5, (p + 348) * 2 + 1, none⟩ = some (.int .u64 0)
theorem lt_of_cell {w : World} {a : Addr} {u : Value} (h : w.cell? a = some u) : a.block < w.heap.size := by
  rcases Nat.lt_or_ge a.block w.heap.size with h1 | h1
  · exact h1
  · unfold World.cell? at h
    rw [Array.getElem?_eq_none h1] at h
    simp at h
theorem and1_even (m : Nat) (h : m < 9223372036854775808) (h2 : m % 2 = 0) : bits BinOp.and IntKind.i64 (m : Int) 1 = 0 := by
  have h0 : (BitVec.ofInt 64 (m : Int)) = BitVec.ofNat 64 m := by
    apply BitVec.eq_of_toNat_eq
    simp
  have key : (BitVec.ofInt 64 (m : Int) &&& BitVec.ofInt 64 1).toNat = 0 := by
    rw [h0, BitVec.toNat_and]
    have e1 : (BitVec.ofNat 64 m).toNat = m := by simp; omega
    have e2 : (BitVec.ofInt 64 1).toNat = 1 := by decide
    rw [e1, e2, Nat.and_one_is_mod]; exact h2
  show IntKind.i64.wrap ((BitVec.ofInt 64 (m : Int) &&& BitVec.ofInt 64 1).toNat : Nat) = _
  rw [key]; rfl
/-- a scaler lies in block b; below it nothing has turned since w -/
def Sc (b ph s : Nat) (w w' : World) : Prop := w'.cell? ⟨b, 0, none⟩ = some (.int .u64 (ph : Int)) ∧ w'.cell? ⟨b, 1, none⟩ = some (.int .u64 0) ∧ w'.cell? ⟨b, 2, none⟩ = some (.int .i64 (s : Int)) ∧ Below b w w'
theorem below_drewN {B : Nat} {a w : World} (h : Below B a w) (n : Nat) : Below B a (w.drewN n) := ⟨h.os, h.tape, h.output, h.size, h.block⟩
theorem set_other {w : World} {b i j : Nat} {v : Value} (h : i ≠ j) : (w.setCell ⟨b, i, none⟩ v).cell? ⟨b, j, none⟩ = w.cell? ⟨b, j, none⟩ :=
  World.cell?_setCell_other w _ _ v (fun e => h (by injection e))
theorem set_same {w : World} {b i : Nat} {u v : Value} (h : w.cell? ⟨b, i, none⟩ = some u) : (w.setCell ⟨b, i, none⟩ v).cell? ⟨b, i, none⟩ = some v :=
  World.cell?_setCell_same w _ v h
theorem c_prescale (b ph s p lp : Nat) (e : Int) (h2 : p ≤ 347) (h3 : -2000 ≤ e) (h4 : e ≤ 2000) (h6 : lp ≤ 2000) (hs : -(e + lp + 3) = (s : Int)) (w W : World) (hW : Below b w W)
    (c0 : W.cell? ⟨b, 0, none⟩ = some (.int .u64 0)) (c1 : W.cell? ⟨b, 1, none⟩ = some (.int .u64 0)) (c2 : W.cell? ⟨b, 2, none⟩ = some (.int .i64 0))
    (f0 : W.frozen? ⟨b, 0, none⟩ = false) (f1 : W.frozen? ⟨b, 1, none⟩ = false) (f2 : W.frozen? ⟨b, 2, none⟩ = false)
    (t0 : W.cell? ⟨5, (p + 348) * 2, none⟩ = some (.int .u64 (ph : Int))) (t1 : W.cell? ⟨5, (p + 348) * 2 + 1, none⟩ = some (.int .u64 0)) :
    Calls Tryz.prog 95 #[.pointer (some ⟨b, 0, none⟩), .int .i64 e, .int .i64 (p : Int), .int .i64 (lp : Int)] W fun r w' => r = .returned (.tuple #[]) ∧ Sc b ph s w w' := by
  have e1 : ((p : Int) + 348).toNat = p + 348 := by omega
  refine (d_prescale b e (p : Int) (lp : Int) (ph : Int) 0 (by omega) (by omega) h3 h4 (by omega) (by omega) W c0 c1 c2 f0 f1 f2 (by rw [e1]; exact t0) (by rw [e1]; exact t1)).mono ?_
  rintro r w' ⟨rfl, rfl⟩
  rw [hs]
  refine ⟨rfl, ?_, ?_, ?_, ((hW.setCell (Nat.le_refl _) _).setCell (Nat.le_refl _) _).setCell (Nat.le_refl _) _⟩
  · exact (set_other (by decide)).trans ((set_other (by decide)).trans (set_same c0))
  · exact (set_other (by decide)).trans (set_same ((set_other (by decide)).trans c1))
  · exact set_same ((set_other (by decide)).trans ((set_other (by decide)).trans c2))
theorem c_uscale (x ph s b : Nat) (hx : x < 18446744073709551616) (hp : ph < 18446744073709551616) (hs : s < 64) (w W : World) (h : Sc b ph s w W) :
    Calls Tryz.prog 97 #[.int .u64 (x : Int), .pointer (some ⟨b, 0, none⟩)] W fun e w' => e = .returned (.int .u64 (usc x ph 0 s : Int)) ∧ Sc b ph s w w' := by
  obtain ⟨c0, c1, c2, hb⟩ := h
  refine (d_uscale x ph s b hx hp hs W c0 c1 c2).mono ?_
  rintro e w' ⟨rfl, nq, rfl⟩
  exact ⟨rfl, c0, c1, c2, below_drewN hb nq⟩
theorem d_short (i k : Nat) (hk : 1 ≤ k) (hk2 : k ≤ 32) (hi : i < 2 ^ k) (hi0 : 2 ^ (k - 1) ≤ i) (w : World) (hT : Pows w) :
    Calls Tryz.prog 84 #[.int .u64 ((i * 2 ^ (64 - k) : Nat) : Int), .int .i64 ((k : Int) - 64)] w fun e w' => ∃ q : Nat, e = .returned (.tuple #[.int .u64 ((i * 10 ^ q : Nat) : Int), .int .i64 (-(q : Int))]) ∧ q ≤ 16 ∧ i * 10 ^ q < 1000000000000000000 ∧ Below w.heap.size w w' := by
  have hmlt : i * 2 ^ (64 - k) + 1024 < 18446744073709551616 ∧ 9223372036854775808 ≤ i * 2 ^ (64 - k) := by
    have e1 : (2 : Nat) ^ 64 = 2 ^ k * 2 ^ (64 - k) := by rw [← Nat.pow_add]; congr 1; omega
    have e2 : (2 : Nat) ^ 63 = 2 ^ (k - 1) * 2 ^ (64 - k) := by rw [← Nat.pow_add]; congr 1; omega
    have h1 : (i + 1) * 2 ^ (64 - k) ≤ 2 ^ k * 2 ^ (64 - k) := Nat.mul_le_mul_right _ hi
    have h2 : 2 ^ (k - 1) * 2 ^ (64 - k) ≤ i * 2 ^ (64 - k) := Nat.mul_le_mul_right _ hi0
    have h3 : (2 : Nat) ^ 32 ≤ 2 ^ (64 - k) := Nat.pow_le_pow_right (by decide) (by omega)
    rw [Nat.add_mul] at h1
    have e3 : (2 : Nat) ^ 64 = 18446744073709551616 := by decide
    have e4 : (2 : Nat) ^ 63 = 9223372036854775808 := by decide
    have e5 : (2 : Nat) ^ 32 = 4294967296 := by decide
    omega
  obtain ⟨hm1, hm2⟩ := hmlt
  have hodd : i * 2 ^ (64 - k) / 2048 % 2 = 0 := by
    have : 2 ^ (64 - k) = 2 ^ (52 - k) * 4096 := by rw [show (4096 : Nat) = 2 ^ 12 from rfl, ← Nat.pow_add]; congr 1; omega
    rw [this, ← Nat.mul_assoc]; omega
  have hodd' := and1_even (i * 2 ^ (64 - k) / 2048) (by omega) hodd
  have hodd2 : bits BinOp.and IntKind.i64 (wrap64 (((i * 2 ^ (64 - k) : Nat) : Int) / 2048)) 1 = 0 := by
    have e : wrap64 (((i * 2 ^ (64 - k) : Nat) : Int) / 2048) = ((i * 2 ^ (64 - k) / 2048 : Nat) : Int) := by
      unfold wrap64; omega
    rw [e]; exact hodd'
  clear hodd'
  have hF := kFacts_all (decide (i * 2 ^ (64 - k) = 9223372036854775808)) k (by omega) hk
  have hpl := short_plain i k
  generalize i * 2 ^ (64 - k) = m at *
  unfold kFacts at hF
  generalize hb : decide (m = 9223372036854775808) = b at *
  generalize pOf b k = p at *
  simp only [Bool.and_eq_true, decide_eq_true_eq] at hF
  obtain ⟨⟨⟨⟨⟨⟨⟨g1, g2⟩, g3⟩, g4⟩, g5⟩, g6⟩, g7⟩, g8⟩ := hF
  obtain ⟨t0, t1⟩ := hT p g3 g4
  have h5 : 5 < w.heap.size := lt_of_cell t0
  generalize hlp : (l2 p).toNat = lp at *
  have hph : 10 ^ p * 2 ^ (63 - lp) < W64 := g8
  have hpl2 := fun mn mx => hpl p lp (61 - k - lp) (10 ^ p * 2 ^ (63 - lp)) mn mx hk hk2 g3 g5 g6 g7 rfl hph rfl
  clear hpl hT
  generalize 10 ^ p * 2 ^ (63 - lp) = ph at *
  have hq : i * 10 ^ (p - 1) < 1000000000000000000 := by
    have h1 : i * 10 ^ p < 2 ^ k * (10 * 2 ^ (54 - k)) := Nat.mul_lt_mul'' hi g7
    have e1 : 2 ^ k * (10 * 2 ^ (54 - k)) = 10 * 2 ^ 54 := by
      rw [Nat.mul_left_comm, ← Nat.pow_add]
      have : k + (54 - k) = 54 := by omega
      rw [this]
    have e2 : i * 10 ^ p = i * 10 ^ (p - 1) * 10 := by
      rw [Nat.mul_assoc, ← Nat.pow_succ]
      have : (p - 1).succ = p := by omega
      rw [this]
    have e3 : 10 * 2 ^ 54 = 180143985094819840 := by decide
    omega
  cases b with
  | true =>
    have hne : m = 9223372036854775808 := by simpa using hb
    obtain ⟨s1, s2, s3, s4⟩ := hpl2 (m - 512) (m + 1024) rfl (.inr rfl) (by rw [W64_eq]; omega)
    have n1 : ((m : Int) == 9223372036854775808) = true := by simp; omega
    have n2 : IntKind.u64.wrap ((m : Int) - 512) = ((m - 512 : Nat) : Int) := by rw [IntKind.wrap_u64]; omega
    have n3 : IntKind.u64.wrap ((m : Int) + 1024) = ((m + 1024 : Nat) : Int) := by rw [IntKind.wrap_u64]; omega
    have hl0 : ∀ w : World, Calls Tryz.prog 94 #[.int .i64 ((k : Int) - 64 + 11)] w fun e w' => e = .returned (.int .i64 (-(p : Int))) ∧ w = w' := by
      intro w
      have h := d_skewed ((k : Int) - 64 + 11) (by omega) (by omega) w
      have e : (((k : Int) - 64 + 11) * 631305 - 261663) / 2097152 = -(p : Int) := by
        unfold skw at g1
        simp only [if_true] at g1
        have : (k : Int) - 64 + 11 = (k : Int) - 53 := by omega
        rw [this]; omega
      rw [e] at h
      exact h
    have hl2 : ∀ w : World, Calls Tryz.prog 96 #[.int .i64 (p : Int)] w fun e w' => e = .returned (.int .i64 (lp : Int)) ∧ w = w' := by
      intro w
      have h := d_log2Pow10 (p : Int) (by omega) (by omega) w
      have e : (p : Int) * 108853 / 32768 = (lp : Int) := g2
      rw [e] at h
      exact h
    have hl0 := Lib.hid hl0
    have hl2' := Lib.hid hl2
    clear hne hl2 g1 g2 g7 g8 hb hi hi0
    have hX1 : m - 512 < 18446744073709551616 := by omega
    have hX2 : m + 1024 < 18446744073709551616 := hm1
    have hS : -((k : Int) - 64 + lp + 3) = ((61 - k - lp : Nat) : Int) := by omega
    have hS64 : 61 - k - lp < 64 := by omega
    generalize m - 512 = mn at *
    generalize m + 1024 = mx at *
    generalize 61 - k - lp = s at *
    have hP := Lib.hid (fun W hW => c_prescale w.heap.size ph s p lp ((k : Int) - 64) (by omega) (by omega) (by omega) (by omega) hS w W hW)
    have hU1 := Lib.hid (fun W => c_uscale mn ph s w.heap.size hX1 hph hS64 w W)
    have hU2 := Lib.hid (fun W => c_uscale mx ph s w.heap.size hX2 hph hS64 w W)
    have hn1 := Lib.hid (fun W => d_nudge0 (usc mn ph 0 s) (by omega) W)
    have hn2 := Lib.hid (fun W => d_nudge0 (usc mx ph 0 s) (by omega) W)
    have hc := Lib.hid (fun W => d_uceil (usc mn ph 0 s) (by omega) W)
    have hf := Lib.hid (fun W => d_ufloor (usc mx ph 0 s) (by omega) W)
    have hle : usc mx ph 0 s / 4 ≤ 4611686018427387904 := by omega
    generalize usc mn ph 0 s = un at *
    generalize usc mx ph 0 s = ux at *
    generalize (un + 3) / 4 = dn at *
    generalize ux / 4 = dx at *
    generalize hdd : i * 10 ^ (p - 1) = d at *
    replace hdd := Lib.hid hdd
    have q1 : (dx : Int) / 10 = (d : Int) := by omega
    have q2 : IntKind.u64.wrap ((d : Int) * 10) = (d : Int) * 10 := by rw [IntKind.wrap_u64]; omega
    have q3 : (dn : Int) ≤ (d : Int) * 10 := by omega
    clear hS hX1 hX2 s3 s4 hm1 hm2 hodd hpl2 hph s1 s2 hle
    have q1 := q1
    go_enter Tryz.func84, Tryz.ntmps84
    go_wp2_with (first | (go_at_call 94; refine (hl0.out _).mono ?_; rintro e w1 ⟨rfl, rfl⟩) | (go_at_call 96; refine (hl2'.out _).mono ?_; rintro e w1 ⟨rfl, rfl⟩))
    refine (hP.out _ ((Below.refl _ _).alloc (Nat.le_refl _) _) ?_ ?_ ?_ ?_ ?_ ?_ ?_ ?_).mono ?_
    case refine_9 =>
      rintro e w1 ⟨rfl, hsc⟩
      go_wp2_with fail
      refine (hU1.out _ hsc).mono ?_
      rintro e w2 ⟨rfl, hsc2⟩
      go_wp2_with fail
      refine (hn1.out _).mono ?_
      rintro e w3 ⟨rfl, rfl⟩
      go_wp2_with fail
      refine (hc.out _).mono ?_
      rintro e w3 ⟨rfl, rfl⟩
      go_wp2_with fail
      refine (hU2.out _ hsc2).mono ?_
      rintro e w3 ⟨rfl, hsc3⟩
      go_wp2_with fail
      refine (hn2.out _).mono ?_
      rintro e w4 ⟨rfl, rfl⟩
      go_wp2_with fail
      refine (hf.out _).mono ?_
      rintro e w4 ⟨rfl, rfl⟩
      go_wp2_with fail
      refine bodyPost_ret (v := .tuple #[.int .u64 (d : Int), .int .i64 (-((p : Int) - 1))]) (by simp [results, Tryz.results84, go_sem]) rfl ?_
      have hp1 : -((p : Int) - 1) = -((p - 1 : Nat) : Int) := by omega
      refine ⟨p - 1, ?_, by omega, by rw [hdd.out]; exact hq, hsc3.2.2.2⟩
      rw [hdd.out, hp1]
    case refine_1 => simp
    case refine_2 => simp
    case refine_3 => simp
    case refine_4 => simp
    case refine_5 => simp
    case refine_6 => simp
    case refine_7 => exact (World.cell?_alloc_lt _ _ _ h5).trans t0
    case refine_8 => exact (World.cell?_alloc_lt _ _ _ h5).trans t1
  | false =>
    have hne : m ≠ 9223372036854775808 := by simpa using hb
    obtain ⟨s1, s2, s3, s4⟩ := hpl2 (m - 1024) (m + 1024) rfl (.inl rfl) (by rw [W64_eq]; omega)
    have n1 : ((m : Int) == 9223372036854775808) = false := by simp; omega
    have n2 : IntKind.u64.wrap ((m : Int) - 1024) = ((m - 1024 : Nat) : Int) := by rw [IntKind.wrap_u64]; omega
    have n3 : IntKind.u64.wrap ((m : Int) + 1024) = ((m + 1024 : Nat) : Int) := by rw [IntKind.wrap_u64]; omega
    have hl0 : ∀ w : World, Calls Tryz.prog 79 #[.int .i64 ((k : Int) - 64 + 11)] w fun e w' => e = .returned (.int .i64 (-(p : Int))) ∧ w = w' := by
      intro w
      have h := d_log10Pow2 ((k : Int) - 64 + 11) (by omega) (by omega) w
      have e : ((k : Int) - 64 + 11) * 78913 / 262144 = -(p : Int) := by
        unfold l10 at g1
        simp only [if_false, Bool.false_eq_true] at g1
        have : (k : Int) - 64 + 11 = (k : Int) - 53 := by omega
        rw [this]; omega
      rw [e] at h
      exact h
    have hl2 : ∀ w : World, Calls Tryz.prog 96 #[.int .i64 (p : Int)] w fun e w' => e = .returned (.int .i64 (lp : Int)) ∧ w = w' := by
      intro w
      have h := d_log2Pow10 (p : Int) (by omega) (by omega) w
      have e : (p : Int) * 108853 / 32768 = (lp : Int) := g2
      rw [e] at h
      exact h
    have hl0 := Lib.hid hl0
    have hl2' := Lib.hid hl2
    clear hl2 g1 g2 g7 g8 hb hi hi0
    have hX1 : m - 1024 < 18446744073709551616 := by omega
    have hX2 : m + 1024 < 18446744073709551616 := hm1
    have hS : -((k : Int) - 64 + lp + 3) = ((61 - k - lp : Nat) : Int) := by omega
    have hS64 : 61 - k - lp < 64 := by omega
    generalize m - 1024 = mn at *
    generalize m + 1024 = mx at *
    generalize 61 - k - lp = s at *
    have hP := Lib.hid (fun W hW => c_prescale w.heap.size ph s p lp ((k : Int) - 64) (by omega) (by omega) (by omega) (by omega) hS w W hW)
    have hU1 := Lib.hid (fun W => c_uscale mn ph s w.heap.size hX1 hph hS64 w W)
    have hU2 := Lib.hid (fun W => c_uscale mx ph s w.heap.size hX2 hph hS64 w W)
    have hn1 := Lib.hid (fun W => d_nudge0 (usc mn ph 0 s) (by omega) W)
    have hn2 := Lib.hid (fun W => d_nudge0 (usc mx ph 0 s) (by omega) W)
    have hc := Lib.hid (fun W => d_uceil (usc mn ph 0 s) (by omega) W)
    have hf := Lib.hid (fun W => d_ufloor (usc mx ph 0 s) (by omega) W)
    have hle : usc mx ph 0 s / 4 ≤ 4611686018427387904 := by omega
    generalize usc mn ph 0 s = un at *
    generalize usc mx ph 0 s = ux at *
    generalize (un + 3) / 4 = dn at *
    generalize ux / 4 = dx at *
    generalize hdd : i * 10 ^ (p - 1) = d at *
    replace hdd := Lib.hid hdd
    have q1 : (dx : Int) / 10 = (d : Int) := by omega
    have q2 : IntKind.u64.wrap ((d : Int) * 10) = (d : Int) * 10 := by rw [IntKind.wrap_u64]; omega
    have q3 : (dn : Int) ≤ (d : Int) * 10 := by omega
    clear hS hX1 hX2 s3 s4 hm1 hm2 hodd hpl2 hph s1 s2 hle
    have q1 := q1
    go_enter Tryz.func84, Tryz.ntmps84
    go_wp2_with (first | (go_at_call 79; refine (hl0.out _).mono ?_; rintro e w1 ⟨rfl, rfl⟩) | (go_at_call 96; refine (hl2'.out _).mono ?_; rintro e w1 ⟨rfl, rfl⟩))
    refine (hP.out _ ((Below.refl _ _).alloc (Nat.le_refl _) _) ?_ ?_ ?_ ?_ ?_ ?_ ?_ ?_).mono ?_
    case refine_9 =>
      rintro e w1 ⟨rfl, hsc⟩
      go_wp2_with fail
      refine (hU1.out _ hsc).mono ?_
      rintro e w2 ⟨rfl, hsc2⟩
      go_wp2_with fail
      refine (hn1.out _).mono ?_
      rintro e w3 ⟨rfl, rfl⟩
      go_wp2_with fail
      refine (hc.out _).mono ?_
      rintro e w3 ⟨rfl, rfl⟩
      go_wp2_with fail
      refine (hU2.out _ hsc2).mono ?_
      rintro e w3 ⟨rfl, hsc3⟩
      go_wp2_with fail
      refine (hn2.out _).mono ?_
      rintro e w4 ⟨rfl, rfl⟩
      go_wp2_with fail
      refine (hf.out _).mono ?_
      rintro e w4 ⟨rfl, rfl⟩
      go_wp2_with fail
      refine bodyPost_ret (v := .tuple #[.int .u64 (d : Int), .int .i64 (-((p : Int) - 1))]) (by simp [results, Tryz.results84, go_sem]) rfl ?_
      have hp1 : -((p : Int) - 1) = -((p - 1 : Nat) : Int) := by omega
      refine ⟨p - 1, ?_, by omega, by rw [hdd.out]; exact hq, hsc3.2.2.2⟩
      rw [hdd.out, hp1]
    case refine_1 => simp
    case refine_2 => simp
    case refine_3 => simp
    case refine_4 => simp
    case refine_5 => simp
    case refine_6 => simp
    case refine_7 => exact (World.cell?_alloc_lt _ _ _ h5).trans t0
    case refine_8 => exact (World.cell?_alloc_lt _ _ _ h5).trans t1
end Go.Proofs.YtbodfdmmfaampaaGreatDoor
