/-
  The contract of slices.symMergeCmpFunc.
-/
import Derived.Test.YtbodfdmmfaampaaGreatDoorS6
namespace Go.Proofs.YtbodfdmmfaampaaGreatDoor
open Go.RowKit Go.Shelf Go.Lib Go.Sort Go.Proofs
set_option maxHeartbeats 2000000
set_option maxRecDepth 100000

theorem c_sym3 (blk cap : Nat) (P X Y S : List KK) (len a m b : Nat) (hrec : SymOK (X.length + Y.length)) (hlen : len = (P ++ (X ++ (Y ++ S))).length) (ha : a = P.length) (hm : m = a + X.length) (hb : b = m + Y.length) (hX : 2 ≤ X.length) (hY : 2 ≤ Y.length) (hsX : Srt X) (hsY : Srt Y) (hsm : Small (X ++ Y)) (hsz : len ≤ 1099511627776) (w : World) (h : RowL w blk (P ++ (X ++ (Y ++ S)))) :
    Calls Tryz.prog 50 #[.slice (some ⟨blk, 0, none⟩) len cap, .int .i64 (a : Int), .int .i64 (m : Int), .int .i64 (b : Int), .func (.func 25) #[] #[]] w fun e w' => e = .returned (.tuple #[]) ∧ (∃ Z, RowL w' blk (P ++ (Z ++ S)) ∧ Srt Z ∧ Eqv Z (X ++ Y)) ∧ Fr blk w w' := by
  obtain ⟨mid, hmid, hmid1, hmid2⟩ : ∃ mid : Nat, ((a : Int) + (b : Int)) / 2 = (mid : Int) ∧ a < mid ∧ mid < b := ⟨(a + b) / 2, by omega, by omega, by omega⟩
  obtain ⟨lo, hi, k0, k1, k2, k3, k4, k5, k6, k7⟩ : ∃ lo hi : Nat, ((mid < m ∧ lo + b = mid + m ∧ hi = mid) ∨ (m ≤ mid ∧ lo = a ∧ hi = m)) ∧ a ≤ lo ∧ lo ≤ hi ∧ hi ≤ m ∧ m ≤ mid + m - hi ∧ mid + m - lo ≤ b ∧ (lo = a ∨ mid + m - lo = b) ∧ (hi = m ∨ mid + m - hi = m) := by
    rcases Nat.lt_or_ge mid m with hlt | hge
    · exact ⟨mid + m - b, mid, by omega, by omega, by omega, by omega, by omega, by omega, by omega, by omega⟩
    · exact ⟨a, m, by omega, by omega, by omega, by omega, by omega, by omega, by omega, by omega⟩
  obtain ⟨Q, f1, f2, f3, f4, f5, f6⟩ := sym3_facts blk P X Y S len a m b mid lo hi hlen ha hm hb k1 k2 k3 k4 k5 k6 k7 hsX hsY hsm w h
  have hfin : ∀ st, Q st st → ∃ en : Nat, st ≤ m ∧ a ≤ st ∧ m ≤ en ∧ en ≤ b ∧ en + st = mid + m ∧ ∃ S1 S2 S3 : World → Prop,
      (∀ w1, Below w.heap.size w w1 → (st < m → m < en → ∀ za zb zc : Int, za = st → zb = m → zc = en → Calls Tryz.prog 57 #[.slice (some ⟨blk, 0, none⟩) len cap, .int .i64 za, .int .i64 zb, .int .i64 zc, .func (.func 25) #[] #[]] w1 fun e w' => e = .returned (.tuple #[]) ∧ S1 w' ∧ Fr blk w1 w') ∧ (¬ (st < m ∧ m < en) → S1 w1)) ∧
      (∀ w, S1 w → (a < st → st < mid → ∀ za zb zc : Int, za = a → zb = st → zc = mid → Calls Tryz.prog 50 #[.slice (some ⟨blk, 0, none⟩) len cap, .int .i64 za, .int .i64 zb, .int .i64 zc, .func (.func 25) #[] #[]] w fun e w' => e = .returned (.tuple #[]) ∧ S2 w' ∧ Fr blk w w') ∧ (¬ (a < st ∧ st < mid) → S2 w)) ∧
      (∀ w, S2 w → (mid < en → en < b → ∀ za zb zc : Int, za = mid → zb = en → zc = b → Calls Tryz.prog 50 #[.slice (some ⟨blk, 0, none⟩) len cap, .int .i64 za, .int .i64 zb, .int .i64 zc, .func (.func 25) #[] #[]] w fun e w' => e = .returned (.tuple #[]) ∧ S3 w' ∧ Fr blk w w') ∧ (¬ (mid < en ∧ en < b) → S3 w)) ∧
      (∀ w, S3 w → ∃ Z, RowL w blk (P ++ (Z ++ S)) ∧ Srt Z ∧ Eqv Z (X ++ Y)) := by
    intro st hQ
    obtain ⟨g1, g2, g3⟩ := f4 _ _ hQ
    obtain ⟨X1, X2, Y1, Y2, rfl, rfl, e1, e2, h12, h21⟩ := f6 st hQ
    have l1 : (X1 ++ X2).length = X1.length + X2.length := List.length_append
    have l2 : (Y1 ++ Y2).length = Y1.length + Y2.length := List.length_append
    obtain ⟨S1, S2, S3, t1, t2, t3, t4⟩ := sym3_stage _ rfl blk cap P X1 X2 Y1 Y2 S len a st m (mid + m - st) b mid hrec hlen ha e1 (by omega) e2 (by omega) (by omega) hmid1 hmid2 hsX hsY hsm h12 h21 hsz
    exact ⟨mid + m - st, by omega, by omega, by omega, by omega, by omega, S1, S2, S3, fun w1 hb => t1 w1 (RowL.keep h hb), t2, t3, t4⟩
  have z1 : IntKind.i64.wrap ((m : Int) - (a : Int)) = (m : Int) - a := by rw [IntKind.wrap_i64]; omega
  have z2 : ((m : Int) - a == 1) = false := by simp; omega
  have z3 : IntKind.i64.wrap ((b : Int) - (m : Int)) = (b : Int) - m := by rw [IntKind.wrap_i64]; omega
  have z4 : ((b : Int) - m == 1) = false := by simp; omega
  have hml : m < b := by omega
  have ham : a < m := by omega
  clear hrec hlen ha hm hb hX hY hsX hsY hsm h k6 k7 f6
  replace f4 := Lib.hid f4
  replace f5 := Lib.hid f5
  replace hfin := Lib.hid hfin
  rcases k0 with ⟨c1, c2, c3⟩ | ⟨c1, c2, c3⟩
  · have c3 := c3.symm
    subst c3
    have hm1 : (mid : Int) < (m : Int) := by omega
    have hs : IntKind.i64.wrap ((mid : Int) + (m : Int) - (b : Int)) = (lo : Int) := by rw [IntKind.wrap_i64]; omega
    replace k5 := Lib.hid k5
    clear c1 c2 k4
    go_enter Tryz.func50, Tryz.ntmps50
    go_wp2
    go_loopw [20, 21] (fun vi vj wr => ∃ i j : Nat, vi = .int .i64 (i : Int) ∧ vj = .int .i64 (j : Int) ∧ Q i j ∧ Below w.heap.size w wr) (fun vi vj _ => (intOf vj).toNat - (intOf vi).toNat)
    case atStart => exact ⟨lo, mid, by first | rfl | go_num, rfl, f3, Below.refl _ _⟩
    case round =>
      obtain ⟨i, j, rfl, rfl, hQ, hbel⟩ := hrel
      obtain ⟨g1, g2, g3⟩ := f4.out _ _ hQ
      have k5' := k5.out
      rcases Nat.lt_or_ge i j with hij | hij
      · have hi' : (i : Int) < (j : Int) := by omega
        obtain ⟨hh, he, hih, hhj⟩ : ∃ hh : Nat, ((i : Int) + (j : Int)) / 2 = (hh : Int) ∧ i ≤ hh ∧ hh < j := ⟨(i + j) / 2, by omega, by omega, by omega⟩
        obtain ⟨q, hqn, hqi⟩ : ∃ q : Nat, q = mid + m - 1 - hh ∧ (mid : Int) + (m : Int) - 1 - (hh : Int) = (q : Int) := ⟨mid + m - 1 - hh, rfl, by omega⟩
        obtain ⟨z, x, hzs, hxs, hc, hup, hdn⟩ := f5.out _ _ _ _ _ hQ hih hhj hqn hbel
        have hB : blk < wr.heap.size := Nat.lt_of_lt_of_le f2 hbel.size
        have hS0 : wr.drew.cell? ⟨blk, q * 2, none⟩ = some (.string z.1) ∧ wr.drew.cell? ⟨blk, q * 2 + 1, none⟩ = some (.int .i64 z.2) ∧ wr.drew.cell? ⟨blk, hh * 2, none⟩ = some (.string x.1) ∧ wr.drew.cell? ⟨blk, hh * 2 + 1, none⟩ = some (.int .i64 x.2) ∧ Below wr.heap.size wr wr.drew := ⟨hc.1, hc.2.1, hc.2.2.1, hc.2.2.2, (Below.refl _ _).drew⟩
        have hO := fun y => Lib.hid (c_OrderF z.1 x.1 z.2 x.2 hzs hxs y)
        unfold keyV at hO
        have hlt2 := cmpZ_lt (rankK z.1 z.2) (rankK x.1 x.2)
        generalize hR : cmpZ (rankK z.1 z.2) (rankK x.1 x.2) = Rz at hO hlt2
        replace hup := Lib.hid hup
        replace hdn := Lib.hid hdn
        have hbel := Lib.hid hbel
        have hhl : (hh : Int) < (len : Int) := by omega
        have hal : (q : Int) < (len : Int) := by omega
        have hqw : IntKind.i64.wrap ((mid : Int) + (m : Int) - 1 - (hh : Int)) = (q : Int) := by rw [IntKind.wrap_i64]; omega
        have hq0 : (0 : Int) ≤ (q : Int) := by omega
        clear hQ hR hc hqn hqi hfin f4 f5 f3 k5'
        by_cases hlv : Rz < 0
        · have hlv' := Lib.hid (hlt2.1 hlv)
          clear hlt2
          go_wp2_with fail
          go_region_held3 (fun y => y.cell? ⟨blk, q * 2, none⟩ = some (.string z.1) ∧ y.cell? ⟨blk, q * 2 + 1, none⟩ = some (.int .i64 z.2) ∧ y.cell? ⟨blk, hh * 2, none⟩ = some (.string x.1) ∧ y.cell? ⟨blk, hh * 2 + 1, none⟩ = some (.int .i64 x.2) ∧ Below wr.heap.size wr y) (first | assumption | exact peek_keep hB (by assumption) (by assumption)) (first | (go_at_call 25; refine (hO _).out.mono ?_; rintro e y' ⟨rfl, hb⟩))
          obtain ⟨d1, d2, d3, d4, hbel2⟩ := peek_keep hB hS0 hb
          have s1 := Lib.hid (hdn.out hlv'.out)
          have s2 := Lib.hid (below_after hbel.out hbel2)
          clear hS0 hb hbel2 hB d1 d2 d3 d4
          go_wp2
          go_roundw
          case rel => exact ⟨i, hh, rfl, by go_num, s1.out, s2.out⟩
          case measure => simp [intOf]; omega
        · have hle := Lib.hid (fun h => hlv (hlt2.2 h))
          have hlv2 : decide (Rz < 0) = false := decide_eq_false hlv
          clear hlt2 hlv
          go_wp2_with fail
          go_region_held3 (fun y => y.cell? ⟨blk, q * 2, none⟩ = some (.string z.1) ∧ y.cell? ⟨blk, q * 2 + 1, none⟩ = some (.int .i64 z.2) ∧ y.cell? ⟨blk, hh * 2, none⟩ = some (.string x.1) ∧ y.cell? ⟨blk, hh * 2 + 1, none⟩ = some (.int .i64 x.2) ∧ Below wr.heap.size wr y) (first | assumption | exact peek_keep hB (by assumption) (by assumption)) (first | (go_at_call 25; refine (hO _).out.mono ?_; rintro e y' ⟨rfl, hb⟩))
          obtain ⟨d1, d2, d3, d4, hbel2⟩ := peek_keep hB hS0 hb
          have s1 := Lib.hid (hup.out hle.out)
          have s2 := Lib.hid (below_after hbel.out hbel2)
          clear hS0 hb hbel2 hB d1 d2 d3 d4
          go_wp2
          go_roundw
          case rel => exact ⟨hh + 1, j, by go_num, rfl, s1.out, s2.out⟩
          case measure => simp [intOf]; omega
      · obtain rfl : i = j := by omega
        obtain ⟨en, r1, r2, r3, r4, r5, S1, S2, S3, t1, t2, t3, t4⟩ := hfin.out i hQ
        have hen : (mid : Int) + (m : Int) - (i : Int) = (en : Int) := by omega
        have h0 := Lib.hid (Fr.below (blk := blk) hbel)
        have hbel := Lib.hid hbel
        replace t1 := Lib.hid t1
        replace t2 := Lib.hid t2
        replace t3 := Lib.hid t3
        replace t4 := Lib.hid t4
        clear hfin f4 f5 f3 hQ k5'
        rcases Nat.lt_or_ge i m with a1 | a1
        · rcases Nat.lt_or_ge m en with a2 | a2
          · have w1 : (i : Int) < (m : Int) := by omega
            have w2 : (m : Int) < (en : Int) := by omega
            have w3 : (i : Int) < (mid : Int) := by omega
            have w4 : (mid : Int) < (en : Int) := by omega
            rcases Nat.lt_or_ge a i with a3 | a3
            · have w5 : (a : Int) < (i : Int) := by omega
              rcases Nat.lt_or_ge en b with a4 | a4
              · have w6 : (en : Int) < (b : Int) := by omega
                go_wp2_with (first | (go_at_call 57; refine ((t1.out _ hbel.out).1 (by omega) (by omega) _ _ _ (by omega) (by omega) (by omega)).mono ?_; rintro e w1 ⟨rfl, hS1, hfr1⟩) | (go_at_call 50; refine ((t2.out _ (by first | assumption | exact (t1.out _ hbel.out).2 (by omega))).1 (by omega) (by omega) _ _ _ (by omega) (by omega) (by omega)).mono ?_; rintro e w2 ⟨rfl, hS2, hfr2⟩) | (go_at_call 50; refine ((t3.out _ (by first | assumption | exact (t2.out _ (by first | assumption | exact (t1.out _ hbel.out).2 (by omega))).2 (by omega))).1 (by omega) (by omega) _ _ _ (by omega) (by omega) (by omega)).mono ?_; rintro e w3 ⟨rfl, hS3, hfr3⟩))
                all_goals go_end0
                all_goals exact ⟨rfl, t4.out _ (by first | assumption | exact (t3.out _ (by first | assumption | exact (t2.out _ (by first | assumption | exact (t1.out _ hbel.out).2 (by omega))).2 (by omega))).2 (by omega)), by first | exact h0.out | exact h0.out.trans hfr1 | exact h0.out.trans hfr2 | exact h0.out.trans hfr3 | exact (h0.out.trans hfr1).trans hfr2 | exact (h0.out.trans hfr1).trans hfr3 | exact (h0.out.trans hfr2).trans hfr3 | exact ((h0.out.trans hfr1).trans hfr2).trans hfr3⟩
              · have w6 : ¬ (en : Int) < (b : Int) := by omega
                go_wp2_with (first | (go_at_call 57; refine ((t1.out _ hbel.out).1 (by omega) (by omega) _ _ _ (by omega) (by omega) (by omega)).mono ?_; rintro e w1 ⟨rfl, hS1, hfr1⟩) | (go_at_call 50; refine ((t2.out _ (by first | assumption | exact (t1.out _ hbel.out).2 (by omega))).1 (by omega) (by omega) _ _ _ (by omega) (by omega) (by omega)).mono ?_; rintro e w2 ⟨rfl, hS2, hfr2⟩) | (go_at_call 50; refine ((t3.out _ (by first | assumption | exact (t2.out _ (by first | assumption | exact (t1.out _ hbel.out).2 (by omega))).2 (by omega))).1 (by omega) (by omega) _ _ _ (by omega) (by omega) (by omega)).mono ?_; rintro e w3 ⟨rfl, hS3, hfr3⟩))
                all_goals go_end0
                all_goals exact ⟨rfl, t4.out _ (by first | assumption | exact (t3.out _ (by first | assumption | exact (t2.out _ (by first | assumption | exact (t1.out _ hbel.out).2 (by omega))).2 (by omega))).2 (by omega)), by first | exact h0.out | exact h0.out.trans hfr1 | exact h0.out.trans hfr2 | exact h0.out.trans hfr3 | exact (h0.out.trans hfr1).trans hfr2 | exact (h0.out.trans hfr1).trans hfr3 | exact (h0.out.trans hfr2).trans hfr3 | exact ((h0.out.trans hfr1).trans hfr2).trans hfr3⟩
            · have w5 : ¬ (a : Int) < (i : Int) := by omega
              rcases Nat.lt_or_ge en b with a4 | a4
              · have w6 : (en : Int) < (b : Int) := by omega
                go_wp2_with (first | (go_at_call 57; refine ((t1.out _ hbel.out).1 (by omega) (by omega) _ _ _ (by omega) (by omega) (by omega)).mono ?_; rintro e w1 ⟨rfl, hS1, hfr1⟩) | (go_at_call 50; refine ((t2.out _ (by first | assumption | exact (t1.out _ hbel.out).2 (by omega))).1 (by omega) (by omega) _ _ _ (by omega) (by omega) (by omega)).mono ?_; rintro e w2 ⟨rfl, hS2, hfr2⟩) | (go_at_call 50; refine ((t3.out _ (by first | assumption | exact (t2.out _ (by first | assumption | exact (t1.out _ hbel.out).2 (by omega))).2 (by omega))).1 (by omega) (by omega) _ _ _ (by omega) (by omega) (by omega)).mono ?_; rintro e w3 ⟨rfl, hS3, hfr3⟩))
                all_goals go_end0
                all_goals exact ⟨rfl, t4.out _ (by first | assumption | exact (t3.out _ (by first | assumption | exact (t2.out _ (by first | assumption | exact (t1.out _ hbel.out).2 (by omega))).2 (by omega))).2 (by omega)), by first | exact h0.out | exact h0.out.trans hfr1 | exact h0.out.trans hfr2 | exact h0.out.trans hfr3 | exact (h0.out.trans hfr1).trans hfr2 | exact (h0.out.trans hfr1).trans hfr3 | exact (h0.out.trans hfr2).trans hfr3 | exact ((h0.out.trans hfr1).trans hfr2).trans hfr3⟩
              · have w6 : ¬ (en : Int) < (b : Int) := by omega
                go_wp2_with (first | (go_at_call 57; refine ((t1.out _ hbel.out).1 (by omega) (by omega) _ _ _ (by omega) (by omega) (by omega)).mono ?_; rintro e w1 ⟨rfl, hS1, hfr1⟩) | (go_at_call 50; refine ((t2.out _ (by first | assumption | exact (t1.out _ hbel.out).2 (by omega))).1 (by omega) (by omega) _ _ _ (by omega) (by omega) (by omega)).mono ?_; rintro e w2 ⟨rfl, hS2, hfr2⟩) | (go_at_call 50; refine ((t3.out _ (by first | assumption | exact (t2.out _ (by first | assumption | exact (t1.out _ hbel.out).2 (by omega))).2 (by omega))).1 (by omega) (by omega) _ _ _ (by omega) (by omega) (by omega)).mono ?_; rintro e w3 ⟨rfl, hS3, hfr3⟩))
                all_goals go_end0
                all_goals exact ⟨rfl, t4.out _ (by first | assumption | exact (t3.out _ (by first | assumption | exact (t2.out _ (by first | assumption | exact (t1.out _ hbel.out).2 (by omega))).2 (by omega))).2 (by omega)), by first | exact h0.out | exact h0.out.trans hfr1 | exact h0.out.trans hfr2 | exact h0.out.trans hfr3 | exact (h0.out.trans hfr1).trans hfr2 | exact (h0.out.trans hfr1).trans hfr3 | exact (h0.out.trans hfr2).trans hfr3 | exact ((h0.out.trans hfr1).trans hfr2).trans hfr3⟩
          · have w1 : (i : Int) < (m : Int) := by omega
            have w2 : ¬ (m : Int) < (en : Int) := by omega
            have w3 : ¬ (i : Int) < (mid : Int) := by omega
            have w4 : (mid : Int) < (en : Int) := by omega
            have w5 : (a : Int) < (i : Int) := by omega
            have w6 : (en : Int) < (b : Int) := by omega
            go_wp2_with (first | (go_at_call 57; refine ((t1.out _ hbel.out).1 (by omega) (by omega) _ _ _ (by omega) (by omega) (by omega)).mono ?_; rintro e w1 ⟨rfl, hS1, hfr1⟩) | (go_at_call 50; refine ((t2.out _ (by first | assumption | exact (t1.out _ hbel.out).2 (by omega))).1 (by omega) (by omega) _ _ _ (by omega) (by omega) (by omega)).mono ?_; rintro e w2 ⟨rfl, hS2, hfr2⟩) | (go_at_call 50; refine ((t3.out _ (by first | assumption | exact (t2.out _ (by first | assumption | exact (t1.out _ hbel.out).2 (by omega))).2 (by omega))).1 (by omega) (by omega) _ _ _ (by omega) (by omega) (by omega)).mono ?_; rintro e w3 ⟨rfl, hS3, hfr3⟩))
            all_goals go_end0
            all_goals exact ⟨rfl, t4.out _ (by first | assumption | exact (t3.out _ (by first | assumption | exact (t2.out _ (by first | assumption | exact (t1.out _ hbel.out).2 (by omega))).2 (by omega))).2 (by omega)), by first | exact h0.out | exact h0.out.trans hfr1 | exact h0.out.trans hfr2 | exact h0.out.trans hfr3 | exact (h0.out.trans hfr1).trans hfr2 | exact (h0.out.trans hfr1).trans hfr3 | exact (h0.out.trans hfr2).trans hfr3 | exact ((h0.out.trans hfr1).trans hfr2).trans hfr3⟩
        · have w1 : ¬ (i : Int) < (m : Int) := by omega
          have w4 : ¬ (mid : Int) < (en : Int) := by omega
          have w5 : (a : Int) < (i : Int) := by omega
          rcases Nat.lt_or_ge i mid with a2 | a2
          · have w3 : (i : Int) < (mid : Int) := by omega
            go_wp2_with (first | (go_at_call 57; refine ((t1.out _ hbel.out).1 (by omega) (by omega) _ _ _ (by omega) (by omega) (by omega)).mono ?_; rintro e w1 ⟨rfl, hS1, hfr1⟩) | (go_at_call 50; refine ((t2.out _ (by first | assumption | exact (t1.out _ hbel.out).2 (by omega))).1 (by omega) (by omega) _ _ _ (by omega) (by omega) (by omega)).mono ?_; rintro e w2 ⟨rfl, hS2, hfr2⟩) | (go_at_call 50; refine ((t3.out _ (by first | assumption | exact (t2.out _ (by first | assumption | exact (t1.out _ hbel.out).2 (by omega))).2 (by omega))).1 (by omega) (by omega) _ _ _ (by omega) (by omega) (by omega)).mono ?_; rintro e w3 ⟨rfl, hS3, hfr3⟩))
            all_goals go_end0
            all_goals exact ⟨rfl, t4.out _ (by first | assumption | exact (t3.out _ (by first | assumption | exact (t2.out _ (by first | assumption | exact (t1.out _ hbel.out).2 (by omega))).2 (by omega))).2 (by omega)), by first | exact h0.out | exact h0.out.trans hfr1 | exact h0.out.trans hfr2 | exact h0.out.trans hfr3 | exact (h0.out.trans hfr1).trans hfr2 | exact (h0.out.trans hfr1).trans hfr3 | exact (h0.out.trans hfr2).trans hfr3 | exact ((h0.out.trans hfr1).trans hfr2).trans hfr3⟩
          · have w3 : ¬ (i : Int) < (mid : Int) := by omega
            go_wp2_with (first | (go_at_call 57; refine ((t1.out _ hbel.out).1 (by omega) (by omega) _ _ _ (by omega) (by omega) (by omega)).mono ?_; rintro e w1 ⟨rfl, hS1, hfr1⟩) | (go_at_call 50; refine ((t2.out _ (by first | assumption | exact (t1.out _ hbel.out).2 (by omega))).1 (by omega) (by omega) _ _ _ (by omega) (by omega) (by omega)).mono ?_; rintro e w2 ⟨rfl, hS2, hfr2⟩) | (go_at_call 50; refine ((t3.out _ (by first | assumption | exact (t2.out _ (by first | assumption | exact (t1.out _ hbel.out).2 (by omega))).2 (by omega))).1 (by omega) (by omega) _ _ _ (by omega) (by omega) (by omega)).mono ?_; rintro e w3 ⟨rfl, hS3, hfr3⟩))
            all_goals go_end0
            all_goals exact ⟨rfl, t4.out _ (by first | assumption | exact (t3.out _ (by first | assumption | exact (t2.out _ (by first | assumption | exact (t1.out _ hbel.out).2 (by omega))).2 (by omega))).2 (by omega)), by first | exact h0.out | exact h0.out.trans hfr1 | exact h0.out.trans hfr2 | exact h0.out.trans hfr3 | exact (h0.out.trans hfr1).trans hfr2 | exact (h0.out.trans hfr1).trans hfr3 | exact (h0.out.trans hfr2).trans hfr3 | exact ((h0.out.trans hfr1).trans hfr2).trans hfr3⟩
  · have c2 := c2.symm
    have c3 := c3.symm
    subst c2
    subst c3
    have hm1 : ¬ (mid : Int) < (m : Int) := by omega
    replace k5 := Lib.hid k5
    clear k4 k1
    go_enter Tryz.func50, Tryz.ntmps50
    go_wp2
    go_loopw [20, 21] (fun vi vj wr => ∃ i j : Nat, vi = .int .i64 (i : Int) ∧ vj = .int .i64 (j : Int) ∧ Q i j ∧ Below w.heap.size w wr) (fun vi vj _ => (intOf vj).toNat - (intOf vi).toNat)
    case atStart => exact ⟨a, m, by first | rfl | go_num, rfl, f3, Below.refl _ _⟩
    case round =>
      obtain ⟨i, j, rfl, rfl, hQ, hbel⟩ := hrel
      obtain ⟨g1, g2, g3⟩ := f4.out _ _ hQ
      have k5' := k5.out
      rcases Nat.lt_or_ge i j with hij | hij
      · have hi' : (i : Int) < (j : Int) := by omega
        obtain ⟨hh, he, hih, hhj⟩ : ∃ hh : Nat, ((i : Int) + (j : Int)) / 2 = (hh : Int) ∧ i ≤ hh ∧ hh < j := ⟨(i + j) / 2, by omega, by omega, by omega⟩
        obtain ⟨q, hqn, hqi⟩ : ∃ q : Nat, q = mid + m - 1 - hh ∧ (mid : Int) + (m : Int) - 1 - (hh : Int) = (q : Int) := ⟨mid + m - 1 - hh, rfl, by omega⟩
        obtain ⟨z, x, hzs, hxs, hc, hup, hdn⟩ := f5.out _ _ _ _ _ hQ hih hhj hqn hbel
        have hB : blk < wr.heap.size := Nat.lt_of_lt_of_le f2 hbel.size
        have hS0 : wr.drew.cell? ⟨blk, q * 2, none⟩ = some (.string z.1) ∧ wr.drew.cell? ⟨blk, q * 2 + 1, none⟩ = some (.int .i64 z.2) ∧ wr.drew.cell? ⟨blk, hh * 2, none⟩ = some (.string x.1) ∧ wr.drew.cell? ⟨blk, hh * 2 + 1, none⟩ = some (.int .i64 x.2) ∧ Below wr.heap.size wr wr.drew := ⟨hc.1, hc.2.1, hc.2.2.1, hc.2.2.2, (Below.refl _ _).drew⟩
        have hO := fun y => Lib.hid (c_OrderF z.1 x.1 z.2 x.2 hzs hxs y)
        unfold keyV at hO
        have hlt2 := cmpZ_lt (rankK z.1 z.2) (rankK x.1 x.2)
        generalize hR : cmpZ (rankK z.1 z.2) (rankK x.1 x.2) = Rz at hO hlt2
        replace hup := Lib.hid hup
        replace hdn := Lib.hid hdn
        have hbel := Lib.hid hbel
        have hhl : (hh : Int) < (len : Int) := by omega
        have hal : (q : Int) < (len : Int) := by omega
        have hqw : IntKind.i64.wrap ((mid : Int) + (m : Int) - 1 - (hh : Int)) = (q : Int) := by rw [IntKind.wrap_i64]; omega
        have hq0 : (0 : Int) ≤ (q : Int) := by omega
        clear hQ hR hc hqn hqi hfin f4 f5 f3 k5'
        by_cases hlv : Rz < 0
        · have hlv' := Lib.hid (hlt2.1 hlv)
          clear hlt2
          go_wp2_with fail
          go_region_held3 (fun y => y.cell? ⟨blk, q * 2, none⟩ = some (.string z.1) ∧ y.cell? ⟨blk, q * 2 + 1, none⟩ = some (.int .i64 z.2) ∧ y.cell? ⟨blk, hh * 2, none⟩ = some (.string x.1) ∧ y.cell? ⟨blk, hh * 2 + 1, none⟩ = some (.int .i64 x.2) ∧ Below wr.heap.size wr y) (first | assumption | exact peek_keep hB (by assumption) (by assumption)) (first | (go_at_call 25; refine (hO _).out.mono ?_; rintro e y' ⟨rfl, hb⟩))
          obtain ⟨d1, d2, d3, d4, hbel2⟩ := peek_keep hB hS0 hb
          have s1 := Lib.hid (hdn.out hlv'.out)
          have s2 := Lib.hid (below_after hbel.out hbel2)
          clear hS0 hb hbel2 hB d1 d2 d3 d4
          go_wp2
          go_roundw
          case rel => exact ⟨i, hh, rfl, by go_num, s1.out, s2.out⟩
          case measure => simp [intOf]; omega
        · have hle := Lib.hid (fun h => hlv (hlt2.2 h))
          have hlv2 : decide (Rz < 0) = false := decide_eq_false hlv
          clear hlt2 hlv
          go_wp2_with fail
          go_region_held3 (fun y => y.cell? ⟨blk, q * 2, none⟩ = some (.string z.1) ∧ y.cell? ⟨blk, q * 2 + 1, none⟩ = some (.int .i64 z.2) ∧ y.cell? ⟨blk, hh * 2, none⟩ = some (.string x.1) ∧ y.cell? ⟨blk, hh * 2 + 1, none⟩ = some (.int .i64 x.2) ∧ Below wr.heap.size wr y) (first | assumption | exact peek_keep hB (by assumption) (by assumption)) (first | (go_at_call 25; refine (hO _).out.mono ?_; rintro e y' ⟨rfl, hb⟩))
          obtain ⟨d1, d2, d3, d4, hbel2⟩ := peek_keep hB hS0 hb
          have s1 := Lib.hid (hup.out hle.out)
          have s2 := Lib.hid (below_after hbel.out hbel2)
          clear hS0 hb hbel2 hB d1 d2 d3 d4
          go_wp2
          go_roundw
          case rel => exact ⟨hh + 1, j, by go_num, rfl, s1.out, s2.out⟩
          case measure => simp [intOf]; omega
      · obtain rfl : i = j := by omega
        obtain ⟨en, r1, r2, r3, r4, r5, S1, S2, S3, t1, t2, t3, t4⟩ := hfin.out i hQ
        have hen : (mid : Int) + (m : Int) - (i : Int) = (en : Int) := by omega
        have h0 := Lib.hid (Fr.below (blk := blk) hbel)
        have hbel := Lib.hid hbel
        replace t1 := Lib.hid t1
        replace t2 := Lib.hid t2
        replace t3 := Lib.hid t3
        replace t4 := Lib.hid t4
        clear hfin f4 f5 f3 hQ k5'
        rcases Nat.lt_or_ge i m with a1 | a1
        · rcases Nat.lt_or_ge m en with a2 | a2
          · have w1 : (i : Int) < (m : Int) := by omega
            have w2 : (m : Int) < (en : Int) := by omega
            have w3 : (i : Int) < (mid : Int) := by omega
            have w4 : (mid : Int) < (en : Int) := by omega
            rcases Nat.lt_or_ge a i with a3 | a3
            · have w5 : (a : Int) < (i : Int) := by omega
              rcases Nat.lt_or_ge en b with a4 | a4
              · have w6 : (en : Int) < (b : Int) := by omega
                go_wp2_with (first | (go_at_call 57; refine ((t1.out _ hbel.out).1 (by omega) (by omega) _ _ _ (by omega) (by omega) (by omega)).mono ?_; rintro e w1 ⟨rfl, hS1, hfr1⟩) | (go_at_call 50; refine ((t2.out _ (by first | assumption | exact (t1.out _ hbel.out).2 (by omega))).1 (by omega) (by omega) _ _ _ (by omega) (by omega) (by omega)).mono ?_; rintro e w2 ⟨rfl, hS2, hfr2⟩) | (go_at_call 50; refine ((t3.out _ (by first | assumption | exact (t2.out _ (by first | assumption | exact (t1.out _ hbel.out).2 (by omega))).2 (by omega))).1 (by omega) (by omega) _ _ _ (by omega) (by omega) (by omega)).mono ?_; rintro e w3 ⟨rfl, hS3, hfr3⟩))
                all_goals go_end0
                all_goals exact ⟨rfl, t4.out _ (by first | assumption | exact (t3.out _ (by first | assumption | exact (t2.out _ (by first | assumption | exact (t1.out _ hbel.out).2 (by omega))).2 (by omega))).2 (by omega)), by first | exact h0.out | exact h0.out.trans hfr1 | exact h0.out.trans hfr2 | exact h0.out.trans hfr3 | exact (h0.out.trans hfr1).trans hfr2 | exact (h0.out.trans hfr1).trans hfr3 | exact (h0.out.trans hfr2).trans hfr3 | exact ((h0.out.trans hfr1).trans hfr2).trans hfr3⟩
              · have w6 : ¬ (en : Int) < (b : Int) := by omega
                go_wp2_with (first | (go_at_call 57; refine ((t1.out _ hbel.out).1 (by omega) (by omega) _ _ _ (by omega) (by omega) (by omega)).mono ?_; rintro e w1 ⟨rfl, hS1, hfr1⟩) | (go_at_call 50; refine ((t2.out _ (by first | assumption | exact (t1.out _ hbel.out).2 (by omega))).1 (by omega) (by omega) _ _ _ (by omega) (by omega) (by omega)).mono ?_; rintro e w2 ⟨rfl, hS2, hfr2⟩) | (go_at_call 50; refine ((t3.out _ (by first | assumption | exact (t2.out _ (by first | assumption | exact (t1.out _ hbel.out).2 (by omega))).2 (by omega))).1 (by omega) (by omega) _ _ _ (by omega) (by omega) (by omega)).mono ?_; rintro e w3 ⟨rfl, hS3, hfr3⟩))
                all_goals go_end0
                all_goals exact ⟨rfl, t4.out _ (by first | assumption | exact (t3.out _ (by first | assumption | exact (t2.out _ (by first | assumption | exact (t1.out _ hbel.out).2 (by omega))).2 (by omega))).2 (by omega)), by first | exact h0.out | exact h0.out.trans hfr1 | exact h0.out.trans hfr2 | exact h0.out.trans hfr3 | exact (h0.out.trans hfr1).trans hfr2 | exact (h0.out.trans hfr1).trans hfr3 | exact (h0.out.trans hfr2).trans hfr3 | exact ((h0.out.trans hfr1).trans hfr2).trans hfr3⟩
            · have w5 : ¬ (a : Int) < (i : Int) := by omega
              rcases Nat.lt_or_ge en b with a4 | a4
              · have w6 : (en : Int) < (b : Int) := by omega
                go_wp2_with (first | (go_at_call 57; refine ((t1.out _ hbel.out).1 (by omega) (by omega) _ _ _ (by omega) (by omega) (by omega)).mono ?_; rintro e w1 ⟨rfl, hS1, hfr1⟩) | (go_at_call 50; refine ((t2.out _ (by first | assumption | exact (t1.out _ hbel.out).2 (by omega))).1 (by omega) (by omega) _ _ _ (by omega) (by omega) (by omega)).mono ?_; rintro e w2 ⟨rfl, hS2, hfr2⟩) | (go_at_call 50; refine ((t3.out _ (by first | assumption | exact (t2.out _ (by first | assumption | exact (t1.out _ hbel.out).2 (by omega))).2 (by omega))).1 (by omega) (by omega) _ _ _ (by omega) (by omega) (by omega)).mono ?_; rintro e w3 ⟨rfl, hS3, hfr3⟩))
                all_goals go_end0
                all_goals exact ⟨rfl, t4.out _ (by first | assumption | exact (t3.out _ (by first | assumption | exact (t2.out _ (by first | assumption | exact (t1.out _ hbel.out).2 (by omega))).2 (by omega))).2 (by omega)), by first | exact h0.out | exact h0.out.trans hfr1 | exact h0.out.trans hfr2 | exact h0.out.trans hfr3 | exact (h0.out.trans hfr1).trans hfr2 | exact (h0.out.trans hfr1).trans hfr3 | exact (h0.out.trans hfr2).trans hfr3 | exact ((h0.out.trans hfr1).trans hfr2).trans hfr3⟩
              · have w6 : ¬ (en : Int) < (b : Int) := by omega
                go_wp2_with (first | (go_at_call 57; refine ((t1.out _ hbel.out).1 (by omega) (by omega) _ _ _ (by omega) (by omega) (by omega)).mono ?_; rintro e w1 ⟨rfl, hS1, hfr1⟩) | (go_at_call 50; refine ((t2.out _ (by first | assumption | exact (t1.out _ hbel.out).2 (by omega))).1 (by omega) (by omega) _ _ _ (by omega) (by omega) (by omega)).mono ?_; rintro e w2 ⟨rfl, hS2, hfr2⟩) | (go_at_call 50; refine ((t3.out _ (by first | assumption | exact (t2.out _ (by first | assumption | exact (t1.out _ hbel.out).2 (by omega))).2 (by omega))).1 (by omega) (by omega) _ _ _ (by omega) (by omega) (by omega)).mono ?_; rintro e w3 ⟨rfl, hS3, hfr3⟩))
                all_goals go_end0
                all_goals exact ⟨rfl, t4.out _ (by first | assumption | exact (t3.out _ (by first | assumption | exact (t2.out _ (by first | assumption | exact (t1.out _ hbel.out).2 (by omega))).2 (by omega))).2 (by omega)), by first | exact h0.out | exact h0.out.trans hfr1 | exact h0.out.trans hfr2 | exact h0.out.trans hfr3 | exact (h0.out.trans hfr1).trans hfr2 | exact (h0.out.trans hfr1).trans hfr3 | exact (h0.out.trans hfr2).trans hfr3 | exact ((h0.out.trans hfr1).trans hfr2).trans hfr3⟩
          · have w1 : (i : Int) < (m : Int) := by omega
            have w2 : ¬ (m : Int) < (en : Int) := by omega
            have w3 : ¬ (i : Int) < (mid : Int) := by omega
            have w4 : (mid : Int) < (en : Int) := by omega
            have w5 : (a : Int) < (i : Int) := by omega
            have w6 : (en : Int) < (b : Int) := by omega
            go_wp2_with (first | (go_at_call 57; refine ((t1.out _ hbel.out).1 (by omega) (by omega) _ _ _ (by omega) (by omega) (by omega)).mono ?_; rintro e w1 ⟨rfl, hS1, hfr1⟩) | (go_at_call 50; refine ((t2.out _ (by first | assumption | exact (t1.out _ hbel.out).2 (by omega))).1 (by omega) (by omega) _ _ _ (by omega) (by omega) (by omega)).mono ?_; rintro e w2 ⟨rfl, hS2, hfr2⟩) | (go_at_call 50; refine ((t3.out _ (by first | assumption | exact (t2.out _ (by first | assumption | exact (t1.out _ hbel.out).2 (by omega))).2 (by omega))).1 (by omega) (by omega) _ _ _ (by omega) (by omega) (by omega)).mono ?_; rintro e w3 ⟨rfl, hS3, hfr3⟩))
            all_goals go_end0
            all_goals exact ⟨rfl, t4.out _ (by first | assumption | exact (t3.out _ (by first | assumption | exact (t2.out _ (by first | assumption | exact (t1.out _ hbel.out).2 (by omega))).2 (by omega))).2 (by omega)), by first | exact h0.out | exact h0.out.trans hfr1 | exact h0.out.trans hfr2 | exact h0.out.trans hfr3 | exact (h0.out.trans hfr1).trans hfr2 | exact (h0.out.trans hfr1).trans hfr3 | exact (h0.out.trans hfr2).trans hfr3 | exact ((h0.out.trans hfr1).trans hfr2).trans hfr3⟩
        · have w1 : ¬ (i : Int) < (m : Int) := by omega
          have w4 : ¬ (mid : Int) < (en : Int) := by omega
          have w5 : (a : Int) < (i : Int) := by omega
          rcases Nat.lt_or_ge i mid with a2 | a2
          · have w3 : (i : Int) < (mid : Int) := by omega
            go_wp2_with (first | (go_at_call 57; refine ((t1.out _ hbel.out).1 (by omega) (by omega) _ _ _ (by omega) (by omega) (by omega)).mono ?_; rintro e w1 ⟨rfl, hS1, hfr1⟩) | (go_at_call 50; refine ((t2.out _ (by first | assumption | exact (t1.out _ hbel.out).2 (by omega))).1 (by omega) (by omega) _ _ _ (by omega) (by omega) (by omega)).mono ?_; rintro e w2 ⟨rfl, hS2, hfr2⟩) | (go_at_call 50; refine ((t3.out _ (by first | assumption | exact (t2.out _ (by first | assumption | exact (t1.out _ hbel.out).2 (by omega))).2 (by omega))).1 (by omega) (by omega) _ _ _ (by omega) (by omega) (by omega)).mono ?_; rintro e w3 ⟨rfl, hS3, hfr3⟩))
            all_goals go_end0
            all_goals exact ⟨rfl, t4.out _ (by first | assumption | exact (t3.out _ (by first | assumption | exact (t2.out _ (by first | assumption | exact (t1.out _ hbel.out).2 (by omega))).2 (by omega))).2 (by omega)), by first | exact h0.out | exact h0.out.trans hfr1 | exact h0.out.trans hfr2 | exact h0.out.trans hfr3 | exact (h0.out.trans hfr1).trans hfr2 | exact (h0.out.trans hfr1).trans hfr3 | exact (h0.out.trans hfr2).trans hfr3 | exact ((h0.out.trans hfr1).trans hfr2).trans hfr3⟩
          · have w3 : ¬ (i : Int) < (mid : Int) := by omega
            go_wp2_with (first | (go_at_call 57; refine ((t1.out _ hbel.out).1 (by omega) (by omega) _ _ _ (by omega) (by omega) (by omega)).mono ?_; rintro e w1 ⟨rfl, hS1, hfr1⟩) | (go_at_call 50; refine ((t2.out _ (by first | assumption | exact (t1.out _ hbel.out).2 (by omega))).1 (by omega) (by omega) _ _ _ (by omega) (by omega) (by omega)).mono ?_; rintro e w2 ⟨rfl, hS2, hfr2⟩) | (go_at_call 50; refine ((t3.out _ (by first | assumption | exact (t2.out _ (by first | assumption | exact (t1.out _ hbel.out).2 (by omega))).2 (by omega))).1 (by omega) (by omega) _ _ _ (by omega) (by omega) (by omega)).mono ?_; rintro e w3 ⟨rfl, hS3, hfr3⟩))
            all_goals go_end0
            all_goals exact ⟨rfl, t4.out _ (by first | assumption | exact (t3.out _ (by first | assumption | exact (t2.out _ (by first | assumption | exact (t1.out _ hbel.out).2 (by omega))).2 (by omega))).2 (by omega)), by first | exact h0.out | exact h0.out.trans hfr1 | exact h0.out.trans hfr2 | exact h0.out.trans hfr3 | exact (h0.out.trans hfr1).trans hfr2 | exact (h0.out.trans hfr1).trans hfr3 | exact (h0.out.trans hfr2).trans hfr3 | exact ((h0.out.trans hfr1).trans hfr2).trans hfr3⟩
theorem symOK (N : Nat) : SymOK N := by
  induction N with
  | zero => intro blk cap P X Y S len a m b w hN; omega
  | succ n ih =>
    intro blk cap P X Y S len a m b w hN hlen ha hm hb hX hY hsX hsY hsm hsz h
    rcases Nat.lt_or_ge (X.length + Y.length) n with hlt | hge
    · exact ih blk cap P X Y S len a m b w hlt hlen ha hm hb hX hY hsX hsY hsm hsz h
    have hn : n = X.length + Y.length := by omega
    subst hn
    by_cases h1 : X.length = 1
    · obtain ⟨x, rfl⟩ := List.length_eq_one_iff.1 h1
      exact c_sym1 blk cap P Y S x len a m b (by simpa using hlen) ha (by simpa using hm) hb hsY (by simpa using hsm) hsz w (by simpa using h)
    · by_cases h2 : Y.length = 1
      · obtain ⟨x, rfl⟩ := List.length_eq_one_iff.1 h2
        exact c_sym2 blk cap P X S x len a m b (by simpa using hlen) ha hm h1 (by simpa using hb) hsX (by simpa using hsm) hsz w (by simpa using h)
      · exact c_sym3 blk cap P X Y S len a m b ih hlen ha hm hb (by omega) (by omega) hsX hsY hsm hsz w h
theorem c_symMerge (blk cap : Nat) (P X Y S : List KK) (len a m b : Nat) (w : World) (hlen : len = (P ++ (X ++ (Y ++ S))).length) (ha : a = P.length) (hm : m = a + X.length) (hb : b = m + Y.length) (hX : 0 < X.length) (hY : 0 < Y.length) (hsX : Srt X) (hsY : Srt Y) (hsm : Small (X ++ Y)) (hsz : len ≤ 1099511627776) (h : RowL w blk (P ++ (X ++ (Y ++ S)))) :
    Calls Tryz.prog 50 #[.slice (some ⟨blk, 0, none⟩) len cap, .int .i64 (a : Int), .int .i64 (m : Int), .int .i64 (b : Int), .func (.func 25) #[] #[]] w fun e w' => e = .returned (.tuple #[]) ∧ (∃ Z, RowL w' blk (P ++ (Z ++ S)) ∧ Srt Z ∧ Eqv Z (X ++ Y)) ∧ Fr blk w w' :=
  symOK (X.length + Y.length + 1) blk cap P X Y S len a m b w (by omega) hlen ha hm hb hX hY hsX hsY hsm hsz h
end Go.Proofs.YtbodfdmmfaampaaGreatDoor
