/-
  Contracts: The contract of slices.symMergeCmpFunc. The contract of slices.stableCmpFunc, and of slices.SortStableFunc. Lists of keys as rows in memory; the contract of the law's few. The contracts of slices.Clone and of the program's Order; what is in order, and has the same elements of each rank, is one list. The contract of the reference's Make: the text of units.
-/
import Derived.Test.YtkbohoolnpaleaaGreatDoorW5
import Derived.Lib.SliceRun
import Derived.Laws.IdiomStrings
import Derived.Laws.BytesArg
namespace Go.Proofs.YtkbohoolnpaleaaGreatDoor
open Go.RowKit Go.Shelf Go.Lib Go.Sort Go.Proofs
set_option maxHeartbeats 2000000
set_option maxRecDepth 100000

theorem c_sym3 (blk cap : Nat) (P X Y S : List KK) (len a m b : Nat) (hrec : SymOK (X.length + Y.length)) (hlen : len = (P ++ (X ++ (Y ++ S))).length) (ha : a = P.length) (hm : m = a + X.length) (hb : b = m + Y.length) (hX : 2 ≤ X.length) (hY : 2 ≤ Y.length) (hsX : Srt X) (hsY : Srt Y) (hsm : Small (X ++ Y)) (hsz : len ≤ 1099511627776) (w : World) (h : RowL w blk (P ++ (X ++ (Y ++ S)))) :
    Calls Tryz.prog 166 #[.slice (some ⟨blk, 0, none⟩) len cap, .int .i64 (a : Int), .int .i64 (m : Int), .int .i64 (b : Int), .func (.func 104) #[] #[]] w fun e w' => e = .returned (.tuple #[]) ∧ (∃ Z, RowL w' blk (P ++ (Z ++ S)) ∧ Srt Z ∧ Eqv Z (X ++ Y)) ∧ Fr blk w w' := by
  obtain ⟨mid, hmid, hmid1, hmid2⟩ : ∃ mid : Nat, ((a : Int) + (b : Int)) / 2 = (mid : Int) ∧ a < mid ∧ mid < b := ⟨(a + b) / 2, by omega, by omega, by omega⟩
  obtain ⟨lo, hi, k0, k1, k2, k3, k4, k5, k6, k7⟩ : ∃ lo hi : Nat, ((mid < m ∧ lo + b = mid + m ∧ hi = mid) ∨ (m ≤ mid ∧ lo = a ∧ hi = m)) ∧ a ≤ lo ∧ lo ≤ hi ∧ hi ≤ m ∧ m ≤ mid + m - hi ∧ mid + m - lo ≤ b ∧ (lo = a ∨ mid + m - lo = b) ∧ (hi = m ∨ mid + m - hi = m) := by
    rcases Nat.lt_or_ge mid m with hlt | hge
    · exact ⟨mid + m - b, mid, by omega, by omega, by omega, by omega, by omega, by omega, by omega, by omega⟩
    · exact ⟨a, m, by omega, by omega, by omega, by omega, by omega, by omega, by omega, by omega⟩
  obtain ⟨Q, f1, f2, f3, f4, f5, f6⟩ := sym3_facts blk P X Y S len a m b mid lo hi hlen ha hm hb k1 k2 k3 k4 k5 k6 k7 hsX hsY hsm w h
  have hfin : ∀ st, Q st st → ∃ en : Nat, st ≤ m ∧ a ≤ st ∧ m ≤ en ∧ en ≤ b ∧ en + st = mid + m ∧ ∃ S1 S2 S3 : World → Prop,
      (∀ w1, Below w.heap.size w w1 → (st < m → m < en → ∀ za zb zc : Int, za = st → zb = m → zc = en → Calls Tryz.prog 173 #[.slice (some ⟨blk, 0, none⟩) len cap, .int .i64 za, .int .i64 zb, .int .i64 zc, .func (.func 104) #[] #[]] w1 fun e w' => e = .returned (.tuple #[]) ∧ S1 w' ∧ Fr blk w1 w') ∧ (¬ (st < m ∧ m < en) → S1 w1)) ∧
      (∀ w, S1 w → (a < st → st < mid → ∀ za zb zc : Int, za = a → zb = st → zc = mid → Calls Tryz.prog 166 #[.slice (some ⟨blk, 0, none⟩) len cap, .int .i64 za, .int .i64 zb, .int .i64 zc, .func (.func 104) #[] #[]] w fun e w' => e = .returned (.tuple #[]) ∧ S2 w' ∧ Fr blk w w') ∧ (¬ (a < st ∧ st < mid) → S2 w)) ∧
      (∀ w, S2 w → (mid < en → en < b → ∀ za zb zc : Int, za = mid → zb = en → zc = b → Calls Tryz.prog 166 #[.slice (some ⟨blk, 0, none⟩) len cap, .int .i64 za, .int .i64 zb, .int .i64 zc, .func (.func 104) #[] #[]] w fun e w' => e = .returned (.tuple #[]) ∧ S3 w' ∧ Fr blk w w') ∧ (¬ (mid < en ∧ en < b) → S3 w)) ∧
      (∀ w, S3 w → ∃ Z, RowL w blk (P ++ (Z ++ S)) ∧ Srt Z ∧ Eqv Z (X ++ Y)) := by
    intro st hQ
    obtain ⟨g1, g2, g3⟩ := f4 _ _ hQ
    obtain ⟨X1, X2, Y1, Y2, rfl, rfl, e1, e2, h12, h21⟩ := f6 st hQ
    have l1 : (X1 ++ X2).length = X1.length + X2.length := List.length_append
    have l2 : (Y1 ++ Y2).length = Y1.length + Y2.length := List.length_append
    obtain ⟨S1, S2, S3, t1, t2, t3, t4⟩ := sym3_stage _ rfl blk cap P X1 X2 Y1 Y2 S len a st m (mid + m - st) b mid hrec hlen ha e1 (by omega) e2 (by omega) (by omega) hmid1 hmid2 hsX hsY hsm h12 h21 hsz
    exact ⟨mid + m - st, by omega, by omega, by omega, by omega, by omega, S1, S2, S3, fun w1 hb => t1 w1 (RowL.keep h hb), t2, t3, t4⟩
  have z1 : IntKind.i64.wrap ((m : Int) - (a : Int)) = (m : Int) - a := by rw [IntKind.wrap_i64]; omega
  have z2 : ((m : Int) - a == 1) = false := by simp; omega
  have z3 : IntKind.i64.wrap ((b : Int) - (m : Int)) = (b : Int) - m := by rw [IntKind.wrap_i64]; omega
  have z4 : ((b : Int) - m == 1) = false := by simp; omega
  have hml : m < b := by omega
  have ham : a < m := by omega
  clear hrec hlen ha hm hb hX hY hsX hsY hsm h k6 k7 f6
  replace f4 := Lib.hid f4
  replace f5 := Lib.hid f5
  replace hfin := Lib.hid hfin
  rcases k0 with ⟨c1, c2, c3⟩ | ⟨c1, c2, c3⟩
  · have c3 := c3.symm
    subst c3
    have hm1 : (mid : Int) < (m : Int) := by omega
    have hs : IntKind.i64.wrap ((mid : Int) + (m : Int) - (b : Int)) = (lo : Int) := by rw [IntKind.wrap_i64]; omega
    replace k5 := Lib.hid k5
    clear c1 c2 k4
    go_enter Tryz.func166, Tryz.ntmps166
    go_wp2
    go_loopw [20, 21] (fun vi vj wr => ∃ i j : Nat, vi = .int .i64 (i : Int) ∧ vj = .int .i64 (j : Int) ∧ Q i j ∧ Below w.heap.size w wr) (fun vi vj _ => (intOf vj).toNat - (intOf vi).toNat)
    case atStart => exact ⟨lo, mid, by first | rfl | go_num, rfl, f3, Below.refl _ _⟩
    case round =>
      obtain ⟨i, j, rfl, rfl, hQ, hbel⟩ := hrel
      obtain ⟨g1, g2, g3⟩ := f4.out _ _ hQ
      have k5' := k5.out
      rcases Nat.lt_or_ge i j with hij | hij
      · have hi' : (i : Int) < (j : Int) := by omega
        obtain ⟨hh, he, hih, hhj⟩ : ∃ hh : Nat, ((i : Int) + (j : Int)) / 2 = (hh : Int) ∧ i ≤ hh ∧ hh < j := ⟨(i + j) / 2, by omega, by omega, by omega⟩
        obtain ⟨q, hqn, hqi⟩ : ∃ q : Nat, q = mid + m - 1 - hh ∧ (mid : Int) + (m : Int) - 1 - (hh : Int) = (q : Int) := ⟨mid + m - 1 - hh, rfl, by omega⟩
        obtain ⟨z, x, hzs, hxs, hc, hup, hdn⟩ := f5.out _ _ _ _ _ hQ hih hhj hqn hbel
        have hB : blk < wr.heap.size := Nat.lt_of_lt_of_le f2 hbel.size
        have hS0 : wr.drew.cell? ⟨blk, q * 2, none⟩ = some (.string z.1) ∧ wr.drew.cell? ⟨blk, q * 2 + 1, none⟩ = some (.int .i64 z.2) ∧ wr.drew.cell? ⟨blk, hh * 2, none⟩ = some (.string x.1) ∧ wr.drew.cell? ⟨blk, hh * 2 + 1, none⟩ = some (.int .i64 x.2) ∧ Below wr.heap.size wr wr.drew := ⟨hc.1, hc.2.1, hc.2.2.1, hc.2.2.2, (Below.refl _ _).drew⟩
        have hO := fun y => Lib.hid (c_OrderF z.1 x.1 z.2 x.2 hzs hxs y)
        unfold keyV at hO
        have hlt2 := cmpZ_lt (rankK z.1 z.2) (rankK x.1 x.2)
        generalize hR : cmpZ (rankK z.1 z.2) (rankK x.1 x.2) = Rz at hO hlt2
        replace hup := Lib.hid hup
        replace hdn := Lib.hid hdn
        have hbel := Lib.hid hbel
        have hhl : (hh : Int) < (len : Int) := by omega
        have hal : (q : Int) < (len : Int) := by omega
        have hqw : IntKind.i64.wrap ((mid : Int) + (m : Int) - 1 - (hh : Int)) = (q : Int) := by rw [IntKind.wrap_i64]; omega
        have hq0 : (0 : Int) ≤ (q : Int) := by omega
        clear hQ hR hc hqn hqi hfin f4 f5 f3 k5'
        by_cases hlv : Rz < 0
        · have hlv' := Lib.hid (hlt2.1 hlv)
          clear hlt2
          go_wp2_with fail
          go_region_held3 (fun y => y.cell? ⟨blk, q * 2, none⟩ = some (.string z.1) ∧ y.cell? ⟨blk, q * 2 + 1, none⟩ = some (.int .i64 z.2) ∧ y.cell? ⟨blk, hh * 2, none⟩ = some (.string x.1) ∧ y.cell? ⟨blk, hh * 2 + 1, none⟩ = some (.int .i64 x.2) ∧ Below wr.heap.size wr y) (first | assumption | exact peek_keep hB (by assumption) (by assumption)) (first | (go_at_call 104; refine (hO _).out.mono ?_; rintro e y' ⟨rfl, hb⟩))
          obtain ⟨d1, d2, d3, d4, hbel2⟩ := peek_keep hB hS0 hb
          have s1 := Lib.hid (hdn.out hlv'.out)
          have s2 := Lib.hid (below_after hbel.out hbel2)
          clear hS0 hb hbel2 hB d1 d2 d3 d4
          go_wp2
          go_roundw
          case rel => exact ⟨i, hh, rfl, by go_num, s1.out, s2.out⟩
          case measure => simp [intOf]; omega
        · have hle := Lib.hid (fun h => hlv (hlt2.2 h))
          have hlv2 : decide (Rz < 0) = false := decide_eq_false hlv
          clear hlt2 hlv
          go_wp2_with fail
          go_region_held3 (fun y => y.cell? ⟨blk, q * 2, none⟩ = some (.string z.1) ∧ y.cell? ⟨blk, q * 2 + 1, none⟩ = some (.int .i64 z.2) ∧ y.cell? ⟨blk, hh * 2, none⟩ = some (.string x.1) ∧ y.cell? ⟨blk, hh * 2 + 1, none⟩ = some (.int .i64 x.2) ∧ Below wr.heap.size wr y) (first | assumption | exact peek_keep hB (by assumption) (by assumption)) (first | (go_at_call 104; refine (hO _).out.mono ?_; rintro e y' ⟨rfl, hb⟩))
          obtain ⟨d1, d2, d3, d4, hbel2⟩ := peek_keep hB hS0 hb
          have s1 := Lib.hid (hup.out hle.out)
          have s2 := Lib.hid (below_after hbel.out hbel2)
          clear hS0 hb hbel2 hB d1 d2 d3 d4
          go_wp2
          go_roundw
          case rel => exact ⟨hh + 1, j, by go_num, rfl, s1.out, s2.out⟩
          case measure => simp [intOf]; omega
      · obtain rfl : i = j := by omega
        obtain ⟨en, r1, r2, r3, r4, r5, S1, S2, S3, t1, t2, t3, t4⟩ := hfin.out i hQ
        have hen : (mid : Int) + (m : Int) - (i : Int) = (en : Int) := by omega
        have h0 := Lib.hid (Fr.below (blk := blk) hbel)
        have hbel := Lib.hid hbel
        replace t1 := Lib.hid t1
        replace t2 := Lib.hid t2
        replace t3 := Lib.hid t3
        replace t4 := Lib.hid t4
        clear hfin f4 f5 f3 hQ k5'
        rcases Nat.lt_or_ge i m with a1 | a1
        · rcases Nat.lt_or_ge m en with a2 | a2
          · have w1 : (i : Int) < (m : Int) := by omega
            have w2 : (m : Int) < (en : Int) := by omega
            have w3 : (i : Int) < (mid : Int) := by omega
            have w4 : (mid : Int) < (en : Int) := by omega
            rcases Nat.lt_or_ge a i with a3 | a3
            · have w5 : (a : Int) < (i : Int) := by omega
              rcases Nat.lt_or_ge en b with a4 | a4
              · have w6 : (en : Int) < (b : Int) := by omega
                go_wp2_with (first | (go_at_call 173; refine ((t1.out _ hbel.out).1 (by omega) (by omega) _ _ _ (by omega) (by omega) (by omega)).mono ?_; rintro e w1 ⟨rfl, hS1, hfr1⟩) | (go_at_call 166; refine ((t2.out _ (by first | assumption | exact (t1.out _ hbel.out).2 (by omega))).1 (by omega) (by omega) _ _ _ (by omega) (by omega) (by omega)).mono ?_; rintro e w2 ⟨rfl, hS2, hfr2⟩) | (go_at_call 166; refine ((t3.out _ (by first | assumption | exact (t2.out _ (by first | assumption | exact (t1.out _ hbel.out).2 (by omega))).2 (by omega))).1 (by omega) (by omega) _ _ _ (by omega) (by omega) (by omega)).mono ?_; rintro e w3 ⟨rfl, hS3, hfr3⟩))
                all_goals go_end0
                all_goals exact ⟨rfl, t4.out _ (by first | assumption | exact (t3.out _ (by first | assumption | exact (t2.out _ (by first | assumption | exact (t1.out _ hbel.out).2 (by omega))).2 (by omega))).2 (by omega)), by first | exact h0.out | exact h0.out.trans hfr1 | exact h0.out.trans hfr2 | exact h0.out.trans hfr3 | exact (h0.out.trans hfr1).trans hfr2 | exact (h0.out.trans hfr1).trans hfr3 | exact (h0.out.trans hfr2).trans hfr3 | exact ((h0.out.trans hfr1).trans hfr2).trans hfr3⟩
              · have w6 : ¬ (en : Int) < (b : Int) := by omega
                go_wp2_with (first | (go_at_call 173; refine ((t1.out _ hbel.out).1 (by omega) (by omega) _ _ _ (by omega) (by omega) (by omega)).mono ?_; rintro e w1 ⟨rfl, hS1, hfr1⟩) | (go_at_call 166; refine ((t2.out _ (by first | assumption | exact (t1.out _ hbel.out).2 (by omega))).1 (by omega) (by omega) _ _ _ (by omega) (by omega) (by omega)).mono ?_; rintro e w2 ⟨rfl, hS2, hfr2⟩) | (go_at_call 166; refine ((t3.out _ (by first | assumption | exact (t2.out _ (by first | assumption | exact (t1.out _ hbel.out).2 (by omega))).2 (by omega))).1 (by omega) (by omega) _ _ _ (by omega) (by omega) (by omega)).mono ?_; rintro e w3 ⟨rfl, hS3, hfr3⟩))
                all_goals go_end0
                all_goals exact ⟨rfl, t4.out _ (by first | assumption | exact (t3.out _ (by first | assumption | exact (t2.out _ (by first | assumption | exact (t1.out _ hbel.out).2 (by omega))).2 (by omega))).2 (by omega)), by first | exact h0.out | exact h0.out.trans hfr1 | exact h0.out.trans hfr2 | exact h0.out.trans hfr3 | exact (h0.out.trans hfr1).trans hfr2 | exact (h0.out.trans hfr1).trans hfr3 | exact (h0.out.trans hfr2).trans hfr3 | exact ((h0.out.trans hfr1).trans hfr2).trans hfr3⟩
            · have w5 : ¬ (a : Int) < (i : Int) := by omega
              rcases Nat.lt_or_ge en b with a4 | a4
              · have w6 : (en : Int) < (b : Int) := by omega
                go_wp2_with (first | (go_at_call 173; refine ((t1.out _ hbel.out).1 (by omega) (by omega) _ _ _ (by omega) (by omega) (by omega)).mono ?_; rintro e w1 ⟨rfl, hS1, hfr1⟩) | (go_at_call 166; refine ((t2.out _ (by first | assumption | exact (t1.out _ hbel.out).2 (by omega))).1 (by omega) (by omega) _ _ _ (by omega) (by omega) (by omega)).mono ?_; rintro e w2 ⟨rfl, hS2, hfr2⟩) | (go_at_call 166; refine ((t3.out _ (by first | assumption | exact (t2.out _ (by first | assumption | exact (t1.out _ hbel.out).2 (by omega))).2 (by omega))).1 (by omega) (by omega) _ _ _ (by omega) (by omega) (by omega)).mono ?_; rintro e w3 ⟨rfl, hS3, hfr3⟩))
                all_goals go_end0
                all_goals exact ⟨rfl, t4.out _ (by first | assumption | exact (t3.out _ (by first | assumption | exact (t2.out _ (by first | assumption | exact (t1.out _ hbel.out).2 (by omega))).2 (by omega))).2 (by omega)), by first | exact h0.out | exact h0.out.trans hfr1 | exact h0.out.trans hfr2 | exact h0.out.trans hfr3 | exact (h0.out.trans hfr1).trans hfr2 | exact (h0.out.trans hfr1).trans hfr3 | exact (h0.out.trans hfr2).trans hfr3 | exact ((h0.out.trans hfr1).trans hfr2).trans hfr3⟩
              · have w6 : ¬ (en : Int) < (b : Int) := by omega
                go_wp2_with (first | (go_at_call 173; refine ((t1.out _ hbel.out).1 (by omega) (by omega) _ _ _ (by omega) (by omega) (by omega)).mono ?_; rintro e w1 ⟨rfl, hS1, hfr1⟩) | (go_at_call 166; refine ((t2.out _ (by first | assumption | exact (t1.out _ hbel.out).2 (by omega))).1 (by omega) (by omega) _ _ _ (by omega) (by omega) (by omega)).mono ?_; rintro e w2 ⟨rfl, hS2, hfr2⟩) | (go_at_call 166; refine ((t3.out _ (by first | assumption | exact (t2.out _ (by first | assumption | exact (t1.out _ hbel.out).2 (by omega))).2 (by omega))).1 (by omega) (by omega) _ _ _ (by omega) (by omega) (by omega)).mono ?_; rintro e w3 ⟨rfl, hS3, hfr3⟩))
                all_goals go_end0
                all_goals exact ⟨rfl, t4.out _ (by first | assumption | exact (t3.out _ (by first | assumption | exact (t2.out _ (by first | assumption | exact (t1.out _ hbel.out).2 (by omega))).2 (by omega))).2 (by omega)), by first | exact h0.out | exact h0.out.trans hfr1 | exact h0.out.trans hfr2 | exact h0.out.trans hfr3 | exact (h0.out.trans hfr1).trans hfr2 | exact (h0.out.trans hfr1).trans hfr3 | exact (h0.out.trans hfr2).trans hfr3 | exact ((h0.out.trans hfr1).trans hfr2).trans hfr3⟩
          · have w1 : (i : Int) < (m : Int) := by omega
            have w2 : ¬ (m : Int) < (en : Int) := by omega
            have w3 : ¬ (i : Int) < (mid : Int) := by omega
            have w4 : (mid : Int) < (en : Int) := by omega
            have w5 : (a : Int) < (i : Int) := by omega
            have w6 : (en : Int) < (b : Int) := by omega
            go_wp2_with (first | (go_at_call 173; refine ((t1.out _ hbel.out).1 (by omega) (by omega) _ _ _ (by omega) (by omega) (by omega)).mono ?_; rintro e w1 ⟨rfl, hS1, hfr1⟩) | (go_at_call 166; refine ((t2.out _ (by first | assumption | exact (t1.out _ hbel.out).2 (by omega))).1 (by omega) (by omega) _ _ _ (by omega) (by omega) (by omega)).mono ?_; rintro e w2 ⟨rfl, hS2, hfr2⟩) | (go_at_call 166; refine ((t3.out _ (by first | assumption | exact (t2.out _ (by first | assumption | exact (t1.out _ hbel.out).2 (by omega))).2 (by omega))).1 (by omega) (by omega) _ _ _ (by omega) (by omega) (by omega)).mono ?_; rintro e w3 ⟨rfl, hS3, hfr3⟩))
            all_goals go_end0
            all_goals exact ⟨rfl, t4.out _ (by first | assumption | exact (t3.out _ (by first | assumption | exact (t2.out _ (by first | assumption | exact (t1.out _ hbel.out).2 (by omega))).2 (by omega))).2 (by omega)), by first | exact h0.out | exact h0.out.trans hfr1 | exact h0.out.trans hfr2 | exact h0.out.trans hfr3 | exact (h0.out.trans hfr1).trans hfr2 | exact (h0.out.trans hfr1).trans hfr3 | exact (h0.out.trans hfr2).trans hfr3 | exact ((h0.out.trans hfr1).trans hfr2).trans hfr3⟩
        · have w1 : ¬ (i : Int) < (m : Int) := by omega
          have w4 : ¬ (mid : Int) < (en : Int) := by omega
          have w5 : (a : Int) < (i : Int) := by omega
          rcases Nat.lt_or_ge i mid with a2 | a2
          · have w3 : (i : Int) < (mid : Int) := by omega
            go_wp2_with (first | (go_at_call 173; refine ((t1.out _ hbel.out).1 (by omega) (by omega) _ _ _ (by omega) (by omega) (by omega)).mono ?_; rintro e w1 ⟨rfl, hS1, hfr1⟩) | (go_at_call 166; refine ((t2.out _ (by first | assumption | exact (t1.out _ hbel.out).2 (by omega))).1 (by omega) (by omega) _ _ _ (by omega) (by omega) (by omega)).mono ?_; rintro e w2 ⟨rfl, hS2, hfr2⟩) | (go_at_call 166; refine ((t3.out _ (by first | assumption | exact (t2.out _ (by first | assumption | exact (t1.out _ hbel.out).2 (by omega))).2 (by omega))).1 (by omega) (by omega) _ _ _ (by omega) (by omega) (by omega)).mono ?_; rintro e w3 ⟨rfl, hS3, hfr3⟩))
            all_goals go_end0
            all_goals exact ⟨rfl, t4.out _ (by first | assumption | exact (t3.out _ (by first | assumption | exact (t2.out _ (by first | assumption | exact (t1.out _ hbel.out).2 (by omega))).2 (by omega))).2 (by omega)), by first | exact h0.out | exact h0.out.trans hfr1 | exact h0.out.trans hfr2 | exact h0.out.trans hfr3 | exact (h0.out.trans hfr1).trans hfr2 | exact (h0.out.trans hfr1).trans hfr3 | exact (h0.out.trans hfr2).trans hfr3 | exact ((h0.out.trans hfr1).trans hfr2).trans hfr3⟩
          · have w3 : ¬ (i : Int) < (mid : Int) := by omega
            go_wp2_with (first | (go_at_call 173; refine ((t1.out _ hbel.out).1 (by omega) (by omega) _ _ _ (by omega) (by omega) (by omega)).mono ?_; rintro e w1 ⟨rfl, hS1, hfr1⟩) | (go_at_call 166; refine ((t2.out _ (by first | assumption | exact (t1.out _ hbel.out).2 (by omega))).1 (by omega) (by omega) _ _ _ (by omega) (by omega) (by omega)).mono ?_; rintro e w2 ⟨rfl, hS2, hfr2⟩) | (go_at_call 166; refine ((t3.out _ (by first | assumption | exact (t2.out _ (by first | assumption | exact (t1.out _ hbel.out).2 (by omega))).2 (by omega))).1 (by omega) (by omega) _ _ _ (by omega) (by omega) (by omega)).mono ?_; rintro e w3 ⟨rfl, hS3, hfr3⟩))
            all_goals go_end0
            all_goals exact ⟨rfl, t4.out _ (by first | assumption | exact (t3.out _ (by first | assumption | exact (t2.out _ (by first | assumption | exact (t1.out _ hbel.out).2 (by omega))).2 (by omega))).2 (by omega)), by first | exact h0.out | exact h0.out.trans hfr1 | exact h0.out.trans hfr2 | exact h0.out.trans hfr3 | exact (h0.out.trans hfr1).trans hfr2 | exact (h0.out.trans hfr1).trans hfr3 | exact (h0.out.trans hfr2).trans hfr3 | exact ((h0.out.trans hfr1).trans hfr2).trans hfr3⟩
  · have c2 := c2.symm
    have c3 := c3.symm
    subst c2
    subst c3
    have hm1 : ¬ (mid : Int) < (m : Int) := by omega
    replace k5 := Lib.hid k5
    clear k4 k1
    go_enter Tryz.func166, Tryz.ntmps166
    go_wp2
    go_loopw [20, 21] (fun vi vj wr => ∃ i j : Nat, vi = .int .i64 (i : Int) ∧ vj = .int .i64 (j : Int) ∧ Q i j ∧ Below w.heap.size w wr) (fun vi vj _ => (intOf vj).toNat - (intOf vi).toNat)
    case atStart => exact ⟨a, m, by first | rfl | go_num, rfl, f3, Below.refl _ _⟩
    case round =>
      obtain ⟨i, j, rfl, rfl, hQ, hbel⟩ := hrel
      obtain ⟨g1, g2, g3⟩ := f4.out _ _ hQ
      have k5' := k5.out
      rcases Nat.lt_or_ge i j with hij | hij
      · have hi' : (i : Int) < (j : Int) := by omega
        obtain ⟨hh, he, hih, hhj⟩ : ∃ hh : Nat, ((i : Int) + (j : Int)) / 2 = (hh : Int) ∧ i ≤ hh ∧ hh < j := ⟨(i + j) / 2, by omega, by omega, by omega⟩
        obtain ⟨q, hqn, hqi⟩ : ∃ q : Nat, q = mid + m - 1 - hh ∧ (mid : Int) + (m : Int) - 1 - (hh : Int) = (q : Int) := ⟨mid + m - 1 - hh, rfl, by omega⟩
        obtain ⟨z, x, hzs, hxs, hc, hup, hdn⟩ := f5.out _ _ _ _ _ hQ hih hhj hqn hbel
        have hB : blk < wr.heap.size := Nat.lt_of_lt_of_le f2 hbel.size
        have hS0 : wr.drew.cell? ⟨blk, q * 2, none⟩ = some (.string z.1) ∧ wr.drew.cell? ⟨blk, q * 2 + 1, none⟩ = some (.int .i64 z.2) ∧ wr.drew.cell? ⟨blk, hh * 2, none⟩ = some (.string x.1) ∧ wr.drew.cell? ⟨blk, hh * 2 + 1, none⟩ = some (.int .i64 x.2) ∧ Below wr.heap.size wr wr.drew := ⟨hc.1, hc.2.1, hc.2.2.1, hc.2.2.2, (Below.refl _ _).drew⟩
        have hO := fun y => Lib.hid (c_OrderF z.1 x.1 z.2 x.2 hzs hxs y)
        unfold keyV at hO
        have hlt2 := cmpZ_lt (rankK z.1 z.2) (rankK x.1 x.2)
        generalize hR : cmpZ (rankK z.1 z.2) (rankK x.1 x.2) = Rz at hO hlt2
        replace hup := Lib.hid hup
        replace hdn := Lib.hid hdn
        have hbel := Lib.hid hbel
        have hhl : (hh : Int) < (len : Int) := by omega
        have hal : (q : Int) < (len : Int) := by omega
        have hqw : IntKind.i64.wrap ((mid : Int) + (m : Int) - 1 - (hh : Int)) = (q : Int) := by rw [IntKind.wrap_i64]; omega
        have hq0 : (0 : Int) ≤ (q : Int) := by omega
        clear hQ hR hc hqn hqi hfin f4 f5 f3 k5'
        by_cases hlv : Rz < 0
        · have hlv' := Lib.hid (hlt2.1 hlv)
          clear hlt2
          go_wp2_with fail
          go_region_held3 (fun y => y.cell? ⟨blk, q * 2, none⟩ = some (.string z.1) ∧ y.cell? ⟨blk, q * 2 + 1, none⟩ = some (.int .i64 z.2) ∧ y.cell? ⟨blk, hh * 2, none⟩ = some (.string x.1) ∧ y.cell? ⟨blk, hh * 2 + 1, none⟩ = some (.int .i64 x.2) ∧ Below wr.heap.size wr y) (first | assumption | exact peek_keep hB (by assumption) (by assumption)) (first | (go_at_call 104; refine (hO _).out.mono ?_; rintro e y' ⟨rfl, hb⟩))
          obtain ⟨d1, d2, d3, d4, hbel2⟩ := peek_keep hB hS0 hb
          have s1 := Lib.hid (hdn.out hlv'.out)
          have s2 := Lib.hid (below_after hbel.out hbel2)
          clear hS0 hb hbel2 hB d1 d2 d3 d4
          go_wp2
          go_roundw
          case rel => exact ⟨i, hh, rfl, by go_num, s1.out, s2.out⟩
          case measure => simp [intOf]; omega
        · have hle := Lib.hid (fun h => hlv (hlt2.2 h))
          have hlv2 : decide (Rz < 0) = false := decide_eq_false hlv
          clear hlt2 hlv
          go_wp2_with fail
          go_region_held3 (fun y => y.cell? ⟨blk, q * 2, none⟩ = some (.string z.1) ∧ y.cell? ⟨blk, q * 2 + 1, none⟩ = some (.int .i64 z.2) ∧ y.cell? ⟨blk, hh * 2, none⟩ = some (.string x.1) ∧ y.cell? ⟨blk, hh * 2 + 1, none⟩ = some (.int .i64 x.2) ∧ Below wr.heap.size wr y) (first | assumption | exact peek_keep hB (by assumption) (by assumption)) (first | (go_at_call 104; refine (hO _).out.mono ?_; rintro e y' ⟨rfl, hb⟩))
          obtain ⟨d1, d2, d3, d4, hbel2⟩ := peek_keep hB hS0 hb
          have s1 := Lib.hid (hup.out hle.out)
          have s2 := Lib.hid (below_after hbel.out hbel2)
          clear hS0 hb hbel2 hB d1 d2 d3 d4
          go_wp2
          go_roundw
          case rel => exact ⟨hh + 1, j, by go_num, rfl, s1.out, s2.out⟩
          case measure => simp [intOf]; omega
      · obtain rfl : i = j := by omega
        obtain ⟨en, r1, r2, r3, r4, r5, S1, S2, S3, t1, t2, t3, t4⟩ := hfin.out i hQ
        have hen : (mid : Int) + (m : Int) - (i : Int) = (en : Int) := by omega
        have h0 := Lib.hid (Fr.below (blk := blk) hbel)
        have hbel := Lib.hid hbel
        replace t1 := Lib.hid t1
        replace t2 := Lib.hid t2
        replace t3 := Lib.hid t3
        replace t4 := Lib.hid t4
        clear hfin f4 f5 f3 hQ k5'
        rcases Nat.lt_or_ge i m with a1 | a1
        · rcases Nat.lt_or_ge m en with a2 | a2
          · have w1 : (i : Int) < (m : Int) := by omega
            have w2 : (m : Int) < (en : Int) := by omega
            have w3 : (i : Int) < (mid : Int) := by omega
            have w4 : (mid : Int) < (en : Int) := by omega
            rcases Nat.lt_or_ge a i with a3 | a3
            · have w5 : (a : Int) < (i : Int) := by omega
              rcases Nat.lt_or_ge en b with a4 | a4
              · have w6 : (en : Int) < (b : Int) := by omega
                go_wp2_with (first | (go_at_call 173; refine ((t1.out _ hbel.out).1 (by omega) (by omega) _ _ _ (by omega) (by omega) (by omega)).mono ?_; rintro e w1 ⟨rfl, hS1, hfr1⟩) | (go_at_call 166; refine ((t2.out _ (by first | assumption | exact (t1.out _ hbel.out).2 (by omega))).1 (by omega) (by omega) _ _ _ (by omega) (by omega) (by omega)).mono ?_; rintro e w2 ⟨rfl, hS2, hfr2⟩) | (go_at_call 166; refine ((t3.out _ (by first | assumption | exact (t2.out _ (by first | assumption | exact (t1.out _ hbel.out).2 (by omega))).2 (by omega))).1 (by omega) (by omega) _ _ _ (by omega) (by omega) (by omega)).mono ?_; rintro e w3 ⟨rfl, hS3, hfr3⟩))
                all_goals go_end0
                all_goals exact ⟨rfl, t4.out _ (by first | assumption | exact (t3.out _ (by first | assumption | exact (t2.out _ (by first | assumption | exact (t1.out _ hbel.out).2 (by omega))).2 (by omega))).2 (by omega)), by first | exact h0.out | exact h0.out.trans hfr1 | exact h0.out.trans hfr2 | exact h0.out.trans hfr3 | exact (h0.out.trans hfr1).trans hfr2 | exact (h0.out.trans hfr1).trans hfr3 | exact (h0.out.trans hfr2).trans hfr3 | exact ((h0.out.trans hfr1).trans hfr2).trans hfr3⟩
              · have w6 : ¬ (en : Int) < (b : Int) := by omega
                go_wp2_with (first | (go_at_call 173; refine ((t1.out _ hbel.out).1 (by omega) (by omega) _ _ _ (by omega) (by omega) (by omega)).mono ?_; rintro e w1 ⟨rfl, hS1, hfr1⟩) | (go_at_call 166; refine ((t2.out _ (by first | assumption | exact (t1.out _ hbel.out).2 (by omega))).1 (by omega) (by omega) _ _ _ (by omega) (by omega) (by omega)).mono ?_; rintro e w2 ⟨rfl, hS2, hfr2⟩) | (go_at_call 166; refine ((t3.out _ (by first | assumption | exact (t2.out _ (by first | assumption | exact (t1.out _ hbel.out).2 (by omega))).2 (by omega))).1 (by omega) (by omega) _ _ _ (by omega) (by omega) (by omega)).mono ?_; rintro e w3 ⟨rfl, hS3, hfr3⟩))
                all_goals go_end0
                all_goals exact ⟨rfl, t4.out _ (by first | assumption | exact (t3.out _ (by first | assumption | exact (t2.out _ (by first | assumption | exact (t1.out _ hbel.out).2 (by omega))).2 (by omega))).2 (by omega)), by first | exact h0.out | exact h0.out.trans hfr1 | exact h0.out.trans hfr2 | exact h0.out.trans hfr3 | exact (h0.out.trans hfr1).trans hfr2 | exact (h0.out.trans hfr1).trans hfr3 | exact (h0.out.trans hfr2).trans hfr3 | exact ((h0.out.trans hfr1).trans hfr2).trans hfr3⟩
            · have w5 : ¬ (a : Int) < (i : Int) := by omega
              rcases Nat.lt_or_ge en b with a4 | a4
              · have w6 : (en : Int) < (b : Int) := by omega
                go_wp2_with (first | (go_at_call 173; refine ((t1.out _ hbel.out).1 (by omega) (by omega) _ _ _ (by omega) (by omega) (by omega)).mono ?_; rintro e w1 ⟨rfl, hS1, hfr1⟩) | (go_at_call 166; refine ((t2.out _ (by first | assumption | exact (t1.out _ hbel.out).2 (by omega))).1 (by omega) (by omega) _ _ _ (by omega) (by omega) (by omega)).mono ?_; rintro e w2 ⟨rfl, hS2, hfr2⟩) | (go_at_call 166; refine ((t3.out _ (by first | assumption | exact (t2.out _ (by first | assumption | exact (t1.out _ hbel.out).2 (by omega))).2 (by omega))).1 (by omega) (by omega) _ _ _ (by omega) (by omega) (by omega)).mono ?_; rintro e w3 ⟨rfl, hS3, hfr3⟩))
                all_goals go_end0
                all_goals exact ⟨rfl, t4.out _ (by first | assumption | exact (t3.out _ (by first | assumption | exact (t2.out _ (by first | assumption | exact (t1.out _ hbel.out).2 (by omega))).2 (by omega))).2 (by omega)), by first | exact h0.out | exact h0.out.trans hfr1 | exact h0.out.trans hfr2 | exact h0.out.trans hfr3 | exact (h0.out.trans hfr1).trans hfr2 | exact (h0.out.trans hfr1).trans hfr3 | exact (h0.out.trans hfr2).trans hfr3 | exact ((h0.out.trans hfr1).trans hfr2).trans hfr3⟩
              · have w6 : ¬ (en : Int) < (b : Int) := by omega
                go_wp2_with (first | (go_at_call 173; refine ((t1.out _ hbel.out).1 (by omega) (by omega) _ _ _ (by omega) (by omega) (by omega)).mono ?_; rintro e w1 ⟨rfl, hS1, hfr1⟩) | (go_at_call 166; refine ((t2.out _ (by first | assumption | exact (t1.out _ hbel.out).2 (by omega))).1 (by omega) (by omega) _ _ _ (by omega) (by omega) (by omega)).mono ?_; rintro e w2 ⟨rfl, hS2, hfr2⟩) | (go_at_call 166; refine ((t3.out _ (by first | assumption | exact (t2.out _ (by first | assumption | exact (t1.out _ hbel.out).2 (by omega))).2 (by omega))).1 (by omega) (by omega) _ _ _ (by omega) (by omega) (by omega)).mono ?_; rintro e w3 ⟨rfl, hS3, hfr3⟩))
                all_goals go_end0
                all_goals exact ⟨rfl, t4.out _ (by first | assumption | exact (t3.out _ (by first | assumption | exact (t2.out _ (by first | assumption | exact (t1.out _ hbel.out).2 (by omega))).2 (by omega))).2 (by omega)), by first | exact h0.out | exact h0.out.trans hfr1 | exact h0.out.trans hfr2 | exact h0.out.trans hfr3 | exact (h0.out.trans hfr1).trans hfr2 | exact (h0.out.trans hfr1).trans hfr3 | exact (h0.out.trans hfr2).trans hfr3 | exact ((h0.out.trans hfr1).trans hfr2).trans hfr3⟩
          · have w1 : (i : Int) < (m : Int) := by omega
            have w2 : ¬ (m : Int) < (en : Int) := by omega
            have w3 : ¬ (i : Int) < (mid : Int) := by omega
            have w4 : (mid : Int) < (en : Int) := by omega
            have w5 : (a : Int) < (i : Int) := by omega
            have w6 : (en : Int) < (b : Int) := by omega
            go_wp2_with (first | (go_at_call 173; refine ((t1.out _ hbel.out).1 (by omega) (by omega) _ _ _ (by omega) (by omega) (by omega)).mono ?_; rintro e w1 ⟨rfl, hS1, hfr1⟩) | (go_at_call 166; refine ((t2.out _ (by first | assumption | exact (t1.out _ hbel.out).2 (by omega))).1 (by omega) (by omega) _ _ _ (by omega) (by omega) (by omega)).mono ?_; rintro e w2 ⟨rfl, hS2, hfr2⟩) | (go_at_call 166; refine ((t3.out _ (by first | assumption | exact (t2.out _ (by first | assumption | exact (t1.out _ hbel.out).2 (by omega))).2 (by omega))).1 (by omega) (by omega) _ _ _ (by omega) (by omega) (by omega)).mono ?_; rintro e w3 ⟨rfl, hS3, hfr3⟩))
            all_goals go_end0
            all_goals exact ⟨rfl, t4.out _ (by first | assumption | exact (t3.out _ (by first | assumption | exact (t2.out _ (by first | assumption | exact (t1.out _ hbel.out).2 (by omega))).2 (by omega))).2 (by omega)), by first | exact h0.out | exact h0.out.trans hfr1 | exact h0.out.trans hfr2 | exact h0.out.trans hfr3 | exact (h0.out.trans hfr1).trans hfr2 | exact (h0.out.trans hfr1).trans hfr3 | exact (h0.out.trans hfr2).trans hfr3 | exact ((h0.out.trans hfr1).trans hfr2).trans hfr3⟩
        · have w1 : ¬ (i : Int) < (m : Int) := by omega
          have w4 : ¬ (mid : Int) < (en : Int) := by omega
          have w5 : (a : Int) < (i : Int) := by omega
          rcases Nat.lt_or_ge i mid with a2 | a2
          · have w3 : (i : Int) < (mid : Int) := by omega
            go_wp2_with (first | (go_at_call 173; refine ((t1.out _ hbel.out).1 (by omega) (by omega) _ _ _ (by omega) (by omega) (by omega)).mono ?_; rintro e w1 ⟨rfl, hS1, hfr1⟩) | (go_at_call 166; refine ((t2.out _ (by first | assumption | exact (t1.out _ hbel.out).2 (by omega))).1 (by omega) (by omega) _ _ _ (by omega) (by omega) (by omega)).mono ?_; rintro e w2 ⟨rfl, hS2, hfr2⟩) | (go_at_call 166; refine ((t3.out _ (by first | assumption | exact (t2.out _ (by first | assumption | exact (t1.out _ hbel.out).2 (by omega))).2 (by omega))).1 (by omega) (by omega) _ _ _ (by omega) (by omega) (by omega)).mono ?_; rintro e w3 ⟨rfl, hS3, hfr3⟩))
            all_goals go_end0
            all_goals exact ⟨rfl, t4.out _ (by first | assumption | exact (t3.out _ (by first | assumption | exact (t2.out _ (by first | assumption | exact (t1.out _ hbel.out).2 (by omega))).2 (by omega))).2 (by omega)), by first | exact h0.out | exact h0.out.trans hfr1 | exact h0.out.trans hfr2 | exact h0.out.trans hfr3 | exact (h0.out.trans hfr1).trans hfr2 | exact (h0.out.trans hfr1).trans hfr3 | exact (h0.out.trans hfr2).trans hfr3 | exact ((h0.out.trans hfr1).trans hfr2).trans hfr3⟩
          · have w3 : ¬ (i : Int) < (mid : Int) := by omega
            go_wp2_with (first | (go_at_call 173; refine ((t1.out _ hbel.out).1 (by omega) (by omega) _ _ _ (by omega) (by omega) (by omega)).mono ?_; rintro e w1 ⟨rfl, hS1, hfr1⟩) | (go_at_call 166; refine ((t2.out _ (by first | assumption | exact (t1.out _ hbel.out).2 (by omega))).1 (by omega) (by omega) _ _ _ (by omega) (by omega) (by omega)).mono ?_; rintro e w2 ⟨rfl, hS2, hfr2⟩) | (go_at_call 166; refine ((t3.out _ (by first | assumption | exact (t2.out _ (by first | assumption | exact (t1.out _ hbel.out).2 (by omega))).2 (by omega))).1 (by omega) (by omega) _ _ _ (by omega) (by omega) (by omega)).mono ?_; rintro e w3 ⟨rfl, hS3, hfr3⟩))
            all_goals go_end0
            all_goals exact ⟨rfl, t4.out _ (by first | assumption | exact (t3.out _ (by first | assumption | exact (t2.out _ (by first | assumption | exact (t1.out _ hbel.out).2 (by omega))).2 (by omega))).2 (by omega)), by first | exact h0.out | exact h0.out.trans hfr1 | exact h0.out.trans hfr2 | exact h0.out.trans hfr3 | exact (h0.out.trans hfr1).trans hfr2 | exact (h0.out.trans hfr1).trans hfr3 | exact (h0.out.trans hfr2).trans hfr3 | exact ((h0.out.trans hfr1).trans hfr2).trans hfr3⟩
theorem symOK (N : Nat) : SymOK N := by
  induction N with
  | zero => intro blk cap P X Y S len a m b w hN; omega
  | succ n ih =>
    intro blk cap P X Y S len a m b w hN hlen ha hm hb hX hY hsX hsY hsm hsz h
    rcases Nat.lt_or_ge (X.length + Y.length) n with hlt | hge
    · exact ih blk cap P X Y S len a m b w hlt hlen ha hm hb hX hY hsX hsY hsm hsz h
    have hn : n = X.length + Y.length := by omega
    subst hn
    by_cases h1 : X.length = 1
    · obtain ⟨x, rfl⟩ := List.length_eq_one_iff.1 h1
      exact c_sym1 blk cap P Y S x len a m b (by simpa using hlen) ha (by simpa using hm) hb hsY (by simpa using hsm) hsz w (by simpa using h)
    · by_cases h2 : Y.length = 1
      · obtain ⟨x, rfl⟩ := List.length_eq_one_iff.1 h2
        exact c_sym2 blk cap P X S x len a m b (by simpa using hlen) ha hm h1 (by simpa using hb) hsX (by simpa using hsm) hsz w (by simpa using h)
      · exact c_sym3 blk cap P X Y S len a m b ih hlen ha hm hb (by omega) (by omega) hsX hsY hsm hsz w h
theorem c_symMerge (blk cap : Nat) (P X Y S : List KK) (len a m b : Nat) (w : World) (hlen : len = (P ++ (X ++ (Y ++ S))).length) (ha : a = P.length) (hm : m = a + X.length) (hb : b = m + Y.length) (hX : 0 < X.length) (hY : 0 < Y.length) (hsX : Srt X) (hsY : Srt Y) (hsm : Small (X ++ Y)) (hsz : len ≤ 1099511627776) (h : RowL w blk (P ++ (X ++ (Y ++ S)))) :
    Calls Tryz.prog 166 #[.slice (some ⟨blk, 0, none⟩) len cap, .int .i64 (a : Int), .int .i64 (m : Int), .int .i64 (b : Int), .func (.func 104) #[] #[]] w fun e w' => e = .returned (.tuple #[]) ∧ (∃ Z, RowL w' blk (P ++ (Z ++ S)) ∧ Srt Z ∧ Eqv Z (X ++ Y)) ∧ Fr blk w w' :=
  symOK (X.length + Y.length + 1) blk cap P X Y S len a m b w (by omega) hlen ha hm hb hX hY hsX hsY hsm hsz h
end Go.Proofs.YtkbohoolnpaleaaGreatDoor
namespace Go.Proofs.YtkbohoolnpaleaaGreatDoor
open Go.RowKit Go.Shelf Go.Lib Go.Sort Go.Proofs
set_option maxHeartbeats 2000000
set_option maxRecDepth 100000

/-- k blocks of bs elements, each in order -/
def Full (bs : Nat) : Nat → List KK → Prop
  | 0, l => l = []
  | k + 1, l => ∃ A B, l = A ++ B ∧ A.length = bs ∧ Srt A ∧ Full bs k B
theorem Full.len {bs k : Nat} {l : List KK} (h : Full bs k l) : l.length = k * bs := by
  induction k generalizing l with
  | zero => simp only [Full] at h; subst h; simp
  | succ k ih =>
    obtain ⟨A, B, rfl, hA, _, hB⟩ := h
    rw [List.length_append, hA, ih hB, Nat.succ_mul]; omega
theorem Full.snoc {bs k : Nat} {l A : List KK} (h : Full bs k l) (hA : A.length = bs) (hs : Srt A) : Full bs (k + 1) (l ++ A) := by
  induction k generalizing l with
  | zero => simp only [Full] at h; subst h; exact ⟨A, [], by simp, hA, hs, rfl⟩
  | succ k ih =>
    obtain ⟨C, B, rfl, hC, hsC, hB⟩ := h
    exact ⟨C, B ++ A, by simp, hC, hsC, ih hB⟩
/-- all before a is in blocks of 20 -/
def St1 (blk : Nat) (L : List KK) (a : Nat) (w : World) : Prop := ∃ k F T, RowL w blk (F ++ T) ∧ Full 20 k F ∧ F.length = a ∧ Eqv (F ++ T) L
/-- all is in blocks of bs, the last one shorter -/
def St2 (blk : Nat) (L : List KK) (bs : Nat) (w : World) : Prop := ∃ k F Z, RowL w blk (F ++ Z) ∧ Full bs k F ∧ Srt Z ∧ Z.length < bs ∧ Eqv (F ++ Z) L
/-- all before a is in blocks of 2 bs, the rest in blocks of bs -/
def St3 (blk : Nat) (L : List KK) (bs a : Nat) (w : World) : Prop := ∃ j k D F Z, RowL w blk (D ++ (F ++ Z)) ∧ Full (2 * bs) j D ∧ D.length = a ∧ Full bs k F ∧ Srt Z ∧ Z.length < bs ∧ Eqv (D ++ (F ++ Z)) L
theorem st1_step (blk cap len : Nat) (L : List KK) (hlen : len = L.length) (hsm : Small L) (hsz : len ≤ 1099511627776) (a : Nat) (w : World) (h : St1 blk L a w) (ha : a + 20 ≤ len) (za zb : Int) (e1 : za = a) (e2 : zb = a + 20) :
    Calls Tryz.prog 165 #[.slice (some ⟨blk, 0, none⟩) len cap, .int .i64 za, .int .i64 zb, .func (.func 104) #[] #[]] w fun e w' => e = .returned (.tuple #[]) ∧ St1 blk L (a + 20) w' ∧ Fr blk w w' := by
  obtain ⟨k, F, T, h1, h2, h3, h4⟩ := h
  have hl := h4.len
  simp only [List.length_append] at hl
  obtain ⟨R, T, rfl, hR⟩ := split_at T 20 (by omega)
  have e2' : zb = ((a + 20 : Nat) : Int) := by omega
  rw [e1, e2']
  refine (c_ins blk cap F R T len a (a + 20) (by simp; simp at hl; omega) (by omega) (by omega) (fun x hx => hsm x (h4.mem (by simp [hx]))) hsz w (by simpa using h1)).mono ?_
  rintro e w1 ⟨rfl, ⟨Z, q1, q2, q3⟩, q4⟩
  have hZ := q3.len
  refine ⟨rfl, ⟨k + 1, F ++ Z, T, by simpa using q1, h2.snoc (by omega) q2, by simp; omega, ?_⟩, q4⟩
  refine Eqv.trans ?_ h4
  have := (Eqv.refl F).app (q3.app (Eqv.refl T))
  simpa using this
theorem st1_last (blk cap len : Nat) (L : List KK) (hlen : len = L.length) (hsm : Small L) (hsz : len ≤ 1099511627776) (a : Nat) (w : World) (h : St1 blk L a w) (ha : len < a + 20) (za zb : Int) (e1 : za = a) (e2 : zb = len) :
    Calls Tryz.prog 165 #[.slice (some ⟨blk, 0, none⟩) len cap, .int .i64 za, .int .i64 zb, .func (.func 104) #[] #[]] w fun e w' => e = .returned (.tuple #[]) ∧ St2 blk L 20 w' ∧ Fr blk w w' := by
  obtain ⟨k, F, T, h1, h2, h3, h4⟩ := h
  have hl := h4.len
  simp only [List.length_append] at hl
  rw [e1, e2]
  refine (c_ins blk cap F T [] len a len (by simp; omega) (by omega) (by omega) (fun x hx => hsm x (h4.mem (by simp [hx]))) hsz w (by simpa using h1)).mono ?_
  rintro e w1 ⟨rfl, ⟨Z, q1, q2, q3⟩, q4⟩
  have hZ := q3.len
  exact ⟨rfl, ⟨k, F, Z, by simpa using q1, h2, q2, by omega, ((Eqv.refl F).app q3).trans h4⟩, q4⟩
theorem st1_bound {blk : Nat} {L : List KK} {a : Nat} {w : World} (h : St1 blk L a w) : a ≤ L.length := by
  obtain ⟨k, F, T, h1, h2, h3, h4⟩ := h
  have hl := h4.len
  simp only [List.length_append] at hl
  omega
theorem st3_bound {blk : Nat} {L : List KK} {bs a : Nat} {w : World} (h : St3 blk L bs a w) : a ≤ L.length := by
  obtain ⟨j, k, D, F, Z, h1, h2, h3, h4, h5, h6, h7⟩ := h
  have hl := h7.len
  simp only [List.length_append] at hl
  omega
theorem st2_enter {blk : Nat} {L : List KK} {bs : Nat} {w : World} (h : St2 blk L bs w) : St3 blk L bs 0 w := by
  obtain ⟨k, F, Z, h1, h2, h3, h4, h5⟩ := h
  exact ⟨0, k, [], F, Z, by simpa using h1, rfl, rfl, h2, h3, h4, by simpa using h5⟩
theorem st2_end {blk : Nat} {L : List KK} {bs : Nat} {w : World} (h : St2 blk L bs w) (hb : L.length ≤ bs) : ∃ Z, RowL w blk Z ∧ Srt Z ∧ Eqv Z L := by
  obtain ⟨k, F, Z, h1, h2, h3, h4, h5⟩ := h
  have hl := h5.len
  simp only [List.length_append] at hl
  have hF := h2.len
  match k, h2, hF with
  | 0, h2, hF =>
    simp only [Full] at h2; subst h2
    exact ⟨Z, by simpa using h1, h3, by simpa using h5⟩
  | 1, ⟨A, B, e, hA, hs, hB⟩, hF =>
    simp only [Full] at hB; subst hB
    have hZ : Z = [] := List.length_eq_zero_iff.1 (by omega)
    subst hZ
    simp at e; subst e
    exact ⟨F, by simpa using h1, hs, by simpa using h5⟩
  | k + 2, h2, hF =>
    have : (k + 2) * bs = k * bs + bs + bs := by rw [Nat.add_mul]; omega
    omega
theorem st3_step (blk cap len : Nat) (L : List KK) (hlen : len = L.length) (hsm : Small L) (hsz : len ≤ 1099511627776) (bs a : Nat) (hb0 : 0 < bs) (w : World) (h : St3 blk L bs a w) (ha : a + 2 * bs ≤ len) (za zm zb : Int) (e1 : za = a) (e2 : zm = a + bs) (e3 : zb = a + 2 * bs) :
    Calls Tryz.prog 166 #[.slice (some ⟨blk, 0, none⟩) len cap, .int .i64 za, .int .i64 zm, .int .i64 zb, .func (.func 104) #[] #[]] w fun e w' => e = .returned (.tuple #[]) ∧ St3 blk L bs (a + 2 * bs) w' ∧ Fr blk w w' := by
  obtain ⟨j, k, D, F, Z, h1, h2, h3, h4, h5, h6, h7⟩ := h
  have hl := h7.len
  simp only [List.length_append] at hl
  have hF := h4.len
  match k, h4, hF with
  | 0, h4, hF => omega
  | 1, h4, hF => omega
  | k + 2, ⟨A, F1, eA, hA, sA, B, F2, eB, hB, sB, h4'⟩, hF =>
    subst eB; subst eA
    simp only [List.length_append] at hl
    have e2' : zm = ((a + bs : Nat) : Int) := by omega
    have e3' : zb = ((a + 2 * bs : Nat) : Int) := by omega
    rw [e1, e2', e3']
    refine (c_symMerge blk cap D A B (F2 ++ Z) len a (a + bs) (a + 2 * bs) w (by simp only [List.length_append]; omega) (by omega) (by omega) (by omega) (by omega) (by omega) sA sB (fun x hx => hsm x (h7.mem (by simp at hx ⊢; rcases hx with hx | hx <;> simp [hx]))) hsz (by simpa using h1)).mono ?_
    rintro e w1 ⟨rfl, ⟨Y, q1, q2, q3⟩, q4⟩
    have hY := q3.len
    simp only [List.length_append] at hY
    refine ⟨rfl, ⟨j + 1, k, D ++ Y, F2, Z, by simpa using q1, h2.snoc (by omega) q2, by simp; omega, h4', h5, h6, ?_⟩, q4⟩
    refine Eqv.trans ?_ h7
    have := (Eqv.refl D).app (q3.app (Eqv.refl (F2 ++ Z)))
    simpa using this
theorem st3_last (blk cap len : Nat) (L : List KK) (hlen : len = L.length) (hsm : Small L) (hsz : len ≤ 1099511627776) (bs a : Nat) (w : World) (h : St3 blk L bs a w) (ha : len < a + 2 * bs) (hm : a + bs < len) (za zm zb : Int) (e1 : za = a) (e2 : zm = a + bs) (e3 : zb = len) :
    Calls Tryz.prog 166 #[.slice (some ⟨blk, 0, none⟩) len cap, .int .i64 za, .int .i64 zm, .int .i64 zb, .func (.func 104) #[] #[]] w fun e w' => e = .returned (.tuple #[]) ∧ St2 blk L (2 * bs) w' ∧ Fr blk w w' := by
  obtain ⟨j, k, D, F, Z, h1, h2, h3, h4, h5, h6, h7⟩ := h
  have hl := h7.len
  simp only [List.length_append] at hl
  have hF := h4.len
  match k, h4, hF with
  | 0, h4, hF =>
    have : F.length = 0 := by rw [hF]; exact Nat.zero_mul bs
    omega
  | k + 2, h4, hF =>
    have : (k + 2) * bs = k * bs + bs + bs := by rw [Nat.add_mul]; omega
    omega
  | 1, ⟨A, F1, eA, hA, sA, h4⟩, hF =>
    simp only [Full] at h4; subst h4
    simp at eA; subst eA
    have e2' : zm = ((a + bs : Nat) : Int) := by omega
    rw [e1, e2', e3]
    refine (c_symMerge blk cap D F Z [] len a (a + bs) len w (by simp only [List.length_append, List.length_nil]; omega) (by omega) (by omega) (by omega) (by omega) (by omega) sA h5 (fun x hx => hsm x (h7.mem (by simp at hx ⊢; rcases hx with hx | hx <;> simp [hx]))) hsz (by simpa using h1)).mono ?_
    rintro e w1 ⟨rfl, ⟨Y, q1, q2, q3⟩, q4⟩
    have hY := q3.len
    simp only [List.length_append] at hY
    exact ⟨rfl, ⟨j, D, Y, by simpa using q1, h2, q2, by omega, ((Eqv.refl D).app q3).trans h7⟩, q4⟩
theorem st3_skip (blk len : Nat) (L : List KK) (hlen : len = L.length) (bs a : Nat) (w : World) (h : St3 blk L bs a w) (ha : len < a + 2 * bs) (hm : ¬ a + bs < len) : St2 blk L (2 * bs) w := by
  obtain ⟨j, k, D, F, Z, h1, h2, h3, h4, h5, h6, h7⟩ := h
  have hl := h7.len
  simp only [List.length_append] at hl
  have hF := h4.len
  match k, h4, hF with
  | 0, h4, hF =>
    simp only [Full] at h4; subst h4
    exact ⟨j, D, Z, by simpa using h1, h2, h5, by omega, by simpa using h7⟩
  | k + 2, h4, hF =>
    have : (k + 2) * bs = k * bs + bs + bs := by rw [Nat.add_mul]; omega
    omega
  | 1, ⟨A, F1, eA, hA, sA, h4⟩, hF =>
    simp only [Full] at h4; subst h4
    simp at eA; subst eA
    have hZ : Z = [] := List.length_eq_zero_iff.1 (by omega)
    subst hZ
    exact ⟨j, D, F, by simpa using h1, h2, sA, by omega, by simpa using h7⟩
theorem c_stable (blk cap len : Nat) (L : List KK) (hlen : len = L.length) (hsm : Small L) (hsz : len ≤ 1099511627776) (w : World) (h : RowL w blk L) :
    Calls Tryz.prog 137 #[.slice (some ⟨blk, 0, none⟩) len cap, .int .i64 (len : Int), .func (.func 104) #[] #[]] w fun e w' => e = .returned (.tuple #[]) ∧ (∃ Z, RowL w' blk Z ∧ Srt Z ∧ Eqv Z L) ∧ Fr blk w w' := by
  have f0 : St1 blk L 0 w := ⟨0, [], L, by simpa using h, rfl, rfl, Eqv.refl _⟩
  have f1 := st1_step blk cap len L hlen hsm hsz
  have f2 := st1_last blk cap len L hlen hsm hsz
  have f3 : ∀ a w, St1 blk L a w → a ≤ len := fun a w h => hlen ▸ st1_bound h
  have f4 := st3_step blk cap len L hlen hsm hsz
  have f5 := st3_last blk cap len L hlen hsm hsz
  have f6 := st3_skip blk len L hlen
  have f7 : ∀ bs a w, St3 blk L bs a w → a ≤ len := fun bs a w h => hlen ▸ st3_bound h
  have f8 : ∀ bs w, St2 blk L bs w → St3 blk L bs 0 w := fun bs w h => st2_enter h
  have f9 : ∀ bs w, St2 blk L bs w → len ≤ bs → ∃ Z, RowL w blk Z ∧ Srt Z ∧ Eqv Z L := fun bs w h hb => st2_end h (hlen ▸ hb)
  clear h hlen hsm
  generalize St1 blk L = A1 at *
  generalize St2 blk L = A2 at *
  generalize St3 blk L = A3 at *
  replace f1 := Lib.hid f1
  replace f2 := Lib.hid f2
  replace f3 := Lib.hid f3
  replace f4 := Lib.hid f4
  replace f5 := Lib.hid f5
  replace f6 := Lib.hid f6
  replace f7 := Lib.hid f7
  replace f8 := Lib.hid f8
  replace f9 := Lib.hid f9
  go_enter Tryz.func137, Tryz.ntmps137
  go_wp2
  go_loopw [7, 8] (fun va vb wr => ∃ a : Nat, va = .int .i64 (a : Int) ∧ vb = .int .i64 ((a : Int) + 20) ∧ A1 a wr ∧ Fr blk w wr) (fun va vb _ => len - (intOf va).toNat)
  case atStart => exact ⟨0, rfl, by go_num, f0, Fr.refl _ _⟩
  case round =>
    obtain ⟨a, rfl, rfl, hA, hfr⟩ := hrel
    have hab := f3.out _ _ hA
    clear f0
    rcases Nat.lt_or_ge len (a + 20) with hlt | hge
    · have hC := fun za zb => Lib.hid (f2.out a wr hA hlt za zb)
      have k1 : ¬ (a : Int) + 20 ≤ (len : Int) := by omega
      clear hA f1 f2
      go_wp2_with (go_at_call 165; refine ((hC _ _).out (by omega) (by omega)).mono ?_; rintro e w1 ⟨rfl, hA2, hfr1⟩)
      have hA2 := Lib.hid hA2
      have hfr0 := Lib.hid (hfr.trans hfr1)
      clear hC hfr hfr1
      go_loopw [6] (fun vs wr2 => ∃ bs : Nat, vs = .int .i64 (bs : Int) ∧ 0 < bs ∧ bs ≤ 2199023255600 ∧ A2 bs wr2 ∧ Fr blk w wr2) (fun vs _ => len - (intOf vs).toNat)
      case atStart => exact ⟨20, rfl, by omega, by omega, hA2.out, hfr0.out⟩
      case round =>
        obtain ⟨bs, rfl, hb0, hbm, hB, hfr⟩ := hrel
        clear hA2 hfr0
        rcases Nat.lt_or_ge bs len with hbl | hbl
        · have hA3 := Lib.hid (f8.out _ _ hB)
          have hbl' : (bs : Int) < (len : Int) := by omega
          have hfr0 := Lib.hid hfr
          clear hB hfr
          go_wp2
          go_loopw [7, 8] (fun va vb wr2 => ∃ a : Nat, va = .int .i64 (a : Int) ∧ vb = .int .i64 ((a : Int) + 2 * bs) ∧ A3 bs a wr2 ∧ Fr blk w wr2) (fun va vb _ => len - (intOf va).toNat)
          case atStart => exact ⟨0, rfl, by go_num, hA3.out, hfr0.out⟩
          case round =>
            obtain ⟨a, rfl, rfl, hA, hfr⟩ := hrel
            have hab := f7.out _ _ _ hA
            clear hA3 hfr0
            rcases Nat.lt_or_ge len (a + 2 * bs) with hlt | hge
            · have k1 : ¬ (a : Int) + 2 * bs ≤ (len : Int) := by omega
              by_cases hm : a + bs < len
              · have hC := fun za zm zb => Lib.hid (f5.out bs a wr hA hlt hm za zm zb)
                have k2 : (a : Int) + bs < (len : Int) := by omega
                clear hA hm
                go_wp2_with (go_at_call 166; refine ((hC _ _ _).out (by omega) (by omega) (by omega)).mono ?_; rintro e w1 ⟨rfl, hA2, hfr1⟩)
                go_roundw
                case rel => exact ⟨2 * bs, by go_num, by omega, by omega, hA2, hfr.trans hfr1⟩
                case measure => simp [intOf]; omega
              · have hA2 := Lib.hid (f6.out bs a wr hA hlt hm)
                have k2 : ¬ (a : Int) + bs < (len : Int) := by omega
                clear hA hm
                go_wp2
                go_roundw
                case rel => exact ⟨2 * bs, by go_num, by omega, by omega, hA2.out, hfr⟩
                case measure => simp [intOf]; omega
            · have k1 : (a : Int) + 2 * bs ≤ (len : Int) := by omega
              have hC := fun za zm zb => Lib.hid (f4.out bs a hb0 wr hA hge za zm zb)
              clear hA
              go_wp2_with (go_at_call 166; refine ((hC _ _ _).out (by omega) (by omega) (by omega)).mono ?_; rintro e w1 ⟨rfl, hA2, hfr1⟩)
              go_roundw
              case rel => exact ⟨a + 2 * bs, by go_num, by go_num, hA2, hfr.trans hfr1⟩
              case measure => simp [intOf]; omega
        · have hZ := Lib.hid (f9.out _ _ hB hbl)
          have hbl' : ¬ (bs : Int) < (len : Int) := by omega
          clear hB
          go_wp2
          go_end0
          exact ⟨rfl, hZ.out, hfr⟩
    · have hC := fun za zb => Lib.hid (f1.out a wr hA hge za zb)
      have k1 : (a : Int) + 20 ≤ (len : Int) := by omega
      clear hA
      go_wp2_with (go_at_call 165; refine ((hC _ _).out (by omega) (by omega)).mono ?_; rintro e w1 ⟨rfl, hA2, hfr1⟩)
      go_roundw
      case rel => exact ⟨a + 20, by go_num, by go_num, hA2, hfr.trans hfr1⟩
      case measure => simp [intOf]; omega
theorem c_SortStable (blk cap len : Nat) (L : List KK) (hlen : len = L.length) (hsm : Small L) (hsz : len ≤ 1099511627776) (w : World) (h : RowL w blk L) :
    Calls Tryz.prog 103 #[.slice (some ⟨blk, 0, none⟩) len cap, .func (.func 104) #[] #[]] w fun e w' => e = .returned (.tuple #[]) ∧ (∃ Z, RowL w' blk Z ∧ Srt Z ∧ Eqv Z L) ∧ Fr blk w w' := by
  have hC := Lib.hid (c_stable blk cap len L hlen hsm hsz w h)
  clear h hlen hsm
  go_enter Tryz.func103, Tryz.ntmps103
  go_wp2_with (go_at_call 137; refine hC.out.mono ?_; rintro e w1 ⟨rfl, hZ, hfr⟩)
  go_end0
  exact ⟨rfl, hZ, hfr⟩
/-- nothing to sort: nothing is done -/
theorem c_ins0 (b : Option Addr) (cap : Nat) (w : World) :
    Calls Tryz.prog 165 #[.slice b 0 cap, .int .i64 0, .int .i64 0, .func (.func 104) #[] #[]] w fun e w' => e = .returned (.tuple #[]) ∧ w' = w := by
  go_enter Tryz.func165, Tryz.ntmps165
  go_wp2
  go_loopw [8] (fun vi wr => vi = .int .i64 1 ∧ wr = w) (fun _ _ => 0)
  case atStart => exact ⟨rfl, rfl⟩
  case round =>
    obtain ⟨rfl, rfl⟩ := hrel
    go_wp2
    go_end0
    exact ⟨rfl, rfl⟩
theorem c_stable0 (b : Option Addr) (cap : Nat) (w : World) :
    Calls Tryz.prog 137 #[.slice b 0 cap, .int .i64 0, .func (.func 104) #[] #[]] w fun e w' => e = .returned (.tuple #[]) ∧ w' = w := by
  go_enter Tryz.func137, Tryz.ntmps137
  go_wp2
  go_loopw [7, 8] (fun va vb wr => va = .int .i64 0 ∧ vb = .int .i64 20 ∧ wr = w) (fun va vb _ => 0)
  case atStart => exact ⟨rfl, rfl, rfl⟩
  case round =>
    obtain ⟨rfl, rfl, rfl⟩ := hrel
    go_wp2_with (go_at_call 165; refine (c_ins0 _ _ _).mono ?_; rintro e w1 ⟨rfl, rfl⟩)
    go_loopw [6] (fun vs wr2 => vs = .int .i64 20 ∧ wr2 = w1) (fun vs _ => 0)
    case atStart => exact ⟨rfl, rfl⟩
    case round =>
      obtain ⟨rfl, rfl⟩ := hrel
      go_wp2
      go_end0
      exact ⟨rfl, rfl⟩
theorem c_SortStable0 (b : Option Addr) (cap : Nat) (w : World) :
    Calls Tryz.prog 103 #[.slice b 0 cap, .func (.func 104) #[] #[]] w fun e w' => e = .returned (.tuple #[]) ∧ w' = w := by
  go_enter Tryz.func103, Tryz.ntmps103
  go_wp2_with (go_at_call 137; refine (c_stable0 _ _ _).mono ?_; rintro e w1 ⟨rfl, rfl⟩)
  go_end0
  exact ⟨rfl, rfl⟩
end Go.Proofs.YtkbohoolnpaleaaGreatDoor
namespace Go.Proofs.YtkbohoolnpaleaaGreatDoor
open Go.RowKit Go.Shelf Go.Lib Go.Sort Go.Proofs
set_option maxHeartbeats 400000
set_option maxRecDepth 100000

def flatK (l : List KK) : List Value := l.flatMap encK
theorem flatK_len (l : List KK) : (flatK l).length = l.length * 2 := by
  induction l with
  | nil => rfl
  | cons x l ih => simp only [flatK, List.flatMap_cons, List.length_append, encK_len, List.length_cons] at ih ⊢; rw [ih]; omega
theorem flatK_get (l : List KK) (i : Nat) (x : KK) (h : l[i]? = some x) : (flatK l)[i * 2]? = some (.string x.1) ∧ (flatK l)[i * 2 + 1]? = some (.int .i64 x.2) := by
  induction l generalizing i with
  | nil => simp at h
  | cons y l ih =>
    have e : flatK (y :: l) = .string y.1 :: .int .i64 y.2 :: flatK l := rfl
    rw [e]
    cases i with
    | zero => simp at h; subst h; exact ⟨rfl, rfl⟩
    | succ i =>
      have := ih i (by simpa using h)
      have e1 : (i + 1) * 2 = i * 2 + 1 + 1 := by omega
      rw [e1]
      simpa using this
theorem flatK_one (l : List KK) : ∀ u ∈ flatK l, u.oneCell' = true := by
  intro u hu
  obtain ⟨x, _, hx⟩ := List.mem_flatMap.1 hu
  exact encK_one x u hx
theorem flatK_app (a b : List KK) : flatK (a ++ b) = flatK a ++ flatK b := List.flatMap_append ..
/-- v reads as the list l -/
def RdK (w : World) (v : Value) (l : List KK) : Prop :=
  (v = .slice none 0 0 ∧ l = []) ∨ ∃ p c, v = .slice (some p) l.length c ∧ l.length ≤ c ∧ ∀ k x, l[k]? = some x → p.spot = none ∧ w.cell? ⟨p.block, p.off + k * 2, none⟩ = some (.string x.1) ∧ w.cell? ⟨p.block, p.off + k * 2 + 1, none⟩ = some (.int .i64 x.2)
theorem cell_lt {w : World} {a : Addr} {u : Value} (h : w.cell? a = some u) : a.block < w.heap.size := by
  rcases Nat.lt_or_ge a.block w.heap.size with h1 | h1
  · exact h1
  · unfold World.cell? at h
    rw [Array.getElem?_eq_none h1] at h
    simp at h
theorem RdK.keep {w w' : World} {v : Value} {l : List KK} (h : RdK w v l) (hb : Below w.heap.size w w') : RdK w' v l := by
  rcases h with h | ⟨a, c, h1, h2, h3⟩
  · exact .inl h
  · refine .inr ⟨a, c, h1, h2, fun k x hx => ?_⟩
    obtain ⟨h4, h5, h6⟩ := h3 k x hx
    refine ⟨h4, ?_, ?_⟩
    · rw [hb.cell (p := ⟨a.block, a.off + k * 2, none⟩) (cell_lt h5)]; exact h5
    · rw [hb.cell (p := ⟨a.block, a.off + k * 2 + 1, none⟩) (cell_lt h6)]; exact h6
theorem RdK.form {w : World} {v : Value} {l : List KK} (h : RdK w v l) : ∃ p c, v = .slice p l.length c ∧ (p = none → c = 0) ∧ l.length ≤ c ∧
    ∀ k x, l[k]? = some x → ∃ b o, p = some ⟨b, o, none⟩ ∧ b < w.heap.size ∧ ∀ y, Below w.heap.size w y → y.cell? ⟨b, o + k * 2, none⟩ = some (.string x.1) ∧ y.cell? ⟨b, o + k * 2 + 1, none⟩ = some (.int .i64 x.2) := by
  rcases h with ⟨rfl, rfl⟩ | ⟨a, c, h1, h2, h3⟩
  · exact ⟨none, 0, rfl, (fun _ => rfl), (by simp), (fun k x hx => by simp at hx)⟩
  · refine ⟨some a, c, h1, (fun h => by cases h), h2, fun k x hx => ?_⟩
    obtain ⟨h4, h5, h6⟩ := h3 k x hx
    have hB := cell_lt h5
    refine ⟨a.block, a.off, ?_, hB, fun y hy => ⟨?_, ?_⟩⟩
    · rw [← h4]
    · rw [hy.cell (p := ⟨a.block, a.off + k * 2, none⟩) (cell_lt h5)]; exact h5
    · rw [hy.cell (p := ⟨a.block, a.off + k * 2 + 1, none⟩) (cell_lt h6)]; exact h6
/-- the sum of a list's length and its texts' lengths -/
def fewN (l : List KK) : Nat := l.length + (l.map fun x => x.1.size).sum
def fewA (l : List KK) (k : Nat) : Nat := l.length + ((l.take k).map fun x => x.1.size).sum
theorem fewA_step (l : List KK) (k : Nat) (x : KK) (h : l[k]? = some x) : fewA l (k + 1) = fewA l k + x.1.size := by
  unfold fewA
  rw [List.take_add_one, h]
  simp; omega
theorem sum_take_le (l : List KK) (k : Nat) : ((l.take k).map fun x => x.1.size).sum ≤ (l.map fun x => x.1.size).sum := by
  induction l generalizing k with
  | nil => simp
  | cons x l ih => cases k with
    | zero => simp
    | succ k => simp only [List.take_succ_cons, List.map_cons, List.sum_cons]; exact Nat.add_le_add_left (ih k) _
theorem fewA_le (l : List KK) (k : Nat) : fewA l k ≤ fewN l := by
  have := sum_take_le l k
  unfold fewA fewN; omega
theorem fewA_end (l : List KK) : fewA l l.length = fewN l := by unfold fewA fewN; simp
end Go.Proofs.YtkbohoolnpaleaaGreatDoor
namespace Go.Proofs.YtkbohoolnpaleaaGreatDoor
open Go.RowKit Go.Shelf Go.Lib Go.Sort Go.Proofs
set_option maxHeartbeats 400000
set_option maxRecDepth 100000

theorem srt_eqv_eq {a b : List KK} (ha : Srt a) (hb : Srt b) (h : Eqv a b) : a = b := by
  induction a generalizing b with
  | nil => exact (List.length_eq_zero_iff.1 h.len.symm).symm
  | cons x a ih =>
    cases b with
    | nil => have := h.len; simp at this
    | cons y b =>
      obtain ⟨p1, p2⟩ := List.pairwise_cons.1 ha
      obtain ⟨q1, q2⟩ := List.pairwise_cons.1 hb
      have e1 : rk y ≤ rk x := by
        rcases List.mem_cons.1 (h.mem (List.mem_cons_self (a := x) (l := a))) with e | e
        · rw [e]; exact Nat.le_refl _
        · exact q1 x e
      have e2 : rk x ≤ rk y := by
        rcases List.mem_cons.1 (h.symm.mem (List.mem_cons_self (a := y) (l := b))) with e | e
        · rw [e]; exact Nat.le_refl _
        · exact p1 y e
      have e : rk x = rk y := Nat.le_antisymm e2 e1
      have h1 : ∀ r, cls r (x :: a) = if rk x == r then x :: cls r a else cls r a := fun r => List.filter_cons ..
      have h2 : ∀ r, cls r (y :: b) = if rk y == r then y :: cls r b else cls r b := fun r => List.filter_cons ..
      have h0 := h (rk x)
      rw [h1, h2, ← e] at h0
      simp at h0
      refine List.cons_eq_cons.2 ⟨h0.1, ih p2 q2 fun r => ?_⟩
      have hr := h r
      rw [h1, h2, ← e] at hr
      split at hr
      · exact (List.cons_eq_cons.1 hr).2
      · exact hr
theorem infoKey : (Tryz.prog.info? 43).map (fun i => (i.zero, i.size, i.bytes)) = some (some (.agg #[.string ⟨#[]⟩, .int .i64 0]), 2, 24) := by kernel_rfl
theorem news_of {w : World} {l : List KK} {p : Addr} (h : ∀ k x, l[k]? = some x → p.spot = none ∧ w.cell? ⟨p.block, p.off + k * 2, none⟩ = some (.string x.1) ∧ w.cell? ⟨p.block, p.off + k * 2 + 1, none⟩ = some (.int .i64 x.2)) :
    ∀ j u, (flatK l)[j]? = some u → w.cell? (p.add j) = some u := by
  intro j u hu
  have hj : j < l.length * 2 := by
    rw [← flatK_len]
    exact (List.getElem?_eq_some_iff.1 hu).1
  have hk : j / 2 < l.length := by omega
  have hx : l[j / 2]? = some l[j / 2] := List.getElem?_eq_getElem hk
  obtain ⟨h1, h2, h3⟩ := h _ _ hx
  obtain ⟨q1, q2⟩ := flatK_get l _ _ hx
  have e : p.add j = ⟨p.block, p.off + j, none⟩ := by
    unfold Addr.add
    split
    · rename_i h0; subst h0; rw [← h1]; simp
    · rfl
  rw [e]
  rcases Nat.mod_two_eq_zero_or_one j with hm | hm
  · have ej : j = j / 2 * 2 := by omega
    rw [ej] at hu ⊢
    rw [q1] at hu
    rw [← hu]; exact h2
  · have ej : j = j / 2 * 2 + 1 := by omega
    rw [ej] at hu ⊢
    rw [q2] at hu
    rw [← hu, ← Nat.add_assoc]; exact h3
theorem c_Clone (v : Value) (l : List KK) (hl : l.length ≤ 1099511627776) (w : World) (h : RdK w v l) :
    Calls Tryz.prog 102 #[v] w fun e w' => ∃ v', e = .returned v' ∧ (w'.ownsRow w.heap.size 43 2 v' l.length (flatK l) ∨ l = [] ∧ ∃ p, v' = .slice p 0 0) ∧ Below w.heap.size w w' := by
  rcases h with ⟨rfl, rfl⟩ | ⟨p, c, rfl, hlc, hcell⟩
  · have hq := run_eql_slice_nil (P := Tryz.prog) w 132 43 none 0 0 0 0 Tryz.underlying132
    go_enter Tryz.func102, Tryz.ntmps102
    go_wp2
    go_ret
    exact ⟨_, rfl, .inr ⟨by trivial, _, rfl⟩, Below.refl _ _⟩
  · cases l with
    | nil =>
      have hq := run_eql_slice_nil (P := Tryz.prog) w 132 43 (some p) 0 c 0 0 Tryz.underlying132
      clear hlc hcell hl
      go_enter Tryz.func102, Tryz.ntmps102
      go_wp2
      go_ret
      exact ⟨_, rfl, .inr ⟨by trivial, _, rfl⟩, (Below.refl _ _).alloc (Nat.le_refl _) _⟩
    | cons x l =>
      have hq := run_eql_slice_nil (P := Tryz.prog) w 132 43 (some p) (l.length + 1) c 0 0 Tryz.underlying132
      have hn0 := news_of hcell
      have hn := Lib.hid (fun j u (hu : (flatK (x :: l))[j]? = some u) => show (w.alloc (.cells #[] 43)).cell? (p.add j) = some u by rw [((Below.refl _ w).alloc (Nat.le_refl _) _).cell (p := p.add j) (cell_lt (hn0 j u hu))]; exact hn0 j u hu)
      clear hn0
      obtain ⟨i0, hi0, hz0, hz1, hz2⟩ := info_parts infoKey
      have hl2 : l.length + 1 ≤ 1099511627776 := hl
      have hown : (w.alloc (.cells #[] 43)).ownsRow w.heap.size 43 2 (.slice (some ⟨w.heap.size, 0, none⟩) 0 0) 0 [] := ⟨rfl, .inr ⟨w.heap.size, 0, #[], rfl, Nat.le_refl _, heap_alloc_new w _, Nat.le_refl _, Nat.zero_le _, rfl, rfl⟩⟩
      clear hcell hl
      go_enter Tryz.func102, Tryz.ntmps102
      go_wp2_with (at_builtin; refine wpList_append_lies _ (by rfl) _ _ _ (by rfl) w.heap.size 43 i0 _ 2 24 Tryz.underlying132 hi0 hz0 hz1 hz2 rfl (by omega) _ 0 [] (by rfl) hown p (l.length + 1) c (flatK (x :: l)) (by rfl) (by rw [flatK_len]; simp) hn.out (flatK_one _) (by omega) (by unfold maxLen; omega) (by omega) (by simp) (w.heap.size + 1) (by simp) ?_; intro gg cap w2 hown2 hgrow hat hlt2)
      go_ret
      refine ⟨_, rfl, .inl ?_, ((Below.refl _ w).alloc (Nat.le_refl _) _).grown hgrow (by simp) (own_base hown)⟩
      simpa using hown2
theorem rowL_own {w : World} {base g cap n : Nat} {l : List KK} (h : w.ownsRow base 43 2 (.slice (some ⟨g, 0, none⟩) n cap) n (flatK l)) : RowL w g l ∧ base ≤ g ∧ n = l.length ∧ n ≤ cap := by
  rcases h with ⟨hn, ⟨h0, _⟩ | ⟨g', cap', cur, hv, hb, hh, h1, h2, h3, h4⟩⟩
  · cases h0
  · injection hv with e1 e2 e3
    injection e1 with e1
    injection e1 with e1
    subst e1; subst e3
    rw [flatK_len] at hn
    have hB : g < w.heap.size := by
      rcases Nat.lt_or_ge g w.heap.size with h5 | h5
      · exact h5
      · rw [Array.getElem?_eq_none h5] at hh; cases hh
    refine ⟨⟨?_, hB⟩, hb, by omega, h1⟩
    intro j hj
    have hj' : j < l.length * 2 := by simpa using hj
    have hk : j / 2 < l.length := by omega
    have hx : l[j / 2]? = some l[j / 2] := List.getElem?_eq_getElem hk
    obtain ⟨q1, q2⟩ := flatK_get l _ _ hx
    have e3 : cur[j]? = (flatK l)[j]? := by rw [← h4, List.getElem?_take_of_lt (by omega), Array.getElem?_toList]
    have e4 : l.toArray[j / 2]! = l[j / 2] := by rw [getElem!_pos _ _ (by simpa using hk)]; simp
    have e5 : w.cell? ⟨g, 0 + j, none⟩ = (flatK l)[j]? := by rw [Nat.zero_add, cell_of_row w g j cur _ _ hh]; exact e3
    refine ⟨?_, by simp [World.frozen?, hh]⟩
    rw [e5, Go.Sort.get_flatK encK 2 _ j (by simpa using hj'), e4]
    rcases Nat.mod_two_eq_zero_or_one j with hm | hm
    · have ej : j / 2 * 2 = j := by omega
      rw [ej] at q1
      rw [hm]; exact q1
    · have ej : j / 2 * 2 + 1 = j := by omega
      rw [ej] at q2
      rw [hm]; exact q2
theorem rdk_rowL {w : World} {g cap : Nat} {l : List KK} (h : RowL w g l) (hc : l.length ≤ cap) : RdK w (.slice (some ⟨g, 0, none⟩) l.length cap) l := by
  refine .inr ⟨_, cap, rfl, hc, fun k x hx => ?_⟩
  have hk := (List.getElem?_eq_some_iff.1 hx).1
  have := cell_row h k (by simpa using hk)
  have e : l.toArray[k]! = x := by
    rw [getElem!_pos _ _ (by simpa using hk)]
    simpa using (List.getElem?_eq_some_iff.1 hx).2
  rw [e] at this
  exact ⟨rfl, by simpa using this.1, by simpa using this.2.1⟩
theorem c_Order (v : Value) (l : List KK) (hl : l.length ≤ 1099511627776) (hsm : Small l) (w : World) (h : RdK w v l) :
    Calls Tryz.prog 83 #[v] w fun e w' => ∃ v' Z, e = .returned v' ∧ RdK w' v' Z ∧ Srt Z ∧ Eqv Z l ∧ Below w.heap.size w w' := by
  have hC := Lib.hid (c_Clone v l hl w h)
  clear h
  cases l with
  | nil =>
    have hC2 : Calls Tryz.prog 102 #[v] w fun e w' => (∃ p c, e = .returned (.slice p 0 c) ∧ (p = none → c = 0)) ∧ Below w.heap.size w w' := by
      refine hC.out.mono ?_
      rintro e w1 ⟨v', rfl, h1, h2⟩
      refine ⟨?_, h2⟩
      rcases h1 with ⟨_, ⟨rfl, _⟩ | ⟨g, cap, cur, rfl, _⟩⟩ | ⟨_, p, rfl⟩
      · exact ⟨_, _, rfl, fun _ => rfl⟩
      · exact ⟨_, _, rfl, fun h => by cases h⟩
      · exact ⟨_, _, rfl, fun _ => rfl⟩
    replace hC2 := Lib.hid hC2
    clear hC hl hsm
    go_enter Tryz.func83, Tryz.ntmps83
    go_wp2_with (first | (go_at_call 102; refine hC2.out.mono ?_; rintro e w1 ⟨⟨p, c, rfl, hp⟩, hb⟩) | (go_at_call 103; refine (c_SortStable0 _ _ _).mono ?_; rintro e w2 ⟨rfl, rfl⟩))
    go_ret
    refine ⟨_, [], rfl, ?_, List.Pairwise.nil, Eqv.refl _, hb⟩
    cases p with
    | none =>
      obtain rfl := hp rfl
      exact .inl ⟨rfl, rfl⟩
    | some p => exact .inr ⟨p, c, rfl, by simp, fun k x hx => by simp at hx⟩
  | cons x l =>
    have hlen := (Lib.hid (rfl : (x :: l).length = (x :: l).length))
    generalize hL : x :: l = L at *
    have hpos : 0 < L.length := by rw [← hL]; simp
    have hC2 : Calls Tryz.prog 102 #[v] w fun e w' => ∃ g c, e = .returned (.slice (some ⟨g, 0, none⟩) L.length c) ∧ RowL w' g L ∧ w.heap.size ≤ g ∧ L.length ≤ c ∧ Below w.heap.size w w' := by
      refine hC.out.mono ?_
      rintro e w1 ⟨v', rfl, h1, h2⟩
      rcases h1 with h1 | ⟨h1, _⟩
      · obtain ⟨g, cap, rfl, _, _⟩ := h1.form hpos
        obtain ⟨r1, r2, r3, r4⟩ := rowL_own h1
        exact ⟨g, cap, rfl, r1, r2, r4, h2⟩
      · rw [h1] at hpos; simp at hpos
    replace hC2 := Lib.hid hC2
    have hS := fun g c w => Lib.hid (c_SortStable g c L.length L rfl hsm hl w)
    clear hC hL hlen hsm hpos
    generalize hm : L.length = m at *
    replace hm := Lib.hid hm
    go_enter Tryz.func83, Tryz.ntmps83
    go_wp2_with (first | (go_at_call 102; refine hC2.out.mono ?_; rintro e w1 ⟨g, c, rfl, hrow, hg, hc, hb⟩) | (go_at_call 103; refine ((hS _ _ _).out hrow).mono ?_; rintro e w2 ⟨rfl, ⟨Z, q1, q2, q3⟩, hfr⟩))
    go_ret
    have hZ : Z.length = m := q3.len.trans hm.out
    refine ⟨_, Z, rfl, ?_, q2, q3, ?_⟩
    · show RdK w2 (.slice (some ⟨g, 0, none⟩) m c) Z
      rw [← hZ]
      exact rdk_rowL q1 (by omega)
    · exact hb.trans ⟨hfr.os, hfr.tape, hfr.output, hfr.size, fun k hk => hfr.block k (Nat.lt_of_lt_of_le hk hb.size) (by omega)⟩
end Go.Proofs.YtkbohoolnpaleaaGreatDoor
namespace Go.Proofs.YtkbohoolnpaleaaGreatDoor
open Go.RowKit Go.Shelf Go.Lib Go.Sort Go.Proofs
set_option maxHeartbeats 400000
set_option maxRecDepth 100000

def byteU (u : Nat) : List UInt8 := [UInt8.ofNat (u / 256), UInt8.ofNat (u % 256)]
def bytesU (us : List Nat) : List UInt8 := us.flatMap byteU
def textU (us : List Nat) : ByteArray := ⟨(bytesU us).toArray⟩
def cellsB (l : List UInt8) : List Value := l.map fun b => .int .u8 (b.toNat : Int)
theorem bytesU_len (us : List Nat) : (bytesU us).length = 2 * us.length := by
  induction us with
  | nil => rfl
  | cons u us ih => simp only [bytesU, List.flatMap_cons, List.length_append, List.length_cons] at ih ⊢; rw [ih]; simp [byteU]; omega
theorem bytesU_snoc (us : List Nat) (k u : Nat) (h : us[k]? = some u) : bytesU (us.take (k + 1)) = bytesU (us.take k) ++ byteU u := by
  unfold bytesU
  rw [List.take_add_one, h]; simp
theorem infoU8 : (Tryz.prog.info? 5).map (fun i => (i.zero, i.size, i.bytes)) = some (some (.int .u8 0), 1, 1) := by kernel_rfl
theorem c_MakeR (us : List Nat) (v : Value) (hus : ∀ u ∈ us, u < 65536) (hl : us.length ≤ 549755813888) (w : World) (h : Rd w.heap.size w v (u16s us)) :
    Calls Tryz.prog 76 #[v] w fun e w' => e = .returned (.string (textU us)) ∧ Below w.heap.size w w' := by
  obtain ⟨i0, hi0, hz0, hz1, hz2⟩ := info_parts infoU8
  obtain ⟨p, c, rfl, hcell⟩ := h
  have hlen : (u16s us).length = us.length := by simp [u16s]
  rw [hlen] at hcell ⊢
  have hget : ∀ k, k < us.length → ∃ u g, us[k]? = some u ∧ u < 65536 ∧ p = some ⟨g, 0, none⟩ ∧ ∀ y, Below w.heap.size w y → y.cell? ⟨g, k, none⟩ = some (.int .u16 (u : Int)) := by
    intro k hk
    have hx : us[k]? = some us[k] := List.getElem?_eq_getElem hk
    obtain ⟨g, g1, g2, g3, g4⟩ := hcell k (.int .u16 (us[k] : Int)) (by simp [u16s, hk])
    refine ⟨us[k], g, hx, hus _ (List.getElem_mem hk), g2, fun y hy => ?_⟩
    rw [hy.cell (p := ⟨g, k, none⟩) (by exact g1)]
    exact g4
  have hsn := bytesU_snoc us
  have hbl : ∀ k, (bytesU (us.take k)).length = 2 * (us.take k).length := fun k => bytesU_len _
  have hend : bytesU (us.take us.length) = bytesU us := by rw [List.take_length]
  have h0 : bytesU (us.take 0) = [] := rfl
  unfold textU
  generalize bytesU us = E at *
  generalize hF : (fun k => bytesU (us.take k)) = F at *
  have hF' : ∀ k, bytesU (us.take k) = F k := fun k => by rw [← hF]
  simp only [hF'] at hsn hbl hend h0
  have hFl : ∀ k, k ≤ us.length → (F k).length = 2 * k := fun k hk => by rw [hbl, List.length_take]; omega
  clear hcell hlen hus hF hF' hbl
  generalize us.length = n at *
  replace hget := Lib.hid hget
  replace hsn := Lib.hid hsn
  replace hend := Lib.hid hend
  replace h0 := Lib.hid h0
  replace hFl := Lib.hid hFl
  go_enter Tryz.func76, Tryz.ntmps76
  go_wp2
  go_loopw [3, 8] (fun vb vk wr => ∃ k : Nat, k ≤ n ∧ vk = .int .i64 (k : Int) ∧ wr.ownsRow w.heap.size 5 1 vb (2 * k) (cellsB (F k)) ∧ Below w.heap.size w wr) (fun _ vk _ => n - (intOf vk).toNat)
  case atStart => exact ⟨0, by omega, rfl, ⟨by rw [h0.out]; rfl, .inl ⟨rfl, rfl⟩⟩, Below.refl _ _⟩
  case round =>
    obtain ⟨k, hk, rfl, hown, hbel⟩ := hrel
    rcases Nat.lt_or_ge k n with hlt | hge
    · obtain ⟨u, g, hu, hu2, rfl, hy⟩ := hget.out k hlt
      have d1 := hy wr hbel
      have hs := Lib.hid (hsn.out k u hu)
      clear hu hy
      have hk2 := Lib.hid (hFl.out k hk)
      have hcB : cellsB (F k) ++ [.int .u8 ((u : Int) / 256), .int .u8 ((u : Int) % 256)] = cellsB (F (k + 1)) := by
        rw [hs.out]
        simp only [cellsB, List.map_append, byteU, List.map_cons, List.map_nil]
        congr 2
        · congr 1
          simp; omega
        · congr 2
          simp
      replace hcB := Lib.hid hcB
      go_wp2_with (at_builtin; refine wpList_append_lies _ (by rfl) _ _ _ (by rfl) w.heap.size 5 i0 _ 1 1 Tryz.underlying113 hi0 hz0 hz1 hz2 rfl (by omega) u3 (2 * k) (cellsB (F k)) (by rfl) (hown.alloc _) ⟨wr.heap.size, 0, none⟩ 2 2 [.int .u8 ((u : Int) / 256), .int .u8 ((u : Int) % 256)] (by rfl) (by rfl) (World.news_of_block (cs := #[.int .u8 ((u : Int) / 256), .int .u8 ((u : Int) % 256)]) (t := 5) (fr := (0, 0)) (by exact heap_alloc_new wr _)) (by simp [Value.oneCell']) (by omega) (by unfold maxLen; omega) (by omega) (by have := hbel.size; simp; omega) (wr.heap.size + 1) (by simp) ?_; intro gg cap w2 hown2 hgrow hat hlt2)
      have hown3 : w2.ownsRow w.heap.size 5 1 (.slice (some ⟨gg, 0, none⟩) (2 * k + 2) cap) (2 * (k + 1)) (cellsB (F (k + 1))) := by
        rw [← hcB.out]; exact hown2
      have hbel2 : Below w.heap.size w w2 := (hbel.alloc hbel.size _).grown hgrow (by have := hbel.size; simp; omega) (own_base hown)
      clear hown2 hgrow
      go_roundw
      case rel => exact ⟨k + 1, by omega, by go_num, hown3, hbel2⟩
      case measure => simp [intOf]; omega
    · obtain rfl : k = n := by omega
      have hE := hend.out
      have hkl := hFl.out k hk
      have hcv : (convert 113 24 u3).run Tryz.prog wr = .ok (.string ⟨E.toArray⟩) wr := by
        rw [hE] at hown hkl
        rcases Nat.eq_zero_or_pos k with h1 | h1
        · subst h1
          have hE0 : E = [] := List.length_eq_zero_iff.1 (by omega)
          subst hE0
          rcases hown with ⟨_, ⟨rfl, _⟩ | ⟨g, cap, cur, rfl, _⟩⟩
          · exact run_convert_bytes_nil (P := Tryz.prog) wr 113 5 Tryz.underlying113 Tryz.underlying5 0 0 24 Tryz.underlying24
          · exact run_convert_bytes_back (P := Tryz.prog) wr 113 24 5 ⟨g, 0, none⟩ cap [] Tryz.underlying113 Tryz.underlying5 Tryz.underlying24 (fun j hj => by simp at hj)
        · obtain ⟨g, cap, rfl, _, _⟩ := hown.form (by omega)
          have hc := World.ownsRow.cells hown (g := g) rfl
          rw [← hkl]
          refine run_convert_bytes_back (P := Tryz.prog) wr 113 24 5 ⟨g, 0, none⟩ cap E Tryz.underlying113 Tryz.underlying5 Tryz.underlying24 (fun j hj => hc j _ ?_)
          simp [cellsB, hj]
      clear hown hkl hE
      go_wp2
      go_ret
      exact ⟨rfl, hbel⟩
end Go.Proofs.YtkbohoolnpaleaaGreatDoor
