/-
  Merging two runs: the walks of slices.symMergeCmpFunc's two short cases.
-/
import Derived.Test.YtbodfdmmfaampaaGreatDoorS4
namespace Go.Proofs.YtbodfdmmfaampaaGreatDoor
open Go.RowKit Go.Shelf Go.Lib Go.Sort Go.Proofs
set_option maxHeartbeats 400000
set_option maxRecDepth 100000

theorem c_sym1 (blk cap : Nat) (P Y S : List KK) (x : KK) (len a m b : Nat) (hlen : len = (P ++ (x :: (Y ++ S))).length) (ha : a = P.length) (hm : m = a + 1) (hb : b = m + Y.length) (hsY : Srt Y) (hsm : Small (x :: Y)) (hsz : len ≤ 1099511627776) (w : World) (h : RowL w blk (P ++ (x :: (Y ++ S)))) :
    Calls Tryz.prog 50 #[.slice (some ⟨blk, 0, none⟩) len cap, .int .i64 (a : Int), .int .i64 (m : Int), .int .i64 (b : Int), .func (.func 25) #[] #[]] w fun e w' => e = .returned (.tuple #[]) ∧ (∃ Z, RowL w' blk (P ++ (Z ++ S)) ∧ Srt Z ∧ Eqv Z (x :: Y)) ∧ Fr blk w w' := by
  obtain ⟨Q, Wn, f1, f2, f3, f4, f5, f6, f7, f8, f9⟩ := sym1_facts blk P Y S x len a b hlen ha (by omega) hsY hsm w h
  have hone : IntKind.i64.wrap ((m : Int) - (a : Int)) = 1 := by rw [IntKind.wrap_i64]; omega
  have hmb : m ≤ b := by omega
  clear hlen ha hb hsY hsm h
  rw [← hm] at f4 f5
  have ham : a < m := by omega
  clear hm
  replace f5 := Lib.hid f5
  replace f6 := Lib.hid f6
  replace f7 := Lib.hid f7
  replace f8 := Lib.hid f8
  replace f9 := Lib.hid f9
  go_enter Tryz.func50, Tryz.ntmps50
  go_wp2
  go_loopw [10, 11] (fun vi vj wr => ∃ i j : Nat, vi = .int .i64 (i : Int) ∧ vj = .int .i64 (j : Int) ∧ Q i j ∧ Below w.heap.size w wr) (fun vi vj _ => (intOf vj).toNat - (intOf vi).toNat)
  case atStart => exact ⟨m, b, rfl, rfl, f4, Below.refl _ _⟩
  case round =>
    obtain ⟨i, j, rfl, rfl, hQ, hbel⟩ := hrel
    obtain ⟨g1, g2, g3⟩ := f5.out _ _ hQ
    rcases Nat.lt_or_ge i j with hij | hij
    · have hi' : (i : Int) < (j : Int) := by omega
      obtain ⟨hh, he, hih, hhj⟩ : ∃ hh : Nat, ((i : Int) + (j : Int)) / 2 = (hh : Int) ∧ i ≤ hh ∧ hh < j := ⟨(i + j) / 2, by omega, by omega, by omega⟩
      obtain ⟨z, hzs, hxs, hc, hup, hdn⟩ := f6.out _ _ _ _ hQ hih hhj hbel
      have hB : blk < wr.heap.size := Nat.lt_of_lt_of_le f3 hbel.size
      have hS0 : wr.drew.cell? ⟨blk, hh * 2, none⟩ = some (.string z.1) ∧ wr.drew.cell? ⟨blk, hh * 2 + 1, none⟩ = some (.int .i64 z.2) ∧ wr.drew.cell? ⟨blk, a * 2, none⟩ = some (.string x.1) ∧ wr.drew.cell? ⟨blk, a * 2 + 1, none⟩ = some (.int .i64 x.2) ∧ Below wr.heap.size wr wr.drew := ⟨hc.1, hc.2.1, hc.2.2.1, hc.2.2.2, (Below.refl _ _).drew⟩
      have hO := fun y => Lib.hid (c_OrderF z.1 x.1 z.2 x.2 hzs hxs y)
      unfold keyV at hO
      have hlt2 := cmpZ_lt (rankK z.1 z.2) (rankK x.1 x.2)
      generalize hR : cmpZ (rankK z.1 z.2) (rankK x.1 x.2) = Rz at hO hlt2
      replace hup := Lib.hid hup
      replace hdn := Lib.hid hdn
      have hbel := Lib.hid hbel
      clear hQ hR hc
      have hhl : (hh : Int) < (len : Int) := by omega
      have hal : (a : Int) < (len : Int) := by omega
      by_cases hlv : Rz < 0
      · have hlv' := Lib.hid (hlt2.1 hlv)
        clear hlt2
        go_wp2_with fail
        go_region_held3 (fun y => y.cell? ⟨blk, hh * 2, none⟩ = some (.string z.1) ∧ y.cell? ⟨blk, hh * 2 + 1, none⟩ = some (.int .i64 z.2) ∧ y.cell? ⟨blk, a * 2, none⟩ = some (.string x.1) ∧ y.cell? ⟨blk, a * 2 + 1, none⟩ = some (.int .i64 x.2) ∧ Below wr.heap.size wr y) (first | assumption | exact peek_keep hB (by assumption) (by assumption)) (first | (go_at_call 25; refine (hO _).out.mono ?_; rintro e y' ⟨rfl, hb⟩))
        obtain ⟨d1, d2, d3, d4, hbel2⟩ := peek_keep hB hS0 hb
        have s1 := Lib.hid (hup.out hlv'.out)
        have s2 := Lib.hid (below_after hbel.out hbel2)
        clear hS0 hb hbel2 hB d1 d2 d3 d4
        go_wp2
        go_roundw
        case rel => exact ⟨hh + 1, j, by go_num, rfl, s1.out, s2.out⟩
        case measure => simp [intOf]; omega
      · have hle := Lib.hid (fun h => hlv (hlt2.2 h))
        have hlv2 : (0 : Int) ≤ Rz := by omega
        clear hlt2
        go_wp2_with fail
        go_region_held3 (fun y => y.cell? ⟨blk, hh * 2, none⟩ = some (.string z.1) ∧ y.cell? ⟨blk, hh * 2 + 1, none⟩ = some (.int .i64 z.2) ∧ y.cell? ⟨blk, a * 2, none⟩ = some (.string x.1) ∧ y.cell? ⟨blk, a * 2 + 1, none⟩ = some (.int .i64 x.2) ∧ Below wr.heap.size wr y) (first | assumption | exact peek_keep hB (by assumption) (by assumption)) (first | (go_at_call 25; refine (hO _).out.mono ?_; rintro e y' ⟨rfl, hb⟩))
        obtain ⟨d1, d2, d3, d4, hbel2⟩ := peek_keep hB hS0 hb
        have s1 := Lib.hid (hdn.out hle.out)
        have s2 := Lib.hid (below_after hbel.out hbel2)
        clear hS0 hb hbel2 hB d1 d2 d3 d4
        go_wp2
        go_roundw
        case rel => exact ⟨i, hh, rfl, by go_num, s1.out, s2.out⟩
        case measure => simp [intOf]; omega
    · obtain rfl : i = j := by omega
      have hW0 := Lib.hid (f7.out _ hbel)
      have hfr0 := Lib.hid (Fr.below (blk := blk) hbel)
      have hQ := Lib.hid hQ
      have hi1 : 1 ≤ i := by omega
      clear hbel
      go_wp2
      go_loopw [13] (fun vk wr2 => ∃ k : Nat, vk = .int .i64 (k : Int) ∧ k + 1 ≤ i ∧ Wn k wr2 ∧ Fr blk w wr2) (fun vk _ => i - (intOf vk).toNat)
      case atStart => exact ⟨a, rfl, by omega, hW0.out, hfr0.out⟩
      case round =>
        obtain ⟨k, rfl, hki, hW, hfr⟩ := hrel
        clear hW0 hfr0
        rcases Nat.lt_or_ge (k + 1) i with hlt | hge
        · obtain ⟨hB, hmv⟩ := f8.out _ _ hW
          obtain ⟨z, hc1, hc2, hw1, hw2⟩ := hmv (by omega)
          obtain ⟨c1, c2, c3, c4⟩ := hc1
          obtain ⟨c5, c6, c7, c8⟩ := hc2
          replace hw1 := Lib.hid hw1
          replace hw2 := Lib.hid hw2
          have mixed : Tryz.prog.follows Departure.mixedOrders = true := by kernel_rfl
          have n1 : ¬ (k + 1) * 2 = k * 2 := by omega
          have n2 : ¬ (k + 1) * 2 = k * 2 + 1 := by omega
          have n3 : ¬ (k + 1) * 2 + 1 = k * 2 := by omega
          have n4 : ¬ k * 2 = (k + 1) * 2 := by omega
          have n5 : ¬ k * 2 = (k + 1) * 2 + 1 := by omega
          have n6 : ¬ k * 2 + 1 = (k + 1) * 2 := by omega
          have q1 : IntKind.i64.wrap ((i : Int) - 1) = (i : Int) - 1 := by rw [IntKind.wrap_i64]; omega
          have q2 : (k : Int) < (i : Int) - 1 := by omega
          have q3 : (k : Int) < (len : Int) := by omega
          have q4 : (k : Int) + 1 < (len : Int) := by omega
          have q5 : (0 : Int) ≤ (k : Int) + 1 := by omega
          have q6 : ((k : Int) + 1).toNat = k + 1 := by omega
          clear hmv hW hB
          go_wp2
          go_big_region_o
          all_goals go_wp2
          go_roundw
          case rel => exact ⟨k + 1, by go_num, by omega, hw1.out, hfr.trans hw2.out⟩
          case measure => simp [intOf]; omega
        · have hk : i - 1 = k := by omega
          have hZ := Lib.hid (f9.out _ _ hQ.out (hk.symm ▸ hW))
          have q1 : IntKind.i64.wrap ((i : Int) - 1) = (i : Int) - 1 := by rw [IntKind.wrap_i64]; omega
          have q2 : ¬ (k : Int) < (i : Int) - 1 := by omega
          clear hW hk
          go_wp2
          refine bodyPost_ret (results_none rfl _ _ _) rfl ?_
          exact ⟨rfl, hZ.out, hfr⟩
theorem c_sym2 (blk cap : Nat) (P X S : List KK) (x : KK) (len a m b : Nat) (hlen : len = (P ++ (X ++ (x :: S))).length) (ha : a = P.length) (hm : m = a + X.length) (hX : X.length ≠ 1) (hb : b = m + 1) (hsX : Srt X) (hsm : Small (X ++ [x])) (hsz : len ≤ 1099511627776) (w : World) (h : RowL w blk (P ++ (X ++ (x :: S)))) :
    Calls Tryz.prog 50 #[.slice (some ⟨blk, 0, none⟩) len cap, .int .i64 (a : Int), .int .i64 (m : Int), .int .i64 (b : Int), .func (.func 25) #[] #[]] w fun e w' => e = .returned (.tuple #[]) ∧ (∃ Z, RowL w' blk (P ++ (Z ++ S)) ∧ Srt Z ∧ Eqv Z (X ++ [x])) ∧ Fr blk w w' := by
  obtain ⟨Q, Wn, f1, f2, f3, f4, f5, f6, f7, f8, f9⟩ := sym2_facts blk P X S x len a m b hlen ha hm hb hsX hsm w h
  have hone0 : IntKind.i64.wrap ((m : Int) - (a : Int)) = (m : Int) - a := by rw [IntKind.wrap_i64]; omega
  have hone1 : ((m : Int) - a == 1) = false := by simp; omega
  have hone : IntKind.i64.wrap ((b : Int) - (m : Int)) = 1 := by rw [IntKind.wrap_i64]; omega
  clear hlen ha hb hsX hsm h hm hX
  replace f5 := Lib.hid f5
  replace f6 := Lib.hid f6
  replace f7 := Lib.hid f7
  replace f8 := Lib.hid f8
  replace f9 := Lib.hid f9
  go_enter Tryz.func50, Tryz.ntmps50
  go_wp2
  go_loopw [14, 15] (fun vi vj wr => ∃ i j : Nat, vi = .int .i64 (i : Int) ∧ vj = .int .i64 (j : Int) ∧ Q i j ∧ Below w.heap.size w wr) (fun vi vj _ => (intOf vj).toNat - (intOf vi).toNat)
  case atStart => exact ⟨a, m, rfl, rfl, f4, Below.refl _ _⟩
  case round =>
    obtain ⟨i, j, rfl, rfl, hQ, hbel⟩ := hrel
    obtain ⟨g1, g2, g3⟩ := f5.out _ _ hQ
    rcases Nat.lt_or_ge i j with hij | hij
    · have hi' : (i : Int) < (j : Int) := by omega
      obtain ⟨hh, he, hih, hhj⟩ : ∃ hh : Nat, ((i : Int) + (j : Int)) / 2 = (hh : Int) ∧ i ≤ hh ∧ hh < j := ⟨(i + j) / 2, by omega, by omega, by omega⟩
      obtain ⟨z, hzs, hxs, hc, hup, hdn⟩ := f6.out _ _ _ _ hQ hih hhj hbel
      have hB : blk < wr.heap.size := Nat.lt_of_lt_of_le f3 hbel.size
      have hS0 : wr.drew.cell? ⟨blk, m * 2, none⟩ = some (.string x.1) ∧ wr.drew.cell? ⟨blk, m * 2 + 1, none⟩ = some (.int .i64 x.2) ∧ wr.drew.cell? ⟨blk, hh * 2, none⟩ = some (.string z.1) ∧ wr.drew.cell? ⟨blk, hh * 2 + 1, none⟩ = some (.int .i64 z.2) ∧ Below wr.heap.size wr wr.drew := ⟨hc.1, hc.2.1, hc.2.2.1, hc.2.2.2, (Below.refl _ _).drew⟩
      have hO := fun y => Lib.hid (c_OrderF x.1 z.1 x.2 z.2 hxs hzs y)
      unfold keyV at hO
      have hlt2 := cmpZ_lt (rankK x.1 x.2) (rankK z.1 z.2)
      generalize hR : cmpZ (rankK x.1 x.2) (rankK z.1 z.2) = Rz at hO hlt2
      replace hup := Lib.hid hup
      replace hdn := Lib.hid hdn
      have hbel := Lib.hid hbel
      clear hQ hR hc
      have hhl : (hh : Int) < (len : Int) := by omega
      have hal : (m : Int) < (len : Int) := by omega
      by_cases hlv : Rz < 0
      · have hlv' := Lib.hid (hlt2.1 hlv)
        clear hlt2
        go_wp2_with fail
        go_region_held3 (fun y => y.cell? ⟨blk, m * 2, none⟩ = some (.string x.1) ∧ y.cell? ⟨blk, m * 2 + 1, none⟩ = some (.int .i64 x.2) ∧ y.cell? ⟨blk, hh * 2, none⟩ = some (.string z.1) ∧ y.cell? ⟨blk, hh * 2 + 1, none⟩ = some (.int .i64 z.2) ∧ Below wr.heap.size wr y) (first | assumption | exact peek_keep hB (by assumption) (by assumption)) (first | (go_at_call 25; refine (hO _).out.mono ?_; rintro e y' ⟨rfl, hb⟩))
        obtain ⟨d1, d2, d3, d4, hbel2⟩ := peek_keep hB hS0 hb
        have s1 := Lib.hid (hdn.out hlv'.out)
        have s2 := Lib.hid (below_after hbel.out hbel2)
        clear hS0 hb hbel2 hB d1 d2 d3 d4
        go_wp2
        go_roundw
        case rel => exact ⟨i, hh, rfl, by go_num, s1.out, s2.out⟩
        case measure => simp [intOf]; omega
      · have hle := Lib.hid (fun h => hlv (hlt2.2 h))
        have hlv2 : decide (Rz < 0) = false := decide_eq_false hlv
        clear hlt2 hlv
        go_wp2_with fail
        go_region_held3 (fun y => y.cell? ⟨blk, m * 2, none⟩ = some (.string x.1) ∧ y.cell? ⟨blk, m * 2 + 1, none⟩ = some (.int .i64 x.2) ∧ y.cell? ⟨blk, hh * 2, none⟩ = some (.string z.1) ∧ y.cell? ⟨blk, hh * 2 + 1, none⟩ = some (.int .i64 z.2) ∧ Below wr.heap.size wr y) (first | assumption | exact peek_keep hB (by assumption) (by assumption)) (first | (go_at_call 25; refine (hO _).out.mono ?_; rintro e y' ⟨rfl, hb⟩))
        obtain ⟨d1, d2, d3, d4, hbel2⟩ := peek_keep hB hS0 hb
        have s1 := Lib.hid (hup.out hle.out)
        have s2 := Lib.hid (below_after hbel.out hbel2)
        clear hS0 hb hbel2 hB d1 d2 d3 d4
        go_wp2
        go_roundw
        case rel => exact ⟨hh + 1, j, by go_num, rfl, s1.out, s2.out⟩
        case measure => simp [intOf]; omega
    · obtain rfl : i = j := by omega
      have hW0 := Lib.hid (f7.out _ hbel)
      have hfr0 := Lib.hid (Fr.below (blk := blk) hbel)
      have hQ := Lib.hid hQ
      clear hbel
      go_wp2
      go_loopw [17] (fun vk wr2 => ∃ k : Nat, vk = .int .i64 (k : Int) ∧ i ≤ k ∧ k ≤ m ∧ Wn k wr2 ∧ Fr blk w wr2) (fun vk _ => (intOf vk).toNat)
      case atStart => exact ⟨m, rfl, by omega, by omega, hW0.out, hfr0.out⟩
      case round =>
        obtain ⟨k, rfl, hik, hkm, hW, hfr⟩ := hrel
        clear hW0 hfr0
        rcases Nat.lt_or_ge i k with hlt | hge
        · obtain ⟨k, rfl⟩ : ∃ k', k = k' + 1 := ⟨k - 1, by omega⟩
          obtain ⟨hB, hmv⟩ := f8.out _ _ hW
          obtain ⟨z, hc1, hc2, hw1, hw2⟩ := hmv (by omega)
          obtain ⟨c1, c2, c3, c4⟩ := hc1
          obtain ⟨c5, c6, c7, c8⟩ := hc2
          replace hw1 := Lib.hid hw1
          replace hw2 := Lib.hid hw2
          have mixed : Tryz.prog.follows Departure.mixedOrders = true := by kernel_rfl
          have n1 : ¬ (k + 1) * 2 = k * 2 := by omega
          have n2 : ¬ (k + 1) * 2 = k * 2 + 1 := by omega
          have n3 : ¬ (k + 1) * 2 + 1 = k * 2 := by omega
          have n4 : ¬ k * 2 = (k + 1) * 2 := by omega
          have n5 : ¬ k * 2 = (k + 1) * 2 + 1 := by omega
          have n6 : ¬ k * 2 + 1 = (k + 1) * 2 := by omega
          have q0 : (i : Int) < (k : Int) + 1 := by omega
          have q1 : IntKind.i64.wrap (k : Int) = (k : Int) := by rw [IntKind.wrap_i64]; omega
          have q3 : (k : Int) < (len : Int) := by omega
          have q4 : (k : Int) + 1 < (len : Int) := by omega
          have q5 : (0 : Int) ≤ (k : Int) + 1 := by omega
          have q6 : ((k : Int) + 1).toNat = k + 1 := by omega
          clear hmv hW hB
          go_wp2
          go_big_region_o
          all_goals go_wp2
          go_roundw
          case rel => exact ⟨k, by go_num, by omega, by omega, hw1.out, hfr.trans hw2.out⟩
          case measure => simp [intOf]
        · obtain rfl : k = i := by omega
          have hZ := Lib.hid (f9.out _ _ hQ.out hW)
          clear hW
          go_wp2
          refine bodyPost_ret (results_none rfl _ _ _) rfl ?_
          exact ⟨rfl, hZ.out, hfr⟩
end Go.Proofs.YtbodfdmmfaampaaGreatDoor
