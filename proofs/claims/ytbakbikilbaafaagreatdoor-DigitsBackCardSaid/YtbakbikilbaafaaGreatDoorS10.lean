/-
  Contracts: The contract of the library's leftShift. The contracts of the library's Shift, shouldRoundUp and RoundedInteger of a decimal. The contract of the library's RoundedInteger of a decimal. The contract of the library's floatBits of a decimal.
-/
import Derived.Test.YtbakbikilbaafaaGreatDoorS3
import Derived.Test.YtbakbikilbaafaaGreatDoorS8
import Derived.Test.YtbakbikilbaafaaGreatDoorS9
import Derived.Deep.DeepCutAuto
import Derived.Deep.CutBlock
import Derived.Scope
namespace Go.Proofs.YtbakbikilbaafaaGreatDoor
open Go.RowKit F64 Ieee
set_option linter.unusedVariables false
set_option maxHeartbeats 4000000
set_option maxRecDepth 100000

theorem c_left (b : Nat) (C : Nat → Nat) (nd : Nat) (dp : Int) (tr : Bool) (k : Nat) (hk : 1 ≤ k ∧ k ≤ 60) (hDD : DecD C nd) (hd1 : -500 ≤ dp) (hd2 : dp ≤ 700) (w : World) (h : Dec b C nd dp tr w) (hL : LC w) :
    Calls Tryz.prog 195 #[.pointer (some ⟨b, 0, none⟩), .int .u64 (k : Int)] w fun r w' => r = .returned (.tuple #[]) ∧ ∃ C' n' dp' tr', DecD C' n' ∧ C' (n' - 1) ≠ 48 ∧ Dec b C' n' dp' tr' w' ∧ Below b w w' ∧ dp ≤ dp' ∧ dp' ≤ dp + 20 ∧
      tOf C' n' dp' = tOf C nd dp * 2 ^ k / 10 ^ (dp' + 500).toNat * 10 ^ (dp' + 500).toNat ∧ tr' = (tr || decide (tOf C' n' dp' ≠ tOf C nd dp * 2 ^ k)) := by
  obtain ⟨d1, d2, d3, d4⟩ := hDD
  obtain ⟨d, l, L, hCh⟩ := cheat_ex hk
  obtain ⟨lb, lo, lc, g0, g1⟩ := hL
  obtain ⟨g2, g3⟩ := g1 k _ hCh.row
  have hgb : lo + 2 * k = lo + k * 2 := by omega
  have hgb1 : lo + 2 * k + 1 = lo + k * 2 + 1 := by omega
  rw [hgb] at g2
  rw [hgb1] at g3
  clear g1 hgb hgb1
  obtain ⟨M, hM⟩ : ∃ M, 2 ^ k = M := ⟨_, rfl⟩
  have hM1 : 0 < M := by rw [← hM]; exact Nat.two_pow_pos k
  have hMb : M ≤ 1152921504606846976 := by
    rw [← hM]
    exact Nat.le_trans (Nat.pow_le_pow_right (by decide) hk.2) (by decide)
  have hshl : Hid (∀ n : Nat, n < 10 → IntKind.u64.wrap ((n : Int) * 2 ^ k) = ((n * M : Nat) : Int)) := by
    intro n hn
    have e : (n : Int) * 2 ^ k = ((n * M : Nat) : Int) := by rw [← hM, Int.natCast_mul, Int.natCast_pow]; rfl
    have hb : n * M ≤ 9 * M := Nat.mul_le_mul_right M (by omega)
    rw [e]
    generalize n * M = y at *
    rw [IntKind.wrap_u64]; omega
  obtain ⟨dlo, dhi⟩ := (cheat_delta hCh d1 d3 d4).symm
  have hdd := hCh.d1
  have hdd2 := hCh.d2
  have hP := Lib.hid (fun W (hW : Dec b C nd dp tr W) => c_prefixLt b C nd dp tr L ⟨(L.map UInt8.ofNat).toArray⟩ d2 (by simp [ByteArray.size]) (by have := hCh.l2; have := hCh.len; omega) (fun c hc => by have := hCh.dig c hc; omega)
    (fun j c hj hlt => uG_get L j c hj (by have := hCh.dig c (List.mem_of_getElem? hj); omega) hlt) W hW)
  generalize hSS : (⟨(L.map UInt8.ofNat).toArray⟩ : ByteArray) = S at *
  clear hSS
  generalize hp : preLt C nd L 0 = p at *
  obtain ⟨dl, hdl⟩ : ∃ dl, dlt p d = dl := ⟨_, rfl⟩
  rw [hdl] at dlo dhi
  have hdl20 : dl ≤ 20 := by rw [← hdl]; unfold dlt; split <;> omega
  obtain ⟨m, hm⟩ : ∃ m, nd + dl = m := ⟨_, rfl⟩
  rw [hm] at dlo dhi
  have hfin := Lib.hid (fun C' R tr' (hh : LsI M m tr (numF C nd) m 0 C' tr' R) => by rw [← hM] at hh; exact LsI.fin (dp := dp) hh hm.symm ⟨d1, d2⟩ dlo hd1 hd2)
  rw [hM] at dlo dhi
  have hst := Lib.hid (fun C' => LsI.start M m tr C')
  have hsA := Lib.hid (fun Y Y' s n N R C' tr' => LsI.stepA (M := M) (m := m) (tr := tr) (Y := Y) (Y' := Y') (s := s) (n := n) (N := N) (R := R) (C' := C') (tr' := tr'))
  have hsB := Lib.hid (fun Y Y' s n N R C' tr' => LsI.stepB (M := M) (m := m) (tr := tr) (Y := Y) (Y' := Y') (s := s) (n := n) (N := N) (R := R) (C' := C') (tr' := tr'))
  have hcN := h.n
  have h := Lib.hid h
  have hlb := g0
  replace hM := Lib.hid hM
  replace dlo := Lib.hid dlo
  replace dhi := Lib.hid dhi
  replace hm := Lib.hid hm
  have d3 := Lib.hid d3
  have d4 := Lib.hid d4
  have hk60 : (k : Int) < 61 := by omega
  have hndI : (nd : Int) ≤ 800 := by omega
  have hd1 := Lib.hid hd1
  have hd2 := Lib.hid hd2
  replace hdl := Lib.hid hdl
  replace hp := Lib.hid hp
  clear hCh
  go_enter Tryz.func195, Tryz.ntmps195
  go_wp2_with fail
  go_quiet ((go_at_call 215; exact Calls.quiet_of (hP.out _ (h.out.drew _))))
  have hD1 := h.out.drew nq
  have hB1 := below_drewG (Below.refl b w) nq
  clear g0 g2 g3 hlb hcN h hP
  generalize w.drewN nq = w1 at *
  have hcN := hD1.n
  go_upto_if 30 with fail
  go_cut [4] (fun v4 wx => v4 = .int .i64 (dl : Int) ∧ wx = w1)
  case first =>
    have hdl := hdl.out
    unfold dlt at hdl
    cases p with
    | true =>
      rw [if_pos rfl] at hdl
      have e : (d : Int) - 1 = (dl : Int) := by omega
      go_wp2_with fail
      go_meet
      exact ⟨by go_num, rfl⟩
    | false =>
      rw [if_neg (by decide)] at hdl
      go_wp2_with fail
      go_meet
      exact ⟨by go_num, rfl⟩
  case rest =>
    obtain ⟨rfl, rfl⟩ := hcut
    have hD1 := Lib.hid hD1
    have hB1 := Lib.hid hB1
    have hmb : m ≤ 820 := by have := hm.out; omega
    have hmI : (nd : Int) + (dl : Int) = (m : Int) := by have := hm.out; omega
    clear hdl hp hdd hdd2
    go_wp2_with fail
    go_loopg [5, 6, 7] nd (fun g v5 v6 v7 wr => ∃ (s n : Nat) (C' : Nat → Nat) (tr' : Bool) (R Y : Nat), s + g = nd ∧ v5 = .int .i64 ((nd : Int) - (s : Int) - 1) ∧ v6 = .int .i64 ((m : Int) - (s : Int)) ∧ v7 = .int .u64 (n : Int) ∧ Y = numF (fun i => C (nd - s + i)) s ∧ LsI M m tr Y s n C' tr' R ∧ n < M ∧ (∀ j, j < nd - s → C' j = C j) ∧ Dec b C' nd dp tr' wr ∧ Below b w wr)
    case atStart => exact ⟨0, 0, C, tr, 0, 0, by omega, by go_num, by go_num, rfl, rfl, hst.out C, hM1, fun j _ => rfl, hD1.out, hB1.out⟩
    case round =>
      obtain ⟨s, n, C', tr', R, Y, hg, rfl, rfl, rfl, hY, hI, hnM, hsame0, hD, hB⟩ := hrel
      have hcN := hD.n
      have hm := hm.out
      replace hY := Lib.hid hY
      by_cases hs : s < nd
      · have e5 : (nd : Int) - (s : Int) - 1 = ((nd - s - 1 : Nat) : Int) := by omega
        have e6 : (m : Int) - (s : Int) - 1 = ((m - s - 1 : Nat) : Int) := by omega
        have hcI : ((nd - s - 1 : Nat) : Int) < 800 := by omega
        have hcC := hD.c (nd - s - 1) (by omega)
        rw [hsame0 (nd - s - 1) (by omega)] at hcC
        have hcd := d3.out (nd - s - 1) (by omega)
        obtain ⟨c, hc⟩ : ∃ c, C (nd - s - 1) = c := ⟨_, rfl⟩
        rw [hc] at hcC hcd
        have hY2 : numF (fun i => C (nd - (s + 1) + i)) (s + 1) = (c - 48) * 10 ^ s + Y := by
          rw [hY.out, show nd - (s + 1) = nd - s - 1 by omega, numF_cons, hc]
          congr 1
          refine numF_congr fun i hi => ?_
          show C _ = C _
          congr 1; omega
        have hsm : s < m := by omega
        have w0 : IntKind.u64.wrap (c : Int) = (c : Int) := by rw [IntKind.wrap_u64]; omega
        have w1 : IntKind.u64.wrap ((c : Int) - 48) = ((c - 48 : Nat) : Int) := by rw [IntKind.wrap_u64]; omega
        have w2 := hshl.out (c - 48) (by omega)
        have heq : (n + (c - 48) * M) * 10 ^ s + R = numF (fun i => C (nd - (s + 1) + i)) (s + 1) * M := by
          rw [hY2, Nat.add_mul, Nat.add_mul, ← hI.eq]
          have : (c - 48) * M * 10 ^ s = (c - 48) * 10 ^ s * M := by ac_rfl
          omega
        have hdM : (c - 48) * M ≤ 9 * M := Nat.mul_le_mul_right M (by omega)
        have hsame := Lib.hid (fun v j (hj : j < nd - (s + 1)) => show upd C' (m - s - 1) v j = C j by rw [upd_other C' v (by omega)]; exact hsame0 j (by omega))
        have hsame1 := Lib.hid (fun j (hj : j < nd - (s + 1)) => hsame0 j (by omega))
        generalize (c - 48) * M = y at *
        obtain ⟨N, hNe⟩ : ∃ N, n + y = N := ⟨_, rfl⟩
        have w3 : IntKind.u64.wrap ((n : Int) + (y : Int)) = (N : Int) := by rw [IntKind.wrap_u64]; omega
        rw [hNe] at heq
        have hN : N < 10 * M := by omega
        have w7 : (N : Int).tdiv 10 = ((N / 10 : Nat) : Int) := by rw [Int.tdiv_eq_ediv_of_nonneg (by omega)]; omega
        have w8 : IntKind.u64.wrap (10 * ((N / 10 : Nat) : Int)) = 10 * ((N / 10 : Nat) : Int) := by rw [IntKind.wrap_u64]; omega
        have w9 : IntKind.u64.wrap ((N : Int) - 10 * ((N / 10 : Nat) : Int)) = ((N % 10 : Nat) : Int) := by rw [IntKind.wrap_u64]; omega
        have hqM : N / 10 < M := by omega
        have hz10 := Nat.mod_lt N (show 10 > 0 by decide)
        clear hY2 hY hsame0 hN hdM hm hNe
        by_cases hw8 : m - s - 1 < 800
        · have hI2 := hsA.out _ _ s n N R C' tr' hI hsm hw8 heq
          have hcV := hD.c (m - s - 1) hw8
          have hfV := hD.f (m - s - 1)
          have hD2 := hD.setC (v := N % 10 + 48) (i := m - s - 1) hw8 (by omega)
          have hB2 := hB.setCell (p := ⟨b, m - s - 1, none⟩) (Nat.le_refl _) (.int .u8 ((N % 10 + 48 : Nat) : Int))
          have hsame2 := hsame.out (N % 10 + 48)
          generalize N / 10 = q at *
          generalize N % 10 = z at *
          have w4 : IntKind.u64.wrap ((z : Int) + 48) = ((z + 48 : Nat) : Int) := by rw [IntKind.wrap_u64]; omega
          have w5 : IntKind.u8.wrap ((z + 48 : Nat) : Int) = ((z + 48 : Nat) : Int) := by rw [IntKind.wrap_u8]; omega
          have hwI : ((m - s - 1 : Nat) : Int) < 800 := by omega
          rw [show ((z + 48 : Nat) : Int) = (z : Int) + 48 by omega] at hD2 hB2
          replace hI2 := Lib.hid hI2
          replace hD2 := Lib.hid hD2
          replace hB2 := Lib.hid hB2
          replace hD := Lib.hid hD
          replace hB := Lib.hid hB
          replace hsame2 := Lib.hid hsame2
          clear hI heq hw8
          go_wp2_with fail
          go_roundg (gk - 1)
          case measure => omega
          case rel => exact ⟨s + 1, q, upd C' (m - s - 1) (z + 48), tr', _, _, by omega, by go_num, by go_num, rfl, rfl, hI2.out, hqM, hsame2.out, hD2.out, hB2.out⟩
        · have hI2 := hsB.out _ _ s n N R C' tr' hI hsm hw8 heq
          have hcT := hD.t
          have hfT := hD.f 803
          have hwI : ¬ ((m - s - 1 : Nat) : Int) < 800 := by omega
          have hsame2 := hsame1.out
          by_cases hz0 : N % 10 = 0
          · rw [show (tr' || decide (N % 10 ≠ 0)) = tr' by simp [hz0]] at hI2
            rw [hz0] at hI2 w9
            have zq : (((0 : Nat) : Int) != 0) = false := by decide
            generalize N / 10 = q at *
            replace hI2 := Lib.hid hI2
            replace hD := Lib.hid hD
            replace hB := Lib.hid hB
            replace hsame2 := Lib.hid hsame2
            clear hI heq hw8 hz0
            go_wp2_with fail
            go_roundg (gk - 1)
            case measure => omega
            case rel =>
              have hD2 := hD
              have hB2 := hB
              exact ⟨s + 1, q, C', tr', _, _, by omega, by go_num, by go_num, rfl, rfl, hI2.out, hqM, hsame2.out, hD2.out, hB2.out⟩
          · have zq : (((N % 10 : Nat) : Int) != 0) = true := by simp; omega
            rw [show (tr' || decide (N % 10 ≠ 0)) = true by simp [hz0]] at hI2
            have hD2 := hD.setT true
            have hB2 := hB.setCell (p := ⟨b, 803, none⟩) (Nat.le_refl _) (.bool true)
            generalize N / 10 = q at *
            generalize N % 10 = z at *
            replace hI2 := Lib.hid hI2
            replace hD2 := Lib.hid hD2
            replace hB2 := Lib.hid hB2
            replace hD := Lib.hid hD
            replace hB := Lib.hid hB
            replace hsame2 := Lib.hid hsame2
            clear hI heq hw8 hz0
            go_wp2_with fail
            go_roundg (gk - 1)
            case measure => omega
            case rel => exact ⟨s + 1, q, C', true, _, _, by omega, by go_num, by go_num, rfl, rfl, hI2.out, hqM, hsame2.out, hD2.out, hB2.out⟩
      · have hsn : s = nd := by omega
        subst hsn
        rw [numF_congr (C' := C) (fun i _ => by rw [show s - s + i = i by omega])] at hY
        have hYe := hY.out
        subst hYe
        have e5 : (s : Int) - (s : Int) - 1 = -1 := by omega
        replace hI := Lib.hid hI
        replace hD := Lib.hid hD
        replace hB := Lib.hid hB
        have hms := Lib.hid (show s ≤ m by omega)
        have hsm2 := hms.out
        replace hm := Lib.hid hm
        replace hnM := Lib.hid hnM
        clear hsame0 hcN hsm2
        replace hg := Lib.hid hg
        go_wp2_with fail
        go_loopg [6, 7] (m - s) (fun g v6 v7 wr2 => ∃ (s' n : Nat) (C' : Nat → Nat) (tr' : Bool) (R : Nat), s' + g = m ∧ v6 = .int .i64 ((m : Int) - (s' : Int)) ∧ v7 = .int .u64 (n : Int) ∧ LsI M m tr (numF C s) s' n C' tr' R ∧ s ≤ s' ∧ n < M ∧ Dec b C' s dp tr' wr2 ∧ Below b w wr2)
        case atStart => exact ⟨s, n, C', tr', R, by have := hms.out; omega, rfl, rfl, hI.out, Nat.le_refl _, hnM.out, hD.out, hB.out⟩
        case round =>
          obtain ⟨nd0, hnd0⟩ : ∃ nd0, s = nd0 := ⟨_, rfl⟩
          subst hnd0
          clear hI hD hB hnM hD1 hB1 h hg
          replace hmI := Lib.hid hmI
          obtain ⟨s2, n2, C2, tr2, R2, hg, rfl, rfl, hI, hns, hnM, hD, hB⟩ := hrel
          have heq := hI.eq
          have hRl := hI.rl
          have hcN2 := hD.n
          by_cases hn0 : 0 < n2
          · have hsm : s2 < m := by
              rcases Nat.lt_or_ge s2 m with g | g
              · exact g
              · exfalso
                have h1 := dhi.out
                rw [← heq] at h1
                have h2 : 10 ^ m ≤ 10 ^ s2 := Nat.pow_le_pow_right (by decide) g
                have h3 := Nat.mul_le_mul_right (10 ^ s2) (show 1 ≤ n2 by omega)
                omega
            have e6 : (m : Int) - (s2 : Int) - 1 = ((m - s2 - 1 : Nat) : Int) := by omega
            have w7 : (n2 : Int).tdiv 10 = ((n2 / 10 : Nat) : Int) := by rw [Int.tdiv_eq_ediv_of_nonneg (by omega)]; omega
            have w8 : IntKind.u64.wrap (10 * ((n2 / 10 : Nat) : Int)) = 10 * ((n2 / 10 : Nat) : Int) := by rw [IntKind.wrap_u64]; omega
            have w9 : IntKind.u64.wrap ((n2 : Int) - 10 * ((n2 / 10 : Nat) : Int)) = ((n2 % 10 : Nat) : Int) := by rw [IntKind.wrap_u64]; omega
            have hqM : n2 / 10 < M := by omega
            have hz10 := Nat.mod_lt n2 (show 10 > 0 by decide)
            clear hRl hs e5
            by_cases hw8 : m - s2 - 1 < 800
            · have hI2 := hsA.out _ _ s2 n2 n2 R2 C2 tr2 hI hsm hw8 heq
              have hcV := hD.c (m - s2 - 1) hw8
              have hfV := hD.f (m - s2 - 1)
              have hD2 := hD.setC (v := n2 % 10 + 48) (i := m - s2 - 1) hw8 (by omega)
              have hB2 := hB.setCell (p := ⟨b, m - s2 - 1, none⟩) (Nat.le_refl _) (.int .u8 ((n2 % 10 + 48 : Nat) : Int))
              generalize n2 / 10 = q at *
              generalize n2 % 10 = z at *
              have w4 : IntKind.u64.wrap ((z : Int) + 48) = ((z + 48 : Nat) : Int) := by rw [IntKind.wrap_u64]; omega
              have w5 : IntKind.u8.wrap ((z + 48 : Nat) : Int) = ((z + 48 : Nat) : Int) := by rw [IntKind.wrap_u8]; omega
              have hwI : ((m - s2 - 1 : Nat) : Int) < 800 := by omega
              rw [show ((z + 48 : Nat) : Int) = (z : Int) + 48 by omega] at hD2 hB2
              replace hI2 := Lib.hid hI2
              replace hD2 := Lib.hid hD2
              replace hB2 := Lib.hid hB2
              replace hD := Lib.hid hD
              replace hB := Lib.hid hB
              clear hI heq hw8
              go_wp2_with fail
              go_roundg (gk - 1)
              case measure => omega
              case rel => exact ⟨s2 + 1, q, upd C2 (m - s2 - 1) (z + 48), tr2, _, by omega, by go_num, rfl, hI2.out, by omega, hqM, hD2.out, hB2.out⟩
            · have hI2 := hsB.out _ _ s2 n2 n2 R2 C2 tr2 hI hsm hw8 heq
              have hcT := hD.t
              have hfT := hD.f 803
              have hwI : ¬ ((m - s2 - 1 : Nat) : Int) < 800 := by omega
              by_cases hz0 : n2 % 10 = 0
              · rw [show (tr2 || decide (n2 % 10 ≠ 0)) = tr2 by simp [hz0]] at hI2
                rw [hz0] at hI2 w9
                have zq : (((0 : Nat) : Int) != 0) = false := by decide
                generalize n2 / 10 = q at *
                replace hI2 := Lib.hid hI2
                replace hD := Lib.hid hD
                replace hB := Lib.hid hB
                clear hI heq hw8 hz0
                go_wp2_with fail
                go_roundg (gk - 1)
                case measure => omega
                case rel =>
                  have hD2 := hD
                  have hB2 := hB
                  exact ⟨s2 + 1, q, C2, tr2, _, by omega, by go_num, rfl, hI2.out, by omega, hqM, hD2.out, hB2.out⟩
              · have zq : (((n2 % 10 : Nat) : Int) != 0) = true := by simp; omega
                rw [show (tr2 || decide (n2 % 10 ≠ 0)) = true by simp [hz0]] at hI2
                have hD2 := hD.setT true
                have hB2 := hB.setCell (p := ⟨b, 803, none⟩) (Nat.le_refl _) (.bool true)
                generalize n2 / 10 = q at *
                generalize n2 % 10 = z at *
                replace hI2 := Lib.hid hI2
                replace hD2 := Lib.hid hD2
                replace hB2 := Lib.hid hB2
                replace hD := Lib.hid hD
                replace hB := Lib.hid hB
                clear hI heq hw8 hz0
                go_wp2_with fail
                go_roundg (gk - 1)
                case measure => omega
                case rel => exact ⟨s2 + 1, q, C2, true, _, by omega, by go_num, rfl, hI2.out, by omega, hqM, hD2.out, hB2.out⟩
          · obtain rfl : n2 = 0 := by omega
            have hsm : s2 = m := by
              rw [Nat.zero_mul, Nat.zero_add] at heq
              rw [heq] at hRl
              rcases Nat.lt_or_ge s2 m with g | g
              · exfalso
                have h1 := dlo.out
                have h2 : 10 ^ s2 ≤ 10 ^ (m - 1) := Nat.pow_le_pow_right (by decide) (by omega)
                omega
              · omega
            subst hsm
            have hmI := hmI.out
            obtain ⟨f1, f2, f3, f4⟩ := hfin.out C2 R2 tr2 hI
            have hcN := hD.n
            have hfN := hD.f 800
            have hcP := hD.p
            have hfP := hD.f 801
            have b1 := hd1.out
            have b2 := hd2.out
            have hDa := hD.setN s2
            have hBa := hB.setCell (p := ⟨b, 800, none⟩) (Nat.le_refl _) (.int .i64 (s2 : Int))
            have hcNa := hDa.n
            have hcPa := hDa.p
            replace f2 := Lib.hid f2
            replace f3 := Lib.hid f3
            replace f4 := Lib.hid f4
            clear heq hRl hI
            by_cases h8 : s2 < 800
            · have hmn : min s2 800 = s2 := by omega
              have hI8 : ¬ (800 : Int) ≤ (s2 : Int) := by omega
              have hDb := hDa.setP (dp + (dl : Int))
              have hBb := hBa.setCell (p := ⟨b, 801, none⟩) (Nat.le_refl _) (.int .i64 (dp + (dl : Int)))
              have hT := Lib.hid (c_trim b C2 s2 (dp + (dl : Int)) tr2 (by omega) (by omega) (by omega) _ hDb)
              rw [hmn] at f2 f3 f4
              replace hDa := Lib.hid hDa
              replace hBa := Lib.hid hBa
              replace hDb := Lib.hid hDb
              replace hBb := Lib.hid hBb
              replace hD := Lib.hid hD
              replace hB := Lib.hid hB
              go_wp2_with fail
              refine hT.out.mono ?_
              rintro e w9 ⟨rfl, n, t1, t2, t3, t4, t5, t6⟩
              go_wp2_with fail
              go_end0
              have ht := tOf_trim (C := C2) (dp := dp + (dl : Int)) t2 t4 (by omega) (by omega)
              exact ⟨rfl, C2, n, _, tr2, ⟨t1, by omega, f2.out.mono t2, f1⟩, t3, t5, hBb.out.trans t6, by omega, by omega, by rw [ht]; exact f3.out, by rw [ht]; exact f4.out⟩
            · have hmn : min s2 800 = 800 := by omega
              have hI8 : (800 : Int) ≤ (s2 : Int) := by omega
              have hDc := hDa.setN 800
              have hBc := hBa.setCell (p := ⟨b, 800, none⟩) (Nat.le_refl _) (.int .i64 ((800 : Nat) : Int))
              have hcPc := hDc.p
              have hDb := hDc.setP (dp + (dl : Int))
              have hBb := hBc.setCell (p := ⟨b, 801, none⟩) (Nat.le_refl _) (.int .i64 (dp + (dl : Int)))
              have hT := Lib.hid (c_trim b C2 800 (dp + (dl : Int)) tr2 (by omega) (by omega) (by omega) _ hDb)
              rw [hmn] at f2 f3 f4
              replace hDa := Lib.hid hDa
              replace hBa := Lib.hid hBa
              replace hDb := Lib.hid hDb
              replace hBb := Lib.hid hBb
              replace hDc := Lib.hid hDc
              replace hBc := Lib.hid hBc
              replace hD := Lib.hid hD
              replace hB := Lib.hid hB
              go_wp2_with fail
              refine hT.out.mono ?_
              rintro e w9 ⟨rfl, n, t1, t2, t3, t4, t5, t6⟩
              go_wp2_with fail
              go_end0
              have ht := tOf_trim (C := C2) (dp := dp + (dl : Int)) t2 t4 (by omega) (by omega)
              exact ⟨rfl, C2, n, _, tr2, ⟨t1, by omega, f2.out.mono t2, f1⟩, t3, t5, hBb.out.trans t6, by omega, by omega, by rw [ht]; exact f3.out, by rw [ht]; exact f4.out⟩
end Go.Proofs.YtbakbikilbaafaaGreatDoor
namespace Go.Proofs.YtbakbikilbaafaaGreatDoor
open Go.RowKit F64 Ieee
set_option linter.unusedVariables false
set_option maxHeartbeats 4000000
set_option maxRecDepth 100000

/-- a decimal of the value t lies in block b -/
def DecV (b t : Nat) (dp : Int) (tr : Bool) (w : World) : Prop := ∃ (C : Nat → Nat) (nd : Nat), DecD C nd ∧ Dec b C nd dp tr w ∧ t = tOf C nd dp
/-- a trimmed decimal -/
def DecT (b t : Nat) (dp : Int) (tr : Bool) (w : World) : Prop := ∃ (C : Nat → Nat) (nd : Nat), DecD C nd ∧ C (nd - 1) ≠ 48 ∧ Dec b C nd dp tr w ∧ t = tOf C nd dp
theorem DecT.v {b t : Nat} {dp : Int} {tr : Bool} {w : World} (h : DecT b t dp tr w) : DecV b t dp tr w := by
  obtain ⟨C, nd, h1, _, h3, h4⟩ := h
  exact ⟨C, nd, h1, h3, h4⟩
theorem DecV.ge {b t : Nat} {dp : Int} {tr : Bool} {w : World} (h : DecV b t dp tr w) (hd : -500 ≤ dp) : 10 ^ ((dp + 500).toNat + 799) ≤ t := by
  obtain ⟨C, nd, hD, _, rfl⟩ := h
  exact tOf_ge hD.pos hD.hd hd hD.le
theorem DecV.lt {b t : Nat} {dp : Int} {tr : Bool} {w : World} (h : DecV b t dp tr w) (hd : -500 ≤ dp) : t < 10 ^ (dp + 1300).toNat := by
  obtain ⟨C, nd, hD, _, rfl⟩ := h
  exact tOf_lt hD.dig hd hD.le
theorem DecV.drew {b t : Nat} {dp : Int} {tr : Bool} {w : World} (h : DecV b t dp tr w) (n : Nat) : DecV b t dp tr (w.drewN n) := by
  obtain ⟨C, nd, h1, h3, h4⟩ := h
  exact ⟨C, nd, h1, h3.drew n, h4⟩
theorem left_lt {t t' k A : Nat} (hk : 1 ≤ k) (ht : 10 ^ (A + 799) ≤ t') (he : t' = t * 2 ^ k / 10 ^ A * 10 ^ A) : t' ≤ t * 2 ^ k ∧ t < t' := by
  have hA : 0 < 10 ^ A := Nat.pow_pos (by decide)
  have h1 := Nat.div_mul_le_self (t * 2 ^ k) (10 ^ A)
  have h2 := Nat.lt_div_mul_add hA (a := t * 2 ^ k)
  rw [← he] at h1 h2
  refine ⟨h1, ?_⟩
  have h3 : 10 ^ A * 10 ≤ t' := by
    rw [← Nat.pow_succ]
    exact Nat.le_trans (Nat.pow_le_pow_right (by decide) (by omega)) ht
  have h4 : t * 2 ≤ t * 2 ^ k := Nat.mul_le_mul_left t (by
    have := Nat.pow_le_pow_right (n := 2) (by decide) hk
    simpa using this)
  omega
theorem c_shL (b t : Nat) (dp : Int) (tr : Bool) (a bb p q B k : Nat) (hk : 1 ≤ k ∧ k ≤ 60) (hbb : 0 < bb) (hA : App a bb p q t tr B) (hB : B ≤ 1100) (hkB : k ≤ B) (hd1 : -500 ≤ dp) (hd2 : dp ≤ 700) (w : World) (h : DecV b t dp tr w) (hL : LC w) :
    Calls Tryz.prog 167 #[.pointer (some ⟨b, 0, none⟩), .int .i64 (k : Int)] w fun r w' => r = .returned (.tuple #[]) ∧ ∃ t' dp' tr', DecT b t' dp' tr' w' ∧ Below b w w' ∧ dp ≤ dp' ∧ dp' ≤ dp + 20 ∧ App a bb (p + k) q t' tr' (B - k) ∧ t' ≤ t * 2 ^ k ∧ t < t' := by
  obtain ⟨C, nd, h1, h3, rfl⟩ := h
  have hC := Lib.hid (c_left b C nd dp tr k hk h1 hd1 hd2 w h3 hL)
  have cN := h3.n
  have n0 : ((nd : Int) == 0) = false := by simp; have := h1.pos; omega
  have k0 : (0 : Int) < (k : Int) := by omega
  have k1 : ¬ (60 : Int) < (k : Int) := by omega
  have w0 : IntKind.u64.wrap (k : Int) = (k : Int) := by rw [IntKind.wrap_u64]; omega
  have hA := Lib.hid hA
  go_enter Tryz.func167, Tryz.ntmps167
  go_wp2_with fail
  go_loopg [1] 0 (fun g v1 wr => v1 = .int .i64 (k : Int) ∧ wr = w)
  case atStart => exact ⟨rfl, rfl⟩
  case round =>
    obtain ⟨rfl, rfl⟩ := hrel
    go_wp2_with fail
    refine hC.out.mono ?_
    rintro e w1 ⟨rfl, C', n', dp', tr', g1, g2, g3, g4, g5, g6, g7, g8⟩
    go_wp2_with fail
    go_end0
    have hge := tOf_ge (dp := dp') g1.pos g1.hd (by omega) g1.le
    have hl := left_lt hk.1 hge g7
    exact ⟨rfl, _, dp', tr', ⟨C', n', g1, g2, g3, rfl⟩, g4, g5, g6, by rw [g8]; exact App.left hbb hA.out hB hkB (by omega) g7 hge, hl.1, hl.2⟩
theorem right_le {t t' k A : Nat} (he : t' = t / (2 ^ k * 10 ^ A) * 10 ^ A) : t' * 2 ^ k ≤ t := by
  rw [he]
  have := Nat.div_mul_le_self t (2 ^ k * 10 ^ A)
  calc t / (2 ^ k * 10 ^ A) * 10 ^ A * 2 ^ k = t / (2 ^ k * 10 ^ A) * (2 ^ k * 10 ^ A) := by ac_rfl
    _ ≤ t := this
theorem c_shR1 (b t : Nat) (dp : Int) (tr : Bool) (a bb p q B k : Nat) (hk : 1 ≤ k ∧ k ≤ 60) (hbb : 0 < bb) (hA : App a bb p q t tr B) (hd1 : -200 ≤ dp) (hd2 : dp ≤ 700) (w : World) (h : DecV b t dp tr w) :
    Calls Tryz.prog 167 #[.pointer (some ⟨b, 0, none⟩), .int .i64 (-(k : Int))] w fun r w' => r = .returned (.tuple #[]) ∧ ∃ t' dp' tr', DecV b t' dp' tr' w' ∧ Below b w w' ∧ dp - 100 ≤ dp' ∧ dp' ≤ dp ∧ App a bb p (q + k) t' tr' (min (B + k) 1100) ∧ t' * 2 ^ k ≤ t := by
  obtain ⟨C, nd, h1, h3, rfl⟩ := h
  have hC := Lib.hid (c_right b C nd dp tr k hk h1 (by omega) hd2 w h3)
  have cN := h3.n
  have n0 : ((nd : Int) == 0) = false := by simp; have := h1.pos; omega
  have k0 : ¬ (0 : Int) < -(k : Int) := by omega
  have k2 : -(k : Int) < 0 := by omega
  have k1 : ¬ -(k : Int) < -60 := by omega
  have kn : -(-(k : Int)) = (k : Int) := by omega
  have w0 : IntKind.u64.wrap (k : Int) = (k : Int) := by rw [IntKind.wrap_u64]; omega
  have hA := Lib.hid hA
  go_enter Tryz.func167, Tryz.ntmps167
  go_wp2_with fail
  go_loopg [1] 0 (fun g v1 wr => v1 = .int .i64 (-(k : Int)) ∧ wr = w)
  case atStart => exact ⟨rfl, rfl⟩
  case round =>
    obtain ⟨rfl, rfl⟩ := hrel
    go_wp2_with fail
    refine hC.out.mono ?_
    rintro e w1 ⟨rfl, C', n', dp', tr', g1, g2, g3, g4, g5, g6, g7, g8⟩
    go_wp2_with fail
    go_end0
    have hge := tOf_ge (dp := dp') g1.pos g1.hd (by omega) g1.le
    exact ⟨rfl, _, dp', tr', ⟨C', n', g1, g3, rfl⟩, g4, g5, g6, by rw [g8]; exact App.right hbb hA.out (by omega) g7 hge, right_le g7⟩
theorem c_shR2 (b t : Nat) (dp : Int) (tr : Bool) (a bb p q B k : Nat) (hk : 61 ≤ k ∧ k ≤ 120) (hbb : 0 < bb) (hA : App a bb p q t tr B) (hd1 : -200 ≤ dp) (hd2 : dp ≤ 700) (w : World) (h : DecV b t dp tr w) :
    Calls Tryz.prog 167 #[.pointer (some ⟨b, 0, none⟩), .int .i64 (-(k : Int))] w fun r w' => r = .returned (.tuple #[]) ∧ ∃ t' dp' tr', DecV b t' dp' tr' w' ∧ Below b w w' ∧ dp - 200 ≤ dp' ∧ dp' ≤ dp ∧ App a bb p (q + k) t' tr' (min (B + k) 1100) := by
  obtain ⟨C, nd, h1, h3, rfl⟩ := h
  have hC := Lib.hid (c_right b C nd dp tr 60 ⟨by decide, by decide⟩ h1 (by omega) hd2 w h3)
  have hC2 := Lib.hid (fun C' n' dp' tr' (g1 : DecD C' n') (e1 : -300 ≤ dp') (e2 : dp' ≤ 700) W hW => c_right b C' n' dp' tr' (k - 60) ⟨by omega, by omega⟩ g1 e1 e2 W hW)
  obtain ⟨kk, hkk⟩ : ∃ kk, k - 60 = kk := ⟨_, rfl⟩
  rw [hkk] at hC2
  have cN := h3.n
  have n0 : ((nd : Int) == 0) = false := by simp; have := h1.pos; omega
  have k0 : ¬ (0 : Int) < -(k : Int) := by omega
  have k2 : -(k : Int) < 0 := by omega
  have k1 : -(k : Int) < -60 := by omega
  have k3 : ¬ -(kk : Int) < -60 := by omega
  have k4 : -(k : Int) + 60 = -(kk : Int) := by omega
  have kn : -(-(kk : Int)) = (kk : Int) := by omega
  have w0 : IntKind.u64.wrap (kk : Int) = (kk : Int) := by rw [IntKind.wrap_u64]; omega
  have hA := Lib.hid hA
  replace hkk := Lib.hid hkk
  have h3 := Lib.hid h3
  go_enter Tryz.func167, Tryz.ntmps167
  go_wp2_with fail
  go_loopg [1] 1 (fun g v1 wr => (g = 1 ∧ v1 = .int .i64 (-(k : Int)) ∧ wr = w) ∨ (g = 0 ∧ v1 = .int .i64 (-(kk : Int)) ∧ ∃ C' n' dp' tr', DecD C' n' ∧ Dec b C' n' dp' tr' wr ∧ Below b w wr ∧ dp - 100 ≤ dp' ∧ dp' ≤ dp ∧ App a bb p (q + 60) (tOf C' n' dp') tr' (min (B + 60) 1100)))
  case atStart => exact .inl ⟨rfl, rfl, rfl⟩
  case round =>
    rcases hrel with ⟨rfl, rfl, rfl⟩ | ⟨rfl, rfl, C', n', dp', tr', g1, g3, g4, g5, g6, g7⟩
    · go_wp2_with fail
      refine hC.out.mono ?_
      rintro e w1 ⟨rfl, C', n', dp', tr', g1, g2, g3, g4, g5, g6, g7, g8⟩
      have hge := tOf_ge (dp := dp') g1.pos g1.hd (by omega) g1.le
      have hap := App.right hbb hA.out (by omega) g7 hge
      rw [← g8] at hap
      replace hap := Lib.hid hap
      replace g3 := Lib.hid g3
      replace g4 := Lib.hid g4
      clear g7 g8 hge
      go_wp2_with fail
      go_roundg 0
      case measure => omega
      case rel => exact .inr ⟨rfl, by go_num, C', n', dp', tr', g1, g3.out, g4.out, g5, g6, hap.out⟩
    · have hx := Lib.hid (hC2.out C' n' dp' tr' g1 (by omega) (by omega) wr g3)
      replace g7 := Lib.hid g7
      replace g4 := Lib.hid g4
      clear g3
      go_wp2_with fail
      refine hx.out.mono ?_
      rintro e w1 ⟨rfl, C2, n2, dp2, tr2, f1, f2, f3, f4, f5, f6, f7, f8⟩
      go_wp2_with fail
      go_end0
      have hge := tOf_ge (dp := dp2) f1.pos f1.hd (by omega) f1.le
      have hap := App.right hbb g7.out (by omega) f7 hge
      rw [← f8, show q + 60 + kk = q + k by have := hkk.out; omega, show min (min (B + 60) 1100 + kk) 1100 = min (B + k) 1100 by have := hkk.out; omega] at hap
      exact ⟨rfl, _, dp2, tr2, ⟨C2, n2, f1, f3, rfl⟩, g4.out.trans f4, by omega, by omega, hap⟩
/-- the digits up to the point -/
theorem tOf_split {C : Nat → Nat} {nd d : Nat} (hd : d ≤ nd) (hn : nd ≤ 800) : tOf C nd (d : Int) = numF C d * SC + numF (fun i => C (d + i)) (nd - d) * 10 ^ (1300 - (nd - d)) ∧ SC = 10 ^ (nd - d) * 10 ^ (1300 - (nd - d)) := by
  have hS : SC = 10 ^ (nd - d) * 10 ^ (1300 - (nd - d)) := by unfold SC; rw [← Nat.pow_add, EX_eq]; congr 1; omega
  refine ⟨?_, hS⟩
  unfold tOf
  rw [show ((d : Int) - (nd : Int) + 1300).toNat = 1300 - (nd - d) by omega]
  have h := numF_split C d (nd - d)
  rw [show d + (nd - d) = nd by omega] at h
  rw [h, hS, Nat.add_mul, Nat.mul_assoc]
theorem tOf_big {C : Nat → Nat} {nd d : Nat} (hd : nd ≤ d) : tOf C nd (d : Int) = numF (ext C nd) d * SC := by
  obtain ⟨m, rfl⟩ : ∃ m, d = nd + m := ⟨d - nd, by omega⟩
  unfold tOf
  rw [ext_more, show (((nd + m : Nat) : Int) - (nd : Int) + 1300).toNat = m + 1300 by omega, Nat.pow_add, Nat.mul_assoc]
  unfold SC
  rw [EX_eq]
theorem tail_lt {C : Nat → Nat} {nd d : Nat} (h : DigOK C nd) (hd : d ≤ nd) : numF (fun i => C (d + i)) (nd - d) < 10 ^ (nd - d) := numF_lt fun i hi => h (d + i) (by omega)
theorem whole_eq {C : Nat → Nat} {nd d : Nat} (h : DigOK C nd) (hn : nd ≤ 800) : tOf C nd (d : Int) / SC = numF (ext C nd) d := by
  rcases Nat.lt_or_ge d nd with g | g
  · obtain ⟨e1, e2⟩ := tOf_split (C := C) (by omega : d ≤ nd) hn
    rw [ext_le C (by omega), e1, Nat.mul_comm, Nat.mul_add_div SC_pos, Nat.div_eq_of_lt, Nat.add_zero]
    rw [e2]
    exact Nat.mul_lt_mul_of_pos_right (tail_lt h (by omega)) (Nat.pow_pos (by decide))
  · rw [tOf_big g, Nat.mul_div_cancel _ SC_pos]
theorem rest_eq {C : Nat → Nat} {nd d : Nat} (h : DigOK C nd) (hn : nd ≤ 800) (g : d < nd) : tOf C nd (d : Int) % SC = numF (fun i => C (d + i)) (nd - d) * 10 ^ (1300 - (nd - d)) := by
  obtain ⟨e1, e2⟩ := tOf_split (C := C) (by omega : d ≤ nd) hn
  rw [e1, Nat.mul_comm, Nat.mul_add_mod, Nat.mod_eq_of_lt]
  rw [e2]
  exact Nat.mul_lt_mul_of_pos_right (tail_lt h (by omega)) (Nat.pow_pos (by decide))
theorem up_ge {C : Nat → Nat} {nd d : Nat} (tr : Bool) (hd : nd ≤ d) : upT (tOf C nd (d : Int)) tr = false := by
  unfold upT
  rw [tOf_big hd, Nat.mul_mod_left]
  have := SC_pos
  simp
  omega
theorem up_neg {t : Nat} (tr : Bool) {dp : Int} (hd : dp < 0) (h : t < 10 ^ (dp + 1300).toNat) : upT t tr = false ∧ t / SC = 0 := by
  obtain ⟨E, hE⟩ : ∃ E, EX = E + 1 := ⟨1299, rfl⟩
  have h1 : 10 ^ (dp + 1300).toNat ≤ 10 ^ E := Nat.pow_le_pow_right (by decide) (by have := EX_eq; omega)
  have h2 : SC = 10 ^ E * 10 := by unfold SC; rw [← Nat.pow_succ, hE]
  have h3 : t < SC := by omega
  refine ⟨?_, Nat.div_eq_of_lt h3⟩
  unfold upT
  rw [Nat.mod_eq_of_lt h3]
  have e1 : decide (SC < 2 * t) = false := by simp; omega
  have e2 : decide (2 * t = SC) = false := by simp; omega
  rw [e1, e2]
  rfl
theorem last_odd {C : Nat → Nat} {d : Nat} (h : DigOK C d) : decide (numF C d % 2 = 1) = (decide (0 < d) && decide ((C (d - 1) - 48) % 2 ≠ 0)) := by
  cases d with
  | zero => simp [numF_zero]
  | succ m =>
    rw [numF_succ, show m + 1 - 1 = m by omega]
    have e : decide (0 < m + 1) = true := by simp
    rw [e, Bool.true_and]
    apply decide_eq_decide.2
    omega
theorem up_half {C : Nat → Nat} {nd d : Nat} (tr : Bool) (h : DigOK C nd) (hn : nd ≤ 800) (g : d + 1 = nd) (hc : C d = 53) : upT (tOf C nd (d : Int)) tr = (tr || (decide (0 < d) && decide ((C (d - 1) - 48) % 2 ≠ 0))) := by
  have hr := rest_eq h hn (by omega : d < nd)
  have hw := whole_eq (d := d) h hn
  rw [ext_le C (by omega)] at hw
  unfold upT
  have hS := (tOf_split (C := C) (by omega : d ≤ nd) hn).2
  have hp : 0 < 10 ^ (1300 - (nd - d)) := Nat.pow_pos (by decide)
  rw [hr, hw, last_odd (h.mono (by omega))]
  generalize 10 ^ (1300 - (nd - d)) = u at *
  rw [show nd - d = 1 by omega, Nat.pow_one] at hS
  rw [hS, show nd - d = 1 by omega, numF_succ, numF_zero]
  simp only [Nat.add_zero]
  have e1 : decide (10 * u < 2 * ((0 * 10 + (C d - 48)) * u)) = false := by simp only [decide_eq_false_iff_not]; rw [hc]; omega
  have e2 : decide (2 * ((0 * 10 + (C d - 48)) * u) = 10 * u) = true := by simp only [decide_eq_true_eq]; rw [hc]; omega
  rw [e1, e2, Bool.false_or, Bool.true_and]
theorem up_else {C : Nat → Nat} {nd d : Nat} (tr : Bool) (h : DigOK C nd) (hn : nd ≤ 800) (g : d < nd) (hl : C (nd - 1) ≠ 48) (hc : ¬ (d + 1 = nd ∧ C d = 53)) : upT (tOf C nd (d : Int)) tr = decide (53 ≤ C d) := by
  have hr := rest_eq h hn g
  obtain ⟨j, hj⟩ : ∃ j, nd - d = j + 1 := ⟨nd - d - 1, by omega⟩
  have hS := (tOf_split (C := C) (by omega : d ≤ nd) hn).2
  unfold upT
  rw [hr, hj]
  rw [hj] at hS
  clear hr
  have hF := numF_cons C d j
  have hlt : numF (fun k => C (d + 1 + k)) j < 10 ^ j := numF_lt fun i hi => h (d + 1 + i) (by omega)
  have hcd := h d g
  have hpos : 1 ≤ j → 0 < numF (fun k => C (d + 1 + k)) j := by
    intro h1
    obtain ⟨i, rfl⟩ : ∃ i, j = i + 1 := ⟨j - 1, by omega⟩
    rw [numF_succ, show d + 1 + i = nd - 1 by omega]
    have := h (nd - 1) (by omega)
    omega
  have hj0 : j = 0 → numF (fun k => C (d + 1 + k)) j = 0 := by intro e; subst e; rfl
  rw [hF, hS]
  have hu : 0 < 10 ^ (1300 - (j + 1)) := Nat.pow_pos (by decide)
  have hp10 : (10 : Nat) ^ (j + 1) = 10 * 10 ^ j := by rw [Nat.pow_succ, Nat.mul_comm]
  have hpj : 0 < 10 ^ j := Nat.pow_pos (by decide)
  rw [hp10]
  generalize numF (fun k => C (d + 1 + k)) j = F at *
  generalize 10 ^ (1300 - (j + 1)) = u at *
  generalize 10 ^ j = v at *
  have key : 2 * (((C d - 48) * v + F) * u) = (2 * ((C d - 48) * v) + 2 * F) * u := by rw [← Nat.mul_assoc, Nat.mul_add]
  rw [key]
  rcases Nat.lt_or_ge (C d) 53 with c5 | c5
  · have h1 := Nat.mul_le_mul_right v (show C d - 48 ≤ 4 by omega)
    have h2 : (2 * ((C d - 48) * v) + 2 * F) * u < 10 * v * u := Nat.mul_lt_mul_of_pos_right (by omega) hu
    have e1 : decide (10 * v * u < (2 * ((C d - 48) * v) + 2 * F) * u) = false := by simp only [decide_eq_false_iff_not]; omega
    have e2 : decide ((2 * ((C d - 48) * v) + 2 * F) * u = 10 * v * u) = false := by simp only [decide_eq_false_iff_not]; omega
    have e3 : decide (53 ≤ C d) = false := by simp only [decide_eq_false_iff_not]; omega
    rw [e1, e2, e3]
    rfl
  · have h0 : 10 * v < 2 * ((C d - 48) * v) + 2 * F := by
      rcases Nat.lt_or_ge 53 (C d) with c6 | c6
      · have h1 := Nat.mul_le_mul_right v (show 6 ≤ C d - 48 by omega)
        omega
      · have c53 : C d = 53 := by omega
        have j1 : 1 ≤ j := by
          rcases Nat.eq_zero_or_pos j with z | z
          · exact absurd ⟨by omega, c53⟩ hc
          · exact z
        have := hpos j1
        rw [c53]
        omega
    have h2 : 10 * v * u < (2 * ((C d - 48) * v) + 2 * F) * u := Nat.mul_lt_mul_of_pos_right h0 hu
    have e1 : decide (10 * v * u < (2 * ((C d - 48) * v) + 2 * F) * u) = true := by simp only [decide_eq_true_eq]; exact h2
    have e3 : decide (53 ≤ C d) = true := by simp only [decide_eq_true_eq]; exact c5
    rw [e1, e3]
    rfl
theorem c_roundUp (b : Nat) (C : Nat → Nat) (nd : Nat) (dp : Int) (tr : Bool) (h1 : DecD C nd) (h2 : C (nd - 1) ≠ 48) (hd : dp ≤ 20) (hd1 : -500 ≤ dp) (w : World) (h : Dec b C nd dp tr w) :
    Calls Tryz.prog 197 #[.pointer (some ⟨b, 0, none⟩), .int .i64 dp] w fun r w' => r = .returned (.bool (upT (tOf C nd dp) tr)) ∧ w' = w := by
  obtain ⟨p1, p2, p3, p4⟩ := h1
  have cN := h.n
  have cT := h.t
  rcases (show dp < 0 ∨ 0 ≤ dp by omega) with hn | hn
  · have hu := (up_neg tr hn (tOf_lt (C := C) (nd := nd) p3 hd1 p2)).1
    rw [hu]
    have q0 : dp < 0 := hn
    go_enter Tryz.func197, Tryz.ntmps197
    go_wp2_with fail
    go_ret
    exact ⟨rfl, rfl⟩
  · obtain ⟨d, rfl⟩ := Int.eq_ofNat_of_zero_le hn
    have q0 : ¬ (d : Int) < 0 := by omega
    by_cases hg : nd ≤ d
    · rw [up_ge tr hg]
      have q1 : (nd : Int) ≤ (d : Int) := by omega
      go_enter Tryz.func197, Tryz.ntmps197
      go_wp2_with fail
      go_ret
      exact ⟨rfl, rfl⟩
    · have q1 : ¬ (nd : Int) ≤ (d : Int) := by omega
      have cC := h.c d (by omega)
      have cd := p3 d (by omega)
      by_cases h53 : C d = 53
      · rw [h53] at cC
        by_cases hl : d + 1 = nd
        · rw [up_half tr p3 p2 hl h53]
          have q2 : ((d : Int) + 1 == (nd : Int)) = true := by simp; omega
          cases tr with
          | true =>
            clear hn hg hl
            go_enter Tryz.func197, Tryz.ntmps197
            go_wp2_with fail
            go_ret
            exact ⟨rfl, rfl⟩
          | false =>
            rw [Bool.false_or]
            by_cases hd0 : 0 < d
            · have e1 : (d : Int) - 1 = ((d - 1 : Nat) : Int) := by omega
              have cC1 := h.c (d - 1) (by omega)
              have cd1 := p3 (d - 1) (by omega)
              rw [show decide (0 < d) = true by simp [hd0], Bool.true_and]
              generalize C (d - 1) = x at *
              have w0 : IntKind.u8.wrap ((x : Int) - 48) = ((x - 48 : Nat) : Int) := by rw [IntKind.wrap_u8]; omega
              have w1 : (((x - 48 : Nat) : Int)).tmod 2 = (((x - 48) % 2 : Nat) : Int) := by rw [Int.tmod_eq_emod_of_nonneg (by omega)]; omega
              have w2 : ((((x - 48) % 2 : Nat) : Int) != 0) = decide ((x - 48) % 2 ≠ 0) := by
                by_cases z : (x - 48) % 2 = 0
                · simp [z]
                · have : (x - 48) % 2 = 1 := by omega
                  simp [this]
              generalize (x - 48) % 2 = y at *
              generalize hyy : decide (y ≠ 0) = yy at *
              clear hn hg hl hyy
              go_enter Tryz.func197, Tryz.ntmps197
              go_wp2_with fail
              go_ret
              exact ⟨rfl, rfl⟩
            · obtain rfl : d = 0 := by omega
              clear hn hg hl
              go_enter Tryz.func197, Tryz.ntmps197
              go_wp2_with fail
              go_ret
              exact ⟨rfl, rfl⟩
        · rw [up_else tr p3 p2 (by omega) h2 (fun x => hl x.1), h53]
          have q2 : ((d : Int) + 1 == (nd : Int)) = false := by simp; omega
          clear hn hg hl
          go_enter Tryz.func197, Tryz.ntmps197
          go_wp2_with fail
          go_ret
          exact ⟨rfl, rfl⟩
      · rw [up_else tr p3 p2 (by omega) h2 (fun x => h53 x.2)]
        have q2 : ((C d : Int) == 53) = false := by simp; omega
        have q3 : decide ((53 : Int) ≤ (C d : Int)) = decide (53 ≤ C d) := by apply decide_eq_decide.2; omega
        generalize hyy : decide (53 ≤ C d) = yy at *
        clear hn hg hyy
        go_enter Tryz.func197, Tryz.ntmps197
        go_wp2_with fail
        go_ret
        exact ⟨rfl, rfl⟩
end Go.Proofs.YtbakbikilbaafaaGreatDoor
namespace Go.Proofs.YtbakbikilbaafaaGreatDoor
open Go.RowKit F64 Ieee
set_option linter.unusedVariables false
set_option maxHeartbeats 4000000
set_option maxRecDepth 100000

theorem dp_le {C : Nat → Nat} {nd : Nat} {dp : Int} (h : DecD C nd) (hd : -500 ≤ dp) (ht : tOf C nd dp < 9007199254740992 * SC) : dp ≤ 16 := by
  rcases (show dp ≤ 16 ∨ 17 ≤ dp by omega) with g | g
  · exact g
  · exfalso
    have h1 := tOf_ge (dp := dp) h.pos h.hd hd h.le
    have h2 : 10 ^ EX * 10 ^ 16 ≤ 10 ^ ((dp + 500).toNat + 799) := by
      rw [← Nat.pow_add]
      exact Nat.pow_le_pow_right (by decide) (by rw [EX_eq]; omega)
    have h3 : (10 : Nat) ^ 16 = 10000000000000000 := by decide
    unfold SC at ht
    rw [h3] at h2
    omega
theorem c_rounded10 (b t : Nat) (dp : Int) (tr : Bool) (hd : -500 ≤ dp) (ht : t < 9007199254740992 * SC) (w : World) (h : DecT b t dp tr w) :
    Calls Tryz.prog 220 #[.pointer (some ⟨b, 0, none⟩)] w fun r w' => r = .returned (.int .u64 (rndT t tr : Int)) ∧ w' = w := by
  obtain ⟨C, nd, h1, h2, h3, rfl⟩ := h
  have hdp := dp_le h1 hd ht
  have hU := Lib.hid (c_roundUp b C nd dp tr h1 h2 (by omega) hd w h3)
  obtain ⟨p1, p2, p3, p4⟩ := h1
  obtain ⟨d, hd'⟩ : ∃ d, dp.toNat = d := ⟨_, rfl⟩
  have hw : tOf C nd dp / SC = numF (ext C nd) d := by
    rcases (show dp < 0 ∨ 0 ≤ dp by omega) with g | g
    · rw [(up_neg tr g (tOf_lt p3 hd p2)).2, show d = 0 by omega, numF_zero]
    · rw [show dp = (d : Int) by omega]
      exact whole_eq p3 p2
  have hb : numF (ext C nd) d < 9007199254740992 := by
    rw [← hw, Nat.div_lt_iff_lt_mul SC_pos]; exact ht
  have hr : Hid (rndT (tOf C nd dp) tr = numF (ext C nd) d + (if upT (tOf C nd dp) tr then 1 else 0)) := by
    show _ = _
    unfold rndT
    rw [hw]
  have hlt := Lib.hid (fun i (hi : i ≤ 16) => show numF (ext C nd) i < 10000000000000000 from by
    have a1 := numF_lt (C := ext C nd) (n := i) (fun j _ => ext_dig p3 j)
    have a2 := Nat.pow_le_pow_right (n := 10) (by decide) hi
    have a3 : (10 : Nat) ^ 16 = 10000000000000000 := by decide
    omega)
  have hdig := Lib.hid (ext_dig p3)
  have hE1 := Lib.hid (fun i (hi : i < nd) => ext_lt C (nd := nd) hi)
  have hE2 := Lib.hid (fun i (hi : nd ≤ i) => ext_ge C (nd := nd) hi)
  have cN := h3.n
  have cP := h3.p
  have h3 := Lib.hid h3
  generalize ext C nd = X at *
  generalize upT (tOf C nd dp) tr = up at *
  clear hw ht
  have hb := Lib.hid hb
  have q0 : ¬ (20 : Int) < dp := by omega
  have hd' := Lib.hid hd'
  have p3 := Lib.hid p3
  go_enter Tryz.func220, Tryz.ntmps220
  go_wp2_with fail
  go_loopg [3, 4] nd (fun g v3 v4 wr => ∃ i : Nat, i + g = nd ∧ (i ≤ d ∨ i = 0) ∧ v3 = .int .i64 (i : Int) ∧ v4 = .int .u64 (numF X i : Int) ∧ wr = w)
  case atStart => exact ⟨0, by omega, .inr rfl, rfl, rfl, rfl⟩
  case round =>
    obtain ⟨i, hi, hid, rfl, rfl, rfl⟩ := hrel
    by_cases hc : (i : Int) < dp ∧ i < nd
    · have c1 : (i : Int) < dp := hc.1
      have c2 : (i : Int) < (nd : Int) := by omega
      have hi16 := hlt.out (i + 1) (by omega)
      have hi16b := hlt.out i (by omega)
      have cC := h3.out.c i (by omega)
      have cd := p3.out i hc.2
      have hs := numF_succ X i
      rw [hE1.out i hc.2] at hs
      have w0 : IntKind.u8.wrap ((C i : Int) - 48) = ((C i - 48 : Nat) : Int) := by rw [IntKind.wrap_u8]; omega
      have w1 : IntKind.u64.wrap (((C i - 48 : Nat) : Int)) = ((C i - 48 : Nat) : Int) := by rw [IntKind.wrap_u64]; omega
      have w2 : IntKind.u64.wrap ((numF X i : Int) * 10) = ((numF X i * 10 : Nat) : Int) := by rw [IntKind.wrap_u64]; omega
      have w3 : IntKind.u64.wrap (((numF X i * 10 : Nat) : Int) + ((C i - 48 : Nat) : Int)) = ((numF X (i + 1) : Nat) : Int) := by rw [IntKind.wrap_u64, hs]; omega
      have hdd := hd'.out
      clear hs
      generalize hn : numF X i * 10 = n10 at *
      generalize hc48 : C i - 48 = c48 at *
      clear hn hc48
      go_wp2_with fail
      go_roundg (gk - 1)
      case measure => omega
      case rel => exact ⟨i + 1, by omega, .inl (by omega), by go_num, rfl, rfl⟩
    · have hcond : ¬ (i : Int) < dp ∨ ((i : Int) < dp ∧ ¬ (i : Int) < (nd : Int)) := by omega
      have hdd := hd'.out
      have hex : Hid (i ≤ d ∧ (i < d → nd ≤ i)) := ⟨by omega, fun _ => by omega⟩
      have key : ∀ P : Prop, P → P := fun _ h => h
      clear key
      rcases hcond with c1 | ⟨c1, c2⟩
      · skip
        go_wp2_with fail
        go_loopg [3, 4] (d - i) (fun g v3 v4 wr2 => ∃ j : Nat, j + g = d ∧ v3 = .int .i64 (j : Int) ∧ v4 = .int .u64 (numF X j : Int) ∧ (j < d → nd ≤ j) ∧ wr2 = wr)
        case atStart => exact ⟨i, by have := hex.out.1; omega, rfl, rfl, hex.out.2, rfl⟩
        case round =>
          obtain ⟨j, hj, rfl, rfl, hjn, rfl⟩ := hrel
          by_cases c3 : (j : Int) < dp
          · have hjd : j < d := by omega
            have hi16 := hlt.out (j + 1) (by omega)
            have hs := numF_succ X j
            rw [hE2.out j (hjn hjd), Nat.sub_self, Nat.add_zero] at hs
            have w2 : IntKind.u64.wrap ((numF X j : Int) * 10) = ((numF X (j + 1) : Nat) : Int) := by rw [IntKind.wrap_u64, hs]; omega
            have hjn2 := Lib.hid (show j + 1 < d → nd ≤ j + 1 from fun _ => by have := hjn hjd; omega)
            clear hs hjn
            go_wp2_with fail
            go_roundg (gk - 1)
            case measure => omega
            case rel => exact ⟨j + 1, by omega, by go_num, rfl, hjn2.out, rfl⟩
          · have hjd : j = d := by omega
            subst hjd
            have hb1 := hb.out
            have w4 : IntKind.u64.wrap ((numF X j : Int) + 1) = ((numF X j + 1 : Nat) : Int) := by rw [IntKind.wrap_u64]; omega
            clear hjn
            cases up with
            | true =>
              have hrr := Lib.hid hr.out
              rw [if_pos rfl] at hrr
              clear hr
              generalize hn1 : numF X j + 1 = n1 at *
              go_wp2_with fail
              refine hU.out.mono ?_
              rintro e w1 ⟨rfl, rfl⟩
              go_wp2_with fail
              go_ret
              exact ⟨by rw [hrr.out]; rfl, rfl⟩
            | false =>
              have hrr := Lib.hid hr.out
              rw [if_neg (by decide), Nat.add_zero] at hrr
              clear hr
              go_wp2_with fail
              refine hU.out.mono ?_
              rintro e w1 ⟨rfl, rfl⟩
              go_wp2_with fail
              go_ret
              exact ⟨by rw [hrr.out]; rfl, rfl⟩
      · skip
        go_wp2_with fail
        go_loopg [3, 4] (d - i) (fun g v3 v4 wr2 => ∃ j : Nat, j + g = d ∧ v3 = .int .i64 (j : Int) ∧ v4 = .int .u64 (numF X j : Int) ∧ (j < d → nd ≤ j) ∧ wr2 = wr)
        case atStart => exact ⟨i, by have := hex.out.1; omega, rfl, rfl, hex.out.2, rfl⟩
        case round =>
          obtain ⟨j, hj, rfl, rfl, hjn, rfl⟩ := hrel
          by_cases c3 : (j : Int) < dp
          · have hjd : j < d := by omega
            have hi16 := hlt.out (j + 1) (by omega)
            have hs := numF_succ X j
            rw [hE2.out j (hjn hjd), Nat.sub_self, Nat.add_zero] at hs
            have w2 : IntKind.u64.wrap ((numF X j : Int) * 10) = ((numF X (j + 1) : Nat) : Int) := by rw [IntKind.wrap_u64, hs]; omega
            have hjn2 := Lib.hid (show j + 1 < d → nd ≤ j + 1 from fun _ => by have := hjn hjd; omega)
            clear hs hjn
            go_wp2_with fail
            go_roundg (gk - 1)
            case measure => omega
            case rel => exact ⟨j + 1, by omega, by go_num, rfl, hjn2.out, rfl⟩
          · have hjd : j = d := by omega
            subst hjd
            have hb1 := hb.out
            have w4 : IntKind.u64.wrap ((numF X j : Int) + 1) = ((numF X j + 1 : Nat) : Int) := by rw [IntKind.wrap_u64]; omega
            clear hjn
            cases up with
            | true =>
              have hrr := Lib.hid hr.out
              rw [if_pos rfl] at hrr
              clear hr
              generalize hn1 : numF X j + 1 = n1 at *
              go_wp2_with fail
              refine hU.out.mono ?_
              rintro e w1 ⟨rfl, rfl⟩
              go_wp2_with fail
              go_ret
              exact ⟨by rw [hrr.out]; rfl, rfl⟩
            | false =>
              have hrr := Lib.hid hr.out
              rw [if_neg (by decide), Nat.add_zero] at hrr
              clear hr
              go_wp2_with fail
              refine hU.out.mono ?_
              rintro e w1 ⟨rfl, rfl⟩
              go_wp2_with fail
              go_ret
              exact ⟨by rw [hrr.out]; rfl, rfl⟩
end Go.Proofs.YtbakbikilbaafaaGreatDoor
namespace Go.Proofs.YtbakbikilbaafaaGreatDoor
open Go.RowKit F64 Ieee
set_option linter.unusedVariables false
set_option maxHeartbeats 4000000
set_option maxRecDepth 100000

/-- as Q; by a goto to label 1, 0: J1, J0 -/
def exitTwo (J1 J0 : Act → World → Prop) (Q : Exit → Act → World → Prop) : Exit → Act → World → Prop
  | .goto l, a, w => (l = 1 ∧ J1 a w) ∨ (l = 0 ∧ J0 a w)
  | e, a, w => Q e a w
/-- a scope with two labels that are jumped to ahead alone -/
theorem wp_scope_two {P : Program} {a : Act} {w : World} {Q : Exit → Act → World → Prop} {c rest1 rest0 : Code} (h1 : findLabel c 1 = some rest1) (h0 : findLabel c 0 = some rest0)
    (h : c.wp P (exitTwo (fun a w => rest1.wp P (exitTwo (fun _ _ => False) (fun a w => rest0.wp P (Exit.noGoto Q) a w) Q) a w) (fun a w => rest0.wp P (Exit.noGoto Q) a w) Q) a w) : (Code.scope c).wp P Q a w := by
  intro b k cs
  have hg1 : gotoIn 1 (.inScope c :: k) = some (.code rest1 :: .inScope c :: k) := by simp [gotoIn, h1]
  have hg0 : gotoIn 0 (.inScope c :: k) = some (.code rest0 :: .inScope c :: k) := by simp [gotoIn, h0]
  have key0 : ∀ a w, rest0.wp P (Exit.noGoto Q) a w → ∃ e a' w', Q e a' w' ∧ Arrives P (lone (b.at a (.code rest0 :: .inScope c :: k)) cs w) b k cs e a' w' := by
    intro a w hw
    obtain ⟨e, a₁, w₁, hq, harr⟩ := hw b (.inScope c :: k) cs
    cases e with
    | normal => exact ⟨.normal, a₁, w₁, hq, Steps.trans harr (.one step_inScope)⟩
    | exit id => exact ⟨.exit id, a₁, w₁, hq, fun k' hk => harr k' (by simp [exitTo, hk])⟩
    | goto l' => exact hq.elim
    | ret => exact ⟨_, a₁, w₁, hq, harr⟩
    | panic ch => exact ⟨_, a₁, w₁, hq, harr⟩
    | outgrown => exact ⟨_, a₁, w₁, hq, harr⟩
  have key1 : ∀ a w, rest1.wp P (exitTwo (fun _ _ => False) (fun a w => rest0.wp P (Exit.noGoto Q) a w) Q) a w → ∃ e a' w', Q e a' w' ∧ Arrives P (lone (b.at a (.code rest1 :: .inScope c :: k)) cs w) b k cs e a' w' := by
    intro a w hw
    obtain ⟨e, a₁, w₁, hq, harr⟩ := hw b (.inScope c :: k) cs
    cases e with
    | normal => exact ⟨.normal, a₁, w₁, hq, Steps.trans harr (.one step_inScope)⟩
    | exit id => exact ⟨.exit id, a₁, w₁, hq, fun k' hk => harr k' (by simp [exitTo, hk])⟩
    | goto l' =>
      rcases hq with ⟨_, hq⟩ | ⟨rfl, hq⟩
      · exact hq.elim
      · obtain ⟨e₂, a₂, w₂, hq₂, harr₂⟩ := key0 a₁ w₁ hq
        exact ⟨e₂, a₂, w₂, hq₂, .of_steps (harr _ hg0) harr₂⟩
    | ret => exact ⟨_, a₁, w₁, hq, harr⟩
    | panic ch => exact ⟨_, a₁, w₁, hq, harr⟩
    | outgrown => exact ⟨_, a₁, w₁, hq, harr⟩
  obtain ⟨e, a₁, w₁, hq, harr⟩ := h b (.inScope c :: k) cs
  cases e with
  | normal => exact ⟨.normal, a₁, w₁, hq, .head step_scope (Steps.trans harr (.one step_inScope))⟩
  | exit id => exact ⟨.exit id, a₁, w₁, hq, fun k' hk => .head step_scope (harr k' (by simp [exitTo, hk]))⟩
  | goto l' =>
    rcases hq with ⟨rfl, hq⟩ | ⟨rfl, hq⟩
    · obtain ⟨e₂, a₂, w₂, hq₂, harr₂⟩ := key1 a₁ w₁ hq
      exact ⟨e₂, a₂, w₂, hq₂, .of_steps (.head step_scope (harr _ hg1)) harr₂⟩
    · obtain ⟨e₂, a₂, w₂, hq₂, harr₂⟩ := key0 a₁ w₁ hq
      exact ⟨e₂, a₂, w₂, hq₂, .of_steps (.head step_scope (harr _ hg0)) harr₂⟩
  | ret => exact ⟨_, a₁, w₁, hq, .of_steps (.one step_scope) harr⟩
  | panic ch => exact ⟨_, a₁, w₁, hq, .of_steps (.one step_scope) harr⟩
  | outgrown => exact ⟨_, a₁, w₁, hq, .of_steps (.one step_scope) harr⟩
theorem and_52m : ∀ m : Nat, m < 18446744073709551616 → bits BinOp.and IntKind.u64 (m : Int) 4503599627370495 = ((m % 4503599627370496 : Nat) : Int) := by
  intro m hm
  have h := bits_and_u64_nat m 4503599627370495 hm (by decide)
  rw [show ((4503599627370495 : Nat) : Int) = 4503599627370495 from rfl] at h
  rw [h]
  congr 1
  exact Nat.and_two_pow_sub_one_eq_mod m 52
theorem and_11 (x : Nat) (hx : x < 2048) : bits BinOp.and IntKind.i64 (x : Int) 2047 = (x : Int) := by
  have h := and_i64G x 2047 (by omega) (by decide)
  rw [show ((2047 : Nat) : Int) = 2047 from rfl] at h
  rw [h]
  congr 1
  rw [show x &&& 2047 = x % 2048 from Nat.and_two_pow_sub_one_eq_mod x 11, Nat.mod_eq_of_lt hx]
theorem or_52 (m x : Nat) (hm : m < 4503599627370496) (hx : x < 2048) : bits BinOp.or IntKind.u64 (m : Int) ((x * 4503599627370496 : Nat) : Int) = ((x * 4503599627370496 + m : Nat) : Int) := by
  have h := bits_or_u64_nat m (x * 4503599627370496) (by omega) (by omega)
  rw [h]
  congr 1
  rw [Nat.or_comm]
  have := Nat.two_pow_add_eq_or_of_lt (i := 52) (b := m) (by omega) x
  rw [Nat.mul_comm x 4503599627370496]
  exact this.symm
theorem fin_bits (m x : Nat) (hm : m < 18446744073709551616) (hx : x < 2048) :
    bits BinOp.or IntKind.u64 (bits BinOp.and IntKind.u64 (m : Int) 4503599627370495) (IntKind.u64.wrap (IntKind.u64.wrap (bits BinOp.and IntKind.i64 (x : Int) 2047) * 4503599627370496)) = ((x * 4503599627370496 + m % 4503599627370496 : Nat) : Int) := by
  have e1 : IntKind.u64.wrap (x : Int) = (x : Int) := by rw [IntKind.wrap_u64]; omega
  have e2 : IntKind.u64.wrap ((x : Int) * 4503599627370496) = ((x * 4503599627370496 : Nat) : Int) := by rw [IntKind.wrap_u64]; omega
  rw [and_52m m hm, and_11 x hx, e1, e2]
  exact or_52 _ x (Nat.mod_lt _ (by decide)) hx
theorem near_infA {a b : Nat} (hb : 0 < b) (h : b * V 9218868437227405312 ≤ a) : Near 9218868437227405312 a b := by
  refine ⟨Nat.le_refl _, .inl rfl, .inr (.inl ?_)⟩
  have h1 : V (9218868437227405312 - 1) < V 9218868437227405312 := V_lt (by decide)
  have h2 := Nat.mul_lt_mul_of_pos_left h1 hb
  rw [Nat.mul_add]
  omega
theorem near_zero {a b : Nat} (h : 2 * a < b) : Near 0 a b := by
  have hv1 : V (0 + 1) = 1 := by decide +kernel
  exact ⟨by decide, .inr (.inl (by rw [V_zero, hv1, Nat.zero_add, Nat.mul_one]; exact h)), .inl rfl⟩
def E310 : Nat := 310
def E969 : Nat := 969
theorem fb_big {a bb t : Nat} (h : t * bb ≤ a) (hb : 0 < bb) (ht : SC * 10 ^ E310 ≤ t) : Near 9218868437227405312 (a * U) (bb * SC) := by
  refine near_infA (Nat.mul_pos hb SC_pos) ?_
  have hV : V 9218868437227405312 ≤ 10 ^ E310 * U := by decide +kernel
  have h1 := Nat.mul_le_mul_left (bb * SC) hV
  have h2 := Nat.mul_le_mul_right bb ht
  have h3 := Nat.mul_le_mul_right U (Nat.le_trans h2 h)
  refine Nat.le_trans h1 ?_
  calc bb * SC * (10 ^ E310 * U) = SC * 10 ^ E310 * bb * U := by ac_rfl
    _ ≤ a * U := h3
theorem fb_small {a bb t : Nat} {tr : Bool} (hA : App a bb 0 0 t tr 1100) (ht : t < 10 ^ E969) : Near 0 (a * U) (bb * SC) := by
  refine near_zero ?_
  rcases Nat.lt_or_ge (2 * (a * U)) (bb * SC) with g | g
  · exact g
  · exfalso
    have hk := hA.kp 1 PL 0 (by decide) (by decide)
    have hU : U = 2 ^ PL := rfl
    rw [Nat.one_mul, Nat.zero_add, Nat.zero_add, ← hU] at hk
    have h1 := hk (by
      rw [Nat.pow_zero, Nat.mul_one, Nat.mul_assoc 2 a U, Nat.mul_comm SC bb]; exact g)
    rw [Nat.pow_zero, Nat.mul_one, Nat.mul_assoc] at h1
    have h2 : 2 * (10 ^ E969 * U) < SC := by decide +kernel
    have h3 := Nat.mul_le_mul_right U (Nat.le_of_lt ht)
    omega
theorem fb_near {a bb p q t B E : Nat} {tr : Bool} (hbb : 0 < bb) (hA : App a bb p q t tr B) (ht : t < 9007199254740992 * SC) (hE : p + E = 1074 + q) (hlo : E = 0 ∨ SC * (bb * 2 ^ q) * 4503599627370496 ≤ a * 2 ^ p) :
    Near (min (E * 4503599627370496 + rndT t tr) 9218868437227405312) (a * U) (bb * SC) ∧ rndT t tr ≤ 9007199254740992 ∧ (0 < E → 4503599627370496 ≤ rndT t tr) := by
  have hU : U = 2 ^ PL := rfl
  have hPL : PL = 1074 := rfl
  have hS := SC_pos
  have hq : 0 < 2 ^ q := Nat.two_pow_pos q
  have hpw : (2 : Nat) ^ p * 2 ^ E = U * 2 ^ q := by rw [hU, ← Nat.pow_add, ← Nat.pow_add, hE, hPL]
  have hH := App.half hbb hA ht
  have hH2 : Half (rndT t tr) (a * U) (bb * SC * 2 ^ E) := by
    refine half_cross (Nat.mul_pos (Nat.mul_pos hbb hq) hS) (Nat.mul_pos (Nat.mul_pos hbb hS) (Nat.two_pow_pos E)) ?_ hH
    calc a * 2 ^ p * (bb * SC * 2 ^ E) = a * bb * SC * (2 ^ p * 2 ^ E) := by ac_rfl
      _ = a * bb * SC * (U * 2 ^ q) := by rw [hpw]
      _ = a * U * (bb * 2 ^ q * SC) := by ac_rfl
  have hK : rndT t tr ≤ 9007199254740992 := by
    have : t / SC < 9007199254740992 := by rw [Nat.div_lt_iff_lt_mul hS]; exact ht
    unfold rndT
    split <;> omega
  refine ⟨near_round (Nat.mul_pos hbb hS) hH2 ?_ hK, hK, fun hE0 => ?_⟩
  · rcases hlo with h | h
    · exact .inl h
    · right
      refine Nat.le_of_mul_le_mul_right (c := 2 ^ q) ?_ hq
      calc bb * SC * 2 ^ E * 4503599627370496 * 2 ^ q = SC * (bb * 2 ^ q) * 4503599627370496 * 2 ^ E := by ac_rfl
        _ ≤ a * 2 ^ p * 2 ^ E := Nat.mul_le_mul_right _ h
        _ = a * (U * 2 ^ q) := by rw [Nat.mul_assoc, hpw]
        _ = a * U * 2 ^ q := by ac_rfl
  · rcases hlo with h | h
    · omega
    · have hk := hA.kp 9007199254740992 0 0 (by decide) (Nat.zero_le _)
      simp only [Nat.add_zero, Nat.pow_zero, Nat.mul_one] at hk
      have h1 := hk (by
        calc 9007199254740992 * SC * (bb * 2 ^ q) = 2 * (SC * (bb * 2 ^ q) * 4503599627370496) := by rw [show (9007199254740992 : Nat) = 2 * 4503599627370496 from rfl]; ac_rfl
          _ ≤ 2 * (a * 2 ^ p) := Nat.mul_le_mul_left 2 h
          _ = 2 * a * 2 ^ p := by ac_rfl)
      have h2 : 4503599627370496 ≤ t / SC := by
        rw [Nat.le_div_iff_mul_le hS]; omega
      unfold rndT
      omega
theorem fb_over {a bb p q E : Nat} (hbb : 0 < bb) (hE : p + E = 1021 + q) (hE2 : 2046 ≤ E) (hlo : SC * (bb * 2 ^ q) ≤ 2 * (a * 2 ^ p)) : Near 9218868437227405312 (a * U) (bb * SC) := by
  refine near_infA (Nat.mul_pos hbb SC_pos) ?_
  have hU : U = 2 ^ PL := rfl
  have hPL : PL = 1074 := rfl
  have hq : 0 < 2 ^ q := Nat.two_pow_pos q
  rw [V_inf]
  have hEI : 2 ^ EI ≤ 2 ^ E := Nat.pow_le_pow_right (by decide) (by rw [EI_eq]; exact hE2)
  refine Nat.le_of_mul_le_mul_right (c := 2 ^ q) ?_ hq
  have h52 : (4503599627370496 : Nat) = 2 ^ 52 := by decide
  have hpw : 2 * 2 ^ p * (2 ^ 52 * 2 ^ E) = U * 2 ^ q := by
    rw [hU, show 2 * 2 ^ p = 2 ^ (p + 1) by rw [Nat.pow_succ, Nat.mul_comm], ← Nat.pow_add, ← Nat.pow_add, ← Nat.pow_add]
    congr 1; omega
  calc bb * SC * (4503599627370496 * 2 ^ EI) * 2 ^ q = SC * (bb * 2 ^ q) * (4503599627370496 * 2 ^ EI) := by ac_rfl
    _ ≤ SC * (bb * 2 ^ q) * (4503599627370496 * 2 ^ E) := Nat.mul_le_mul_left _ (Nat.mul_le_mul_left _ hEI)
    _ ≤ 2 * (a * 2 ^ p) * (4503599627370496 * 2 ^ E) := Nat.mul_le_mul_right _ hlo
    _ = a * (2 * 2 ^ p * (2 ^ 52 * 2 ^ E)) := by rw [h52]; ac_rfl
    _ = a * U * 2 ^ q := by rw [hpw]; ac_rfl
end Go.Proofs.YtbakbikilbaafaaGreatDoor
