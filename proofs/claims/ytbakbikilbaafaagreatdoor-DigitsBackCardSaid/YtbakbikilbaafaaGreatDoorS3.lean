/-
  Contracts: The contract of the library's rightShift. Plain: what leftShift's digits are.
-/
import Derived.Test.YtbakbikilbaafaaGreatDoorS2
import Derived.Deep.DeepCutAuto
import Derived.Deep.CutBlock
import GoSem.PinnedTables
namespace Go.Proofs.YtbakbikilbaafaaGreatDoor
open Go.RowKit F64 Ieee
set_option linter.unusedVariables false
set_option maxHeartbeats 4000000
set_option maxRecDepth 100000

theorem and_u64M {k M : Nat} (hM : 2 ^ k = M) (hMb : M ≤ 1152921504606846976) (n : Nat) (hn : n < 18446744073709551616) : bits BinOp.and IntKind.u64 (n : Int) ((M - 1 : Nat) : Int) = ((n % M : Nat) : Int) := by
  have h := bits_and_u64_nat n (M - 1) hn (by omega)
  rw [h, ← hM, Nat.and_two_pow_sub_one_eq_mod]
theorem ext_b {C : Nat → Nat} {nd r M : Nat} (hd : 49 ≤ C 0) (h1 : 1 ≤ nd) (hM : M ≤ 1152921504606846976) (h : numF (ext C nd) r < 10 * M) : r ≤ 20 := by
  rcases Nat.lt_or_ge 20 r with g | g
  · exfalso
    obtain ⟨m, rfl⟩ : ∃ m, r = m + 1 := ⟨r - 1, by omega⟩
    have h2 := numF_ge (C := ext C nd) (by rw [ext_lt C (by omega)]; exact hd) m
    have h3 := Nat.pow_le_pow_right (n := 10) (by decide) (show 20 ≤ m by omega)
    have : (10 : Nat) ^ 20 = 100000000000000000000 := by decide
    omega
  · exact g
theorem dv_step {k M j n : Nat} (hM : 2 ^ k = M) (hj : j ≤ k) (h : 2 ^ j ∣ n) : 2 ^ (j + 1) ∣ n % M * 10 ∧ (j = k → n % M * 10 = 0) := by
  subst hM
  have h1 : 2 ^ j ∣ 2 ^ k := Nat.pow_dvd_pow 2 hj
  have h2 : 2 ^ j ∣ n % 2 ^ k := (Nat.dvd_mod_iff h1).2 h
  refine ⟨?_, fun e => ?_⟩
  · rw [Nat.pow_succ]
    exact Nat.mul_dvd_mul h2 ⟨5, rfl⟩
  · subst e
    rw [Nat.mod_eq_zero_of_dvd h, Nat.zero_mul]
theorem c_right (b : Nat) (C : Nat → Nat) (nd : Nat) (dp : Int) (tr : Bool) (k : Nat) (hk : 1 ≤ k ∧ k ≤ 60) (hDD : DecD C nd) (hd1 : -300 ≤ dp) (hd2 : dp ≤ 700) (w : World) (h : Dec b C nd dp tr w) :
    Calls Tryz.prog 196 #[.pointer (some ⟨b, 0, none⟩), .int .u64 (k : Int)] w fun r w' => r = .returned (.tuple #[]) ∧ ∃ C' n' dp' tr', DecD C' n' ∧ C' (n' - 1) ≠ 48 ∧ Dec b C' n' dp' tr' w' ∧ Below b w w' ∧ dp - 100 ≤ dp' ∧ dp' ≤ dp ∧
      tOf C' n' dp' = tOf C nd dp / (2 ^ k * 10 ^ (dp' + 500).toNat) * 10 ^ (dp' + 500).toNat ∧ tr' = (tr || decide (tOf C' n' dp' * 2 ^ k ≠ tOf C nd dp)) := by
  obtain ⟨d1, d2, d3, d4⟩ := hDD
  obtain ⟨M, hM⟩ : ∃ M, 2 ^ k = M := ⟨_, rfl⟩
  have hM1 : 0 < M := by rw [← hM]; exact Nat.two_pow_pos k
  have hMb : M ≤ 1152921504606846976 := by
    rw [← hM]
    exact Nat.le_trans (Nat.pow_le_pow_right (by decide) hk.2) (by decide)
  have hsh := Lib.hid (fun n q (hq : n / M = q) => show (n : Int) / 2 ^ k = (q : Int) by rw [← hq, ← hM]; exact pow_cast n k)
  have hand := Lib.hid (fun n (hn : n < 18446744073709551616) => and_u64M hM hMb n hn)
  have hb20 := Lib.hid (fun r (hr : numF (ext C nd) r < 10 * M) => ext_b (nd := nd) d4 d1 hMb hr)
  have hge := Lib.hid (fun m => numF_ge (C := ext C nd) (by rw [ext_lt C (by omega)]; exact d4) m)
  have hdig := Lib.hid (ext_dig d3)
  have hfin := Lib.hid (fun C' r0 v w O tr' (hh : RsI C nd M r0 tr v 0 C' w tr' O) => by rw [← hM] at hh; exact RsI.fin (dp := dp) hh)
  have hm1 : IntKind.u64.wrap ((2 : Int) ^ k) = (M : Int) := by
    have e : (2 : Int) ^ k = ((2 ^ k : Nat) : Int) := by rw [Int.natCast_pow]; rfl
    rw [e, hM, IntKind.wrap_u64]; omega
  have hm2 : IntKind.u64.wrap ((M : Int) - 1) = ((M - 1 : Nat) : Int) := by rw [IntKind.wrap_u64]; omega
  have hExt := Lib.hid (fun i (hi : i < nd) => ext_lt C (nd := nd) hi)
  have hExt2 := Lib.hid (fun i (hi : nd ≤ i) => ext_ge C (nd := nd) hi)
  have hst := Lib.hid (fun C' r0 (a1 : M ≤ numF (ext C nd) r0) (a2 : numF (ext C nd) r0 < 10 * M) => RsI.start (C0 := C) (nd := nd) (tr := tr) C' rfl a1 a2)
  have hsA := Lib.hid (fun r0 C' v n w O tr' (hh : RsI C nd M r0 tr v n C' w tr' O) hw => RsI.stepA (c := ext C nd (r0 + v)) hh hM1 hw rfl (ext_dig d3 _))
  have hsB := Lib.hid (fun r0 C' v n w O tr' (hh : RsI C nd M r0 tr v n C' w tr' O) hw => RsI.stepB (c := ext C nd (r0 + v)) hh hM1 hw rfl (ext_dig d3 _))
  have hdv := Lib.hid (fun j n (hj : j ≤ k) (hh : 2 ^ j ∣ n) => dv_step hM hj hh)
  have cN := h.n
  have h := Lib.hid h
  generalize ext C nd = X at *
  replace hM := Lib.hid hM
  have hk := Lib.hid hk
  have d3 := Lib.hid d3
  have d4 := Lib.hid d4
  have hd1 := Lib.hid hd1
  have hd2 := Lib.hid hd2
  go_enter Tryz.func196, Tryz.ntmps196
  go_upto_block 0 with fail
  go_cut [4, 6] (fun v4 v6 wx => ∃ r0 : Nat, v4 = .int .i64 (r0 : Int) ∧ 1 ≤ r0 ∧ v6 = .int .u64 (numF X r0 : Int) ∧ M ≤ numF X r0 ∧ numF X r0 < 10 * M ∧ wx = w)
  case first =>
    go_wp2_with fail
    go_loopg [4, 6] nd (fun g v4 v6 wr => ∃ r : Nat, r + g = nd ∧ v4 = .int .i64 (r : Int) ∧ v6 = .int .u64 (numF X r : Int) ∧ numF X r < 10 * M ∧ wr = w)
    case atStart => exact ⟨0, by omega, rfl, rfl, by rw [numF_zero]; omega, rfl⟩
    case round =>
      obtain ⟨r, hr, rfl, rfl, hlt, rfl⟩ := hrel
      have hq := hsh.out (numF X r) _ rfl
      have hdm := Nat.div_add_mod (numF X r) M
      have hsuc := Lib.hid (numF_succ X r)
      have hX0 := Lib.hid (fun (e : r = nd) => show 0 < numF X r by
        obtain ⟨m, hm⟩ : ∃ m, r = m + 1 := ⟨r - 1, by omega⟩
        have := hge.out m
        rw [← hm] at this
        have hp : 0 < 10 ^ m := Nat.pow_pos (by decide)
        omega)
      have hXs := Lib.hid (fun (e : ¬ numF X r < M) => show 1 ≤ r by
        rcases Nat.eq_zero_or_pos r with z | z
        · subst z; rw [numF_zero] at e; omega
        · exact z)
      have hmore := Lib.hid (fun (e : r = nd) m => show numF X (r + (m + 1)) = numF X (r + m) * 10 by
        rw [← Nat.add_assoc, numF_succ, hExt2.out _ (by omega), Nat.sub_self, Nat.add_zero])
      have hnn : Hid (∃ n, numF X r = n) := ⟨_, rfl⟩
      by_cases hnM : numF X r < M
      · have hq0 : numF X r / M = 0 := Nat.div_eq_of_lt hnM
        rw [hq0] at hq
        by_cases hrn : r < nd
        · have hrI : (r : Int) < (nd : Int) := by omega
          have hrI2 : ¬ (nd : Int) ≤ (r : Int) := by omega
          have cC := h.out.c r (by omega)
          have hc := d3.out r hrn
          have hsu := hsuc.out
          rw [hExt.out r hrn] at hsu
          have hX2 : numF X (r + 1) < 10 * M := by rw [hsu]; omega
          have w1 : IntKind.u64.wrap ((numF X r : Int) * 10) = (numF X r : Int) * 10 := by rw [IntKind.wrap_u64]; omega
          have w2 : IntKind.u64.wrap ((numF X r : Int) * 10 + (C r : Int)) = (numF X r : Int) * 10 + (C r : Int) := by rw [IntKind.wrap_u64]; omega
          have w3 : IntKind.u64.wrap ((numF X r : Int) * 10 + (C r : Int) - 48) = ((numF X (r + 1) : Nat) : Int) := by rw [IntKind.wrap_u64, hsu]; omega
          have w4 : IntKind.u64.wrap (C r : Int) = (C r : Int) := by rw [IntKind.wrap_u64]; omega
          clear hsu hdm hq0
          generalize numF X r = n at *
          go_wp2_with fail
          go_roundg (gk - 1)
          case measure => omega
          case rel => exact ⟨r + 1, by omega, by go_num, rfl, hX2, rfl⟩
        · have hrI2 : (nd : Int) ≤ (r : Int) := by omega
          have hn0 := hX0.out (by omega)
          have q0 : ((numF X r : Int) == 0) = false := by simp; omega
          have hmr := Lib.hid (hmore.out (by omega))
          clear hdm hq0
          generalize hnx : numF X r = n at *
          have hr0 : Hid (numF X (r + 0) = n) := hnx
          replace hnx := Lib.hid hnx
          go_wp2_with fail
          go_loopg [4, 6] M (fun g v4 v6 wr2 => ∃ m : Nat, v4 = .int .i64 ((r + m : Nat) : Int) ∧ v6 = .int .u64 (numF X (r + m) : Int) ∧ numF X (r + m) < 10 * M ∧ 0 < numF X (r + m) ∧ (numF X (r + m) < M → M ≤ numF X (r + m) + g) ∧ wr2 = wr)
          case atStart => exact ⟨0, rfl, by rw [hr0.out], by rw [hr0.out]; omega, by rw [hr0.out]; omega, fun _ => by omega, rfl⟩
          case round =>
            obtain ⟨m, rfl, rfl, m1, m2, m3, rfl⟩ := hrel
            have hq2 := hsh.out (numF X (r + m)) _ rfl
            have hmm := hmr.out m
            have hb2 := hb20.out _ m1
            by_cases hm4 : numF X (r + m) < M
            · have hq20 : numF X (r + m) / M = 0 := Nat.div_eq_of_lt hm4
              rw [hq20] at hq2
              have hX2 : numF X (r + (m + 1)) < 10 * M := by rw [hmm]; omega
              have w1 : IntKind.u64.wrap ((numF X (r + m) : Int) * 10) = ((numF X (r + (m + 1)) : Nat) : Int) := by rw [IntKind.wrap_u64, hmm]; omega
              have m5 := m3 hm4
              have hX3 : 0 < numF X (r + (m + 1)) := by rw [hmm]; omega
              have hX4 : Hid (numF X (r + (m + 1)) < M → M ≤ numF X (r + (m + 1)) + (gk - 1)) := fun _ => by rw [hmm]; omega
              clear m3 hq20 hmm
              go_wp2_with fail
              go_roundg (gk - 1)
              case measure => omega
              case rel => exact ⟨m + 1, by go_num, rfl, hX2, hX3, hX4.out, rfl⟩
            · have hX1 := hXs.out
              have hq2b : 1 ≤ numF X (r + m) / M := (Nat.le_div_iff_mul_le hM1).2 (by omega)
              have q1 : ((((numF X (r + m) / M : Nat) : Int)) == 0) = false := by simp; omega
              generalize numF X (r + m) / M = q at *
              go_wp2_with fail
              go_meet
              exact ⟨r + m, rfl, by omega, rfl, by omega, m1, rfl⟩
      · have hX1 := hXs.out hnM
        have hq2b : 1 ≤ numF X r / M := (Nat.le_div_iff_mul_le hM1).2 (by omega)
        have q1 : ((((numF X r / M : Nat) : Int)) == 0) = false := by simp; omega
        generalize numF X r / M = q at *
        go_wp2_with fail
        go_meet
        exact ⟨r, rfl, hX1, rfl, by omega, hlt, rfl⟩
  case rest =>
    obtain ⟨r0, rfl, hr1, rfl, hM2, hM3, rfl⟩ := hcut
    have hD0 := h.out
    have cP := hD0.p
    have fP := hD0.f 801
    have hr20 := hb20.out r0 hM3
    have hRs := Lib.hid (hst.out C r0 hM2 hM3)
    have wdp : dp - ((r0 : Int) - 1) = (dp - ((r0 : Int) - 1)) := rfl
    have b1 := hd1.out
    have b2 := hd2.out
    have hD1 := Lib.hid (hD0.setP (dp - ((r0 : Int) - 1)))
    have hB1 := Lib.hid ((Below.refl b wc).setCell (p := ⟨b, 801, none⟩) (Nat.le_refl _) (.int .i64 (dp - ((r0 : Int) - 1))))
    clear wdp
    clear hD0 cN h
    have hdpx : Hid (dp - ((r0 : Int) - 1) = dp - ((r0 : Int) - 1)) := rfl
    generalize hdp1 : dp - ((r0 : Int) - 1) = dp1 at *
    replace hdp1 := Lib.hid hdp1
    replace hRs := hRs.out
    have hlt0 := Lib.hid hM3
    generalize hn0 : numF X r0 = n0 at *
    replace hn0 := Lib.hid hn0
    have hM2 := Lib.hid hM2
    go_wp2_with fail
    clear cP fP
    go_loopg [4, 5, 6] (nd - r0) (fun g v4 v5 v6 wr => ∃ (v n O : Nat) (C' : Nat → Nat), (r0 + v) + g = max r0 nd ∧ v4 = .int .i64 ((r0 + v : Nat) : Int) ∧ v5 = .int .i64 (v : Int) ∧ v6 = .int .u64 (n : Int) ∧ RsI C nd M r0 tr v n C' v tr O ∧ (∀ j, r0 + v ≤ j → j < nd → C' j = C j) ∧ Dec b C' nd dp1 tr wr ∧ Below b wc wr)
    case atStart => exact ⟨0, n0, 0, C, by omega, rfl, rfl, rfl, hRs, fun j _ _ => rfl, by rw [hdp1.out]; exact hD1.out, by rw [hdp1.out]; exact hB1.out⟩
    case round =>
      obtain ⟨v, n, O, C', hg, rfl, rfl, rfl, hI, hsame, hD, hB⟩ := hrel
      have hnlt := hI.lt
      have hq := hsh.out n _ rfl
      have hcN := hD.n
      by_cases hrn : r0 + v < nd
      · have hv8 : v < 800 := by omega
        obtain ⟨hI2, hq10, hmM⟩ := hsA.out r0 C' v n v O tr hI hv8
        have hX1 := hExt.out (r0 + v) hrn
        rw [hX1] at hI2
        have hcC := hD.c (r0 + v) (by omega)
        rw [hsame (r0 + v) (by omega) hrn] at hcC
        have hcd := d3.out (r0 + v) hrn
        have hcV := hD.c v (by omega)
        have hfV := hD.f v
        have han := hand.out n (by omega)
        have hD2 := hD.setC (v := n / M + 48) (i := v) hv8 (by generalize n / M = q at *; omega)
        have hB2 := hB.setCell (p := ⟨b, v, none⟩) (Nat.le_refl _) (.int .u8 ((n / M + 48 : Nat) : Int))
        have hcC2 : (wr.setCell ⟨b, v, none⟩ (.int .u8 ((n / M + 48 : Nat) : Int))).cell? ⟨b, r0 + v, none⟩ = some (.int .u8 (C (r0 + v) : Int)) := (set_otherG (by omega)).trans hcC
        have hsame2 : Hid (∀ j, r0 + (v + 1) ≤ j → j < nd → upd C' v (n / M + 48) j = C j) := fun j a c => by rw [upd_other C' _ (by omega)]; exact hsame j (by omega) c
        clear hX1 hsame hI
        generalize n / M = q at *
        generalize n % M = z at *
        have w0 : IntKind.u64.wrap (C (r0 + v) : Int) = (C (r0 + v) : Int) := by rw [IntKind.wrap_u64]; omega
        have w1 : IntKind.u64.wrap ((z : Int) * 10) = (z : Int) * 10 := by rw [IntKind.wrap_u64]; omega
        have w2 : IntKind.u64.wrap ((z : Int) * 10 + (C (r0 + v) : Int)) = (z : Int) * 10 + (C (r0 + v) : Int) := by rw [IntKind.wrap_u64]; omega
        have w3 : IntKind.u64.wrap ((z : Int) * 10 + (C (r0 + v) : Int) - 48) = ((z * 10 + (C (r0 + v) - 48) : Nat) : Int) := by rw [IntKind.wrap_u64]; omega
        have w4 : IntKind.u64.wrap ((q : Int) + 48) = ((q + 48 : Nat) : Int) := by rw [IntKind.wrap_u64]; omega
        have w5 : IntKind.u8.wrap ((q + 48 : Nat) : Int) = ((q + 48 : Nat) : Int) := by rw [IntKind.wrap_u8]; omega
        have hvI : (v : Int) < 800 := by omega
        rw [show ((q + 48 : Nat) : Int) = (q : Int) + 48 by omega] at hD2 hB2 hcC2
        replace hI2 := Lib.hid hI2
        replace hD2 := Lib.hid hD2
        replace hB2 := Lib.hid hB2
        replace hD := Lib.hid hD
        replace hB := Lib.hid hB
        go_wp2_with fail
        go_roundg (gk - 1)
        case measure => omega
        case rel => exact ⟨v + 1, z * 10 + (C (r0 + v) - 48), O * 10 + q, _, by omega, by go_num, by go_num, by go_num, hI2.out, hsame2.out, hD2.out, hB2.out⟩
      · have hrI : ¬ ((r0 : Int) + (v : Int)) < (nd : Int) := by omega
        have hn1 := Lib.hid (show 1 ≤ v ∨ 0 < n from by
          rcases hI.hd with ⟨_, a⟩ | ⟨a, _⟩
          · exact .inr (by omega)
          · exact .inl a)
        have hvb : v ≤ nd := by omega
        have hI := Lib.hid hI
        have hD := Lib.hid hD
        have hB := Lib.hid hB
        clear hq hsame hnlt
        go_wp2_with fail
        clear hcN
        go_loopg [5, 6] (k + 1) (fun g v5 v6 wr2 => ∃ (v' n' w' O' j : Nat) (tr' : Bool) (C2 : Nat → Nat), j + g = k + 1 ∧ 2 ^ j ∣ n' ∧ (j = k + 1 → n' = 0) ∧ (1 ≤ v' ∨ 0 < n') ∧ v' + g ≤ nd + k + 1 ∧ nd ≤ r0 + v' ∧ v5 = .int .i64 (w' : Int) ∧ v6 = .int .u64 (n' : Int) ∧ RsI C nd M r0 tr v' n' C2 w' tr' O' ∧ Dec b C2 nd dp1 tr' wr2 ∧ Below b wc wr2)
        case atStart => exact ⟨v, n, v, O, 0, tr, C', by omega, ⟨n, by simp⟩, fun e => by omega, hn1.out, by omega, by omega, rfl, rfl, hI.out, hD.out, hB.out⟩
        case round =>
          obtain ⟨v', n', w', O', j, tr', C2, hj, hdj, hjz, hvn, hvk, hnv, rfl, rfl, hI, hD, hB⟩ := hrel
          have hnlt := hI.lt
          have hwv := hI.wv
          have hq := hsh.out n' _ rfl
          have hX1 := hExt2.out (r0 + v') hnv
          by_cases hn' : 0 < n'
          · have hjk : j ≤ k := by
              rcases Nat.lt_or_ge k j with g | g
              · have := hjz (by omega); omega
              · exact g
            obtain ⟨hd1', hd2'⟩ := hdv.out j n' hjk hdj
            have han := hand.out n' (by omega)
            have hd2'' := Lib.hid (fun (e : j + 1 = k + 1) => hd2' (by omega))
            clear hd2' hjz
            by_cases hw8 : w' < 800
            · obtain ⟨hI2, hq10, hmM⟩ := hsA.out r0 C2 v' n' w' O' tr' hI hw8
              rw [hX1, Nat.sub_self, Nat.add_zero] at hI2
              have hcV := hD.c w' hw8
              have hfV := hD.f w'
              have hD2 := hD.setC (v := n' / M + 48) (i := w') hw8 (by generalize n' / M = q at *; omega)
              have hB2 := hB.setCell (p := ⟨b, w', none⟩) (Nat.le_refl _) (.int .u8 ((n' / M + 48 : Nat) : Int))
              generalize n' / M = q at *
              generalize n' % M = z at *
              have w1 : IntKind.u64.wrap ((z : Int) * 10) = ((z * 10 : Nat) : Int) := by rw [IntKind.wrap_u64]; omega
              have w4 : IntKind.u64.wrap ((q : Int) + 48) = ((q + 48 : Nat) : Int) := by rw [IntKind.wrap_u64]; omega
              have w5 : IntKind.u8.wrap ((q + 48 : Nat) : Int) = ((q + 48 : Nat) : Int) := by rw [IntKind.wrap_u8]; omega
              have hvI : (w' : Int) < 800 := by omega
              rw [show ((q + 48 : Nat) : Int) = (q : Int) + 48 by omega] at hD2 hB2
              replace hI2 := Lib.hid hI2
              replace hD2 := Lib.hid hD2
              replace hB2 := Lib.hid hB2
              replace hD := Lib.hid hD
              replace hB := Lib.hid hB
              replace hwv := Lib.hid hwv
              replace hdj := Lib.hid hdj
              replace hd1' := Lib.hid hd1'
              clear hI hX1
              go_wp2_with fail
              go_roundg (gk - 1)
              case measure => omega
              case rel => exact ⟨v' + 1, z * 10, w' + 1, O' * 10 + q, j + 1, tr', _, by omega, hd1'.out, hd2''.out, .inl (by omega), by omega, by omega, by go_num, by go_num, hI2.out, hD2.out, hB2.out⟩
            · obtain ⟨hI2, hq10, hmM⟩ := hsB.out r0 C2 v' n' w' O' tr' hI hw8
              rw [hX1, Nat.sub_self, Nat.add_zero] at hI2
              have hcT := hD.t
              have hfT := hD.f 803
              have hvI : ¬ (w' : Int) < 800 := by omega
              generalize n' / M = q at *
              generalize n' % M = z at *
              have w1 : IntKind.u64.wrap ((z : Int) * 10) = ((z * 10 : Nat) : Int) := by rw [IntKind.wrap_u64]; omega
              replace hdj := Lib.hid hdj
              replace hd1' := Lib.hid hd1'
              replace hwv := Lib.hid hwv
              clear hI hX1
              by_cases hq0 : 0 < q
              · have hD2 := hD.setT true
                have hB2 := hB.setCell (p := ⟨b, 803, none⟩) (Nat.le_refl _) (.bool true)
                rw [show (tr' || decide (0 < q)) = true by simp [hq0]] at hI2
                replace hI2 := Lib.hid hI2
                replace hD2 := Lib.hid hD2
                replace hB2 := Lib.hid hB2
                replace hD := Lib.hid hD
                replace hB := Lib.hid hB
                go_wp2_with fail
                go_roundg (gk - 1)
                case measure => omega
                case rel => exact ⟨v' + 1, z * 10, w', O' * 10 + q, j + 1, true, _, by omega, hd1'.out, hd2''.out, .inl (by omega), by omega, by omega, rfl, by go_num, hI2.out, hD2.out, hB2.out⟩
              · rw [show (tr' || decide (0 < q)) = tr' by simp [hq0]] at hI2
                replace hI2 := Lib.hid hI2
                replace hD := Lib.hid hD
                replace hB := Lib.hid hB
                obtain rfl : q = 0 := by omega
                go_wp2_with fail
                go_roundg (gk - 1)
                case measure => omega
                case rel => exact ⟨v' + 1, z * 10, w', _, j + 1, tr', _, by omega, hd1'.out, hd2''.out, .inl (by omega), by omega, by omega, rfl, by go_num, hI2.out, hD.out, hB.out⟩
          · obtain rfl : n' = 0 := by omega
            obtain ⟨f1, f2, f3, f4, f5, f6⟩ := hfin.out C2 r0 v' w' O' tr' hI hr1 hnv (by omega) ⟨d1, d2⟩ b1 b2 (by omega) (by have := hk.out; omega)
            rw [hdp1.out] at f5 f6
            have hcN := hD.n
            have hfN := hD.f 800
            have hD2 := hD.setN w'
            have hB2 := hB.setCell (p := ⟨b, 800, none⟩) (Nat.le_refl _) (.int .i64 (w' : Int))
            have hT := Lib.hid (c_trim b C2 w' dp1 tr' f1 f2 (by omega) _ hD2)
            have hdpb := hdp1.out
            have hfr := Lib.hid (show dp - 100 ≤ dp1 ∧ dp1 ≤ dp ∧ -500 ≤ dp1 by omega)
            replace f4 := Lib.hid f4
            replace f5 := Lib.hid f5
            replace f6 := Lib.hid f6
            clear hdpb hI hq hX1 hwv hdj hjz hD hB hD2
            go_wp2_with fail
            refine hT.out.mono ?_
            rintro e w9 ⟨rfl, n, t1, t2, t3, t4, t5, t6⟩
            go_wp2_with fail
            go_end0
            obtain ⟨g1, g2, g3⟩ := hfr.out
            have ht := tOf_trim (C := C2) (dp := dp1) t2 t4 g3 f2
            exact ⟨rfl, C2, n, dp1, tr', ⟨t1, by omega, f4.out.mono t2, f3⟩, t3, t5, hB2.trans t6, g1, g2, by rw [ht]; exact f5.out, by rw [ht]; exact f6.out⟩
end Go.Proofs.YtbakbikilbaafaaGreatDoor
namespace Go.Proofs.YtbakbikilbaafaaGreatDoor
open Go.RowKit F64 Ieee
set_option linter.unusedVariables false
set_option maxHeartbeats 4000000
set_option maxRecDepth 100000

/-- the row k of the library's table of left shifts: how many digits more, and from which fraction on -/
structure Cheat (k d l : Nat) (L : List Nat) : Prop where
  row : Pinned.cheatRows[k]? = some (d, L.map UInt8.ofNat)
  len : L.length = l
  dl : l + d = k + 1
  d1 : 1 ≤ d
  dig : ∀ c ∈ L, 48 ≤ c ∧ c ≤ 57
  last : ∀ h : L ≠ [], L.getLast h ≠ 48
  num : numL L = 5 ^ k
  lo : 10 ^ (l - 1) ≤ 5 ^ k
  hi : 5 ^ k < 10 ^ l
  l1 : 1 ≤ l
  l2 : l ≤ 100
  d2 : d ≤ 20
def cheatB (k : Nat) : Bool :=
  match Pinned.cheatRows[k]? with
  | none => false
  | some x =>
    let L := x.2.map UInt8.toNat
    let d := x.1
    (decide (x.2 = L.map UInt8.ofNat) && (decide (L.length + d = k + 1) && (decide (1 ≤ d) && (L.all (fun c => decide (48 ≤ c) && decide (c ≤ 57)) && (decide (L.getLastD 0 ≠ 48) && (decide (numL L = 5 ^ k) && (decide (10 ^ (L.length - 1) ≤ 5 ^ k) && (decide (5 ^ k < 10 ^ L.length) && (decide (1 ≤ L.length) && (decide (L.length ≤ 100) && decide (d ≤ 20)))))))))))
theorem cheat_all : ∀ k : Fin 60, cheatB (k.val + 1) = true := by decide +kernel
theorem cheat_ex {k : Nat} (h : 1 ≤ k ∧ k ≤ 60) : ∃ d l L, Cheat k d l L := by
  have hA := cheat_all ⟨k - 1, by omega⟩
  simp only [show k - 1 + 1 = k by omega] at hA
  unfold cheatB at hA
  cases hx : Pinned.cheatRows[k]? with
  | none => rw [hx] at hA; cases hA
  | some x =>
    rw [hx] at hA
    simp only [Bool.and_eq_true, decide_eq_true_eq, List.all_eq_true] at hA
    obtain ⟨a2, a3, a4, a5, a6, a7, a8, a9, a10, a11, a12⟩ := hA
    refine ⟨x.1, (x.2.map UInt8.toNat).length, x.2.map UInt8.toNat, ⟨by rw [hx, ← a2], rfl, a3, a4, a5, fun h => ?_, a7, a8, a9, a10, a11, a12⟩⟩
    rw [List.getLastD_eq_getLast?, List.getLast?_eq_some_getLast h] at a6
    simpa using a6
/-- how many digits more there are -/
def dlt (p : Bool) (d : Nat) : Nat := if p then d - 1 else d
theorem cheat_delta {k d l nd : Nat} {L : List Nat} {C : Nat → Nat} (h : Cheat k d l L) (hn : 1 ≤ nd) (hC : DigOK C nd) (h0 : 49 ≤ C 0) :
    numF C nd * 2 ^ k < 10 ^ (nd + dlt (preLt C nd L 0) d) ∧ 10 ^ (nd + dlt (preLt C nd L 0) d - 1) ≤ numF C nd * 2 ^ k := by
  obtain ⟨h1, h2, h3, h4, h5, h6, h7, h8, h9, h10, _, _⟩ := h
  have hp := preLt_num C nd hC L 0 h5 h6 (Nat.zero_le _)
  rw [Nat.sub_zero, numF_congr (C' := C) (fun i _ => by rw [Nat.zero_add]), h2, h7] at hp
  have hlt := numF_lt hC
  obtain ⟨m, rfl⟩ : ∃ m, nd = m + 1 := ⟨nd - 1, by omega⟩
  have hge := numF_ge h0 m
  have e10 : (10 : Nat) ^ k = 5 ^ k * 2 ^ k := by rw [← Nat.mul_pow]
  have p2 : 0 < 2 ^ k := Nat.two_pow_pos k
  have pl : 0 < 10 ^ l := Nat.pow_pos (by decide)
  unfold dlt
  by_cases hb : preLt C (m + 1) L 0 = true
  · rw [if_pos hb]
    have hx := hp.1 hb
    constructor
    · refine Nat.lt_of_mul_lt_mul_right (a := 10 ^ l) ?_
      rw [← Nat.pow_add, show m + 1 + (d - 1) + l = k + (m + 1) by omega, Nat.pow_add, e10]
      have := Nat.mul_lt_mul_of_pos_right hx p2
      calc numF C (m + 1) * 2 ^ k * 10 ^ l = numF C (m + 1) * 10 ^ l * 2 ^ k := by ac_rfl
        _ < 5 ^ k * 10 ^ (m + 1) * 2 ^ k := this
        _ = 5 ^ k * 2 ^ k * 10 ^ (m + 1) := by ac_rfl
    · have hd : 10 ^ (d - 1) ≤ 2 ^ k := by
        refine Nat.le_of_mul_le_mul_right (c := 10 ^ l) ?_ pl
        rw [← Nat.pow_add, show d - 1 + l = k by omega, e10, Nat.mul_comm]
        exact Nat.mul_le_mul_left _ (Nat.le_of_lt h9)
      rw [show m + 1 + (d - 1) - 1 = m + (d - 1) by omega, Nat.pow_add]
      exact Nat.mul_le_mul hge hd
  · rw [if_neg hb]
    have hx : 5 ^ k * 10 ^ (m + 1) ≤ numF C (m + 1) * 10 ^ l := by
      rcases Nat.lt_or_ge (numF C (m + 1) * 10 ^ l) (5 ^ k * 10 ^ (m + 1)) with g | g
      · exact absurd (hp.2 g) hb
      · exact g
    constructor
    · have hd : 2 ^ k ≤ 10 ^ d := by
        have p5 : 0 < 10 ^ (l - 1) := Nat.pow_pos (by decide)
        refine Nat.le_of_mul_le_mul_right (c := 10 ^ (l - 1)) ?_ p5
        rw [← Nat.pow_add, show d + (l - 1) = k by omega, e10, Nat.mul_comm]
        exact Nat.mul_le_mul_right _ h8
      rw [Nat.pow_add]
      exact Nat.mul_lt_mul_of_lt_of_le hlt hd (Nat.pow_pos (by decide))
    · refine Nat.le_of_mul_le_mul_right (c := 10 ^ l) ?_ pl
      rw [← Nat.pow_add, show m + 1 + d - 1 + l = k + (m + 1) by omega, Nat.pow_add, e10]
      have := Nat.mul_le_mul_right (2 ^ k) hx
      calc 5 ^ k * 2 ^ k * 10 ^ (m + 1) = 5 ^ k * 10 ^ (m + 1) * 2 ^ k := by ac_rfl
        _ ≤ numF C (m + 1) * 10 ^ l * 2 ^ k := this
        _ = _ := by ac_rfl
/-- how far the digits of a number Y M are told, from behind: s of m digits R, n left -/
structure LsI (M m : Nat) (tr : Bool) (Y s n : Nat) (C' : Nat → Nat) (tr' : Bool) (R : Nat) : Prop where
  eq : n * 10 ^ s + R = Y * M
  rl : R < 10 ^ s
  num : numF (fun i => C' (m - s + i)) (min m 800 - (m - s)) = R / 10 ^ (m - min m 800)
  t : tr' = (tr || decide (R % 10 ^ (m - min m 800) ≠ 0))
  dig : ∀ i, m - s ≤ i → i < min m 800 → 48 ≤ C' i ∧ C' i ≤ 57
theorem LsI.start (M m : Nat) (tr : Bool) (C' : Nat → Nat) : LsI M m tr 0 0 0 C' tr 0 :=
  ⟨by simp, by simp, by rw [show min m 800 - (m - 0) = 0 by omega]; simp [numF], by simp, fun i a b => by omega⟩
theorem LsI.stepA {M m Y Y' s n N R : Nat} {C' : Nat → Nat} {tr tr' : Bool} (h : LsI M m tr Y s n C' tr' R) (hs : s < m) (hw : m - s - 1 < 800) (he : N * 10 ^ s + R = Y' * M) :
    LsI M m tr Y' (s + 1) (N / 10) (upd C' (m - s - 1) (N % 10 + 48)) tr' (R + N % 10 * 10 ^ s) := by
  obtain ⟨h1, h2, h3, h4, h5⟩ := h
  have hdm := Nat.div_add_mod N 10
  have hm10 := Nat.mod_lt N (show 10 > 0 by decide)
  generalize N / 10 = q at *
  generalize N % 10 = z at *
  have hps : 10 ^ (s + 1) = 10 * 10 ^ s := by rw [Nat.pow_succ, Nat.mul_comm]
  obtain ⟨D, hD⟩ : ∃ D, m - min m 800 = D := ⟨_, rfl⟩
  rw [hD] at h3 h4
  obtain ⟨f, hf⟩ : ∃ f, s = D + f := ⟨s - D, by omega⟩
  have hzs : z * 10 ^ s = z * 10 ^ f * 10 ^ D := by rw [hf, Nat.pow_add]; ac_rfl
  have hpD : 0 < 10 ^ D := Nat.pow_pos (by decide)
  refine ⟨?_, ?_, ?_, ?_, ?_⟩
  · rw [← he, hps, ← hdm]
    have : (10 * q + z) * 10 ^ s = q * (10 * 10 ^ s) + z * 10 ^ s := by rw [Nat.add_mul]; congr 1; ac_rfl
    omega
  · rw [hps]
    have := Nat.mul_le_mul_right (10 ^ s) (show z ≤ 9 by omega)
    omega
  · have e1 : min m 800 - (m - (s + 1)) = (min m 800 - (m - s)) + 1 := by omega
    have e2 : m - (s + 1) = m - s - 1 := by omega
    rw [hD, e1, e2, numF_cons, upd_same, numF_congr (C' := fun i => C' (m - s + i)) (fun i hi => by
      show upd C' _ _ (m - s - 1 + 1 + i) = C' (m - s + i)
      rw [upd_other C' _ (by omega)]; congr 1; omega), h3, hzs, Nat.add_mul_div_right _ _ hpD]
    rw [show min m 800 - (m - s) = f by omega, Nat.add_sub_cancel]
    omega
  · rw [hD, h4, hzs, Nat.add_mul_mod_self_right]
  · intro i a b
    rcases Nat.lt_or_ge i (m - s) with g | g
    · rw [show i = m - s - 1 by omega, upd_same]; omega
    · rw [upd_other C' _ (by omega)]; exact h5 i g b
theorem LsI.stepB {M m Y Y' s n N R : Nat} {C' : Nat → Nat} {tr tr' : Bool} (h : LsI M m tr Y s n C' tr' R) (hs : s < m) (hw : ¬ m - s - 1 < 800) (he : N * 10 ^ s + R = Y' * M) :
    LsI M m tr Y' (s + 1) (N / 10) C' (tr' || decide (N % 10 ≠ 0)) (R + N % 10 * 10 ^ s) := by
  obtain ⟨h1, h2, h3, h4, h5⟩ := h
  have hdm := Nat.div_add_mod N 10
  have hm10 := Nat.mod_lt N (show 10 > 0 by decide)
  generalize N / 10 = q at *
  generalize N % 10 = z at *
  have hps : 10 ^ (s + 1) = 10 * 10 ^ s := by rw [Nat.pow_succ, Nat.mul_comm]
  obtain ⟨D, hD⟩ : ∃ D, m - min m 800 = D := ⟨_, rfl⟩
  rw [hD] at h3 h4
  have hsD : s + 1 ≤ D := by omega
  have hR2 : R + z * 10 ^ s < 10 ^ (s + 1) := by
    rw [hps]
    have := Nat.mul_le_mul_right (10 ^ s) (show z ≤ 9 by omega)
    omega
  have hR3 : R + z * 10 ^ s < 10 ^ D := Nat.lt_of_lt_of_le hR2 (Nat.pow_le_pow_right (by decide) hsD)
  have hps0 : 0 < 10 ^ s := Nat.pow_pos (by decide)
  refine ⟨?_, hR2, ?_, ?_, ?_⟩
  · rw [← he, hps, ← hdm]
    have : (10 * q + z) * 10 ^ s = q * (10 * 10 ^ s) + z * 10 ^ s := by rw [Nat.add_mul]; congr 1; ac_rfl
    omega
  · rw [hD, Nat.div_eq_of_lt hR3, show min m 800 - (m - (s + 1)) = 0 by omega, numF_zero]
  · rw [hD, h4, Nat.mod_eq_of_lt hR3, Nat.mod_eq_of_lt (by omega : R < 10 ^ D), Bool.or_assoc]
    congr 1
    rw [← Bool.decide_or]
    apply decide_eq_decide.2
    rcases Nat.eq_zero_or_pos z with g | g
    · subst g; simp
    · have := Nat.mul_le_mul_right (10 ^ s) (show 1 ≤ z by omega)
      omega
  · intro i a b; omega
theorem numF_hd {C : Nat → Nat} : ∀ {n : Nat}, DigOK C (n + 1) → 10 ^ n ≤ numF C (n + 1) → 49 ≤ C 0
  | 0, h, hge => by
    have := h 0 (by omega)
    rw [numF_succ, numF_zero] at hge
    omega
  | n + 1, h, hge => by
    refine numF_hd (n := n) (h.mono (by omega)) ?_
    have := h (n + 1) (by omega)
    rw [numF_succ, Nat.pow_succ] at hge
    omega
theorem LsI.fin {C C' : Nat → Nat} {k m nd dl R : Nat} {tr tr' : Bool} {dp : Int} (h : LsI (2 ^ k) m tr (numF C nd) m 0 C' tr' R) (hm : m = nd + dl) (hnd : 1 ≤ nd ∧ nd ≤ 800) (hlo : 10 ^ (m - 1) ≤ numF C nd * 2 ^ k) (hd : -500 ≤ dp) (hd2 : dp ≤ 700) :
    49 ≤ C' 0 ∧ DigOK C' (min m 800) ∧ tOf C' (min m 800) (dp + dl) = tOf C nd dp * 2 ^ k / 10 ^ (dp + dl + 500).toNat * 10 ^ (dp + dl + 500).toNat ∧
      tr' = (tr || decide (tOf C' (min m 800) (dp + dl) ≠ tOf C nd dp * 2 ^ k)) := by
  obtain ⟨e1, e2, e3, e4, e5⟩ := h
  rw [Nat.zero_mul, Nat.zero_add] at e1
  rw [Nat.sub_self, Nat.sub_zero, numF_congr (C' := C') (fun i _ => by rw [Nat.zero_add])] at e3
  have hdig : DigOK C' (min m 800) := fun i hi => e5 i (by omega) hi
  obtain ⟨D, hD⟩ : ∃ D, m - min m 800 = D := ⟨_, rfl⟩
  rw [hD] at e3 e4
  have hpD : 0 < 10 ^ D := Nat.pow_pos (by decide)
  rw [← e1] at hlo
  have h49 : 49 ≤ C' 0 := by
    obtain ⟨j, hj⟩ : ∃ j, min m 800 = j + 1 := ⟨min m 800 - 1, by omega⟩
    rw [hj] at hdig e3
    refine numF_hd hdig ?_
    rw [e3, Nat.le_div_iff_mul_le hpD, ← Nat.pow_add, show j + D = m - 1 by omega]
    exact hlo
  refine ⟨h49, hdig, ?_⟩
  obtain ⟨A, hA⟩ : ∃ A, (dp + (dl : Int) + 500).toNat = A := ⟨_, rfl⟩
  rw [hA]
  have hT : tOf C' (min m 800) (dp + dl) = R / 10 ^ D * 10 ^ (800 - min m 800) * 10 ^ A := by
    unfold tOf
    rw [e3, Nat.mul_assoc, ← Nat.pow_add]
    congr 2
    omega
  have hT0 : tOf C nd dp * 2 ^ k * 10 ^ D = R * 10 ^ (800 - min m 800) * 10 ^ A := by
    unfold tOf
    rw [e1]
    have : 10 ^ (dp - (nd : Int) + 1300).toNat * 10 ^ D = 10 ^ (800 - min m 800) * 10 ^ A := by
      rw [← Nat.pow_add, ← Nat.pow_add]; congr 1; omega
    calc numF C nd * 10 ^ (dp - (nd : Int) + 1300).toNat * 2 ^ k * 10 ^ D = numF C nd * 2 ^ k * (10 ^ (dp - (nd : Int) + 1300).toNat * 10 ^ D) := by ac_rfl
      _ = numF C nd * 2 ^ k * (10 ^ (800 - min m 800) * 10 ^ A) := by rw [this]
      _ = _ := by ac_rfl
  have hA0 : 0 < 10 ^ A := Nat.pow_pos (by decide)
  have hcase : 10 ^ D = 1 ∨ 10 ^ (800 - min m 800) = 1 := by
    rcases Nat.lt_or_ge m 800 with g | g
    · left; rw [show D = 0 by omega, Nat.pow_zero]
    · right; rw [show 800 - min m 800 = 0 by omega, Nat.pow_zero]
  constructor
  · rw [hT]
    congr 1
    generalize 10 ^ D = z at *
    generalize 10 ^ (800 - min m 800) = y at *
    generalize tOf C nd dp * 2 ^ k = T at *
    generalize 10 ^ A = Y at *
    rcases hcase with rfl | rfl
    · rw [Nat.div_one, Nat.mul_one] at *
      rw [hT0, Nat.mul_div_cancel _ hA0]
    · rw [Nat.mul_one] at *
      rw [← Nat.mul_div_mul_right T Y hpD, hT0, Nat.mul_comm Y z, Nat.mul_div_mul_right R z hA0]
  · rw [hT, e4]
    congr 1
    apply decide_eq_decide.2
    generalize 10 ^ D = z at *
    generalize 10 ^ (800 - min m 800) = y at *
    generalize tOf C nd dp * 2 ^ k = T at *
    generalize 10 ^ A = Y at *
    have hdm := Nat.div_add_mod R z
    refine not_congr ⟨fun h => ?_, fun h => ?_⟩
    · refine Nat.eq_of_mul_eq_mul_right hpD ?_
      rw [hT0]
      have hO : R = R / z * z := by rw [h, Nat.add_zero] at hdm; rw [Nat.mul_comm]; exact hdm.symm
      calc R / z * y * Y * z = R / z * z * y * Y := by ac_rfl
        _ = R * y * Y := by rw [← hO]
    · rw [← h] at hT0
      rcases hcase with rfl | rfl
      · exact Nat.mod_one R
      · have h2 : R / z * z * Y = R * Y := by
          calc R / z * z * Y = R / z * 1 * Y * z := by rw [Nat.mul_one]; ac_rfl
            _ = R * 1 * Y := hT0
            _ = R * Y := by rw [Nat.mul_one]
        have h3 := Nat.eq_of_mul_eq_mul_right hA0 h2
        rw [Nat.mul_comm] at h3
        omega
end Go.Proofs.YtbakbikilbaafaaGreatDoor
