/-
  Contracts: The contract of the library's rightShift. Plain: what leftShift's digits are. For each power of ten of the library's table: two short vectors, which show that its scaling is exact (printed by gen_XNB.py). Plain law: the library's scaling is exact for every power of its table, at each left-justified number of 64 bits (reading), and at each multiple of 512 (writing).
-/
import Derived.Test.YtbakbikilbaafaaGreatDoorR2
import Derived.Deep.DeepCutAuto
import Derived.Deep.CutBlock
import GoSem.PinnedTables
import Derived.Test.YtbakbikilbaafaaGreatDoorR1
namespace Go.Proofs.YtbakbikilbaafaaGreatDoor
open Go.RowKit F64 Ieee
set_option linter.unusedVariables false
set_option maxHeartbeats 4000000
set_option maxRecDepth 100000

theorem and_u64M {k M : Nat} (hM : 2 ^ k = M) (hMb : M ≤ 1152921504606846976) (n : Nat) (hn : n < 18446744073709551616) : bits BinOp.and IntKind.u64 (n : Int) ((M - 1 : Nat) : Int) = ((n % M : Nat) : Int) := by
  have h := bits_and_u64_nat n (M - 1) hn (by omega)
  rw [h, ← hM, Nat.and_two_pow_sub_one_eq_mod]
theorem ext_b {C : Nat → Nat} {nd r M : Nat} (hd : 49 ≤ C 0) (h1 : 1 ≤ nd) (hM : M ≤ 1152921504606846976) (h : numF (ext C nd) r < 10 * M) : r ≤ 20 := by
  rcases Nat.lt_or_ge 20 r with g | g
  · exfalso
    obtain ⟨m, rfl⟩ : ∃ m, r = m + 1 := ⟨r - 1, by omega⟩
    have h2 := numF_ge (C := ext C nd) (by rw [ext_lt C (by omega)]; exact hd) m
    have h3 := Nat.pow_le_pow_right (n := 10) (by decide) (show 20 ≤ m by omega)
    have : (10 : Nat) ^ 20 = 100000000000000000000 := by decide
    omega
  · exact g
theorem dv_step {k M j n : Nat} (hM : 2 ^ k = M) (hj : j ≤ k) (h : 2 ^ j ∣ n) : 2 ^ (j + 1) ∣ n % M * 10 ∧ (j = k → n % M * 10 = 0) := by
  subst hM
  have h1 : 2 ^ j ∣ 2 ^ k := Nat.pow_dvd_pow 2 hj
  have h2 : 2 ^ j ∣ n % 2 ^ k := (Nat.dvd_mod_iff h1).2 h
  refine ⟨?_, fun e => ?_⟩
  · rw [Nat.pow_succ]
    exact Nat.mul_dvd_mul h2 ⟨5, rfl⟩
  · subst e
    rw [Nat.mod_eq_zero_of_dvd h, Nat.zero_mul]
theorem c_right (b : Nat) (C : Nat → Nat) (nd : Nat) (dp : Int) (tr : Bool) (k : Nat) (hk : 1 ≤ k ∧ k ≤ 60) (hDD : DecD C nd) (hd1 : -300 ≤ dp) (hd2 : dp ≤ 700) (w : World) (h : Dec b C nd dp tr w) :
    Calls Tryz.prog 196 #[.pointer (some ⟨b, 0, none⟩), .int .u64 (k : Int)] w fun r w' => r = .returned (.tuple #[]) ∧ ∃ C' n' dp' tr', DecD C' n' ∧ C' (n' - 1) ≠ 48 ∧ Dec b C' n' dp' tr' w' ∧ Below b w w' ∧ dp - 100 ≤ dp' ∧ dp' ≤ dp ∧
      tOf C' n' dp' = tOf C nd dp / (2 ^ k * 10 ^ (dp' + 500).toNat) * 10 ^ (dp' + 500).toNat ∧ tr' = (tr || decide (tOf C' n' dp' * 2 ^ k ≠ tOf C nd dp)) := by
  obtain ⟨d1, d2, d3, d4⟩ := hDD
  obtain ⟨M, hM⟩ : ∃ M, 2 ^ k = M := ⟨_, rfl⟩
  have hM1 : 0 < M := by rw [← hM]; exact Nat.two_pow_pos k
  have hMb : M ≤ 1152921504606846976 := by
    rw [← hM]
    exact Nat.le_trans (Nat.pow_le_pow_right (by decide) hk.2) (by decide)
  have hsh := Lib.hid (fun n q (hq : n / M = q) => show (n : Int) / 2 ^ k = (q : Int) by rw [← hq, ← hM]; exact pow_cast n k)
  have hand := Lib.hid (fun n (hn : n < 18446744073709551616) => and_u64M hM hMb n hn)
  have hb20 := Lib.hid (fun r (hr : numF (ext C nd) r < 10 * M) => ext_b (nd := nd) d4 d1 hMb hr)
  have hge := Lib.hid (fun m => numF_ge (C := ext C nd) (by rw [ext_lt C (by omega)]; exact d4) m)
  have hdig := Lib.hid (ext_dig d3)
  have hfin := Lib.hid (fun C' r0 v w O tr' (hh : RsI C nd M r0 tr v 0 C' w tr' O) => by rw [← hM] at hh; exact RsI.fin (dp := dp) hh)
  have hm1 : IntKind.u64.wrap ((2 : Int) ^ k) = (M : Int) := by
    have e : (2 : Int) ^ k = ((2 ^ k : Nat) : Int) := by rw [Int.natCast_pow]; rfl
    rw [e, hM, IntKind.wrap_u64]; omega
  have hm2 : IntKind.u64.wrap ((M : Int) - 1) = ((M - 1 : Nat) : Int) := by rw [IntKind.wrap_u64]; omega
  have hExt := Lib.hid (fun i (hi : i < nd) => ext_lt C (nd := nd) hi)
  have hExt2 := Lib.hid (fun i (hi : nd ≤ i) => ext_ge C (nd := nd) hi)
  have hst := Lib.hid (fun C' r0 (a1 : M ≤ numF (ext C nd) r0) (a2 : numF (ext C nd) r0 < 10 * M) => RsI.start (C0 := C) (nd := nd) (tr := tr) C' rfl a1 a2)
  have hsA := Lib.hid (fun r0 C' v n w O tr' (hh : RsI C nd M r0 tr v n C' w tr' O) hw => RsI.stepA (c := ext C nd (r0 + v)) hh hM1 hw rfl (ext_dig d3 _))
  have hsB := Lib.hid (fun r0 C' v n w O tr' (hh : RsI C nd M r0 tr v n C' w tr' O) hw => RsI.stepB (c := ext C nd (r0 + v)) hh hM1 hw rfl (ext_dig d3 _))
  have hdv := Lib.hid (fun j n (hj : j ≤ k) (hh : 2 ^ j ∣ n) => dv_step hM hj hh)
  have cN := h.n
  have h := Lib.hid h
  generalize ext C nd = X at *
  replace hM := Lib.hid hM
  have hk := Lib.hid hk
  have d3 := Lib.hid d3
  have d4 := Lib.hid d4
  have hd1 := Lib.hid hd1
  have hd2 := Lib.hid hd2
  go_enter Tryz.func196, Tryz.ntmps196
  go_upto_block 0 with fail
  go_cut [4, 6] (fun v4 v6 wx => ∃ r0 : Nat, v4 = .int .i64 (r0 : Int) ∧ 1 ≤ r0 ∧ v6 = .int .u64 (numF X r0 : Int) ∧ M ≤ numF X r0 ∧ numF X r0 < 10 * M ∧ wx = w)
  case first =>
    go_wp2_with fail
    go_loopg [4, 6] nd (fun g v4 v6 wr => ∃ r : Nat, r + g = nd ∧ v4 = .int .i64 (r : Int) ∧ v6 = .int .u64 (numF X r : Int) ∧ numF X r < 10 * M ∧ wr = w)
    case atStart => exact ⟨0, by omega, rfl, rfl, by rw [numF_zero]; omega, rfl⟩
    case round =>
      obtain ⟨r, hr, rfl, rfl, hlt, rfl⟩ := hrel
      have hq := hsh.out (numF X r) _ rfl
      have hdm := Nat.div_add_mod (numF X r) M
      have hsuc := Lib.hid (numF_succ X r)
      have hX0 := Lib.hid (fun (e : r = nd) => show 0 < numF X r by
        obtain ⟨m, hm⟩ : ∃ m, r = m + 1 := ⟨r - 1, by omega⟩
        have := hge.out m
        rw [← hm] at this
        have hp : 0 < 10 ^ m := Nat.pow_pos (by decide)
        omega)
      have hXs := Lib.hid (fun (e : ¬ numF X r < M) => show 1 ≤ r by
        rcases Nat.eq_zero_or_pos r with z | z
        · subst z; rw [numF_zero] at e; omega
        · exact z)
      have hmore := Lib.hid (fun (e : r = nd) m => show numF X (r + (m + 1)) = numF X (r + m) * 10 by
        rw [← Nat.add_assoc, numF_succ, hExt2.out _ (by omega), Nat.sub_self, Nat.add_zero])
      have hnn : Hid (∃ n, numF X r = n) := ⟨_, rfl⟩
      by_cases hnM : numF X r < M
      · have hq0 : numF X r / M = 0 := Nat.div_eq_of_lt hnM
        rw [hq0] at hq
        by_cases hrn : r < nd
        · have hrI : (r : Int) < (nd : Int) := by omega
          have hrI2 : ¬ (nd : Int) ≤ (r : Int) := by omega
          have cC := h.out.c r (by omega)
          have hc := d3.out r hrn
          have hsu := hsuc.out
          rw [hExt.out r hrn] at hsu
          have hX2 : numF X (r + 1) < 10 * M := by rw [hsu]; omega
          have w1 : IntKind.u64.wrap ((numF X r : Int) * 10) = (numF X r : Int) * 10 := by rw [IntKind.wrap_u64]; omega
          have w2 : IntKind.u64.wrap ((numF X r : Int) * 10 + (C r : Int)) = (numF X r : Int) * 10 + (C r : Int) := by rw [IntKind.wrap_u64]; omega
          have w3 : IntKind.u64.wrap ((numF X r : Int) * 10 + (C r : Int) - 48) = ((numF X (r + 1) : Nat) : Int) := by rw [IntKind.wrap_u64, hsu]; omega
          have w4 : IntKind.u64.wrap (C r : Int) = (C r : Int) := by rw [IntKind.wrap_u64]; omega
          clear hsu hdm hq0
          generalize numF X r = n at *
          go_wp2_with fail
          go_roundg (gk - 1)
          case measure => omega
          case rel => exact ⟨r + 1, by omega, by go_num, rfl, hX2, rfl⟩
        · have hrI2 : (nd : Int) ≤ (r : Int) := by omega
          have hn0 := hX0.out (by omega)
          have q0 : ((numF X r : Int) == 0) = false := by simp; omega
          have hmr := Lib.hid (hmore.out (by omega))
          clear hdm hq0
          generalize hnx : numF X r = n at *
          have hr0 : Hid (numF X (r + 0) = n) := hnx
          replace hnx := Lib.hid hnx
          go_wp2_with fail
          go_loopg [4, 6] M (fun g v4 v6 wr2 => ∃ m : Nat, v4 = .int .i64 ((r + m : Nat) : Int) ∧ v6 = .int .u64 (numF X (r + m) : Int) ∧ numF X (r + m) < 10 * M ∧ 0 < numF X (r + m) ∧ (numF X (r + m) < M → M ≤ numF X (r + m) + g) ∧ wr2 = wr)
          case atStart => exact ⟨0, rfl, by rw [hr0.out], by rw [hr0.out]; omega, by rw [hr0.out]; omega, fun _ => by omega, rfl⟩
          case round =>
            obtain ⟨m, rfl, rfl, m1, m2, m3, rfl⟩ := hrel
            have hq2 := hsh.out (numF X (r + m)) _ rfl
            have hmm := hmr.out m
            have hb2 := hb20.out _ m1
            by_cases hm4 : numF X (r + m) < M
            · have hq20 : numF X (r + m) / M = 0 := Nat.div_eq_of_lt hm4
              rw [hq20] at hq2
              have hX2 : numF X (r + (m + 1)) < 10 * M := by rw [hmm]; omega
              have w1 : IntKind.u64.wrap ((numF X (r + m) : Int) * 10) = ((numF X (r + (m + 1)) : Nat) : Int) := by rw [IntKind.wrap_u64, hmm]; omega
              have m5 := m3 hm4
              have hX3 : 0 < numF X (r + (m + 1)) := by rw [hmm]; omega
              have hX4 : Hid (numF X (r + (m + 1)) < M → M ≤ numF X (r + (m + 1)) + (gk - 1)) := fun _ => by rw [hmm]; omega
              clear m3 hq20 hmm
              go_wp2_with fail
              go_roundg (gk - 1)
              case measure => omega
              case rel => exact ⟨m + 1, by go_num, rfl, hX2, hX3, hX4.out, rfl⟩
            · have hX1 := hXs.out
              have hq2b : 1 ≤ numF X (r + m) / M := (Nat.le_div_iff_mul_le hM1).2 (by omega)
              have q1 : ((((numF X (r + m) / M : Nat) : Int)) == 0) = false := by simp; omega
              generalize numF X (r + m) / M = q at *
              go_wp2_with fail
              go_meet
              exact ⟨r + m, rfl, by omega, rfl, by omega, m1, rfl⟩
      · have hX1 := hXs.out hnM
        have hq2b : 1 ≤ numF X r / M := (Nat.le_div_iff_mul_le hM1).2 (by omega)
        have q1 : ((((numF X r / M : Nat) : Int)) == 0) = false := by simp; omega
        generalize numF X r / M = q at *
        go_wp2_with fail
        go_meet
        exact ⟨r, rfl, hX1, rfl, by omega, hlt, rfl⟩
  case rest =>
    obtain ⟨r0, rfl, hr1, rfl, hM2, hM3, rfl⟩ := hcut
    have hD0 := h.out
    have cP := hD0.p
    have fP := hD0.f 801
    have hr20 := hb20.out r0 hM3
    have hRs := Lib.hid (hst.out C r0 hM2 hM3)
    have wdp : dp - ((r0 : Int) - 1) = (dp - ((r0 : Int) - 1)) := rfl
    have b1 := hd1.out
    have b2 := hd2.out
    have hD1 := Lib.hid (hD0.setP (dp - ((r0 : Int) - 1)))
    have hB1 := Lib.hid ((Below.refl b wc).setCell (p := ⟨b, 801, none⟩) (Nat.le_refl _) (.int .i64 (dp - ((r0 : Int) - 1))))
    clear wdp
    clear hD0 cN h
    have hdpx : Hid (dp - ((r0 : Int) - 1) = dp - ((r0 : Int) - 1)) := rfl
    generalize hdp1 : dp - ((r0 : Int) - 1) = dp1 at *
    replace hdp1 := Lib.hid hdp1
    replace hRs := hRs.out
    have hlt0 := Lib.hid hM3
    generalize hn0 : numF X r0 = n0 at *
    replace hn0 := Lib.hid hn0
    have hM2 := Lib.hid hM2
    go_wp2_with fail
    clear cP fP
    go_loopg [4, 5, 6] (nd - r0) (fun g v4 v5 v6 wr => ∃ (v n O : Nat) (C' : Nat → Nat), (r0 + v) + g = max r0 nd ∧ v4 = .int .i64 ((r0 + v : Nat) : Int) ∧ v5 = .int .i64 (v : Int) ∧ v6 = .int .u64 (n : Int) ∧ RsI C nd M r0 tr v n C' v tr O ∧ (∀ j, r0 + v ≤ j → j < nd → C' j = C j) ∧ Dec b C' nd dp1 tr wr ∧ Below b wc wr)
    case atStart => exact ⟨0, n0, 0, C, by omega, rfl, rfl, rfl, hRs, fun j _ _ => rfl, by rw [hdp1.out]; exact hD1.out, by rw [hdp1.out]; exact hB1.out⟩
    case round =>
      obtain ⟨v, n, O, C', hg, rfl, rfl, rfl, hI, hsame, hD, hB⟩ := hrel
      have hnlt := hI.lt
      have hq := hsh.out n _ rfl
      have hcN := hD.n
      by_cases hrn : r0 + v < nd
      · have hv8 : v < 800 := by omega
        obtain ⟨hI2, hq10, hmM⟩ := hsA.out r0 C' v n v O tr hI hv8
        have hX1 := hExt.out (r0 + v) hrn
        rw [hX1] at hI2
        have hcC := hD.c (r0 + v) (by omega)
        rw [hsame (r0 + v) (by omega) hrn] at hcC
        have hcd := d3.out (r0 + v) hrn
        have hcV := hD.c v (by omega)
        have hfV := hD.f v
        have han := hand.out n (by omega)
        have hD2 := hD.setC (v := n / M + 48) (i := v) hv8 (by generalize n / M = q at *; omega)
        have hB2 := hB.setCell (p := ⟨b, v, none⟩) (Nat.le_refl _) (.int .u8 ((n / M + 48 : Nat) : Int))
        have hcC2 : (wr.setCell ⟨b, v, none⟩ (.int .u8 ((n / M + 48 : Nat) : Int))).cell? ⟨b, r0 + v, none⟩ = some (.int .u8 (C (r0 + v) : Int)) := (set_otherG (by omega)).trans hcC
        have hsame2 : Hid (∀ j, r0 + (v + 1) ≤ j → j < nd → upd C' v (n / M + 48) j = C j) := fun j a c => by rw [upd_other C' _ (by omega)]; exact hsame j (by omega) c
        clear hX1 hsame hI
        generalize n / M = q at *
        generalize n % M = z at *
        have w0 : IntKind.u64.wrap (C (r0 + v) : Int) = (C (r0 + v) : Int) := by rw [IntKind.wrap_u64]; omega
        have w1 : IntKind.u64.wrap ((z : Int) * 10) = (z : Int) * 10 := by rw [IntKind.wrap_u64]; omega
        have w2 : IntKind.u64.wrap ((z : Int) * 10 + (C (r0 + v) : Int)) = (z : Int) * 10 + (C (r0 + v) : Int) := by rw [IntKind.wrap_u64]; omega
        have w3 : IntKind.u64.wrap ((z : Int) * 10 + (C (r0 + v) : Int) - 48) = ((z * 10 + (C (r0 + v) - 48) : Nat) : Int) := by rw [IntKind.wrap_u64]; omega
        have w4 : IntKind.u64.wrap ((q : Int) + 48) = ((q + 48 : Nat) : Int) := by rw [IntKind.wrap_u64]; omega
        have w5 : IntKind.u8.wrap ((q + 48 : Nat) : Int) = ((q + 48 : Nat) : Int) := by rw [IntKind.wrap_u8]; omega
        have hvI : (v : Int) < 800 := by omega
        rw [show ((q + 48 : Nat) : Int) = (q : Int) + 48 by omega] at hD2 hB2 hcC2
        replace hI2 := Lib.hid hI2
        replace hD2 := Lib.hid hD2
        replace hB2 := Lib.hid hB2
        replace hD := Lib.hid hD
        replace hB := Lib.hid hB
        go_wp2_with fail
        go_roundg (gk - 1)
        case measure => omega
        case rel => exact ⟨v + 1, z * 10 + (C (r0 + v) - 48), O * 10 + q, _, by omega, by go_num, by go_num, by go_num, hI2.out, hsame2.out, hD2.out, hB2.out⟩
      · have hrI : ¬ ((r0 : Int) + (v : Int)) < (nd : Int) := by omega
        have hn1 := Lib.hid (show 1 ≤ v ∨ 0 < n from by
          rcases hI.hd with ⟨_, a⟩ | ⟨a, _⟩
          · exact .inr (by omega)
          · exact .inl a)
        have hvb : v ≤ nd := by omega
        have hI := Lib.hid hI
        have hD := Lib.hid hD
        have hB := Lib.hid hB
        clear hq hsame hnlt
        go_wp2_with fail
        clear hcN
        go_loopg [5, 6] (k + 1) (fun g v5 v6 wr2 => ∃ (v' n' w' O' j : Nat) (tr' : Bool) (C2 : Nat → Nat), j + g = k + 1 ∧ 2 ^ j ∣ n' ∧ (j = k + 1 → n' = 0) ∧ (1 ≤ v' ∨ 0 < n') ∧ v' + g ≤ nd + k + 1 ∧ nd ≤ r0 + v' ∧ v5 = .int .i64 (w' : Int) ∧ v6 = .int .u64 (n' : Int) ∧ RsI C nd M r0 tr v' n' C2 w' tr' O' ∧ Dec b C2 nd dp1 tr' wr2 ∧ Below b wc wr2)
        case atStart => exact ⟨v, n, v, O, 0, tr, C', by omega, ⟨n, by simp⟩, fun e => by omega, hn1.out, by omega, by omega, rfl, rfl, hI.out, hD.out, hB.out⟩
        case round =>
          obtain ⟨v', n', w', O', j, tr', C2, hj, hdj, hjz, hvn, hvk, hnv, rfl, rfl, hI, hD, hB⟩ := hrel
          have hnlt := hI.lt
          have hwv := hI.wv
          have hq := hsh.out n' _ rfl
          have hX1 := hExt2.out (r0 + v') hnv
          by_cases hn' : 0 < n'
          · have hjk : j ≤ k := by
              rcases Nat.lt_or_ge k j with g | g
              · have := hjz (by omega); omega
              · exact g
            obtain ⟨hd1', hd2'⟩ := hdv.out j n' hjk hdj
            have han := hand.out n' (by omega)
            have hd2'' := Lib.hid (fun (e : j + 1 = k + 1) => hd2' (by omega))
            clear hd2' hjz
            by_cases hw8 : w' < 800
            · obtain ⟨hI2, hq10, hmM⟩ := hsA.out r0 C2 v' n' w' O' tr' hI hw8
              rw [hX1, Nat.sub_self, Nat.add_zero] at hI2
              have hcV := hD.c w' hw8
              have hfV := hD.f w'
              have hD2 := hD.setC (v := n' / M + 48) (i := w') hw8 (by generalize n' / M = q at *; omega)
              have hB2 := hB.setCell (p := ⟨b, w', none⟩) (Nat.le_refl _) (.int .u8 ((n' / M + 48 : Nat) : Int))
              generalize n' / M = q at *
              generalize n' % M = z at *
              have w1 : IntKind.u64.wrap ((z : Int) * 10) = ((z * 10 : Nat) : Int) := by rw [IntKind.wrap_u64]; omega
              have w4 : IntKind.u64.wrap ((q : Int) + 48) = ((q + 48 : Nat) : Int) := by rw [IntKind.wrap_u64]; omega
              have w5 : IntKind.u8.wrap ((q + 48 : Nat) : Int) = ((q + 48 : Nat) : Int) := by rw [IntKind.wrap_u8]; omega
              have hvI : (w' : Int) < 800 := by omega
              rw [show ((q + 48 : Nat) : Int) = (q : Int) + 48 by omega] at hD2 hB2
              replace hI2 := Lib.hid hI2
              replace hD2 := Lib.hid hD2
              replace hB2 := Lib.hid hB2
              replace hD := Lib.hid hD
              replace hB := Lib.hid hB
              replace hwv := Lib.hid hwv
              replace hdj := Lib.hid hdj
              replace hd1' := Lib.hid hd1'
              clear hI hX1
              go_wp2_with fail
              go_roundg (gk - 1)
              case measure => omega
              case rel => exact ⟨v' + 1, z * 10, w' + 1, O' * 10 + q, j + 1, tr', _, by omega, hd1'.out, hd2''.out, .inl (by omega), by omega, by omega, by go_num, by go_num, hI2.out, hD2.out, hB2.out⟩
            · obtain ⟨hI2, hq10, hmM⟩ := hsB.out r0 C2 v' n' w' O' tr' hI hw8
              rw [hX1, Nat.sub_self, Nat.add_zero] at hI2
              have hcT := hD.t
              have hfT := hD.f 803
              have hvI : ¬ (w' : Int) < 800 := by omega
              generalize n' / M = q at *
              generalize n' % M = z at *
              have w1 : IntKind.u64.wrap ((z : Int) * 10) = ((z * 10 : Nat) : Int) := by rw [IntKind.wrap_u64]; omega
              replace hdj := Lib.hid hdj
              replace hd1' := Lib.hid hd1'
              replace hwv := Lib.hid hwv
              clear hI hX1
              by_cases hq0 : 0 < q
              · have hD2 := hD.setT true
                have hB2 := hB.setCell (p := ⟨b, 803, none⟩) (Nat.le_refl _) (.bool true)
                rw [show (tr' || decide (0 < q)) = true by simp [hq0]] at hI2
                replace hI2 := Lib.hid hI2
                replace hD2 := Lib.hid hD2
                replace hB2 := Lib.hid hB2
                replace hD := Lib.hid hD
                replace hB := Lib.hid hB
                go_wp2_with fail
                go_roundg (gk - 1)
                case measure => omega
                case rel => exact ⟨v' + 1, z * 10, w', O' * 10 + q, j + 1, true, _, by omega, hd1'.out, hd2''.out, .inl (by omega), by omega, by omega, rfl, by go_num, hI2.out, hD2.out, hB2.out⟩
              · rw [show (tr' || decide (0 < q)) = tr' by simp [hq0]] at hI2
                replace hI2 := Lib.hid hI2
                replace hD := Lib.hid hD
                replace hB := Lib.hid hB
                obtain rfl : q = 0 := by omega
                go_wp2_with fail
                go_roundg (gk - 1)
                case measure => omega
                case rel => exact ⟨v' + 1, z * 10, w', _, j + 1, tr', _, by omega, hd1'.out, hd2''.out, .inl (by omega), by omega, by omega, rfl, by go_num, hI2.out, hD.out, hB.out⟩
          · obtain rfl : n' = 0 := by omega
            obtain ⟨f1, f2, f3, f4, f5, f6⟩ := hfin.out C2 r0 v' w' O' tr' hI hr1 hnv (by omega) ⟨d1, d2⟩ b1 b2 (by omega) (by have := hk.out; omega)
            rw [hdp1.out] at f5 f6
            have hcN := hD.n
            have hfN := hD.f 800
            have hD2 := hD.setN w'
            have hB2 := hB.setCell (p := ⟨b, 800, none⟩) (Nat.le_refl _) (.int .i64 (w' : Int))
            have hT := Lib.hid (c_trim b C2 w' dp1 tr' f1 f2 (by omega) _ hD2)
            have hdpb := hdp1.out
            have hfr := Lib.hid (show dp - 100 ≤ dp1 ∧ dp1 ≤ dp ∧ -500 ≤ dp1 by omega)
            replace f4 := Lib.hid f4
            replace f5 := Lib.hid f5
            replace f6 := Lib.hid f6
            clear hdpb hI hq hX1 hwv hdj hjz hD hB hD2
            go_wp2_with fail
            refine hT.out.mono ?_
            rintro e w9 ⟨rfl, n, t1, t2, t3, t4, t5, t6⟩
            go_wp2_with fail
            go_end0
            obtain ⟨g1, g2, g3⟩ := hfr.out
            have ht := tOf_trim (C := C2) (dp := dp1) t2 t4 g3 f2
            exact ⟨rfl, C2, n, dp1, tr', ⟨t1, by omega, f4.out.mono t2, f3⟩, t3, t5, hB2.trans t6, g1, g2, by rw [ht]; exact f5.out, by rw [ht]; exact f6.out⟩
end Go.Proofs.YtbakbikilbaafaaGreatDoor
namespace Go.Proofs.YtbakbikilbaafaaGreatDoor
open Go.RowKit F64 Ieee
set_option linter.unusedVariables false
set_option maxHeartbeats 4000000
set_option maxRecDepth 100000

/-- the row k of the library's table of left shifts: how many digits more, and from which fraction on -/
structure Cheat (k d l : Nat) (L : List Nat) : Prop where
  row : Pinned.cheatRows[k]? = some (d, L.map UInt8.ofNat)
  len : L.length = l
  dl : l + d = k + 1
  d1 : 1 ≤ d
  dig : ∀ c ∈ L, 48 ≤ c ∧ c ≤ 57
  last : ∀ h : L ≠ [], L.getLast h ≠ 48
  num : numL L = 5 ^ k
  lo : 10 ^ (l - 1) ≤ 5 ^ k
  hi : 5 ^ k < 10 ^ l
  l1 : 1 ≤ l
  l2 : l ≤ 100
  d2 : d ≤ 20
def cheatB (k : Nat) : Bool :=
  match Pinned.cheatRows[k]? with
  | none => false
  | some x =>
    let L := x.2.map UInt8.toNat
    let d := x.1
    (decide (x.2 = L.map UInt8.ofNat) && (decide (L.length + d = k + 1) && (decide (1 ≤ d) && (L.all (fun c => decide (48 ≤ c) && decide (c ≤ 57)) && (decide (L.getLastD 0 ≠ 48) && (decide (numL L = 5 ^ k) && (decide (10 ^ (L.length - 1) ≤ 5 ^ k) && (decide (5 ^ k < 10 ^ L.length) && (decide (1 ≤ L.length) && (decide (L.length ≤ 100) && decide (d ≤ 20)))))))))))
theorem cheat_all : ∀ k : Fin 60, cheatB (k.val + 1) = true := by decide +kernel
theorem cheat_ex {k : Nat} (h : 1 ≤ k ∧ k ≤ 60) : ∃ d l L, Cheat k d l L := by
  have hA := cheat_all ⟨k - 1, by omega⟩
  simp only [show k - 1 + 1 = k by omega] at hA
  unfold cheatB at hA
  cases hx : Pinned.cheatRows[k]? with
  | none => rw [hx] at hA; cases hA
  | some x =>
    rw [hx] at hA
    simp only [Bool.and_eq_true, decide_eq_true_eq, List.all_eq_true] at hA
    obtain ⟨a2, a3, a4, a5, a6, a7, a8, a9, a10, a11, a12⟩ := hA
    refine ⟨x.1, (x.2.map UInt8.toNat).length, x.2.map UInt8.toNat, ⟨by rw [hx, ← a2], rfl, a3, a4, a5, fun h => ?_, a7, a8, a9, a10, a11, a12⟩⟩
    rw [List.getLastD_eq_getLast?, List.getLast?_eq_some_getLast h] at a6
    simpa using a6
/-- how many digits more there are -/
def dlt (p : Bool) (d : Nat) : Nat := if p then d - 1 else d
theorem cheat_delta {k d l nd : Nat} {L : List Nat} {C : Nat → Nat} (h : Cheat k d l L) (hn : 1 ≤ nd) (hC : DigOK C nd) (h0 : 49 ≤ C 0) :
    numF C nd * 2 ^ k < 10 ^ (nd + dlt (preLt C nd L 0) d) ∧ 10 ^ (nd + dlt (preLt C nd L 0) d - 1) ≤ numF C nd * 2 ^ k := by
  obtain ⟨h1, h2, h3, h4, h5, h6, h7, h8, h9, h10, _, _⟩ := h
  have hp := preLt_num C nd hC L 0 h5 h6 (Nat.zero_le _)
  rw [Nat.sub_zero, numF_congr (C' := C) (fun i _ => by rw [Nat.zero_add]), h2, h7] at hp
  have hlt := numF_lt hC
  obtain ⟨m, rfl⟩ : ∃ m, nd = m + 1 := ⟨nd - 1, by omega⟩
  have hge := numF_ge h0 m
  have e10 : (10 : Nat) ^ k = 5 ^ k * 2 ^ k := by rw [← Nat.mul_pow]
  have p2 : 0 < 2 ^ k := Nat.two_pow_pos k
  have pl : 0 < 10 ^ l := Nat.pow_pos (by decide)
  unfold dlt
  by_cases hb : preLt C (m + 1) L 0 = true
  · rw [if_pos hb]
    have hx := hp.1 hb
    constructor
    · refine Nat.lt_of_mul_lt_mul_right (a := 10 ^ l) ?_
      rw [← Nat.pow_add, show m + 1 + (d - 1) + l = k + (m + 1) by omega, Nat.pow_add, e10]
      have := Nat.mul_lt_mul_of_pos_right hx p2
      calc numF C (m + 1) * 2 ^ k * 10 ^ l = numF C (m + 1) * 10 ^ l * 2 ^ k := by ac_rfl
        _ < 5 ^ k * 10 ^ (m + 1) * 2 ^ k := this
        _ = 5 ^ k * 2 ^ k * 10 ^ (m + 1) := by ac_rfl
    · have hd : 10 ^ (d - 1) ≤ 2 ^ k := by
        refine Nat.le_of_mul_le_mul_right (c := 10 ^ l) ?_ pl
        rw [← Nat.pow_add, show d - 1 + l = k by omega, e10, Nat.mul_comm]
        exact Nat.mul_le_mul_left _ (Nat.le_of_lt h9)
      rw [show m + 1 + (d - 1) - 1 = m + (d - 1) by omega, Nat.pow_add]
      exact Nat.mul_le_mul hge hd
  · rw [if_neg hb]
    have hx : 5 ^ k * 10 ^ (m + 1) ≤ numF C (m + 1) * 10 ^ l := by
      rcases Nat.lt_or_ge (numF C (m + 1) * 10 ^ l) (5 ^ k * 10 ^ (m + 1)) with g | g
      · exact absurd (hp.2 g) hb
      · exact g
    constructor
    · have hd : 2 ^ k ≤ 10 ^ d := by
        have p5 : 0 < 10 ^ (l - 1) := Nat.pow_pos (by decide)
        refine Nat.le_of_mul_le_mul_right (c := 10 ^ (l - 1)) ?_ p5
        rw [← Nat.pow_add, show d + (l - 1) = k by omega, e10, Nat.mul_comm]
        exact Nat.mul_le_mul_right _ h8
      rw [Nat.pow_add]
      exact Nat.mul_lt_mul_of_lt_of_le hlt hd (Nat.pow_pos (by decide))
    · refine Nat.le_of_mul_le_mul_right (c := 10 ^ l) ?_ pl
      rw [← Nat.pow_add, show m + 1 + d - 1 + l = k + (m + 1) by omega, Nat.pow_add, e10]
      have := Nat.mul_le_mul_right (2 ^ k) hx
      calc 5 ^ k * 2 ^ k * 10 ^ (m + 1) = 5 ^ k * 10 ^ (m + 1) * 2 ^ k := by ac_rfl
        _ ≤ numF C (m + 1) * 10 ^ l * 2 ^ k := this
        _ = _ := by ac_rfl
/-- how far the digits of a number Y M are told, from behind: s of m digits R, n left -/
structure LsI (M m : Nat) (tr : Bool) (Y s n : Nat) (C' : Nat → Nat) (tr' : Bool) (R : Nat) : Prop where
  eq : n * 10 ^ s + R = Y * M
  rl : R < 10 ^ s
  num : numF (fun i => C' (m - s + i)) (min m 800 - (m - s)) = R / 10 ^ (m - min m 800)
  t : tr' = (tr || decide (R % 10 ^ (m - min m 800) ≠ 0))
  dig : ∀ i, m - s ≤ i → i < min m 800 → 48 ≤ C' i ∧ C' i ≤ 57
theorem LsI.start (M m : Nat) (tr : Bool) (C' : Nat → Nat) : LsI M m tr 0 0 0 C' tr 0 :=
  ⟨by simp, by simp, by rw [show min m 800 - (m - 0) = 0 by omega]; simp [numF], by simp, fun i a b => by omega⟩
theorem LsI.stepA {M m Y Y' s n N R : Nat} {C' : Nat → Nat} {tr tr' : Bool} (h : LsI M m tr Y s n C' tr' R) (hs : s < m) (hw : m - s - 1 < 800) (he : N * 10 ^ s + R = Y' * M) :
    LsI M m tr Y' (s + 1) (N / 10) (upd C' (m - s - 1) (N % 10 + 48)) tr' (R + N % 10 * 10 ^ s) := by
  obtain ⟨h1, h2, h3, h4, h5⟩ := h
  have hdm := Nat.div_add_mod N 10
  have hm10 := Nat.mod_lt N (show 10 > 0 by decide)
  generalize N / 10 = q at *
  generalize N % 10 = z at *
  have hps : 10 ^ (s + 1) = 10 * 10 ^ s := by rw [Nat.pow_succ, Nat.mul_comm]
  obtain ⟨D, hD⟩ : ∃ D, m - min m 800 = D := ⟨_, rfl⟩
  rw [hD] at h3 h4
  obtain ⟨f, hf⟩ : ∃ f, s = D + f := ⟨s - D, by omega⟩
  have hzs : z * 10 ^ s = z * 10 ^ f * 10 ^ D := by rw [hf, Nat.pow_add]; ac_rfl
  have hpD : 0 < 10 ^ D := Nat.pow_pos (by decide)
  refine ⟨?_, ?_, ?_, ?_, ?_⟩
  · rw [← he, hps, ← hdm]
    have : (10 * q + z) * 10 ^ s = q * (10 * 10 ^ s) + z * 10 ^ s := by rw [Nat.add_mul]; congr 1; ac_rfl
    omega
  · rw [hps]
    have := Nat.mul_le_mul_right (10 ^ s) (show z ≤ 9 by omega)
    omega
  · have e1 : min m 800 - (m - (s + 1)) = (min m 800 - (m - s)) + 1 := by omega
    have e2 : m - (s + 1) = m - s - 1 := by omega
    rw [hD, e1, e2, numF_cons, upd_same, numF_congr (C' := fun i => C' (m - s + i)) (fun i hi => by
      show upd C' _ _ (m - s - 1 + 1 + i) = C' (m - s + i)
      rw [upd_other C' _ (by omega)]; congr 1; omega), h3, hzs, Nat.add_mul_div_right _ _ hpD]
    rw [show min m 800 - (m - s) = f by omega, Nat.add_sub_cancel]
    omega
  · rw [hD, h4, hzs, Nat.add_mul_mod_self_right]
  · intro i a b
    rcases Nat.lt_or_ge i (m - s) with g | g
    · rw [show i = m - s - 1 by omega, upd_same]; omega
    · rw [upd_other C' _ (by omega)]; exact h5 i g b
theorem LsI.stepB {M m Y Y' s n N R : Nat} {C' : Nat → Nat} {tr tr' : Bool} (h : LsI M m tr Y s n C' tr' R) (hs : s < m) (hw : ¬ m - s - 1 < 800) (he : N * 10 ^ s + R = Y' * M) :
    LsI M m tr Y' (s + 1) (N / 10) C' (tr' || decide (N % 10 ≠ 0)) (R + N % 10 * 10 ^ s) := by
  obtain ⟨h1, h2, h3, h4, h5⟩ := h
  have hdm := Nat.div_add_mod N 10
  have hm10 := Nat.mod_lt N (show 10 > 0 by decide)
  generalize N / 10 = q at *
  generalize N % 10 = z at *
  have hps : 10 ^ (s + 1) = 10 * 10 ^ s := by rw [Nat.pow_succ, Nat.mul_comm]
  obtain ⟨D, hD⟩ : ∃ D, m - min m 800 = D := ⟨_, rfl⟩
  rw [hD] at h3 h4
  have hsD : s + 1 ≤ D := by omega
  have hR2 : R + z * 10 ^ s < 10 ^ (s + 1) := by
    rw [hps]
    have := Nat.mul_le_mul_right (10 ^ s) (show z ≤ 9 by omega)
    omega
  have hR3 : R + z * 10 ^ s < 10 ^ D := Nat.lt_of_lt_of_le hR2 (Nat.pow_le_pow_right (by decide) hsD)
  have hps0 : 0 < 10 ^ s := Nat.pow_pos (by decide)
  refine ⟨?_, hR2, ?_, ?_, ?_⟩
  · rw [← he, hps, ← hdm]
    have : (10 * q + z) * 10 ^ s = q * (10 * 10 ^ s) + z * 10 ^ s := by rw [Nat.add_mul]; congr 1; ac_rfl
    omega
  · rw [hD, Nat.div_eq_of_lt hR3, show min m 800 - (m - (s + 1)) = 0 by omega, numF_zero]
  · rw [hD, h4, Nat.mod_eq_of_lt hR3, Nat.mod_eq_of_lt (by omega : R < 10 ^ D), Bool.or_assoc]
    congr 1
    rw [← Bool.decide_or]
    apply decide_eq_decide.2
    rcases Nat.eq_zero_or_pos z with g | g
    · subst g; simp
    · have := Nat.mul_le_mul_right (10 ^ s) (show 1 ≤ z by omega)
      omega
  · intro i a b; omega
theorem numF_hd {C : Nat → Nat} : ∀ {n : Nat}, DigOK C (n + 1) → 10 ^ n ≤ numF C (n + 1) → 49 ≤ C 0
  | 0, h, hge => by
    have := h 0 (by omega)
    rw [numF_succ, numF_zero] at hge
    omega
  | n + 1, h, hge => by
    refine numF_hd (n := n) (h.mono (by omega)) ?_
    have := h (n + 1) (by omega)
    rw [numF_succ, Nat.pow_succ] at hge
    omega
theorem LsI.fin {C C' : Nat → Nat} {k m nd dl R : Nat} {tr tr' : Bool} {dp : Int} (h : LsI (2 ^ k) m tr (numF C nd) m 0 C' tr' R) (hm : m = nd + dl) (hnd : 1 ≤ nd ∧ nd ≤ 800) (hlo : 10 ^ (m - 1) ≤ numF C nd * 2 ^ k) (hd : -500 ≤ dp) (hd2 : dp ≤ 700) :
    49 ≤ C' 0 ∧ DigOK C' (min m 800) ∧ tOf C' (min m 800) (dp + dl) = tOf C nd dp * 2 ^ k / 10 ^ (dp + dl + 500).toNat * 10 ^ (dp + dl + 500).toNat ∧
      tr' = (tr || decide (tOf C' (min m 800) (dp + dl) ≠ tOf C nd dp * 2 ^ k)) := by
  obtain ⟨e1, e2, e3, e4, e5⟩ := h
  rw [Nat.zero_mul, Nat.zero_add] at e1
  rw [Nat.sub_self, Nat.sub_zero, numF_congr (C' := C') (fun i _ => by rw [Nat.zero_add])] at e3
  have hdig : DigOK C' (min m 800) := fun i hi => e5 i (by omega) hi
  obtain ⟨D, hD⟩ : ∃ D, m - min m 800 = D := ⟨_, rfl⟩
  rw [hD] at e3 e4
  have hpD : 0 < 10 ^ D := Nat.pow_pos (by decide)
  rw [← e1] at hlo
  have h49 : 49 ≤ C' 0 := by
    obtain ⟨j, hj⟩ : ∃ j, min m 800 = j + 1 := ⟨min m 800 - 1, by omega⟩
    rw [hj] at hdig e3
    refine numF_hd hdig ?_
    rw [e3, Nat.le_div_iff_mul_le hpD, ← Nat.pow_add, show j + D = m - 1 by omega]
    exact hlo
  refine ⟨h49, hdig, ?_⟩
  obtain ⟨A, hA⟩ : ∃ A, (dp + (dl : Int) + 500).toNat = A := ⟨_, rfl⟩
  rw [hA]
  have hT : tOf C' (min m 800) (dp + dl) = R / 10 ^ D * 10 ^ (800 - min m 800) * 10 ^ A := by
    unfold tOf
    rw [e3, Nat.mul_assoc, ← Nat.pow_add]
    congr 2
    omega
  have hT0 : tOf C nd dp * 2 ^ k * 10 ^ D = R * 10 ^ (800 - min m 800) * 10 ^ A := by
    unfold tOf
    rw [e1]
    have : 10 ^ (dp - (nd : Int) + 1300).toNat * 10 ^ D = 10 ^ (800 - min m 800) * 10 ^ A := by
      rw [← Nat.pow_add, ← Nat.pow_add]; congr 1; omega
    calc numF C nd * 10 ^ (dp - (nd : Int) + 1300).toNat * 2 ^ k * 10 ^ D = numF C nd * 2 ^ k * (10 ^ (dp - (nd : Int) + 1300).toNat * 10 ^ D) := by ac_rfl
      _ = numF C nd * 2 ^ k * (10 ^ (800 - min m 800) * 10 ^ A) := by rw [this]
      _ = _ := by ac_rfl
  have hA0 : 0 < 10 ^ A := Nat.pow_pos (by decide)
  have hcase : 10 ^ D = 1 ∨ 10 ^ (800 - min m 800) = 1 := by
    rcases Nat.lt_or_ge m 800 with g | g
    · left; rw [show D = 0 by omega, Nat.pow_zero]
    · right; rw [show 800 - min m 800 = 0 by omega, Nat.pow_zero]
  constructor
  · rw [hT]
    congr 1
    generalize 10 ^ D = z at *
    generalize 10 ^ (800 - min m 800) = y at *
    generalize tOf C nd dp * 2 ^ k = T at *
    generalize 10 ^ A = Y at *
    rcases hcase with rfl | rfl
    · rw [Nat.div_one, Nat.mul_one] at *
      rw [hT0, Nat.mul_div_cancel _ hA0]
    · rw [Nat.mul_one] at *
      rw [← Nat.mul_div_mul_right T Y hpD, hT0, Nat.mul_comm Y z, Nat.mul_div_mul_right R z hA0]
  · rw [hT, e4]
    congr 1
    apply decide_eq_decide.2
    generalize 10 ^ D = z at *
    generalize 10 ^ (800 - min m 800) = y at *
    generalize tOf C nd dp * 2 ^ k = T at *
    generalize 10 ^ A = Y at *
    have hdm := Nat.div_add_mod R z
    refine not_congr ⟨fun h => ?_, fun h => ?_⟩
    · refine Nat.eq_of_mul_eq_mul_right hpD ?_
      rw [hT0]
      have hO : R = R / z * z := by rw [h, Nat.add_zero] at hdm; rw [Nat.mul_comm]; exact hdm.symm
      calc R / z * y * Y * z = R / z * z * y * Y := by ac_rfl
        _ = R * y * Y := by rw [← hO]
    · rw [← h] at hT0
      rcases hcase with rfl | rfl
      · exact Nat.mod_one R
      · have h2 : R / z * z * Y = R * Y := by
          calc R / z * z * Y = R / z * 1 * Y * z := by rw [Nat.mul_one]; ac_rfl
            _ = R * 1 * Y := hT0
            _ = R * Y := by rw [Nat.mul_one]
        have h3 := Nat.eq_of_mul_eq_mul_right hA0 h2
        rw [Nat.mul_comm] at h3
        omega
end Go.Proofs.YtbakbikilbaafaaGreatDoor
namespace Go.Proofs.YtbakbikilbaafaaGreatDoor
set_option linter.unusedVariables false
set_option maxHeartbeats 4000000
set_option maxRecDepth 100000

def certR : List (Int × Int) := [
  (-122695536682317688206, -240448052477079545207), (244402469187124210171, -3954416710044664964), (244402469187124210171, -45716960469389110063), (213808759537455012162, -259525720006844122225),
  (-168091799068065902099, -207620576005475297780), (209615914269160961655, -166096460804380238224), (208019643658212430555, 167692731415328769324), (83207857463284972222, 129919852149962757853),
  (-42625541922649546015, -332831429853139888888), (-17050216769059818406, -725338618397989142197), (104147203433854264265, 344696141020187075778), (20829440686770852853, -1399614004767519155965),
  (-83317762747083411412, 279922800953503831193), (10669650006965962891, -570515251913973625277), (-219670380760016679798, 131174490393940265681), (-61633254225218618783, 447248743463536387711),
  (-67959639780021041275, 314492656680895516407), (54367711824016833020, -396044224416920765937), (-43494169459213466416, -352550054957707299521), (-123622354199397533242, 235787854936552632285),
  (-47157570987310526457, -541646987784900659425), (-202644539531601184799, 216658795113960263770), (29317503440432973783, 375971575622769395815), (75194315124553879163, -42075698637178015969),
  (-111895764471850603467, -300777260498215516652), (-36343166061304638193, 338553559703488499289), (128152790669134472077, 328991913460878220540), (193951173361310116185, 124708815953917655938),
  (38790234672262023237, -266093855782098484330), (-155160938689048092948, 145227776985101416969), (219211946505456665323, 36992084760177624177), (-167971140252329807423, 130979055492152183246),
  (253956990499656642206, 36992084760177624177), (-159772611251829510159, -102580316764180002289), (-171211070149359411733, 296668304708599217170), (125457234559239805437, -349212052974518942035),
  (-69842410594903788407, 362144117047151644934), (69842410594903788407, 380771848073355052760), (-145996780209574798959, -266745724340080709338), (-145996780209574798959, -271795291555894487054),
  (-50319404538527875238, -367472667226941410775), (-270803004874692721703, -46350257813720813834), (35620497849450218807, 505985511899935224599), (35620497849450218807, -419036608659728267202),
  (-117745946474661000551, -377973884347122876330), (193340723344085575817, 302379107477698301064), (-142759319817801865475, -352960511003982011406), (-228414911708482984760, -95993735331938653551),
  (-182731929366786387808, 233042682357028444407), (-66732837667502511521, -265886851711549354251), (-186225246093930617159, -132421176376544331209), (175464432150453359969, -218507687924362388729),
  (-192681734460016971473, -34434604619127223008), (-255980586396372870859, 2785178650949273315), (257094657856752580185, -2228142920759418652), (205675726285402064148, -49190788650591097385),
  (-9838157730118219477, 812864747411490037115), (39352630920472877908, -334984056694714234323), (-118252570309696542566, -374336687615187112231), (102433646922196227866, -287721964080491199065),
  (-115088785632196479626, 352190194872686671651), (-277597853112490997657, -94840563696196076810), (277597853112490997657, -75872450956956861448), (-136209731484711854015, -293133023541692866538),
  (108967785187769483212, -265891077244750495735), (-162146000636719582359, 273725140114358350489), (117514344845664075107, 413555312855550179222), (235930732049618516753, -236832774407908883292),
  (94552701291505480009, 376406720449441186958), (-189105402583010960018, 244393755584649661561), (-26763409916274451695, -569077740918122678207), (21410727933019561356, -633309924717181362275),
  (-190894168742494956523, 210502514020833422198), (7843338111335386270, 401396682763328378721), (-6274670489068309016, 395122012274260069705), (72749731965783704925, -413946023741464996753),
  (-58199785572626963940, 413946023741464996753), (-46559828458101571152, -518705637772193531845), (-103741127554438706369, -61255245001496450109), (112238304065027157621, 414964510217754825476),
  (60545241230545533571, -691134181182290764768), (-121090482461091067142, -347053524761977797673), (-93628801444613772963, -390733128399750495605), (-93628801444613772963, -406215304164414169447),
  (206277661920802992483, -180917583212035730407), (128838612894235247905, 309756196106270978312), (-103070890315388198324, 283988473527423928731), (154823745537124850822, -26093837674910879585),
  (10437535069964351834, 634951284753445931039), (124902749936696315841, 83152609656838908505), (-266436021804760413383, 233174977942024849981), (113296151675026459267, -353053804209023240695),
  (-282443043367218592556, 27925370008582837011), (231539508695491441447, 27925370008582837011), (-98200877479913143981, 379302907365234371861), (41980471502848898405, 308842566913954779114),
  (8396094300569779681, 1260558550557528455499), (8396094300569779681, 2021931337472387396607), (-33584377202279118724, 451404395577668245535), (-123865256317812767831, 237258260144321828597),
  (-239352710642582570010, 128054157314334250657), (-191482168514066056008, -111298553328248319353), (-207518891551229603339, -143371999402575414015), (264867691312259768945, 35472492268139106521),
  (-211894153049807815156, -35472492268139106521), (176609820893474073429, 141137328625334966908), (-134193358261151437439, -197441731986024661836), (134193358261151437439, 271465360846864870336),
  (28070129382055085671, -296456845904357960549), (36835265675227523573, 740254754509626015390), (-259266636128622882583, -73670531350455047146), (-170294087947264738979, 185596104778167835437),
  (105236856134539462679, -415220998367262747721), (-1145285234179020599, 418656854069799809518), (167691798674755727927, -169982369143113769125), (-67992947657245507650, 301387123520888702029),
  (-108788716251592812240, -314985713052337803559), (-87030973001274249792, -336743456302656366007), (136973469661550673035, -336743456302656366007), (-27394693932310134607, -1543370505264225274562),
  (-109578775729240538428, 357984550131003297205), (-181175685755441197869, 75963731406079757974), (84169563479489151916, 341308980641010107759), (-85095708824099851935, 3704581378442800076),
  (68076567059279881548, 20723723143262770463), (-145623702901763185313, -253365130670712681758), (188720274009342983891, 102527131794183386735), (20505426358836677347, 754881096037371935564),
  (-20505426358836677347, 1162697815670354406739), (224337392590536210409, 82021705435346709388), (-4345544743100783551, 302013553282782136246), (-114721658672771757527, 246825496317946649258),
  (144618861996287362714, 157133886347399833697), (-89274322067994911825, -489201125917154539031), (-71419457654395929460, 603450099148730448397), (57135566123516743568, 760572905988401493209),
  (60697675400053508933, -289239939894120483205), (57847987978824096641, -774821343094548554669), (-57847987978824096641, -203351561028105347920), (-231391951915296386564, -132873651730851220339),
  (-19703660036889033245, 1792024635211703992777), (-15762928029511226596, -1681684139005125406605), (63051712118044906384, 415151467948581214301), (160818483803885859643, -221744060249415036905),
  (-249516107903651874405, 177395248199532029524), (-199612886322921499524, -27685583457340904881), (-245072580278973980405, 181838775824209923524), (-49014516055794796081, 211783339303343678562),
  (-49014516055794796081, -630163122367146026011), (196058064223179184324, -128842859016703734419), (-13443041041295089981, 1474363226496367844725), (294872645299273568945, -53772164165180359924),
  (-235898116239418855156, 112746693225035073713), (121070477056514039897, 346563863506584187323), (65983259168725250991, 308124213281753330785), (-61624842656350666157, -633682092613005000906),
  (-246499370625402664628, -128601187424172129811), (173619859860076024739, 291518043061306559556), (186055161168553033718, 117898183201230534817), (-121581337747913427414, 318685962556515138923),
  (-136685995160051084233, 60418629648550627276), (94095323025740775995, -452648657614463560937), (-75276258420592620796, -547735087731112173093), (10894995926725758655, -279315041828918965874),
  (-2178999185345151731, -1152124154281198291192), (-8715996741380606924, 461285461549548346823), (177541387226714853190, 283744074322833493633), (-142033109781371882552, 354760629213519434909),
  (156171991711527016513, -113111055441241071688), (-8612187254057188965, 607463592337993688122), (6889749803245751172, 612630904690428001501), (139061580465875403113, 362066742971660199963),
  (139061580465875403113, -317465710470503240593), (-142723304003702269984, -246104058468652105601), (246104058468652105601, -64957831509231394867), (-75203944297422979067, 307580735197801610801),
  (150407888594845958134, 258399393814482006641), (94876480850750820731, 327045825927462371820), (35941849520234127997, -595157020524408050906), (194932588785482266766, -169349993433209389377),
  (-150829551957931237935, 176412147310204115324), (30165910391586247587, -1152805204803198122303), (-60331820783172495174, 201695252553637519673), (-241327283132689980696, -136869963763803496213),
  (-234844754253706578350, 143352492642786898559), (-187875803402965262680, 143352492642786898559), (-150300642722372210144, -293653135365159108703), (148911012706455147827, -11117040127336498536),
  (-210698825814504506665, 174246399196811577978), (-84279530325801802666, -474912093882325859955), (73576641875138433341, 453506316980999121305), (-90701263396199824261, -294306567500553733364),
  (-90701263396199824261, -217305001321203021839), (-58200020905438510082, 333705043132080042003), (-20180991902065200335, -333705043132080042003), (-8072396760826080134, 679518681405399204207),
  (122987901463758112627, 310554977014124866326), (122987901463758112627, -322236722489554760637), (83138137258598783025, 325675331337834884458), (-133021019613758052840, -309047703886115127853),
  (-106416815691006442272, 282443499963363517285), (-56488699992672703457, -30246362815316844889), (225954799970690813828, -16546207434005712405), (216027075510287386385, -242501007404696526233),
  (-86410830204114954554, 528207429911450529743), (-71077153900644124127, -487797628617748066470), (248083795092910204922, -266196205347743350715), (194844554023361534779, -212956964278194680572),
  (166743089371589115299, 18112410254833145793), (63074753697669016961, 703197177996022752782), (126149507395338033922, 293893821937942904505), (67370743007749453021, -302485800558103776625),
  (-67370743007749453021, -551348023900715495621), (164166199186342661541, 223015625528030172539), (309745459771498267264, -145579260585155605723), (-94782331791568185761, -297970046965917865609),
  (-189564663583136371522, -62318619711426234787), (215013872357478398869, -113217037260110289481), (-215013872357478398869, 95141710673185103622), (100087800875406741947, 320047763435106779141),
  (-108001545198961363267, -416178692148736210428), (-104836047469539514739, 444668171713532847180), (-193769681812246084175, -31804826253665890606), (-38753936362449216835, -1134821650438343200134),
  (62006298179918746936, -584515754091564321077), (248025192719674987744, -30094333366426618505), (-266081792739530958847, 242006326046389664043), (280777404578411078930, 14695611838880120083),
  (266081792739530958847, 41459869076802095703), (81556795649731126117, 327590125102797569757), (-229176793321570992301, 64700259518235674778), (-124566024089295460425, -293877052839806667079),
  (-99652819271436368340, -443356281746961219589), (-79722255417149094672, -503147973309823040593), (122592720506052856963, -269999881819034186487), (-44074200041035448273, -314074081860069634760),
  (-251259265488055707808, -44074200041035448273), (-82874026178808103814, -549229917968778260255), (-192720009772563755865, -53943914829895096474), (154176007818051004692, 61688091033643157045),
  (117163153197865110465, -333027252049559272202), (-23432630639573022093, -1449272161396102199273), (-23432630639573022093, -1234402147163515430116), (-93730522558292088372, 310986339876736599721),
  (-199378953997328310586, 87771568117920021451), (177057476821446652759, 89285908703526631308), (-18160049857826648233, -496366671334293271668), (191282648590586649374, 131961424010946621153),
  (282323747913082627710, 40920324688450642817), (97385074271067168359, -354332922389865035977), (97385074271067168359, -341897382474532329797), (107333506203333333303, -361794246339064659685),
  (72358849267812931937, -569232652555414938676), (-70431220950395228573, -359866618021646956321), (43800835224171299835, -763534071267465212477), (17520334089668519934, -2379603422617622832449),
  (70081336358674079736, -542497954064264942239), (245031716169175608790, 17646814632760355077), (-80365871834909888439, -311684874035771085625), (62336974807154217125, 570811386568256422256),
  (24934789922861686850, -1727590336323762485487), (19947831938289349480, 1947016487644945329767), (-31916531101262959168, 1308685865619686146407), (-127666124405051836672, 363870072647978698619),
  (43415129535150010110, 320454943112828688509), (-69464207256240016176, 303088891298768684465), (-121235556519507473786, -285396033305796125899), (-161144795073954227635, 323797431004075667509),
  (128915836059163382108, -29213277302456421049), (71506846175006745055, -515663344236653528432), (-28602738470002698022, 1303052703938332688073), (123317396131653587109, 352139303891675171285),
  (-281711443113340137028, -17538325425016481405), (-3507665085003296281, 1098784451773334177864), (-3507665085003296281, -1770682717143346551194), (-3507665085003296281, 1398306315272660100294),
  (280362796071532679315, -14030660340013185124), (-266332135731519494191, 182248337982932792713), (-182248337982932792713, -285965043778388712438), (223735020301115160603, 140761655664750424823),
  (-240329693228388107759, -107572309810204530511), (-31588491405232524797, 309910093836106635413), (241610376787838803371, 31588491405232524797), (119695432948517262185, 363525320627160344557),
  (95756346358813809748, -315647147447753439683), (-227690827012177587709, -175912640871151703948), (-115903221750896199121, -331247199294229355231), (72834426242229567899, -317944034519125660686),
  (-78155692152271045717, 412063524401521139857), (156311384304542091434, 32659189342586938161), (-75588229458851611838, -274828653879658376949), (-85201022559472320125, -464456285199844433773),
  (-68160818047577856100, -328134649104688721573), (109057308876124569760, -178180849400017438153), (87245847100899655808, 287238158276142007913), (39998462235048470421, -388981850638647093653),
  (187591510043497613798, 121393416125052539013), (-26479237567378029914, -335464163735928182725), (-268371330988742546180, 227757735808934939549), (-94287861377556115867, -335106268204431958021),
  (209472796383817675902, 125633471820614282119), (-58662424189404213937, -544579064588249633923), (-61985873566126555635, 717242887779739934036), (24794349426450622254, -1645237745684310157231),
  (-99177397705802489016, -284417720169250911389), (-306876094300042720324, -121635771836594297951), (171404746454654807310, -185240322463448422373), (137123797163723845848, -356645068918103229683),
  (93219542812847969081, 444453577619854983217), (-93219542812847969081, 392850679221023174206), (-213071997376118051131, 186439085625695938162), (-261012979201426083951, -138498103800387905342),
  (30896266439947526415, 337718550121918936463), (12358506575979010566, -718691873259764409907), (175870491749498309453, -252872930891164534378), (-206671467406164799423, 61601951313332979940),
  (-182030686880831607447, 231312247931497991399), (75831386216699428651, 364061373761663214894), (75831386216699428651, -276082821765990686185), (186264514923095703125, 220866257412792548948),
  (37252902984619140625, 957970835620408477042), (-7450580596923828125, 2351502719356578363211), (-1490116119384765625, -28184454213913129859094), (-298023223876953125, -109838646933777519436376),
  (-59604644775390625, -225315847280370301975383), (-11920928955078125, -2724594959746786383682782), (-2384185791015625, -15567585251851830593324878), (-476837158203125, 86802004810682564668474024),
  (-95367431640625, -454492168745961307257880471), (19073486328125, 2265785085480671400906521884), (-3814697265625, -11143731103656803092017800072), (762939453125, -198723728982424007475497163),
  (152587890625, 135358978506502231888056285527), (30517578125, -1310442393414151285799030362341), (6103515625, 6151328508117002032606521839989), (-1220703125, 27284596019671965150567688922456),
  (-244140625, 14474973227996347326347907864023), (48828125, 90384773585497630339297881456092), (-9765625, -4366785649785659511353397971136868), (-1953125, 376058737948216413075907396048069),
  (390625, -107453009824539079705330170481067276), (-78125, -417684516571735311858863365951065979), (15625, -852548825914155101531345814617793457), (3125, 5257576968415148795071083169504742578),
  (625, -32191027180278232549911634292122819062), (-500, -71935975070018721262570945389992956499), (-400, -33975150519407272479490997075513579199), (-320, -52351133372452071296600015322724827839), (-512, 1), (-2048, -819),
  (-8192, -983), (32768, 1835), (262144, 33135), (1048576, -268771), (-4194304, 155961), (-33554432, 9258661), (-134217728, -48827937), (536870912, 97608595), (4294967296, -1054220105), (17179869184, -4505811317),
  (-68719476736, -7773109937), (549755813888, 25933168707), (2199023255552, -664893610407), (8796093022208, -1892197326523), (70368744177664, -18972965183553), (281474976710656, -46015839543309), (1125899906842624, 215976813459863),
  (9007199254740992, -4096435027325419), (36028797018963968, -2783592696431313), (-144115188075855872, 65408553173421405), (-1152921504606846976, -13081710634684281), (4611686018427387904, 2077875050419261413),
  (-18446744073709551616, 3182586621140285025), (147573952589676412928, 19083261397937608621), (239934976423069782409, -110425857512566086894), (-136327681294666825997, -239934976423069782409),
  (-110151372361655730329, 382806734950989382323), (-65001596091071168666, -317805138859918213657), (-242684360188807863127, -75120778671110350530), (-60096622936888280424, -302780983125696143551),
  (-157629940700662373961, -107714347598147956477), (-157629940700662373961, -149223454358783314766), (154267346163910750283, -315259881401324747922), (154267346163910750283, 288441525612644546279),
  (-238790487176186418738, -49651038436458127541), (-17967474373362407223, -324376474359369360725), (-241533705114133081357, -277468653860857895803), (137733233319134885925, 277468653860857895803),
  (-110186586655307908740, -277468653860857895803), (176298538648492653984, 321543288522981059299), (263445388573185697173, 116195799899590724252), (-75928237694555284285, 598212128125411082982),
  (60742590155644227428, 664926592388935175969), (157282354540044726165, 242970360622576909712), (-31456470908008945233, 1160620267938361310246), (-62259110684423957791, -313910877948495519655),
  (251128702358796415724, 62259110684423957791), (188451139750152341021, -250710250434576298812), (-62259110684423957791, -326425467874013328750), (-261140374299210663000, -3025982890378707959),
  (-208912299439368530400, 49202091969463424641), (-117927747582031399679, 334259679102989648640), (267407743282391718912, -82628059879762389505), (16525611975952477901, -1020054137201709441945),
  (33051223951904955802, 634261578025890296645), (93801091653273103527, 319807079114166030262), (90402394984357170694, 413608170767439133789), (129282310313232785238, 245445945125330734007),
  (-116163634812097948769, -299782604350850815396), (83189247832589752833, -450427186910095486087), (-23534039115947294951, -379825069562253601234), (-80671821735640179237, -215086795750622536577),
  (-80671821735640179237, 268875622683266244346), (161343643471280358474, -252759528197458820365), (50551905639491764073, 835781997014816991135), (101103811278983528146, 384864704445418560527),
  (238739038935457357139, -73062832754980601694), (132540964944381404356, -311801871690437958833), (213589316003139056171, -247917725260221557865), (-213589316003139056171, -15255135794961809879),
  (-244103070567797419502, 61024026154581983089), (85436422996202571183, 378357321297771679727), (7322325862592278999, 363712669572587121729), (-135233811621405658093, 299756926693180432182),
  (-212758779030263214127, 135233811621405658093), (278394072521335097776, -3963224639261890795), (1585289855704756318, -1130221833570240332443), (-220971439175792846271, 227312598598611871543),
  (46730751604286179363, 582135133164444230631), (-242200203586634928125, 55277197169490210673), (193760162869307942500, 55277197169490210673), (-155008130295446354000, 177234998273679320327),
  (248013008472714166400, 177234998273679320327), (198410406778171333120, -21175408504492012793), (-158728325422537066496, 100539571215760546041), (11637750841355304091, 1328015357587073052423),
  (270258171853956732121, 46551003365421216364), (-126723670087751179394, 223707168488535515757), (159569035110671545333, 222154571820558754303), (-159569035110671545333, 259705893846491079685),
  (-103882357538596431874, 371079248990641306603), (-136545264321286120445, 267196891452044874729), (-109236211457028896356, 397848518582803629013), (123264188299372284345, -313680657528743301079),
  (-49305675319748913738, -849236853996356713979), (-189569640927170908291, 204875761630820401613), (233606017394064887278, 28730255763244485665), (11492102305297794266, -472958085940778671689),
  (85397935343917498925, -518926495161969848753), (-68318348275133999140, 484767321024402849183), (-54654678620107199312, -566749338954563648151), (25902381998741210731, -514944574957081226689),
  (-190436400783587764237, 242241164781070185699), (190436400783587764237, -269967492138291254254), (101712153240480344861, -380872801567175528474), (-96516990961531174667, -213814631038859030110),
  (53754064753759368645, 386067963846124698668), (-86006503606014989832, -289310647289357835107), (207988989816020696997, -162643314946674276220), (175460326826685841753, 130114651957339420976),
  (219621527165892294259, 85953451618132968470), (-254002907813145481647, 185240146518639106871), (-138649192428986014033, 45467284249679828357), (-8643988913946659879, 285942373771918687945),
  (114376949508767475178, -383031345452792843365), (-37770680418208906505, 344195756780443181197), (-30216544334567125204, 329087484613159618595), (35600952588064798515, 419737117616860994207),
  (7120190517612959703, -1935275329101510526136), (-14240381035225919406, 804014931814578641207), (-155106833948825360479, -196290619615843365710), (194364957871994033621, -231697420051313374674),
  (-194364957871994033621, -146484944466651893015), (29296988893330378603, -1261949774042648482938), (-117187955573321514412, 246530557029863620867), (194793516447246778285, 286112951729259871406),
  (77917406578898711314, 219102808213687962371), (-96430770199280087891, -311669626315594845256), (-43047771223262951473, -644009708136698060402), (231775220520721453277, -172191084893051805892),
  (207941566269653594323, -47667308502135717908), (-64109703107007150566, 383828280985803613363), (-76599668665912864666, 371338315426897899263), (238122922989321312491, -181507199217657590385),
  (-36301439843531518077, -1061396011487879804195), (-5529436763613147623, 284882081984638996993), (-229011552940433827119, 223482116176820679496), (48014085293532024473, -410009020587335629765),
  (279993131176336479339, 96028170587064048946), (-20823910234383943289, 300817041410720422628), (124491598611164957709, 331826975364726986549), (-90372559027740405, -331826975364726986549),
  (-18074511805548081, -1327416348529741234682), (265530263436642671947, 72298047222192324), (159332617671430041633, 212250695435980875980), (-201782756758626216829, 169800556348784700784),
  (-12792880163936606418, 397169073435284130449), (-84550966752631468657, -540685246612673854927), (169101933505262937314, -111254523630139503045), (146851028779235036705, 235854647683346639141),
  (-117480823023388029364, 353335470706734668505), (-93627457764082191326, -329482105447428830467), (-178963771715640860015, 113781751935411558252), (-71585508686256344006, -452498828648612151553),
  (-238793574227056752117, -95096921035937247814), (9299437776150998265, -324591057486843001666), (-3719775110460399306, 654761777639376602291), (-119049075174402042679, -267856351232487279806),
  (-154762170562755728994, -5954894504670491867), (63095847126036389971, -429761140872913746063), (-111190567024997305201, 282385642958296509366), (-111190567024997305201, -307806207353349857472),
  (-222381134049994610402, 77020537703655206373), (265121265047799330739, 25599927644879477319), (-191617069922335882736, 313025532528383301423), (-52365135447724869357, -399912331555269445445),
  (-24747804584395849625, 319929865244215556356), (19798243667516679700, -324879426161094726281), (15838594934013343760, 332798723628101398161), (25341751894421350016, 323295566667693391905),
  (-129318226667077356762, -115342617122381378413), (178250395424969103797, -160772115818371219454), (178250395424969103797, -134915484625538077227), (-178250395424969103797, -34667928639544821256),
  (-21782907629175892257, 334717883220762315337), (146956897865810461489, 250347980473269138464), (-105600464822826990699, -376626661817587864558), (204855904125987320595, -72515318388440214067),
  (-163884723300789856476, 318342403339624998781), (132993187293022828015, 380125475355159055703), (-53197274917209131206, 680455038334504414597), (114812097700017230437, 212789099668836524824),
  (-114812097700017230437, -317500139930134993631), (109424867066033890901, 197300811596134423658), (-109424867066033890901, -114070702450493982566), (-111283201219817927567, -326416267044317636037),
  (-240363040714517752649, 68256588054917985873), (-82493898674823503885, 383994872134306483401), (65995118939858803108, -685495845593789462917), (-216293311846588456313, 263980475759435212432),
  (-216293311846588456313, -167925718238230478683), (177599236959902074209, 254987386733274838417), (177599236959902074209, 132950214602659041050), (-204189279880433882419, 106360171682127232840),
  (-204189279880433882419, -34013005189030309875), (6802601037806061975, 769138912257093095851), (-1360520207561212395, -3094242411726668144539), (1088416166048969916, 6608341359506726434175),
  (-4353664664195879664, -1283573706089631339775), (-261068405882122147619, 17414658656783518656), (-222786451631124533020, 132260521409776362453), (178229161304899626416, 176817811736001269057),
  (-35928102174759596755, -461419929996281328379), (7185620434951919351, 1860050960855029152218), (-14371240869903838702, -1363010973115859925067), (-57484963479615354808, -269727946449191217273),
  (184830753261360872287, -169794386375660689972), (-6014546754280072926, 730301192914023379759), (-135234054425100544685, 294526295867321381074), (267479484982301272137, 108187243540080435748),
  (-75133345704476341577, -562035620064407003979), (75133345704476341577, 254281797219887115083), (9250317119603650245, -300533382817905366308), (3700126847841460098, 1170682453064969054399),
  (-235616541352130394919, -14800507391365840392), (41203105313879742827, 471233082704260789838), (-163771369893376470239, -164812421255518971308), (98679242480882882571, -327542739786752940478),
  (-216261492368228340801, 12602004937641717106), (-162927589944469298956, -228863497305870057907), (-267660170339097473909, 38796673033227416002), (-152836767596813001145, 306456843372324889911),
  (244538828154900801832, -783308178698887621), (195944385795400196514, -195161077616701308893), (78691077589639633654, 273852155206340942547), (7555784487484408317, -682419112129507927451),
  (279012272441790697634, 154617705195864165451), (-18834285859197779783, -346903982110123890468), (-131227878500370444274, -272178961187346785543), (133172519337691623673, -140951082686976341269),
  (-236599109468131035573, -266345038675383247346), (112487201311603741293, -105990685794198635494), (-224974402623207482586, -244873236678566188525), (-195898589342852950820, 175999755287494244881),
  (-156718871474282360656, 254359191024635425209), (66790905449214049793, 328862449999134228692), (91470436730125261601, -316522684358678622788), (-8422274833660567597, -399570846255143316792),
  (61385164616975414645, -312918857137186199356), (-24554065846790165858, 564452549657396984067), (117801323100837429985, 137386382814514196538), (94241058480669943988, -267113320634823784855),
  (-53422664126964756971, 323541569795715018981), (-107446445260714809373, 323541569795715018981), (150905916970428969467, -22931969868427670909), (39353971341456862257, 301811833940857938934),
  (217837084347812233793, 257191055689269096050), (-114960662072104595373, -411505689102830553680), (-197261799892670706109, 131942751389593736835), (26388550277918747367, -1000155601794032803372),
  (52777100555837494734, 594293789267460013235), (66081657297654507913, -343271716818658994762), (97659692348870893157, 327482699293050802140), (-97659692348870893157, -426312626520010390267),
  (31929105514642993735, 326780558366197585158), (-6385821102928598747, -1256035664641361550656), (-260147282472372348377, 209060713648943558401), (-145871055718737651031, 19491739858325836291),
  (-120595192546655288083, -342293837781640027958), (-177358916187987791900, 196850656046313628191), (-196850656046313628191, 141887132950390233520), (225228082636391674895, -113509706360312186816),
  (180182466109113339916, 248646555942147191753), (-58380168477038565599, 624137370194366800942), (-58380168477038565599, -534337997241716580113), (-58380168477038565599, -509202633661227255929),
  (-63568649119598344934, 328873647587551779797), (-91202189165349693933, -475342916844404171728), (91202189165349693933, 398514771308593276169), (66220548402840855059, 398514771308593276169),
  (66220548402840855059, -332055926727442791947), (185798809413249800826, -146257117314192991121), (-209523824672683886649, 146257117314192991121), (-146257117314192991121, 284624753589501502216),
  (201604171824316395559, 110694109020246808876), (-249838624675650563548, -34009249533755695091), (-93133599963509086401, -347419298958038649385), (-93133599963509086401, 94598960687605426096),
  (-93719744253147622279, -278814655600888723325), (223051724480710978660, -93719744253147622279), (-178441379584568782928, 182940434045432013743), (179341190476741429091, -172142703339360259787),
  (104725319431092389733, 253957061522390468449), (185363080153830099166, -253957061522390468449), (107134075301927857763, -351456113340976454092), (-91718037728580862371, 488644076078097192658),
  (42697992578470921109, 452268136071265291702), (-259339326668682022700, 20561153489771336543), (176164749490980550163, 207471461334945618160), (-165977169067956494528, 259153334024958797427),
  (161902136898746872274, -259153334024958797427), (-45310615334256363879, 330434240255192941943), (-141235819168928449553, -50614588500415721795), (282471638337856899106, 120989983768762160835),
  (-193583974030019457336, 306669635091609331273), (277535033260659298378, 29134601830950032895), (5826920366190006579, 1150928575605967239565), (-230185715121193447913, 46615362929520052632),
  (119465283900908047695, -340906146341478848131), (47786113560363219078, -705705349463139305801), (122026624468482573529, -260262284014423179095), (-192000792134080511239, 296105705739849782877),
  (160084247738247621806, -192000792134080511239), (-230501255712713248415, -102333552370298516042), (184401004570170598732, -56233301227755866359), (243774525975307065022, 3140220177380599931),
  (-50639037301489772963, -633185723500322249071), (106381529779468540629, -415319208764896173110), (272509213285427009873, -59746153726489928615), (-224712290304235066981, 95593845962383885784),
  (256244909013295162212, 224712290304235066981), (294880843332330156562, 70168553028095089581), (-162894795393779076021, -78519611145734188202), (-261802787250508661557, 63986803537049490485),
  (25594721414819796194, 587592378038066813599), (224799062649298806962, 214778416983928588257), (2004129133074043741, 881159088399528834179), (-178636772639594619325, -170620256107298444361),
  (242074965163136292091, 43743871060215098829), (-228655068978681112736, 184911197918466013907), (-54479788007779242313, 587741547868048997066), (-150236182378277344801, -67682969652839624451),
  (-133725539833189800731, -265810680193890153291), (267451079666379601462, 186559595977469941755), (-74623838390987976702, 572214078528253191275), (39818977314662661553, -676628661757229136722),
  (143289527814378359655, 159275909258650646212), (57315811125751343862, 232578101828674276631), (184073567067538080595, -274452921938472670301), (-73629426827015232238, 512091130463437724483),
  (-161321767554299730687, 294517707308060928952), (161321767554299730687, -213113503606017917224), (139415761253783421857, 366455547709632079034), (-121890956213370374793, 313881132588392937842),
  (121890956213370374793, 331562473442710175837), (-59490415649061845459, -303272328075802595045), (60654465615160519009, -359270593826568419854), (-121308931230321038018, -299547368184286839685),
  (302527336097499443973, 119818947273714735874), (-12577888310013994445, -617632560505012882391), (-20124621296022391112, 632726026477029675725), (-126545205295405935145, 299137130702128240987),
  (50618082118162374058, 674201384581500043061), (-13356879832710310873, -404944656945298992464), (-159306486811577534811, -26713759665420621746), (-26518545429231382613, -557670310958615991405)]
def tabL (p : Int) : Int := p * 108853 / 32768
/-- a power of ten, scaled to 128 bits, as a fraction -/
def tabN (p : Int) : Nat := 10 ^ p.toNat * 2 ^ (127 - tabL p).toNat
def tabD (p : Int) : Nat := 10 ^ (-p).toNat * 2 ^ (tabL p - 127).toNat
def smod (t m : Int) : Int := if m < 2 * (t % m) then t % m - m else t % m
def vyOf (vx a m : Int) : Int := if vx = 0 then m else smod (vx * a) m
def rowC (i : Nat) (r : Nat × Nat) : Bool :=
  decide (tabN ((i : Int) - 348) ≤ (r.1 * 18446744073709551616 - r.2) * tabD ((i : Int) - 348)) && decide ((r.1 * 18446744073709551616 - r.2) * tabD ((i : Int) - 348) < tabN ((i : Int) - 348) + tabD ((i : Int) - 348)) &&
    (decide (170141183460469231731687303715884105728 * tabD ((i : Int) - 348) ≤ tabN ((i : Int) - 348)) && decide (tabN ((i : Int) - 348) ≤ 340116213421465348979261631549233168384 * tabD ((i : Int) - 348)))
def certC (k s : Nat) (i : Nat) (r : Nat × Nat) (c : Int × Int) : Bool :=
  let a : Int := ((r.1 * 18446744073709551616 - r.2 : Nat) : Int)
  let m : Int := ((2 ^ (128 + s - k) : Nat) : Int)
  let X : Int := ((2 ^ (64 - k) : Nat) : Int)
  let uy := smod (c.1 * a) m
  let vy := vyOf c.2 a m
  (decide (c.1 * vy - uy * c.2 = m) || decide (c.1 * vy - uy * c.2 = -m)) && decide (c.1.natAbs * (X + 1) + uy.natAbs * X ≤ m) &&
    (decide (c.2.natAbs * (X + 1) + vy.natAbs * X < m) || (decide ((c.1.natAbs * tabN ((i : Int) - 348)) % (tabD ((i : Int) - 348) * 2 ^ (128 + s - k)) = 0) || (decide (k = 0) && decide (c.2.natAbs * (X + 1) + vy.natAbs * X < 2 * m) && decide (c.1.natAbs < 9223372036854775808))))
def allC {α β : Type} (f : Nat → α → β → Bool) : Nat → List α → List β → Bool
  | i, r :: rs, c :: cs => f i r c && allC f (i + 1) rs cs
  | _, [], _ => true
  | _, _ :: _, [] => false
theorem allC_get {α β : Type} (f : Nat → α → β → Bool) : ∀ (rs : List α) (cs : List β) (i j : Nat) (r : α), allC f i rs cs = true → rs[j]? = some r → ∃ c, f (i + j) r c = true := by
  intro rs
  induction rs with
  | nil => intro cs i j r _ h; simp at h
  | cons x xs ih =>
    intro cs i j r h hr
    cases cs with
    | nil => simp [allC] at h
    | cons c cs =>
      simp only [allC, Bool.and_eq_true] at h
      cases j with
      | zero => simp at hr; subst hr; exact ⟨c, h.1⟩
      | succ j =>
        obtain ⟨c', hc⟩ := ih cs (i + 1) j r h.2 (by simpa using hr)
        exact ⟨c', by rw [show i + (j + 1) = i + 1 + j by omega]; exact hc⟩
theorem rows_C : allC (fun i r (_ : Int × Int) => rowC i r) 0 Pinned.pow10Rows certR = true := by decide +kernel
theorem certs_R : allC (certC 0 8) 0 Pinned.pow10Rows certR = true := by decide +kernel
end Go.Proofs.YtbakbikilbaafaaGreatDoor
namespace Go.Proofs.YtbakbikilbaafaaGreatDoor
set_option linter.unusedVariables false
set_option maxHeartbeats 1000000
set_option maxRecDepth 100000

theorem unr_mul {a b c : Nat} (hc : 0 < c) : unr (a * c) (b * c) = unr a b := by
  unfold unr
  rw [Nat.mul_mod_mul_right, Nat.mul_div_mul_right _ _ hc]
  by_cases h : a % b = 0
  · rw [if_pos h, if_pos (by rw [h, Nat.zero_mul])]
  · rw [if_neg h, if_neg]
    intro h'
    rcases Nat.mul_eq_zero.1 h' with h2 | h2
    · exact h h2
    · omega
theorem smod_dvd (t m : Int) : m ∣ t - smod t m := by
  unfold smod
  have h := Int.mul_ediv_add_emod t m
  split
  · exact ⟨t / m + 1, by rw [Int.mul_add, Int.mul_one]; omega⟩
  · exact ⟨t / m, by omega⟩
theorem vy_dvd (vx a m : Int) : m ∣ vx * a - vyOf vx a m := by
  unfold vyOf
  split
  · rename_i h
    rw [h, Int.zero_mul]
    exact ⟨-1, by omega⟩
  · exact smod_dvd _ _
theorem cert_H {k s i : Nat} {r : Nat × Nat} {c : Int × Int} {x x' P : Nat} (hk : k ≤ 10) (hs : 1 ≤ s) (hP : P = r.1 * 18446744073709551616 - r.2) (h : certC k s i r c = true) (hx : x = 2 ^ k * x') (hx0 : 0 < x) (hxw : x < W64) (hlo : k = 0 → 9223372036854775808 ≤ x) :
    (W64 < x * P % (W64 * W64 * 2 ^ s) ∧ x * P % (W64 * W64 * 2 ^ s) + W64 ≤ W64 * W64 * 2 ^ s) ∨ (x * tabN ((i : Int) - 348)) % (tabD ((i : Int) - 348) * (W64 * W64 * 2 ^ s)) = 0 := by
  have eM : W64 * W64 * 2 ^ s = 2 ^ k * 2 ^ (128 + s - k) := by
    rw [← Nat.pow_add, show k + (128 + s - k) = 128 + s by omega, Nat.pow_add]; rfl
  have eW : W64 = 2 ^ k * 2 ^ (64 - k) := by
    rw [← Nat.pow_add, show k + (64 - k) = 64 by omega]; rfl
  have eA : x * P = 2 ^ k * (x' * P) := by rw [hx, Nat.mul_assoc]
  rw [eM, eA, Nat.mul_mod_mul_left]
  have hx' : x' < 2 ^ (64 - k) := by
    rw [hx, eW] at hxw
    exact Nat.lt_of_mul_lt_mul_left hxw
  have hx0' : 0 < x' := by
    rcases Nat.eq_zero_or_pos x' with h | h
    · rw [h, Nat.mul_zero] at hx; omega
    · exact h
  unfold certC at h
  simp only at h
  rw [← hP] at h
  have hpk := Nat.two_pow_pos k
  have hm0 := Nat.two_pow_pos (128 + s - k)
  have hX0 := Nat.two_pow_pos (64 - k)
  have hmX : 2 ^ (64 - k) < 2 ^ (128 + s - k) := Nat.pow_lt_pow_right (by decide) (by omega)
  generalize hmd : 2 ^ (128 + s - k) = m at *
  generalize hXd : 2 ^ (64 - k) = X at *
  have hr : x' * P % m < m := Nat.mod_lt _ hm0
  by_cases hin : X < x' * P % m ∧ x' * P % m + X ≤ m
  · left
    rw [eW]
    constructor
    · exact Nat.mul_lt_mul_of_pos_left hin.1 hpk
    · rw [← Nat.mul_add]; exact Nat.mul_le_mul_left _ hin.2
  right
  rw [Bool.and_eq_true, Bool.and_eq_true, Bool.or_eq_true, Bool.or_eq_true, Bool.or_eq_true, Bool.and_eq_true, Bool.and_eq_true] at h
  obtain ⟨⟨hdet, bu⟩, h3⟩ := h
  simp only [decide_eq_true_eq] at hdet bu h3
  obtain ⟨y, hy, hyd⟩ : ∃ y : Int, y.natAbs < X + 1 ∧ (m : Int) ∣ (x' : Int) * (P : Int) - y := by
    have hd := Nat.div_add_mod (x' * P) m
    have hdI : (m : Int) * ((x' * P / m : Nat) : Int) + ((x' * P % m : Nat) : Int) = (x' : Int) * (P : Int) := by
      rw [← Int.natCast_mul, ← Int.natCast_mul, ← Int.natCast_add, hd]
    by_cases h1 : x' * P % m ≤ X
    · exact ⟨((x' * P % m : Nat) : Int), by omega, ⟨((x' * P / m : Nat) : Int), by omega⟩⟩
    · refine ⟨((x' * P % m : Nat) : Int) - (m : Int), by omega, ⟨((x' * P / m : Nat) : Int) + 1, ?_⟩⟩
      rw [Int.mul_add, Int.mul_one]; omega
  obtain ⟨j, e1, e2, e3⟩ := lat (m := (m : Int)) (a := (P : Int)) (X := (X : Int)) (Y := (X : Int) + 1) (x := (x' : Int)) (y := y) (by omega) (smod_dvd (c.1 * (P : Int)) (m : Int)) (vy_dvd c.2 (P : Int) (m : Int)) hyd hdet (by omega) (by omega) bu
  have hj : j ≠ 0 := by
    intro h0
    rw [h0, Int.zero_mul] at e1
    omega
  have hm1 : (m : Int) ≤ j.natAbs * (m : Int) := by
    have : (1 : Int) ≤ j.natAbs := by omega
    have := Int.mul_le_mul_of_nonneg_right this (show (0 : Int) ≤ (m : Int) by omega)
    omega
  rcases h3 with h3 | h3 | h3
  · exfalso; omega
  · have ex : x' = j.natAbs * c.1.natAbs := by
      have := congrArg Int.natAbs e1
      rw [Int.natAbs_mul] at this
      simpa using this
    rw [hx, ex, show 2 ^ k * (j.natAbs * c.1.natAbs) * tabN ((i : Int) - 348) = 2 ^ k * (j.natAbs * (c.1.natAbs * tabN ((i : Int) - 348))) by ac_rfl,
      show tabD ((i : Int) - 348) * (2 ^ k * m) = 2 ^ k * (tabD ((i : Int) - 348) * m) by ac_rfl, Nat.mul_mod_mul_left, Nat.mul_mod, h3, Nat.mul_zero, Nat.zero_mod, Nat.mul_zero]
  · exfalso
    obtain ⟨⟨hk0, h4⟩, h5⟩ := h3
    subst hk0
    have hlo := hlo rfl
    have hxx : x = x' := by rw [hx]; simp
    have ex : x' = j.natAbs * c.1.natAbs := by
      have := congrArg Int.natAbs e1
      rw [Int.natAbs_mul] at this
      simpa using this
    by_cases hj1 : j.natAbs = 1
    · rw [hj1, Nat.one_mul] at ex
      omega
    · have : (2 : Int) ≤ j.natAbs := by omega
      have := Int.mul_le_mul_of_nonneg_right this (show (0 : Int) ≤ (m : Int) by omega)
      omega
theorem H_mono {x P N D M T : Nat} (hD : 0 < D) (hx : x ≤ W64) (hM : 2 * W64 ≤ M) (hT : 0 < T) (m1 : x * N ≤ x * P * D) (m2 : x * P * D < x * N + x * D)
    (H : (W64 < x * P % M ∧ x * P % M + W64 ≤ M) ∨ (x * N) % (D * M) = 0) : (W64 < x * P % (M * T) ∧ x * P % (M * T) + W64 ≤ M * T) ∨ (x * N) % (D * (M * T)) = 0 := by
  have hmm : x * P % (M * T) = x * P % M + M * (x * P / M % T) := Nat.mod_mul
  have hk : x * P / M % T < T := Nat.mod_lt _ hT
  have hr : x * P % M < M := Nat.mod_lt _ (by rw [W64_eq] at hM; omega)
  have hMT : M * (x * P / M % T) + M ≤ M * T := by
    have := Nat.mul_le_mul_left M hk
    rw [Nat.mul_succ] at this
    exact this
  rcases H with ⟨h1, h2⟩ | h
  · left
    rw [hmm]
    omega
  · have hq := Nat.div_add_mod (x * P) M
    obtain ⟨u1, u2⟩ := unr_at (q := x * P / M) (r := x * P % M) hD (by omega) m1 m2 (by rw [Nat.mul_comm (x * P / M) M]; exact hq.symm) hr h
    unfold unr at u1
    rw [if_pos h] at u1
    by_cases hk0 : x * P / M % T = 0
    · right
      have e1 := Nat.div_add_mod (x * N) (D * M)
      rw [h, Nat.add_zero, u1] at e1
      have e2 := Nat.div_add_mod (x * P / M) T
      rw [hk0, Nat.add_zero] at e2
      rw [← e1, ← e2, show D * M * (T * (x * P / M / T)) = D * (M * T) * (x * P / M / T) by ac_rfl]
      exact Nat.mul_mod_right _ _
    · left
      rw [hmm]
      have : M * 1 ≤ M * (x * P / M % T) := Nat.mul_le_mul_left _ (by omega)
      rw [W64_eq] at *
      omega
theorem tabD_pos (p : Int) : 0 < tabD p := Nat.mul_pos (Nat.pow_pos (by decide)) (Nat.two_pow_pos _)
theorem usc_tab {k s0 s : Nat} {p : Int} {cs : List (Int × Int)} (hC : allC (certC k s0) 0 Pinned.pow10Rows cs = true) (hk : k ≤ 10) (hs0 : 1 ≤ s0) (hs : s0 ≤ s) (h1 : -348 ≤ p) (h2 : p ≤ 347) {x x' : Nat} (hx : x = 2 ^ k * x') (hx0 : 0 < x) (hxw : x < W64) (hlo : k = 0 → 9223372036854775808 ≤ x) :
    usc x (rowOf p).1 (rowOf p).2 s = unr (x * tabN p) (tabD p * (W64 * W64 * 2 ^ s)) := by
  have hr := row_of h1 h2
  obtain ⟨b1, b2, b3⟩ := row_b h1 h2
  obtain ⟨c1, hc1⟩ := allC_get _ _ _ _ _ _ rows_C hr
  obtain ⟨c2, hc2⟩ := allC_get _ _ _ _ _ _ hC hr
  have ei : (((0 + (p + 348).toNat : Nat) : Int)) - 348 = p := by omega
  generalize rowOf p = r at *
  unfold rowC at hc1
  rw [ei] at hc1
  rw [Bool.and_eq_true, Bool.and_eq_true] at hc1
  simp only [decide_eq_true_eq] at hc1
  obtain ⟨⟨n1, n2⟩, -⟩ := hc1
  have hH := cert_H hk hs0 rfl hc2 hx hx0 hxw hlo
  rw [ei] at hH
  have hP : r.1 * 18446744073709551616 - r.2 + r.2 = r.1 * W64 := by rw [W64_eq]; omega
  generalize r.1 * 18446744073709551616 - r.2 = P at *
  have m1 : x * tabN p ≤ x * P * tabD p := by rw [Nat.mul_assoc]; exact Nat.mul_le_mul_left _ n1
  have m2 : x * P * tabD p < x * tabN p + x * tabD p := by rw [Nat.mul_assoc, ← Nat.mul_add]; exact Nat.mul_lt_mul_of_pos_left n2 hx0
  have hM : 2 * W64 ≤ W64 * W64 * 2 ^ s0 := by
    have h3 : 1 ≤ 2 ^ s0 := Nat.two_pow_pos _
    have h4 : W64 * W64 * 1 ≤ W64 * W64 * 2 ^ s0 := Nat.mul_le_mul_left _ h3
    exact Nat.le_trans (by decide) h4
  have hT := H_mono (T := 2 ^ (s - s0)) (tabD_pos p) (Nat.le_of_lt hxw) hM (Nat.two_pow_pos _) m1 m2 hH
  have e : W64 * W64 * 2 ^ s0 * 2 ^ (s - s0) = W64 * W64 * 2 ^ s := by
    rw [Nat.mul_assoc, ← Nat.pow_add, show s0 + (s - s0) = s by omega]
  rw [e] at hT
  exact usc_unr hxw (by rw [W64_eq]; exact b2) (by rw [W64_eq]; exact b3) (by omega) (tabD_pos p) hP rfl n1 n2 hx0 hT
theorem tab_b {p : Int} (h1 : -348 ≤ p) (h2 : p ≤ 347) : 170141183460469231731687303715884105728 * tabD p ≤ tabN p ∧ tabN p ≤ 340116213421465348979261631549233168384 * tabD p := by
  obtain ⟨c1, hc1⟩ := allC_get _ _ _ _ _ _ rows_C (row_of h1 h2)
  have ei : (((0 + (p + 348).toNat : Nat) : Int)) - 348 = p := by omega
  unfold rowC at hc1
  rw [ei, Bool.and_eq_true, Bool.and_eq_true] at hc1
  simp only [decide_eq_true_eq, Bool.and_eq_true] at hc1
  exact hc1.2
/-- 10 to p times 2 to e as a fraction -/
def frN (p e : Int) : Nat := 10 ^ p.toNat * 2 ^ e.toNat
def frD (p e : Int) : Nat := 10 ^ (-p).toNat * 2 ^ (-e).toNat
theorem frN_pos (p e : Int) : 0 < frN p e := Nat.mul_pos (Nat.pow_pos (by decide)) (Nat.two_pow_pos _)
theorem frD_pos (p e : Int) : 0 < frD p e := Nat.mul_pos (Nat.pow_pos (by decide)) (Nat.two_pow_pos _)
theorem shuf1 (x A a B b : Nat) : x * (A * a) * (B * b) = x * (A * B * (a * b)) := by ac_rfl
theorem shuf2 (x A a B b c : Nat) : x * (A * a) * (B * b * c) = x * (A * B * (a * b * c)) := by ac_rfl
theorem unr_fr {p e : Int} {s : Nat} (hs : (s : Int) = -(e + tabL p + 3)) (x : Nat) : unr (x * tabN p) (tabD p * (W64 * W64 * 2 ^ s)) = unr (x * frN p (e + 2)) (frD p (e + 2)) := by
  have hp : 0 < tabD p * (W64 * W64 * 2 ^ s) := Nat.mul_pos (tabD_pos p) (Nat.mul_pos (by decide) (Nat.two_pow_pos _))
  rw [← unr_mul (frD_pos p (e + 2)), ← unr_mul (a := x * frN p (e + 2)) hp, Nat.mul_comm (frD p (e + 2))]
  congr 1
  have eW : W64 * W64 * 2 ^ s = 2 ^ (128 + s) := by rw [Nat.pow_add]; rfl
  rw [eW]
  unfold tabN tabD frN frD
  generalize tabL p = L at *
  rw [shuf1, shuf2, ← Nat.pow_add 2 (127 - L).toNat, ← Nat.pow_add 2 (e + 2).toNat, ← Nat.pow_add 2 ((e + 2).toNat + (L - 127).toNat)]
  have he : (127 - L).toNat + (-(e + 2)).toNat = (e + 2).toNat + (L - 127).toNat + (128 + s) := by omega
  rw [he]
/-- uscale where a number is read -/
theorem usc_R {p e : Int} {s x : Nat} (h1 : -348 ≤ p) (h2 : p ≤ 347) (hs : 8 ≤ s) (hse : (s : Int) = -(e + tabL p + 3)) (hx : 9223372036854775808 ≤ x) (hxw : x < 18446744073709551616) :
    usc x (rowOf p).1 (rowOf p).2 s = unr (x * frN p (e + 2)) (frD p (e + 2)) := by
  rw [usc_tab certs_R (by decide) (by decide) hs h1 h2 (x' := x) (by simp) (by omega) hxw (fun _ => hx), unr_fr hse]
end Go.Proofs.YtbakbikilbaafaaGreatDoor
