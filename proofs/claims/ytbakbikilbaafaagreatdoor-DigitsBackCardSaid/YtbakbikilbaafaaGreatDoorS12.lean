/-
  Contracts: The contract of the library's decimal.set at decimal texts (printed by gen_XVL.py). The contract of atof64 where digits are cut off. The contract of atof64 where digits are cut off: the walk. The contract of the program's show (printed by gen_XSD.py). Contract of the reference Units: the units of a text. Condition: the text is shorter than 2^40 bytes. Contracts of the program's even, unit, Len, Units. Condition: the text is shorter than 2^40 bytes.
-/
import Derived.Test.YtbakbikilbaafaaGreatDoorS11
import Derived.Test.YtbakbikilbaafaaGreatDoorS9
import Derived.Test.YtbakbikilbaafaaGreatDoorRows
import Derived.WalkKit
import Derived.WalkSpells
import Derived.WalkLawsBesides
import Derived.Deep.QuietTactic
import Derived.BigQuiet
import Derived.Deep.RegionHeld3
import Derived.Deep.AppendLies
import Derived.Lib.Hide
namespace Go.Proofs.YtbakbikilbaafaaGreatDoor
open Go.RowKit F64 Ieee
set_option linter.unusedVariables false
set_option maxHeartbeats 8000000
set_option maxRecDepth 100000

theorem SetI.drew1 {b : Nat} {D : List Nat} {dp : Int} {w : World} (h : SetI b D dp w) : SetI b D dp w.drew := by
  obtain ⟨C, h1, h2⟩ := h
  exact ⟨C, ⟨h1.c, h1.lt, h1.n, h1.p, h1.g, h1.t, h1.f⟩, h2⟩
theorem c_setEp (b : Nat) (A es : List Nat) (S : ByteArray) (hsz : S.size = A.length + 1 + es.length) (hA0 : ∀ c ∈ A, c = 46 ∨ 48 ≤ c ∧ c ≤ 57) (h0 : A[0]? = some 48) (hdot0 : ∀ k, A[k]? = some 46 → (dfF (A.take k)).dot = false)
    (he0 : ∀ c ∈ es, 48 ≤ c ∧ c ≤ 57) (hel : 1 ≤ es.length) (hel2 : es.length ≤ 4) (hdt : (dfF A).dot = true) (hlen : A.length ≤ 100000)
    (hget0 : ∀ (j c : Nat), (A ++ ([101] ++ es))[j]? = some c → ∀ h : j < S.size, (S[j]'h).toNat = c) (w : World) (hI : SetI b [] 0 w) (hG : w.cell? ⟨b, 802, none⟩ = some (.bool false)) :
    Calls Tryz.prog 208 #[.pointer (some ⟨b, 0, none⟩), .string S] w fun r w' => r = .returned (.bool true) ∧ SetI b (dfF A).D ((dfF A).dp + (evF es : Int)) w' ∧ Below b w w' := by
  have hA := Lib.hid hA0
  have he := Lib.hid he0
  have hdot := Lib.hid hdot0
  have hget := Lib.hid hget0
  have hLA : ∀ j, j < A.length → (A ++ ([101] ++ es))[j]? = A[j]? := fun j hj => List.getElem?_append_left hj
  have hLe : (A ++ ([101] ++ es))[A.length]? = some 101 := by rw [List.getElem?_append_right (Nat.le_refl _)]; simp
  skip
  have hLs : ∀ j, j < es.length → (A ++ ([101] ++ es))[A.length + 1 + j]? = es[j]? := fun j hj => by
    rw [List.getElem?_append_right (by omega), List.getElem?_append_right (by simp; omega)]
    congr 1; simp; omega
  have hal : 1 ≤ A.length := by
    have := (List.getElem?_eq_some_iff.1 h0).1
    omega
  have hS0 : 0 < S.size := by omega
  have hg0 := hget.out 0 48 (by rw [hLA 0 (by omega)]; exact h0) hS0
  have hgS := Lib.hid hget0
  have hDA : hasD A = true := by
    unfold hasD
    rw [List.any_eq_true]
    exact ⟨48, List.mem_of_getElem? h0, by decide⟩
  replace hDA := Lib.hid hDA
  replace hLA := Lib.hid hLA
  replace hLe := Lib.hid hLe
  replace hLs := Lib.hid hLs
  have hsI0 : (0 : Int) < (S.size : Int) := by omega
  have hsI3 : ¬ (S.size : Int) ≤ 0 := by omega
  have hsN : ¬ S.size = 0 := by omega
  have hl101 := Lib.hid (fun W => (show Calls Tryz.prog 183 #[.int .u8 101] W fun r w' => r = .returned (.int .u8 101) ∧ W = w' from d_lower 101 (by decide) W))
  have hSb : A.length + 1 ≤ S.size := by omega
  replace hsz := Lib.hid hsz
  clear hA0 he0 hdot0 hget0 h0
  have hdt := Lib.hid hdt
  have hel := Lib.hid hel
  have hel2 := Lib.hid hel2
  obtain ⟨sN, sP, ⟨sx, sT⟩, sF, sC⟩ := hI.cells
  have f802 := sF 802
  have f803 := sF 803
  have hI1 : SetI b [] 0 ((w.setCell ⟨b, 802, none⟩ (.bool false)).setCell ⟨b, 803, none⟩ (.bool false)) := by
    obtain ⟨C, h1, h2⟩ := hI
    refine ⟨C, ?_, h2⟩
    have h3 : Dec b C (min ([] : List Nat).length 800) 0 (anyNZ (([] : List Nat).drop 800)) (w.setCell ⟨b, 802, none⟩ (.bool false)) :=
      ⟨fun j hj => (set_otherG (by omega)).trans (h1.c j hj), h1.lt, (set_otherG (by omega)).trans h1.n, (set_otherG (by omega)).trans h1.p, set_sameG h1.g, (set_otherG (by omega)).trans h1.t, fun j => by rw [World.frozen?_setCell]; exact h1.f j⟩
    exact h3.setT false
  have hB1 := ((Below.refl b w).setCell (p := ⟨b, 802, none⟩) (Nat.le_refl _) (.bool false)).setCell (p := ⟨b, 803, none⟩) (Nat.le_refl _) (.bool false)
  replace hI1 := Lib.hid hI1
  replace hB1 := Lib.hid hB1
  clear sN sP sF sC hI
  go_enter Tryz.func208, Tryz.ntmps208
  go_wp2_with fail
  clear sT hG f802 f803
  go_loopg [5, 6, 7] A.length (fun g v5 v6 v7 wr => ∃ k : Nat, k ≤ A.length ∧ k + g = A.length ∧ v5 = .int .i64 (k : Int) ∧ v6 = .bool (dfF (A.take k)).dot ∧ v7 = .bool (hasD (A.take k)) ∧ SetI b (dfF (A.take k)).D (dfF (A.take k)).dp wr ∧ Below b w wr)
  case atStart => exact ⟨0, Nat.zero_le _, by omega, rfl, rfl, rfl, hI1.out, hB1.out⟩
  case round =>
    obtain ⟨k, hk, hkg, rfl, rfl, rfl, hS, hB⟩ := hrel
    obtain ⟨σ, hσ⟩ : ∃ σ, dfF (A.take k) = σ := ⟨_, rfl⟩
    rw [hσ] at hS
    have hbd := dfF_b (A.take k) (fun c hc => hA.out c (List.mem_of_mem_take hc))
    rw [hσ, List.length_take, Nat.min_eq_left hk] at hbd
    obtain ⟨b1, b2, b3, b4, b5⟩ := hbd
    obtain ⟨sN, sP, ⟨sx, sT⟩, sF, sC⟩ := hS.cells
    by_cases hlt : k < A.length
    · obtain ⟨c, hc⟩ : ∃ c, A[k]? = some c := ⟨A[k], List.getElem?_eq_getElem hlt⟩
      have hcm := hA.out c (List.mem_of_getElem? hc)
      have hkS : k < S.size := by omega
      have hg := hget.out k c (by first | (rw [hLA.out k hlt]; exact hc) | exact hc) hkS
      have hkS2 : (k : Int) < (S.size : Int) := by omega
      have hst := dfF_take hc
      have hhd := hasD_take hc
      rw [hσ] at hst ⊢
      have hk1 : k + 1 ≤ A.length := hlt
      generalize hdd : hasD (A.take k) = dd at *
      have q95 : ((c : Int) == 95) = false := by simp; omega
      obtain ⟨dot, D, dp⟩ := σ
      simp only at b1 b2 b3 b4 b5 sN sP sT hS
      replace b4 := Lib.hid b4
      replace b5 := Lib.hid b5
      have hlt' := Lib.hid hlt
      have hk' := Lib.hid hk
      have f801 := sF 801
      have f800 := sF 800
      have f803 := sF 803
      by_cases h46 : c = 46
      · skip
        have hdt := hdot.out k (by rw [hc, h46])
        rw [hσ] at hdt
        simp only at hdt
        subst hdt
        subst h46
        have hst' : dfF (A.take (k + 1)) = ⟨true, D, ((min D.length 800 : Nat) : Int)⟩ := by rw [hst]; rfl
        rw [show (dd || !(46 == 46)) = dd by simp] at hhd
        replace hst' := Lib.hid hst'
        replace hhd := Lib.hid hhd
        have hS2 := Lib.hid (hS.dp ((min D.length 800 : Nat) : Int))
        have hB2 := Lib.hid (hB.setCell (p := ⟨b, 801, none⟩) (Nat.le_refl _) (.int .i64 ((min D.length 800 : Nat) : Int)))
        generalize hmm : min D.length 800 = mm at *
        replace hmm := Lib.hid hmm
        clear hst hσ hcm hc hlt hdd hS hB sF sC b1 b2 b3 sT
        go_wp2_with fail
        go_roundg (gk - 1)
        case measure => omega
        case rel => exact ⟨k + 1, hk1, by omega, by go_num, by rw [hst'.out], by rw [hhd.out], by rw [hst'.out]; exact hS2.out, hB2.out⟩
      · have q46 : ((c : Int) == 46) = false := by simp; omega
        have hc1 : (48 : Int) ≤ (c : Int) := by omega
        have hc2 : (c : Int) ≤ 57 := by omega
        have hs0 : dfF (A.take (k + 1)) = if c = 48 ∧ D = [] then ⟨dot, D, dp - 1⟩ else ⟨dot, D ++ [c], dp⟩ := by
          rw [hst]; unfold dfS; rw [if_neg h46]
        have hhd2 : hasD (A.take (k + 1)) = true := by rw [hhd]; simp [h46]
        replace hhd := Lib.hid hhd2
        clear hhd2 hst hσ hlt hdd
        by_cases hz : c = 48 ∧ D = []
        · obtain ⟨rfl, rfl⟩ := hz
          rw [if_pos ⟨rfl, rfl⟩] at hs0
          have hs0 := Lib.hid hs0
          have hS2 := Lib.hid (hS.dp (dp - 1))
          have hB2 := Lib.hid (hB.setCell (p := ⟨b, 801, none⟩) (Nat.le_refl _) (.int .i64 (dp - 1)))
          rw [show ((min ([] : List Nat).length 800 : Nat) : Int) = 0 from rfl] at sN
          have q48 : ((48 : Nat) : Int) = 48 := rfl
          clear hS hB sF sC sT hc b1 hcm h46
          go_wp2_with fail
          go_roundg (gk - 1)
          case measure => omega
          case rel => exact ⟨k + 1, hk1, by omega, by go_num, by rw [hs0.out], by rw [hhd.out], by rw [hs0.out]; exact hS2.out, hB2.out⟩
        · rw [if_neg hz] at hs0
          replace hs0 := Lib.hid hs0
          have hguard : ¬ ((c : Int) = 48 ∧ ((min D.length 800 : Nat) : Int) = 0) := by
            rintro ⟨a1, a2⟩
            refine hz ⟨by omega, ?_⟩
            have : D.length = 0 := by omega
            exact List.length_eq_zero_iff.1 this
          have hg48 : ((c : Int) == 48) = false ∨ (((c : Int) == 48) = true ∧ (((min D.length 800 : Nat) : Int) == 0) = false) := by
            by_cases e : c = 48
            · right; subst e; simp at hguard ⊢; omega
            · left; simp; omega
          clear hz hguard
          by_cases h8 : D.length < 800
          · have hmn : min D.length 800 = D.length := by omega
            have hS2 := Lib.hid (hS.put (c := c) h8 (by omega))
            have hB2 := Lib.hid ((hB.setCell (p := ⟨b, D.length, none⟩) (Nat.le_refl _) (.int .u8 (c : Int))).setCell (p := ⟨b, 800, none⟩) (Nat.le_refl _) (.int .i64 ((D.length + 1 : Nat) : Int)))
            rw [hmn] at sN hg48
            obtain ⟨v0, sC0⟩ := sC D.length h8
            have sF0 := sF D.length
            have q8 : (D.length : Int) < 800 := by omega
            have sN2 : (wr.setCell ⟨b, D.length, none⟩ (.int .u8 (c : Int))).cell? ⟨b, 800, none⟩ = some (.int .i64 (D.length : Int)) := (set_otherG (by omega)).trans sN
            rw [show ((D.length + 1 : Nat) : Int) = (D.length : Int) + 1 by omega] at hS2 hB2
            clear hS hB sC sT sP hc hmn hcm
            generalize hDL : D.length = L at *
            replace hDL := Lib.hid hDL
            rcases hg48 with g48 | ⟨g48, g49⟩
            · skip
              clear sF
              go_wp2_with fail
              go_region
              go_wp2_with fail
              go_roundg (gk - 1)
              case measure => omega
              case rel => exact ⟨k + 1, hk1, by omega, by go_num, by rw [hs0.out], by rw [hhd.out], by rw [hs0.out]; exact hS2.out.drew1, hB2.out.drew⟩
            · skip
              clear sF
              go_wp2_with fail
              go_region
              go_wp2_with fail
              go_roundg (gk - 1)
              case measure => omega
              case rel => exact ⟨k + 1, hk1, by omega, by go_num, by rw [hs0.out], by rw [hhd.out], by rw [hs0.out]; exact hS2.out.drew1, hB2.out.drew⟩
          · have hmn : min D.length 800 = 800 := by omega
            have hS2 := Lib.hid (hS.over (c := c) h8)
            rw [hmn] at sN hg48
            have hgt : (((800 : Nat) : Int) == 0) = false := by decide
            clear hS sC sP hc hmn hcm sF
            by_cases e48 : c = 48
            · subst e48
              have hS3 := hS2.out
              rw [if_pos rfl] at hS3
              replace hS3 := Lib.hid hS3
              have hB := Lib.hid hB
              clear hS2 hg48 b1 sT
              go_wp2_with fail
              go_roundg (gk - 1)
              case measure => omega
              case rel => exact ⟨k + 1, hk1, by omega, by go_num, by rw [hs0.out], by rw [hhd.out], by rw [hs0.out]; exact hS3.out, hB.out⟩
            · have hS3 := hS2.out
              rw [if_neg e48] at hS3
              replace hS3 := Lib.hid hS3
              have hB2 := Lib.hid (hB.setCell (p := ⟨b, 803, none⟩) (Nat.le_refl _) (.bool true))
              have e1 : ((c : Int) == 48) = false := by simp; omega
              have e2 : ((c : Int) != 48) = true := by simp; omega
              clear hS2 hg48 hB b1
              go_wp2_with fail
              go_roundg (gk - 1)
              case measure => omega
              case rel => exact ⟨k + 1, hk1, by omega, by go_num, by rw [hs0.out], by rw [hhd.out], by rw [hs0.out]; exact hS3.out, hB2.out⟩
    · obtain rfl : k = A.length := by omega
      rw [List.take_length] at hσ ⊢
      rw [hσ]
      obtain ⟨dot, D, dp⟩ := σ
      simp only at b1 b2 b3 b4 b5 sN sP sT hS
      have hdt2 := hdt.out
      rw [hσ] at hdt2
      simp only at hdt2
      subst hdt2
      rw [hDA.out]
      have hkS : A.length < S.size := by have := hel.out; omega
      have hg := hgS.out A.length 101 hLe.out hkS
      have hel1 := hel.out
      have hel3 := hel2.out
      have hszz := hsz.out
      have hkS2 : (A.length : Int) < (S.size : Int) := by omega
      have hkS3 : A.length + 1 < S.size := by omega
      have hkS4 : (A.length : Int) + 1 < (S.size : Int) := by omega
      obtain ⟨c0, hc0⟩ : ∃ c0, es[0]? = some c0 := ⟨es[0]'(by have := hel.out; omega), List.getElem?_eq_getElem _⟩
      have hc0m := he.out c0 (List.mem_of_getElem? hc0)
      have hg43 := hgS.out (A.length + 1) c0 (by have := hLs.out 0 (by have := hel.out; omega); rw [Nat.add_zero] at this; rw [this]; exact hc0) (by omega)
      have q43 : ((c0 : Int) == 43) = false := by simp; omega
      have q45 : ((c0 : Int) == 45) = false := by simp; omega
      have hx1 : (48 : Int) ≤ (c0 : Int) := by omega
      have hx2 : (c0 : Int) ≤ 57 := by omega
      have qx1 : ¬ (c0 : Int) < 48 := by omega
      have qx2 : ¬ (57 : Int) < (c0 : Int) := by omega
      replace hσ := Lib.hid hσ
      have hS := Lib.hid hS
      have hB := Lib.hid hB
      have f801 := sF 801
      clear b4 b5 sF sC sN sT
      have hgsn := Lib.hid (fun (j c : Nat) (hc : es[j]? = some c) (h : A.length + 1 + j < S.size) => hgS.out (A.length + 1 + j) c (by rw [hLs.out j (List.getElem?_eq_some_iff.1 hc).1]; exact hc) h)
      have hsz2 := Lib.hid hsz.out
      replace hszz := Lib.hid hszz
      clear hget hA hdot hLA hkg hk hlt hSb
      generalize A.length = n at *
      go_wp2_with (go_at_call 183; refine (hl101.out _).mono ?_; rintro e w1 ⟨rfl, rfl⟩)
      go_loop [5, 9] (fun v5 v9 => ∃ j : Nat, j ≤ es.length ∧ v5 = .int .i64 ((n + 1 + j : Nat) : Int) ∧ v9 = .int .i64 (evF (es.take j) : Int)) (fun v5 _ => (n + 1 + es.length) - (intOf v5).toNat)
      case atStart => exact ⟨0, Nat.zero_le _, by first | rfl | go_num, rfl⟩
      case round =>
        obtain ⟨j, hj, rfl, rfl⟩ := hrel
        have hsz3 := hsz2.out
        by_cases hjl : j < es.length
        · obtain ⟨x, hx⟩ : ∃ x, es[j]? = some x := ⟨es[j], List.getElem?_eq_getElem hjl⟩
          have hxm := he.out x (List.mem_of_getElem? hx)
          have hxS : n + 1 + j < S.size := by omega
          have hgx := hgsn.out j x hx hxS
          have hxS2 : ((n + 1 + j : Nat) : Int) < (S.size : Int) := by omega
          have hev := Lib.hid (evF_take hx)
          have hlt4 := evF_lt (es.take j) (fun c hc => he.out c (List.mem_of_mem_take hc))
          have hl4 : (es.take j).length ≤ 3 := by rw [List.length_take]; omega
          have hp4 : 10 ^ (es.take j).length ≤ 10 ^ 3 := Nat.pow_le_pow_right (by decide) hl4
          generalize evF (es.take j) = E at *
          have hE : E < 1000 := Nat.lt_of_lt_of_le hlt4 hp4
          clear hlt4 hl4 hp4 hsz3 hx
          have y1 : (48 : Int) ≤ (x : Int) := by omega
          have y2 : (x : Int) ≤ 57 := by omega
          have y3 : ((x : Int) == 95) = false := by simp; omega
          have y4 : (E : Int) < 10000 := by omega
          have hqb : n + 1 + j ≤ 100010 := by omega
          have hjl' := Lib.hid hjl
          clear hjl hj
          generalize hq : n + 1 + j = q at *
          have hq' := Lib.hid hq
          clear hq sP
          go_wp2_with fail
          go_round
          case rel => exact ⟨j + 1, hjl'.out, by have := hq'.out; first | go_num | (congr 1; omega), by rw [hev.out]; first | go_num | (congr 1; omega)⟩
          case measure => have := hq'.out; have := hjl'.out; simp [intOf]; omega
        · obtain rfl : j = es.length := by omega
          have hjS : ((n + 1 + es.length : Nat) : Int) = (S.size : Int) := by omega
          have hjN : n + 1 + es.length = S.size := by omega
          rw [List.take_length]
          have hlt4 := evF_lt es (fun c hc => he.out c hc)
          have hp4 : 10 ^ es.length ≤ 10 ^ 4 := Nat.pow_le_pow_right (by decide) hel3
          have hE : evF es < 10000 := Nat.lt_of_lt_of_le hlt4 hp4
          rw [hjN]
          clear hlt4 hp4 hjS hjN hsz3
          generalize hEd : evF es = E at *
          replace hEd := Lib.hid hEd
          have hS2 := Lib.hid (hS.out.dp (dp + (E : Int)))
          have hB2 := Lib.hid (hB.out.setCell (p := ⟨b, 801, none⟩) (Nat.le_refl _) (.int .i64 (dp + (E : Int))))
          clear hj hjl hel1 hel3 hg hg0 b1
          go_wp2_with fail
          go_ret
          exact ⟨rfl, by rw [hσ.out, hEd.out]; exact hS2.out, hB2.out⟩
theorem c_setEn (b : Nat) (A es : List Nat) (S : ByteArray) (hsz : S.size = A.length + 2 + es.length) (hA0 : ∀ c ∈ A, c = 46 ∨ 48 ≤ c ∧ c ≤ 57) (h0 : A[0]? = some 48) (hdot0 : ∀ k, A[k]? = some 46 → (dfF (A.take k)).dot = false)
    (he0 : ∀ c ∈ es, 48 ≤ c ∧ c ≤ 57) (hel : 1 ≤ es.length) (hel2 : es.length ≤ 4) (hdt : (dfF A).dot = true) (hlen : A.length ≤ 100000)
    (hget0 : ∀ (j c : Nat), (A ++ ([101, 45] ++ es))[j]? = some c → ∀ h : j < S.size, (S[j]'h).toNat = c) (w : World) (hI : SetI b [] 0 w) (hG : w.cell? ⟨b, 802, none⟩ = some (.bool false)) :
    Calls Tryz.prog 208 #[.pointer (some ⟨b, 0, none⟩), .string S] w fun r w' => r = .returned (.bool true) ∧ SetI b (dfF A).D ((dfF A).dp - (evF es : Int)) w' ∧ Below b w w' := by
  have hA := Lib.hid hA0
  have he := Lib.hid he0
  have hdot := Lib.hid hdot0
  have hget := Lib.hid hget0
  have hLA : ∀ j, j < A.length → (A ++ ([101, 45] ++ es))[j]? = A[j]? := fun j hj => List.getElem?_append_left hj
  have hLe : (A ++ ([101, 45] ++ es))[A.length]? = some 101 := by rw [List.getElem?_append_right (Nat.le_refl _)]; simp
  have hLm : (A ++ ([101, 45] ++ es))[A.length + 1]? = some 45 := by rw [List.getElem?_append_right (by omega)]; simp
  replace hLm := Lib.hid hLm
  have hLs : ∀ j, j < es.length → (A ++ ([101, 45] ++ es))[A.length + 2 + j]? = es[j]? := fun j hj => by
    rw [List.getElem?_append_right (by omega), List.getElem?_append_right (by simp; omega)]
    congr 1; simp; omega
  have hal : 1 ≤ A.length := by
    have := (List.getElem?_eq_some_iff.1 h0).1
    omega
  have hS0 : 0 < S.size := by omega
  have hg0 := hget.out 0 48 (by rw [hLA 0 (by omega)]; exact h0) hS0
  have hgS := Lib.hid hget0
  have hDA : hasD A = true := by
    unfold hasD
    rw [List.any_eq_true]
    exact ⟨48, List.mem_of_getElem? h0, by decide⟩
  replace hDA := Lib.hid hDA
  replace hLA := Lib.hid hLA
  replace hLe := Lib.hid hLe
  replace hLs := Lib.hid hLs
  have hsI0 : (0 : Int) < (S.size : Int) := by omega
  have hsI3 : ¬ (S.size : Int) ≤ 0 := by omega
  have hsN : ¬ S.size = 0 := by omega
  have hl101 := Lib.hid (fun W => (show Calls Tryz.prog 183 #[.int .u8 101] W fun r w' => r = .returned (.int .u8 101) ∧ W = w' from d_lower 101 (by decide) W))
  have hSb : A.length + 1 ≤ S.size := by omega
  replace hsz := Lib.hid hsz
  clear hA0 he0 hdot0 hget0 h0
  have hdt := Lib.hid hdt
  have hel := Lib.hid hel
  have hel2 := Lib.hid hel2
  obtain ⟨sN, sP, ⟨sx, sT⟩, sF, sC⟩ := hI.cells
  have f802 := sF 802
  have f803 := sF 803
  have hI1 : SetI b [] 0 ((w.setCell ⟨b, 802, none⟩ (.bool false)).setCell ⟨b, 803, none⟩ (.bool false)) := by
    obtain ⟨C, h1, h2⟩ := hI
    refine ⟨C, ?_, h2⟩
    have h3 : Dec b C (min ([] : List Nat).length 800) 0 (anyNZ (([] : List Nat).drop 800)) (w.setCell ⟨b, 802, none⟩ (.bool false)) :=
      ⟨fun j hj => (set_otherG (by omega)).trans (h1.c j hj), h1.lt, (set_otherG (by omega)).trans h1.n, (set_otherG (by omega)).trans h1.p, set_sameG h1.g, (set_otherG (by omega)).trans h1.t, fun j => by rw [World.frozen?_setCell]; exact h1.f j⟩
    exact h3.setT false
  have hB1 := ((Below.refl b w).setCell (p := ⟨b, 802, none⟩) (Nat.le_refl _) (.bool false)).setCell (p := ⟨b, 803, none⟩) (Nat.le_refl _) (.bool false)
  replace hI1 := Lib.hid hI1
  replace hB1 := Lib.hid hB1
  clear sN sP sF sC hI
  go_enter Tryz.func208, Tryz.ntmps208
  go_wp2_with fail
  clear sT hG f802 f803
  go_loopg [5, 6, 7] A.length (fun g v5 v6 v7 wr => ∃ k : Nat, k ≤ A.length ∧ k + g = A.length ∧ v5 = .int .i64 (k : Int) ∧ v6 = .bool (dfF (A.take k)).dot ∧ v7 = .bool (hasD (A.take k)) ∧ SetI b (dfF (A.take k)).D (dfF (A.take k)).dp wr ∧ Below b w wr)
  case atStart => exact ⟨0, Nat.zero_le _, by omega, rfl, rfl, rfl, hI1.out, hB1.out⟩
  case round =>
    obtain ⟨k, hk, hkg, rfl, rfl, rfl, hS, hB⟩ := hrel
    obtain ⟨σ, hσ⟩ : ∃ σ, dfF (A.take k) = σ := ⟨_, rfl⟩
    rw [hσ] at hS
    have hbd := dfF_b (A.take k) (fun c hc => hA.out c (List.mem_of_mem_take hc))
    rw [hσ, List.length_take, Nat.min_eq_left hk] at hbd
    obtain ⟨b1, b2, b3, b4, b5⟩ := hbd
    obtain ⟨sN, sP, ⟨sx, sT⟩, sF, sC⟩ := hS.cells
    by_cases hlt : k < A.length
    · obtain ⟨c, hc⟩ : ∃ c, A[k]? = some c := ⟨A[k], List.getElem?_eq_getElem hlt⟩
      have hcm := hA.out c (List.mem_of_getElem? hc)
      have hkS : k < S.size := by omega
      have hg := hget.out k c (by first | (rw [hLA.out k hlt]; exact hc) | exact hc) hkS
      have hkS2 : (k : Int) < (S.size : Int) := by omega
      have hst := dfF_take hc
      have hhd := hasD_take hc
      rw [hσ] at hst ⊢
      have hk1 : k + 1 ≤ A.length := hlt
      generalize hdd : hasD (A.take k) = dd at *
      have q95 : ((c : Int) == 95) = false := by simp; omega
      obtain ⟨dot, D, dp⟩ := σ
      simp only at b1 b2 b3 b4 b5 sN sP sT hS
      replace b4 := Lib.hid b4
      replace b5 := Lib.hid b5
      have hlt' := Lib.hid hlt
      have hk' := Lib.hid hk
      have f801 := sF 801
      have f800 := sF 800
      have f803 := sF 803
      by_cases h46 : c = 46
      · skip
        have hdt := hdot.out k (by rw [hc, h46])
        rw [hσ] at hdt
        simp only at hdt
        subst hdt
        subst h46
        have hst' : dfF (A.take (k + 1)) = ⟨true, D, ((min D.length 800 : Nat) : Int)⟩ := by rw [hst]; rfl
        rw [show (dd || !(46 == 46)) = dd by simp] at hhd
        replace hst' := Lib.hid hst'
        replace hhd := Lib.hid hhd
        have hS2 := Lib.hid (hS.dp ((min D.length 800 : Nat) : Int))
        have hB2 := Lib.hid (hB.setCell (p := ⟨b, 801, none⟩) (Nat.le_refl _) (.int .i64 ((min D.length 800 : Nat) : Int)))
        generalize hmm : min D.length 800 = mm at *
        replace hmm := Lib.hid hmm
        clear hst hσ hcm hc hlt hdd hS hB sF sC b1 b2 b3 sT
        go_wp2_with fail
        go_roundg (gk - 1)
        case measure => omega
        case rel => exact ⟨k + 1, hk1, by omega, by go_num, by rw [hst'.out], by rw [hhd.out], by rw [hst'.out]; exact hS2.out, hB2.out⟩
      · have q46 : ((c : Int) == 46) = false := by simp; omega
        have hc1 : (48 : Int) ≤ (c : Int) := by omega
        have hc2 : (c : Int) ≤ 57 := by omega
        have hs0 : dfF (A.take (k + 1)) = if c = 48 ∧ D = [] then ⟨dot, D, dp - 1⟩ else ⟨dot, D ++ [c], dp⟩ := by
          rw [hst]; unfold dfS; rw [if_neg h46]
        have hhd2 : hasD (A.take (k + 1)) = true := by rw [hhd]; simp [h46]
        replace hhd := Lib.hid hhd2
        clear hhd2 hst hσ hlt hdd
        by_cases hz : c = 48 ∧ D = []
        · obtain ⟨rfl, rfl⟩ := hz
          rw [if_pos ⟨rfl, rfl⟩] at hs0
          have hs0 := Lib.hid hs0
          have hS2 := Lib.hid (hS.dp (dp - 1))
          have hB2 := Lib.hid (hB.setCell (p := ⟨b, 801, none⟩) (Nat.le_refl _) (.int .i64 (dp - 1)))
          rw [show ((min ([] : List Nat).length 800 : Nat) : Int) = 0 from rfl] at sN
          have q48 : ((48 : Nat) : Int) = 48 := rfl
          clear hS hB sF sC sT hc b1 hcm h46
          go_wp2_with fail
          go_roundg (gk - 1)
          case measure => omega
          case rel => exact ⟨k + 1, hk1, by omega, by go_num, by rw [hs0.out], by rw [hhd.out], by rw [hs0.out]; exact hS2.out, hB2.out⟩
        · rw [if_neg hz] at hs0
          replace hs0 := Lib.hid hs0
          have hguard : ¬ ((c : Int) = 48 ∧ ((min D.length 800 : Nat) : Int) = 0) := by
            rintro ⟨a1, a2⟩
            refine hz ⟨by omega, ?_⟩
            have : D.length = 0 := by omega
            exact List.length_eq_zero_iff.1 this
          have hg48 : ((c : Int) == 48) = false ∨ (((c : Int) == 48) = true ∧ (((min D.length 800 : Nat) : Int) == 0) = false) := by
            by_cases e : c = 48
            · right; subst e; simp at hguard ⊢; omega
            · left; simp; omega
          clear hz hguard
          by_cases h8 : D.length < 800
          · have hmn : min D.length 800 = D.length := by omega
            have hS2 := Lib.hid (hS.put (c := c) h8 (by omega))
            have hB2 := Lib.hid ((hB.setCell (p := ⟨b, D.length, none⟩) (Nat.le_refl _) (.int .u8 (c : Int))).setCell (p := ⟨b, 800, none⟩) (Nat.le_refl _) (.int .i64 ((D.length + 1 : Nat) : Int)))
            rw [hmn] at sN hg48
            obtain ⟨v0, sC0⟩ := sC D.length h8
            have sF0 := sF D.length
            have q8 : (D.length : Int) < 800 := by omega
            have sN2 : (wr.setCell ⟨b, D.length, none⟩ (.int .u8 (c : Int))).cell? ⟨b, 800, none⟩ = some (.int .i64 (D.length : Int)) := (set_otherG (by omega)).trans sN
            rw [show ((D.length + 1 : Nat) : Int) = (D.length : Int) + 1 by omega] at hS2 hB2
            clear hS hB sC sT sP hc hmn hcm
            generalize hDL : D.length = L at *
            replace hDL := Lib.hid hDL
            rcases hg48 with g48 | ⟨g48, g49⟩
            · skip
              clear sF
              go_wp2_with fail
              go_region
              go_wp2_with fail
              go_roundg (gk - 1)
              case measure => omega
              case rel => exact ⟨k + 1, hk1, by omega, by go_num, by rw [hs0.out], by rw [hhd.out], by rw [hs0.out]; exact hS2.out.drew1, hB2.out.drew⟩
            · skip
              clear sF
              go_wp2_with fail
              go_region
              go_wp2_with fail
              go_roundg (gk - 1)
              case measure => omega
              case rel => exact ⟨k + 1, hk1, by omega, by go_num, by rw [hs0.out], by rw [hhd.out], by rw [hs0.out]; exact hS2.out.drew1, hB2.out.drew⟩
          · have hmn : min D.length 800 = 800 := by omega
            have hS2 := Lib.hid (hS.over (c := c) h8)
            rw [hmn] at sN hg48
            have hgt : (((800 : Nat) : Int) == 0) = false := by decide
            clear hS sC sP hc hmn hcm sF
            by_cases e48 : c = 48
            · subst e48
              have hS3 := hS2.out
              rw [if_pos rfl] at hS3
              replace hS3 := Lib.hid hS3
              have hB := Lib.hid hB
              clear hS2 hg48 b1 sT
              go_wp2_with fail
              go_roundg (gk - 1)
              case measure => omega
              case rel => exact ⟨k + 1, hk1, by omega, by go_num, by rw [hs0.out], by rw [hhd.out], by rw [hs0.out]; exact hS3.out, hB.out⟩
            · have hS3 := hS2.out
              rw [if_neg e48] at hS3
              replace hS3 := Lib.hid hS3
              have hB2 := Lib.hid (hB.setCell (p := ⟨b, 803, none⟩) (Nat.le_refl _) (.bool true))
              have e1 : ((c : Int) == 48) = false := by simp; omega
              have e2 : ((c : Int) != 48) = true := by simp; omega
              clear hS2 hg48 hB b1
              go_wp2_with fail
              go_roundg (gk - 1)
              case measure => omega
              case rel => exact ⟨k + 1, hk1, by omega, by go_num, by rw [hs0.out], by rw [hhd.out], by rw [hs0.out]; exact hS3.out, hB2.out⟩
    · obtain rfl : k = A.length := by omega
      rw [List.take_length] at hσ ⊢
      rw [hσ]
      obtain ⟨dot, D, dp⟩ := σ
      simp only at b1 b2 b3 b4 b5 sN sP sT hS
      have hdt2 := hdt.out
      rw [hσ] at hdt2
      simp only at hdt2
      subst hdt2
      rw [hDA.out]
      have hkS : A.length < S.size := by have := hel.out; omega
      have hg := hgS.out A.length 101 hLe.out hkS
      have hel1 := hel.out
      have hel3 := hel2.out
      have hszz := hsz.out
      have hkS2 : (A.length : Int) < (S.size : Int) := by omega
      have hkS3 : A.length + 1 < S.size := by omega
      have hkS4 : (A.length : Int) + 1 < (S.size : Int) := by omega
      have hLm45 := hgS.out (A.length + 1) 45 hLm.out hkS3
      have q43 : ((45 : Int) == 43) = false := by decide
      have hkS5 : A.length + 2 < S.size := by omega
      obtain ⟨c1, hc1⟩ : ∃ c1, es[0]? = some c1 := ⟨es[0]'(by have := hel.out; omega), List.getElem?_eq_getElem _⟩
      have hc1m := he.out c1 (List.mem_of_getElem? hc1)
      have hgc1 := hgS.out (A.length + 2) c1 (by have := hLs.out 0 (by have := hel.out; omega); rw [Nat.add_zero] at this; rw [this]; exact hc1) hkS5
      have hx1 : (48 : Int) ≤ (c1 : Int) := by omega
      have hx2 : (c1 : Int) ≤ 57 := by omega
      have qx1 : ¬ (c1 : Int) < 48 := by omega
      have qx2 : ¬ (57 : Int) < (c1 : Int) := by omega
      replace hσ := Lib.hid hσ
      have hS := Lib.hid hS
      have hB := Lib.hid hB
      have f801 := sF 801
      clear b4 b5 sF sC sN sT
      have hgsn := Lib.hid (fun (j c : Nat) (hc : es[j]? = some c) (h : A.length + 2 + j < S.size) => hgS.out (A.length + 2 + j) c (by rw [hLs.out j (List.getElem?_eq_some_iff.1 hc).1]; exact hc) h)
      have hsz2 := Lib.hid hsz.out
      replace hszz := Lib.hid hszz
      clear hget hA hdot hLA hkg hk hlt hSb
      generalize A.length = n at *
      go_wp2_with (go_at_call 183; refine (hl101.out _).mono ?_; rintro e w1 ⟨rfl, rfl⟩)
      go_loop [5, 9] (fun v5 v9 => ∃ j : Nat, j ≤ es.length ∧ v5 = .int .i64 ((n + 2 + j : Nat) : Int) ∧ v9 = .int .i64 (evF (es.take j) : Int)) (fun v5 _ => (n + 2 + es.length) - (intOf v5).toNat)
      case atStart => exact ⟨0, Nat.zero_le _, by first | rfl | go_num, rfl⟩
      case round =>
        obtain ⟨j, hj, rfl, rfl⟩ := hrel
        have hsz3 := hsz2.out
        by_cases hjl : j < es.length
        · obtain ⟨x, hx⟩ : ∃ x, es[j]? = some x := ⟨es[j], List.getElem?_eq_getElem hjl⟩
          have hxm := he.out x (List.mem_of_getElem? hx)
          have hxS : n + 2 + j < S.size := by omega
          have hgx := hgsn.out j x hx hxS
          have hxS2 : ((n + 2 + j : Nat) : Int) < (S.size : Int) := by omega
          have hev := Lib.hid (evF_take hx)
          have hlt4 := evF_lt (es.take j) (fun c hc => he.out c (List.mem_of_mem_take hc))
          have hl4 : (es.take j).length ≤ 3 := by rw [List.length_take]; omega
          have hp4 : 10 ^ (es.take j).length ≤ 10 ^ 3 := Nat.pow_le_pow_right (by decide) hl4
          generalize evF (es.take j) = E at *
          have hE : E < 1000 := Nat.lt_of_lt_of_le hlt4 hp4
          clear hlt4 hl4 hp4 hsz3 hx
          have y1 : (48 : Int) ≤ (x : Int) := by omega
          have y2 : (x : Int) ≤ 57 := by omega
          have y3 : ((x : Int) == 95) = false := by simp; omega
          have y4 : (E : Int) < 10000 := by omega
          have hqb : n + 2 + j ≤ 100010 := by omega
          have hjl' := Lib.hid hjl
          clear hjl hj
          generalize hq : n + 2 + j = q at *
          have hq' := Lib.hid hq
          clear hq sP
          go_wp2_with fail
          go_round
          case rel => exact ⟨j + 1, hjl'.out, by have := hq'.out; first | go_num | (congr 1; omega), by rw [hev.out]; first | go_num | (congr 1; omega)⟩
          case measure => have := hq'.out; have := hjl'.out; simp [intOf]; omega
        · obtain rfl : j = es.length := by omega
          have hjS : ((n + 2 + es.length : Nat) : Int) = (S.size : Int) := by omega
          have hjN : n + 2 + es.length = S.size := by omega
          rw [List.take_length]
          have hlt4 := evF_lt es (fun c hc => he.out c hc)
          have hp4 : 10 ^ es.length ≤ 10 ^ 4 := Nat.pow_le_pow_right (by decide) hel3
          have hE : evF es < 10000 := Nat.lt_of_lt_of_le hlt4 hp4
          rw [hjN]
          clear hlt4 hp4 hjS hjN hsz3
          generalize hEd : evF es = E at *
          replace hEd := Lib.hid hEd
          have hS2 := Lib.hid (hS.out.dp (dp - (E : Int)))
          have hB2 := Lib.hid (hB.out.setCell (p := ⟨b, 801, none⟩) (Nat.le_refl _) (.int .i64 (dp - (E : Int))))
          clear hj hjl hel1 hel3 hg hg0 b1
          go_wp2_with fail
          go_ret
          exact ⟨rfl, by rw [hσ.out, hEd.out]; exact hS2.out, hB2.out⟩
end Go.Proofs.YtbakbikilbaafaaGreatDoor
namespace Go.Proofs.YtbakbikilbaafaaGreatDoor
open Go.RowKit F64 Ieee
set_option linter.unusedVariables false
set_option maxHeartbeats 4000000
set_option maxRecDepth 100000

theorem near_between {r a1 b1 a2 b2 a b : Nat} (h1 : Near r a1 b1) (h2 : Near r a2 b2) (hb1 : 0 < b1) (hb2 : 0 < b2) (hb : 0 < b) (l1 : a1 * b ≤ a * b1) (l2 : a * b2 ≤ a2 * b) : Near r a b := by
  refine ⟨h1.le, ?_, ?_⟩
  · rcases h2.up with h | h | ⟨h, g⟩
    · exact .inl h
    · right; left
      refine Nat.lt_of_mul_lt_mul_right (a := b2) ?_
      calc 2 * a * b2 = 2 * (a * b2) := Nat.mul_assoc _ _ _
        _ ≤ 2 * (a2 * b) := Nat.mul_le_mul_left 2 l2
        _ = 2 * a2 * b := (Nat.mul_assoc _ _ _).symm
        _ < b2 * (V r + V (r + 1)) * b := Nat.mul_lt_mul_of_pos_right h hb
        _ = b * (V r + V (r + 1)) * b2 := by ac_rfl
    · right
      rcases Nat.lt_or_ge (2 * a) (b * (V r + V (r + 1))) with z | z
      · exact .inl z
      · refine .inr ⟨?_, g⟩
        have e : 2 * a * b2 ≤ b * (V r + V (r + 1)) * b2 := by
          calc 2 * a * b2 = 2 * (a * b2) := Nat.mul_assoc _ _ _
            _ ≤ 2 * (a2 * b) := Nat.mul_le_mul_left 2 l2
            _ = 2 * a2 * b := (Nat.mul_assoc _ _ _).symm
            _ = b2 * (V r + V (r + 1)) * b := by rw [h]
            _ = b * (V r + V (r + 1)) * b2 := by ac_rfl
        exact Nat.le_antisymm (Nat.le_of_mul_le_mul_right e hb2) z
  · rcases h1.dn with h | h | ⟨h, g⟩
    · exact .inl h
    · right; left
      refine Nat.lt_of_mul_lt_mul_right (a := b1) ?_
      calc b * (V (r - 1) + V r) * b1 = b1 * (V (r - 1) + V r) * b := by ac_rfl
        _ < 2 * a1 * b := Nat.mul_lt_mul_of_pos_right h hb
        _ = 2 * (a1 * b) := Nat.mul_assoc _ _ _
        _ ≤ 2 * (a * b1) := Nat.mul_le_mul_left 2 l1
        _ = 2 * a * b1 := (Nat.mul_assoc _ _ _).symm
    · right
      rcases Nat.lt_or_ge (b * (V (r - 1) + V r)) (2 * a) with z | z
      · exact .inl z
      · refine .inr ⟨?_, g⟩
        have e : b * (V (r - 1) + V r) * b1 ≤ 2 * a * b1 := by
          calc b * (V (r - 1) + V r) * b1 = b1 * (V (r - 1) + V r) * b := by ac_rfl
            _ = 2 * a1 * b := by rw [h]
            _ = 2 * (a1 * b) := Nat.mul_assoc _ _ _
            _ ≤ 2 * (a * b1) := Nat.mul_le_mul_left 2 l1
            _ = 2 * a * b1 := (Nat.mul_assoc _ _ _).symm
        exact Nat.le_antisymm (Nat.le_of_mul_le_mul_right e hb1) z
theorem near_nv {d : Nat} {p : Int} (h0 : 0 < d) (h : d < 18446744073709551616) (h1 : -348 ≤ p) (h2 : p ≤ 347) : Near (nv d p) (d * frN p 1074) (frD p 1074) := by
  obtain ⟨b0, b1, b2, b3⟩ := bl_d h0 h
  have hn := (pf_near h1 h2 b0 b1 b2 b3).1
  rw [← pf_nv h0 h h1 h2]
  exact hn
theorem pow_sh {p e : Int} {z : Nat} (h : p = e + z) : (10 : Nat) ^ p.toNat * 10 ^ (-e).toNat = 10 ^ z * (10 ^ e.toNat * 10 ^ (-p).toNat) := by
  rw [← Nat.pow_add, ← Nat.pow_add, ← Nat.pow_add]; congr 1; omega
/-- a number whose last digits are cut off lies between two -/
theorem cut_between {m N z : Nat} {p e : Int} {v : Nat} (he : p = e + z) (h1 : m * 10 ^ z ≤ N) (h2 : N ≤ (m + 1) * 10 ^ z) (hm0 : 0 < m) (hm : m + 1 < 18446744073709551616) (hp1 : -348 ≤ p) (hp2 : p ≤ 347) (hv1 : nv m p = v) (hv2 : nv (m + 1) p = v) : nv N e = v := by
  have n1 := near_nv hm0 (by omega) hp1 hp2
  have n2 := near_nv (show 0 < m + 1 by omega) hm hp1 hp2
  rw [hv1] at n1
  rw [hv2] at n2
  refine nearV_eq (frD_pos e 1074) (near_between n1 n2 (frD_pos p 1074) (frD_pos p 1074) (frD_pos e 1074) ?_ ?_)
  · rw [frN_U, frN_U, frD_1, frD_1]
    have hs := pow_sh he
    calc m * (10 ^ p.toNat * U) * 10 ^ (-e).toNat = m * (10 ^ p.toNat * 10 ^ (-e).toNat) * U := by ac_rfl
      _ = m * 10 ^ z * (10 ^ e.toNat * 10 ^ (-p).toNat) * U := by rw [hs]; ac_rfl
      _ ≤ N * (10 ^ e.toNat * 10 ^ (-p).toNat) * U := Nat.mul_le_mul_right _ (Nat.mul_le_mul_right _ h1)
      _ = N * (10 ^ e.toNat * U) * 10 ^ (-p).toNat := by ac_rfl
  · rw [frN_U, frN_U, frD_1, frD_1]
    have hs := pow_sh he
    calc N * (10 ^ e.toNat * U) * 10 ^ (-p).toNat = N * (10 ^ e.toNat * 10 ^ (-p).toNat) * U := by ac_rfl
      _ ≤ (m + 1) * 10 ^ z * (10 ^ e.toNat * 10 ^ (-p).toNat) * U := Nat.mul_le_mul_right _ (Nat.mul_le_mul_right _ h2)
      _ = (m + 1) * (10 ^ p.toNat * 10 ^ (-e).toNat) * U := by rw [hs]; ac_rfl
      _ = (m + 1) * (10 ^ p.toNat * U) * 10 ^ (-e).toNat := by ac_rfl
theorem cut_big {m N z : Nat} {p e : Int} (he : p = e + z) (h1 : m * 10 ^ z ≤ N) (hm0 : 0 < m) (hp : 310 < p) : nv N e = 9218868437227405312 := by
  refine nearV_eq (frD_pos e 1074) (near_infA (frD_pos e 1074) ?_)
  have hV : V 9218868437227405312 ≤ 10 ^ E311 * U := by decide +kernel
  rw [frN_U, frD_1]
  have h2 : 10 ^ (-e).toNat * 10 ^ E311 ≤ 10 ^ z * 10 ^ e.toNat := by
    rw [← Nat.pow_add, ← Nat.pow_add]
    exact Nat.pow_le_pow_right (by decide) (by rw [show E311 = 311 from rfl]; omega)
  have h3 : 10 ^ z ≤ N := Nat.le_trans (by have := Nat.mul_le_mul_right (10 ^ z) hm0; omega) h1
  calc 10 ^ (-e).toNat * V 9218868437227405312 ≤ 10 ^ (-e).toNat * (10 ^ E311 * U) := Nat.mul_le_mul_left _ hV
    _ = 10 ^ (-e).toNat * 10 ^ E311 * U := by ac_rfl
    _ ≤ 10 ^ z * 10 ^ e.toNat * U := Nat.mul_le_mul_right _ h2
    _ ≤ N * 10 ^ e.toNat * U := Nat.mul_le_mul_right _ (Nat.mul_le_mul_right _ h3)
    _ = N * (10 ^ e.toNat * U) := by ac_rfl
theorem cut_small {m N z : Nat} {p e : Int} (he : p = e + z) (h2 : N ≤ (m + 1) * 10 ^ z) (hm : m + 1 < 18446744073709551616) (hp : p < -345) : nv N e = 0 := by
  refine nearV_eq (frD_pos e 1074) (near_zero ?_)
  have hV : 2 * (18446744073709551616 * U) < 10 ^ E346 := by decide +kernel
  rw [frN_U, frD_1, show e.toNat = 0 by omega, Nat.pow_zero, Nat.one_mul]
  have h3 : 10 ^ E346 * 10 ^ z ≤ 10 ^ (-e).toNat := by
    rw [← Nat.pow_add]
    exact Nat.pow_le_pow_right (by decide) (by rw [show E346 = 346 from rfl]; omega)
  have hz : 0 < 10 ^ z := Nat.pow_pos (by decide)
  have h4 : N ≤ 18446744073709551616 * 10 ^ z := Nat.le_trans h2 (Nat.mul_le_mul_right _ (Nat.le_of_lt hm))
  have h5 := Nat.mul_lt_mul_of_pos_right hV hz
  have h6 : 2 * (N * U) ≤ 2 * (18446744073709551616 * U) * 10 ^ z := by
    have := Nat.mul_le_mul_right U h4
    calc 2 * (N * U) ≤ 2 * (18446744073709551616 * 10 ^ z * U) := Nat.mul_le_mul_left 2 this
      _ = 2 * (18446744073709551616 * U) * 10 ^ z := by ac_rfl
  omega
/-- what the slow way answers is the nearest -/
theorem slow_nv {N l v : Nat} {dp : Int} (hd : -1300 ≤ dp) (h : Near v (N * 10 ^ (1300 + dp).toNat * U) (10 ^ l * SC)) : nv N (dp - l) = v := by
  refine nearV_eq (frD_pos _ 1074) (near_eq h (Nat.mul_pos (Nat.pow_pos (by decide)) SC_pos) (frD_pos _ 1074) ?_)
  rw [frN_U, frD_1]
  unfold SC
  have e : (10 : Nat) ^ (1300 + dp).toNat * 10 ^ (-(dp - (l : Int))).toNat = 10 ^ (dp - (l : Int)).toNat * (10 ^ l * 10 ^ EX) := by
    rw [← Nat.pow_add, ← Nat.pow_add, ← Nat.pow_add]; congr 1; rw [EX_eq]; omega
  calc N * 10 ^ (1300 + dp).toNat * U * 10 ^ (-(dp - (l : Int))).toNat = N * U * (10 ^ (1300 + dp).toNat * 10 ^ (-(dp - (l : Int))).toNat) := by ac_rfl
    _ = N * U * (10 ^ (dp - (l : Int)).toNat * (10 ^ l * 10 ^ EX)) := by rw [e]
    _ = N * (10 ^ (dp - (l : Int)).toNat * U) * (10 ^ l * 10 ^ EX) := by ac_rfl
end Go.Proofs.YtbakbikilbaafaaGreatDoor
namespace Go.Proofs.YtbakbikilbaafaaGreatDoor
open Go.RowKit F64 Ieee
set_option linter.unusedVariables false
set_option maxHeartbeats 4000000
set_option maxRecDepth 100000

theorem ord_eq_le {x y : Nat} (hx : x ≤ 9218868437227405312) (hy : y ≤ 9218868437227405312) (h : (FloatKind.f64.format.order x y == some Ordering.eq) = true) : x = y := by
  rcases Nat.lt_or_ge x 9218868437227405312 with a | a
  · rcases Nat.lt_or_ge y 9218868437227405312 with b | b
    · rw [ord_eq a b] at h
      exact of_decide_eq_true h
    · obtain rfl : y = 9218868437227405312 := by omega
      exfalso
      have hr := read_fin (w := x) (fin_small a)
      have hi : double.read 9218868437227405312 = .infinity false := by rfl
      rw [O_eq] at h
      unfold Format.order at h
      rw [hr, hi] at h
      simp [Datum.order] at h
  · obtain rfl : x = 9218868437227405312 := by omega
    rcases Nat.lt_or_ge y 9218868437227405312 with b | b
    · exfalso
      have hr := read_fin (w := y) (fin_small b)
      have hi : double.read 9218868437227405312 = .infinity false := by rfl
      rw [O_eq] at h
      unfold Format.order at h
      rw [hr, hi] at h
      simp [Datum.order] at h
    · omega
theorem zc_dig : Tryz.zeroCells181.toList.take 800 = List.replicate 800 (Value.int .u8 0) := by kernel_rfl
theorem zc_rest : Tryz.zeroCells181.toList.drop 800 = [.int .i64 0, .int .i64 0, .bool false, .bool false] := by kernel_rfl
theorem zc_get (i : Nat) : Tryz.zeroCells181[i]? = (List.replicate 800 (Value.int .u8 0) ++ [.int .i64 0, .int .i64 0, .bool false, .bool false])[i]? := by
  rw [← zc_dig, ← zc_rest, List.take_append_drop, Array.getElem?_toList]
theorem set_fresh (W : World) : SetI W.heap.size [] 0 (W.alloc (.cells Tryz.zeroCells181 181)) ∧ (W.alloc (.cells Tryz.zeroCells181 181)).cell? ⟨W.heap.size, 802, none⟩ = some (.bool false) := by
  have hr := heap_alloc_new W (.cells Tryz.zeroCells181 181)
  have hc : ∀ i, (W.alloc (.cells Tryz.zeroCells181 181)).cell? ⟨W.heap.size, i, none⟩ = (List.replicate 800 (Value.int .u8 0) ++ [.int .i64 0, .int .i64 0, .bool false, .bool false])[i]? := by
    intro i
    rw [← zc_get]
    exact cell_of_row _ _ i _ _ _ hr
  refine ⟨⟨fun _ => 0, ⟨fun i hi => ?_, fun i hi => by decide, ?_, ?_, ?_, ?_, fun i => ?_⟩, fun i hi => by simp at hi⟩, ?_⟩
  · rw [hc, List.getElem?_append_left (by simp; exact hi), List.getElem?_replicate, if_pos hi]; rfl
  · rw [hc, List.getElem?_append_right (by simp)]; simp
  · rw [hc, List.getElem?_append_right (by simp)]; simp
  · rw [hc, List.getElem?_append_right (by simp)]; simp
  · rw [hc, List.getElem?_append_right (by simp)]; simp; rfl
  · unfold World.frozen?
    rw [show (W.alloc (.cells Tryz.zeroCells181 181)).heap[(⟨W.heap.size, i, none⟩ : Addr).block]? = some (.cells Tryz.zeroCells181 181) from hr]
    simp
  · rw [hc, List.getElem?_append_right (by simp)]; simp
theorem c_atofT (S : ByteArray) (D : List Nat) (m : Nat) (p dp : Int) (c : Nat) (h0 : 0 < S.size) (hc : (S[0]'h0).toNat = c) (hcd : 48 ≤ c ∧ c ≤ 57) (hdig : ∀ c ∈ D, 48 ≤ c ∧ c ≤ 57) (hhd : ∀ c, D[0]? = some c → 49 ≤ c) (hl : 20 ≤ D.length)
    (hm : m = numL (D.take 19)) (hp : p = dp - 19) (hd1 : -450 ≤ dp) (hd2 : dp ≤ 800) (w : World) (hL : LibW w)
    (hR0 : ∀ W, Calls Tryz.prog 202 #[.string S] W fun r w' => r = .returned (.tuple #[.int .u64 (m : Int), .int .i64 p, .bool false, .bool true, .bool false, .int .i64 (S.size : Int), .bool true]) ∧ W = w')
    (hSet0 : ∀ b W, SetI b [] 0 W → W.cell? ⟨b, 802, none⟩ = some (.bool false) → Calls Tryz.prog 208 #[.pointer (some ⟨b, 0, none⟩), .string S] W fun r w' => r = .returned (.bool true) ∧ SetI b D dp w' ∧ Below b W w') :
    Calls Tryz.prog 175 #[.string S] w fun r w' => AtR (nv (numL D) (dp - D.length)) S.size r ∧ Below w.heap.size w w' := by
  have hS := Lib.hid (fun W => c_special S c h0 hc hcd W)
  have hR := Lib.hid hR0
  have hSet := Lib.hid hSet0
  have ho := hL.opt
  have hB := Lib.hid (fun b W => d_bool2u64 b W)
  have hf0 := r_ffb
  have k0 : IntKind.u64.wrap (0 * 9223372036854775808) = 0 := by decide
  have k1 : bits BinOp.or IntKind.u64 0 0 = 0 := by decide
  have k2 : bits BinOp.or IntKind.u64 0 9218868437227405312 = 9218868437227405312 := by decide +kernel
  have hm19 : m < 10000000000000000000 := by
    rw [hm]
    refine Nat.lt_of_lt_of_le (numL_lt (fun c hc => hdig c (List.mem_of_mem_take hc))) ?_
    rw [List.length_take, Nat.min_eq_left (by omega)]
    decide
  have hm1 : 0 < m := by
    rw [hm]
    obtain ⟨x, xs, hx⟩ : ∃ x xs, D = x :: xs := by
      cases D with
      | nil => simp at hl
      | cons x xs => exact ⟨x, xs, rfl⟩
    have h1 := hhd x (by rw [hx]; rfl)
    rw [hx, show (x :: xs).take 19 = x :: xs.take 18 from rfl, numL_cons]
    have h2 : 0 < 10 ^ (xs.take 18).length := Nat.pow_pos (by decide)
    have h3 := Nat.mul_le_mul_right (10 ^ (xs.take 18).length) (show 1 ≤ x - 48 by omega)
    omega
  obtain ⟨z, hz⟩ : ∃ z, D.length = 19 + z := ⟨D.length - 19, by omega⟩
  have hsp := numL_split D 19
  have hrest : numL (D.drop 19) < 10 ^ z := by
    have := numL_lt (l := D.drop 19) (fun c hc => hdig c (List.mem_of_mem_drop hc))
    rwa [List.length_drop, hz, Nat.add_sub_cancel_left] at this
  rw [List.length_drop, hz, Nat.add_sub_cancel_left, ← hm] at hsp
  have hb1 : m * 10 ^ z ≤ numL D := by omega
  have hb2 : numL D ≤ (m + 1) * 10 ^ z := by rw [Nat.add_mul]; omega
  have he : p = (dp - (D.length : Int)) + (z : Int) := by omega
  have q0 : ((m : Int) == 0) = false := by simp; omega
  have happ := Lib.hid (fun b w (h : SetI b D dp w) => h.app hdig (by omega) hhd hd1 hd2)
  have hnn : Hid (∀ v, Near v (numL D * 10 ^ (1300 + dp).toNat * U) (10 ^ D.length * SC) → nv (numL D) (dp - D.length) = v) := fun v h => slow_nv (by omega) h
  by_cases hbig : 310 < p
  · have hN := Lib.hid (cut_big he hb1 hm1 hbig)
    clear hsp hrest hb1 hb2 hm he hz hp
    go_enter Tryz.func175, Tryz.ntmps175
    go_wp2_with (first | (go_at_call 201; refine (hS.out _).mono ?_; rintro e w1 ⟨rfl, rfl⟩) | (go_at_call 202; refine (hR.out _).mono ?_; rintro e w1 ⟨rfl, rfl⟩) | (go_at_call 210; refine (hB.out _ _).mono ?_; rintro e w1 ⟨rfl, rfl⟩; simp only [b2n]))
    go_ret3
    exact ⟨⟨_, by rw [hN.out]; rfl, .inr rfl⟩, Below.refl _ _⟩
  by_cases hsm : p < -345
  · have hN := Lib.hid (cut_small he hb2 (by omega) hsm)
    clear hsp hrest hb1 hb2 hm he hz hp
    go_enter Tryz.func175, Tryz.ntmps175
    go_wp2_with (first | (go_at_call 201; refine (hS.out _).mono ?_; rintro e w1 ⟨rfl, rfl⟩) | (go_at_call 202; refine (hR.out _).mono ?_; rintro e w1 ⟨rfl, rfl⟩) | (go_at_call 210; refine (hB.out _ _).mono ?_; rintro e w1 ⟨rfl, rfl⟩; simp only [b2n]))
    go_ret3
    exact ⟨⟨_, by rw [hN.out]; rfl, .inl rfl⟩, Below.refl _ _⟩
  have nle0 := (near_nv hm1 (show m < 18446744073709551616 by omega) (p := p) (by omega) (by omega)).le
  have nle1 := (near_nv (show 0 < m + 1 by omega) (show m + 1 < 18446744073709551616 by omega) (p := p) (by omega) (by omega)).le
  have hPF := Lib.hid (fun W => c_pf hm1 (show m < 18446744073709551616 by omega) (p := p) (by omega) (by omega) W)
  have hPF1 := Lib.hid (fun W => c_pf (show 0 < m + 1 by omega) (show m + 1 < 18446744073709551616 by omega) (p := p) (by omega) (by omega) W)
  have hmid := Lib.hid (fun v (h1 : nv m p = v) (h2 : nv (m + 1) p = v) => cut_between he hb1 hb2 hm1 (by omega) (by omega) (by omega) h1 h2)
  have hdp7 : dp ≤ 700 := by omega
  have hpw := hL.pow
  have hK := Lib.hid (fun W (hB : Below w.heap.size w W) => hL.keep hB)
  replace hpw := Lib.hid hpw
  have w1 : IntKind.u64.wrap ((m : Int) + 1) = ((m + 1 : Nat) : Int) := by rw [IntKind.wrap_u64]; omega
  generalize hm1e : m + 1 = m1 at *
  clear hsp hrest hb1 hb2 hm he hz hm1e hL hp
  go_enter Tryz.func175, Tryz.ntmps175
  go_wp2_with (first | (go_at_call 201; refine (hS.out _).mono ?_; rintro e w1 ⟨rfl, rfl⟩) | (go_at_call 202; refine (hR.out _).mono ?_; rintro e w1 ⟨rfl, rfl⟩) | (go_at_call 210; refine (hB.out _ _).mono ?_; rintro e w1 ⟨rfl, rfl⟩; simp only [b2n]))
  refine (hPF.out _ hpw.out).mono ?_
  rintro e w1 ⟨⟨er, rfl, her⟩, hb⟩
  replace her := Lib.hid her
  go_wp2_with fail
  have hpw1 := (hK.out _ hb).pow
  replace hb := Lib.hid hb
  refine (hPF1.out _ hpw1).mono ?_
  rintro e w2 ⟨⟨er1, rfl, her1⟩, hb1⟩
  have hb2 := Lib.hid (hb.out.trans (hb1.mono hb.out.size))
  clear hpw1
  replace hb1 := Lib.hid hb1
  generalize hv0 : nv m p = v0 at *
  generalize hv1 : nv m1 p = v1 at *
  replace hv0 := Lib.hid hv0
  replace hv1 := Lib.hid hv1
  have nle0 := Lib.hid nle0
  have nle1 := Lib.hid nle1
  have hfr := Lib.hid (set_fresh w2)
  have hx : (ByteArray.extract S 0 S.size) = S := by simp
  go_wp2_with fail
  · rename_i hq
    have hvv := ord_eq_le nle0.out nle1.out hq
    go_ret3
    exact ⟨⟨_, by rw [hmid.out v0 rfl hvv.symm]; rfl, her.out⟩, hb2.out⟩
  · refine (hSet.out _ _ hfr.out.1 hfr.out.2).mono ?_
    rintro e w3 ⟨rfl, hSI, hbs⟩
    obtain ⟨C, hDD, hDe, hAp⟩ := happ.out _ _ hSI
    have hB3 : Below w2.heap.size w2 w3 := ((Below.refl _ w2).alloc (Nat.le_refl _) _).trans hbs
    have hFB := Lib.hid (c_floatBits w2.heap.size _ dp _ _ _ (Nat.pow_pos (by decide)) hAp (by omega) (by omega) w2 (hK.out _ hb2.out) rfl w3 hB3 ⟨C, _, hDD, hDe, rfl⟩)
    clear hDe hAp hSI hbs hB3
    go_wp2_with fail
    refine hFB.out.mono ?_
    rintro e w4 ⟨⟨v, ov, rfl, hNv⟩, hb4⟩
    have hfin := Lib.hid (hnn.out v hNv)
    have hb5 := Lib.hid (hb2.out.trans (hb4.mono hb2.out.size))
    clear hNv hb4
    cases ov with
    | true =>
      go_wp2_with fail
      go_ret3
      exact ⟨⟨_, by rw [hfin.out]; rfl, .inr rfl⟩, hb5.out⟩
    | false =>
      go_wp2_with fail
      go_ret3
      exact ⟨⟨_, by rw [hfin.out]; rfl, .inl rfl⟩, hb5.out⟩
end Go.Proofs.YtbakbikilbaafaaGreatDoor
namespace Go.Proofs.YtbakbikilbaafaaGreatDoor
open Go.RowKit F64 Ieee
set_option linter.unusedVariables false
set_option maxHeartbeats 4000000
set_option maxRecDepth 100000

theorem below_freezeG {B : Nat} {a w : World} (h : Below B a w) {p : Addr} (hp : B ≤ p.block) (n : Nat) : Below B a (w.freeze p n) := by
  unfold World.freeze
  split
  · exact h
  · refine ⟨h.os, h.tape, h.output, by simpa using h.size, fun k hk => ?_⟩
    rw [← h.block k hk]
    simp only [Array.getElem?_modify]
    rw [if_neg (by omega)]
theorem c_AbsG (x : Nat) (hx : x < 18446744073709551616) (w : World) :
    Calls Tryz.prog 58 #[.float .f64 x] w fun e w' => e = .returned (.float .f64 (rung x)) ∧ w = w' := by
  have r1 : ∀ w, (callFunc 87 #[.float .f64 x]).run Tryz.prog w = .ok (.value (.int .u64 x)) w := fun w => by kernel_rfl
  have r2 : ∀ (x : Int) (w : World), (callFunc 77 #[.int .u64 x]).run Tryz.prog w = .ok (.value (.float .f64 x.toNat)) w := fun x w => by kernel_rfl
  go_enter Tryz.func58, Tryz.ntmps58
  go_wp2
  go_ret
  exact ⟨by rw [b_abs hx]; rfl, rfl⟩
theorem c_IsInfG (x : Nat) (hx : x < 18446744073709551616) (w : World) :
    Calls Tryz.prog 56 #[.float .f64 x, .int .i64 0] w fun r w' => r = .returned (.bool (decide (rung x = 9218868437227405312))) ∧ w = w' := by
  have h := ord_max (x := rung x) (by have := rung_lt x; omega)
  have hA := Lib.hid (fun W => c_AbsG x hx W)
  generalize rung x = y at *
  generalize decide (y = 9218868437227405312) = d at *
  go_enter Tryz.func56, Tryz.ntmps56
  go_wp2_with (go_at_call 58; refine (hA.out _).mono ?_; rintro e w1 ⟨rfl, rfl⟩)
  go_ret
  exact ⟨rfl, rfl⟩
theorem c_IsInfP (x : Nat) (hx : x < 9218868437227405312) (w : World) :
    Calls Tryz.prog 56 #[.float .f64 x, .int .i64 0] w fun r w' => r = .returned (.bool false) ∧ w = w' := by
  have h := c_IsInfG x (by omega) w
  rw [show decide (rung x = 9218868437227405312) = false by rw [rung_small (by omega)]; simp; omega] at h
  exact h
theorem c_cutSci (m v : Nat) (E : Int) (hlen : (sciG m v E).length ≤ 1000) (w : World) (hL : LibW w) :
    Calls Tryz.prog 61 #[.string (u8sG (sciG m v E)), .string ⟨#[101]⟩] w fun e w' => e = .returned (.tuple #[.string (u8sG (sciP m v)), .string (u8sG (exS E :: exD E.natAbs)), .bool true]) ∧ ∃ n, w' = w.drewN n := by
  obtain ⟨ml, hml⟩ := hL.ml
  refine (s_Cut _ _ ml w (by rw [uG_size]; omega) hml).mono ?_
  rintro e w' ⟨rfl, h⟩
  have hc := cut_sci m v E
  have e1 : (⟨#[101]⟩ : ByteArray).data.toList = [101] := rfl
  rw [e1, hc]
  exact ⟨rfl, h⟩
theorem c_replSci (m v : Nat) (hm : 1 ≤ m) (hm2 : m ≤ 100) (w : World) (hL : LibW w) :
    Calls Tryz.prog 63 #[.string (u8sG (sciP m v)), .string ⟨#[46]⟩, .string ⟨#[]⟩, .int .i64 1] w fun e w' => e = .returned (.string (u8sG (dg m v))) ∧ Below w.heap.size w w' := by
  obtain ⟨ml, hml⟩ := hL.ml
  have hl : (sciP m v).length ≤ m + 1 := by
    unfold sciP
    split
    · rw [dg_len]; omega
    · simp [dg_len]; omega
  refine (s_Replace _ _ _ 1 ml w (by rw [uG_size]; omega) hml (by decide) (by rw [uG_size]; show _ + _ * 0 ≤ _; omega)).mono ?_
  rintro e w' ⟨rfl, h⟩
  have e1 : (⟨#[46]⟩ : ByteArray).data.toList = [46] := rfl
  have e2 : (⟨#[]⟩ : ByteArray).data.toList = [] := rfl
  rw [uG_data, e1, e2, replace_sci m v hm]
  exact ⟨rfl, h⟩
theorem c_atoiSci (E : Int) (h1 : -1000 < E) (h2 : E < 1000) (w : World) :
    Calls Tryz.prog 64 #[.string (u8sG (exS E :: exD E.natAbs))] w fun e w' => e = .returned (.tuple #[.int .i64 E, .nilIface]) ∧ Below w.heap.size w w' := by
  have hl : (exD E.natAbs).length ≤ 3 := by
    unfold exD
    split
    · simp
    · split <;> simp
  refine (s_Atoi _ E (by rw [uG_size]; simp; omega) (by rw [uG_data]; exact atoi_exp E h1 h2) w).mono ?_
  rintro e w' ⟨rfl, t, rfl⟩
  refine ⟨rfl, ?_⟩
  exact below_freezeG ((Below.refl _ w).drew.alloc (Nat.le_refl _) _) (Nat.le_refl _) _
theorem c_rep0 (k : Nat) (hk : k ≤ 1000) (w : World) :
    Calls Tryz.prog 65 #[.string ⟨#[48]⟩, .int .i64 (k : Int)] w fun e w' => e = .returned (.string (u8sG (List.replicate k 48))) ∧ Below w.heap.size w w' := by
  refine (s_Repeat ⟨#[48]⟩ k w (by omega) (by show 1 * k ≤ _; omega)).mono ?_
  rintro e w' ⟨rfl, h⟩
  have e1 : (⟨#[48]⟩ : ByteArray).data.toList = [48] := rfl
  rw [e1, repeat_zero]
  exact ⟨rfl, h⟩
theorem c_itoa (n : Nat) (hn : n < 9223372036854775808) (w : World) (hL : LibW w) :
    Calls Tryz.prog 66 #[.int .i64 (n : Int)] w fun e w' => e = .returned (.string (u8sG (itG n))) ∧ Below w.heap.size w w' := by
  refine (s_Itoa (n : Int) (by omega) (by omega) w hL.tab).mono ?_
  rintro e w' ⟨rfl, h⟩
  have e1 : Lib.itoa (n : Int) = Lib.decDigits n := by unfold Lib.itoa; rw [if_neg (by omega)]; rfl
  rw [e1, uG_mk]
  exact ⟨rfl, h⟩
theorem itG_len (n k : Nat) (h : n < 10 ^ (k + 1)) : (itG n).length ≤ k + 1 := by
  induction k generalizing n with
  | zero =>
    unfold itG Lib.decDigits
    rw [dif_pos (by simpa using h)]
    simp
  | succ k ih =>
    unfold itG Lib.decDigits
    split
    · simp
    · have := ih (n / 10) (by rw [Nat.pow_succ] at h; omega)
      unfold itG at this
      simp at this ⊢
      omega
theorem c_showPA {x m v : Nat} {E : Int} (hx0 : 0 < x) (hx : x < 9218868437227405312) (hS : IsSci x m v E) (hE1 : -400 < E) (hE2 : E < 400) (hm1 : 1 ≤ m) (hm2 : m ≤ 18) (hc : (m : Int) ≤ E + 1) (hc2 : E + 1 ≤ 21) (w : World) (hL : LibW w) :
    Calls Tryz.prog 27 #[.float .f64 x] w fun r w' => r = .returned (.string (u8sG (txtG m v E))) ∧ Below w.heap.size w w' := by
  have o1 := ord_self x
  have o1' : F64.isNaN x = false := by unfold F64.isNaN; rw [rung_small (by omega)]; simp; omega
  rw [o1'] at o1
  have o2 := ord_eq (x := x) (y := 0) hx (by omega)
  have o2' : decide (x = 0) = false := by simp; omega
  rw [o2'] at o2
  have o3 := ord_lt (x := x) (y := 0) hx (by omega)
  have o3' : decide (x < 0) = false := by simp
  rw [o3'] at o3
  have hI := Lib.hid (c_IsInfP x hx)
  have hFF := Lib.hid (fun W hT hP => c_FormatFloatG hx0 hx hS (by omega) (by omega) W hT hP)
  have hgl : (sciG m v E).length ≤ 1000 := by
    rw [sciG_P]
    have h1 : (sciP m v).length ≤ m + 1 := by
      unfold sciP
      split
      · rw [dg_len]; omega
      · simp [dg_len]; omega
    have h2 : (exD E.natAbs).length ≤ 3 := by
      unfold exD
      split
      · simp
      · split <;> simp
    simp
    omega
  have hCut := Lib.hid (fun W hW => c_cutSci m v E hgl W hW)
  have hRep := Lib.hid (fun W hW => c_replSci m v hm1 (by omega) W hW)
  have hAt := Lib.hid (fun W => c_atoiSci E (by omega) (by omega) W)
  have hDl : (u8sG (dg m v)).size = m := by rw [uG_size, dg_len]
  have hPl : (u8sG (sciP m v)).size ≤ 20 := by
    rw [uG_size]
    unfold sciP
    split
    · rw [dg_len]; omega
    · simp [dg_len]; omega
  have hLk := Lib.hid (fun W (hb : Below w.heap.size w W) => hL.keep hb)
  replace hL := Lib.hid hL
  obtain ⟨z, hz⟩ : ∃ z : Nat, E + 1 - (m : Int) = (z : Int) := ⟨(E + 1 - m).toNat, by omega⟩
  have hR := Lib.hid (fun W => c_rep0 z (by omega) W)
  have htx : u8sG (txtG m v E) = u8sG (dg m v) ++ u8sG (List.replicate z 48) := by
    unfold txtG
    rw [if_pos ⟨hc, hc2⟩, uG_app, hz]; rfl
  have hZl : (u8sG (List.replicate z 48)).size ≤ 30 := by rw [uG_size]; simp; omega
  rw [htx]
  clear htx
  generalize u8sG (List.replicate z 48) = Z at *
  generalize u8sG (dg m v) = D at *
  have hfit : ¬ 9223372036854775807 < D.size + Z.size := by omega
  have hDi : (D.size : Int) = (m : Int) := by omega
  have hDle : (m : Int) ≤ E + 1 := hc
  clear hZl hDl
  clear o1' o2' o3' hx hx0 hS hgl
  go_enter Tryz.func27, Tryz.ntmps27
  go_wp2_with (go_at_call 56; refine (hI.out _).mono ?_; rintro e w1 ⟨rfl, rfl⟩)
  refine (hFF.out _ hL.out.pow hL.out.p10).mono ?_
  rintro e w2 ⟨rfl, hb2⟩
  have hL2 := Lib.hid (hLk.out _ hb2)
  go_wp2_with fail
  refine (hCut.out _ hL2.out).mono ?_
  rintro e w3 ⟨rfl, nq, rfl⟩
  have hbn : Below w.heap.size w (w2.drewN nq) := below_drewN hb2 nq
  have hL3 := Lib.hid (hLk.out _ hbn)
  generalize hw3 : w2.drewN nq = w3 at *
  clear hw3
  go_wp2_with fail
  refine (hRep.out _ hL3.out).mono ?_
  rintro e w4 ⟨rfl, hb4⟩
  have hb5 : Below w.heap.size w w4 := hbn.trans (hb4.mono hbn.size)
  clear hb4 hbn hb2
  go_wp2_with fail
  refine (hAt.out _).mono ?_
  rintro e w6 ⟨rfl, hb6⟩
  have hb7 : Below w.heap.size w w6 := hb5.trans (hb6.mono hb5.size)
  have hL7 := Lib.hid (hLk.out _ hb7)
  clear hb6 hb5
  go_wp2_with fail
  refine (hR.out _).mono ?_
  rintro e w8 ⟨rfl, hb8⟩
  have hb9 : Below w.heap.size w w8 := hb7.trans (hb8.mono hb7.size)
  clear hb8
  go_wp2_with fail
  go_ret
  exact ⟨rfl, hb9⟩
theorem c_showPB {x m v : Nat} {E : Int} (hx0 : 0 < x) (hx : x < 9218868437227405312) (hS : IsSci x m v E) (hE1 : -400 < E) (hE2 : E < 400) (hm1 : 1 ≤ m) (hm2 : m ≤ 18) (hc : ¬ (m : Int) ≤ E + 1) (hc1 : 0 < E + 1) (hc2 : E + 1 ≤ 21) (w : World) (hL : LibW w) :
    Calls Tryz.prog 27 #[.float .f64 x] w fun r w' => r = .returned (.string (u8sG (txtG m v E))) ∧ Below w.heap.size w w' := by
  have o1 := ord_self x
  have o1' : F64.isNaN x = false := by unfold F64.isNaN; rw [rung_small (by omega)]; simp; omega
  rw [o1'] at o1
  have o2 := ord_eq (x := x) (y := 0) hx (by omega)
  have o2' : decide (x = 0) = false := by simp; omega
  rw [o2'] at o2
  have o3 := ord_lt (x := x) (y := 0) hx (by omega)
  have o3' : decide (x < 0) = false := by simp
  rw [o3'] at o3
  have hI := Lib.hid (c_IsInfP x hx)
  have hFF := Lib.hid (fun W hT hP => c_FormatFloatG hx0 hx hS (by omega) (by omega) W hT hP)
  have hgl : (sciG m v E).length ≤ 1000 := by
    rw [sciG_P]
    have h1 : (sciP m v).length ≤ m + 1 := by
      unfold sciP
      split
      · rw [dg_len]; omega
      · simp [dg_len]; omega
    have h2 : (exD E.natAbs).length ≤ 3 := by
      unfold exD
      split
      · simp
      · split <;> simp
    simp
    omega
  have hCut := Lib.hid (fun W hW => c_cutSci m v E hgl W hW)
  have hRep := Lib.hid (fun W hW => c_replSci m v hm1 (by omega) W hW)
  have hAt := Lib.hid (fun W => c_atoiSci E (by omega) (by omega) W)
  have hDl : (u8sG (dg m v)).size = m := by rw [uG_size, dg_len]
  have hPl : (u8sG (sciP m v)).size ≤ 20 := by
    rw [uG_size]
    unfold sciP
    split
    · rw [dg_len]; omega
    · simp [dg_len]; omega
  have hLk := Lib.hid (fun W (hb : Below w.heap.size w W) => hL.keep hb)
  replace hL := Lib.hid hL
  obtain ⟨z, hz⟩ : ∃ z : Nat, E + 1 = (z : Int) := ⟨(E + 1).toNat, by omega⟩
  have htx : u8sG (txtG m v E) = (u8sG (dg m v)).extract 0 z ++ ⟨#[46]⟩ ++ (u8sG (dg m v)).extract z m := by
    unfold txtG
    rw [if_neg (fun h => hc h.1), if_pos ⟨hc1, hc2⟩, hz]
    have h1 : (u8sG (dg m v)).extract 0 z = u8sG ((dg m v).take z) := by
      conv => lhs; rw [← List.take_append_drop z (dg m v)]
      exact uG_extract0 _ _ _ (by rw [List.length_take, dg_len]; omega)
    have h2 : (u8sG (dg m v)).extract z m = u8sG ((dg m v).drop z) := by
      conv => lhs; rw [← List.take_append_drop z (dg m v)]
      exact uG_extract _ _ _ _ (by rw [List.take_append_drop, dg_len]) (by rw [List.length_take, dg_len]; omega)
    rw [h1, h2, show (⟨#[46]⟩ : ByteArray) = u8sG [46] from rfl, uG_app, uG_app]
    rfl
  rw [htx]
  clear htx
  have hzm : z < m := by omega
  have hz0 : 0 < z := by omega
  have hz2 : z ≤ 21 := by omega
  obtain rfl : E = (z : Int) - 1 := by omega
  clear hz hc hc1 hc2
  generalize u8sG (dg m v) = D at *
  have q1 : ¬ (D.size : Int) ≤ (z : Int) - 1 + 1 := by omega
  have q1b : decide ((D.size : Int) ≤ (z : Int)) = false := decide_eq_false (by omega)
  have q1c : decide (D.size ≤ z) = false := decide_eq_false (by omega)
  have q2 : (0 : Int) < (z : Int) := by omega
  have q3 : (z : Int) ≤ 21 := by omega
  have q4 : (z : Int) - 1 + 1 = (z : Int) := by omega
  have q5 : (z : Int) ≤ (D.size : Int) := by omega
  have hx1 : (D.extract 0 z).size ≤ 18 := by rw [ByteArray.size_extract]; omega
  have hx2 : (D.extract z m).size ≤ 18 := by rw [ByteArray.size_extract]; omega
  have hx3 : ¬ 9223372036854775807 < (D.extract 0 z).size + 1 := by omega
  have hx4 : ¬ 9223372036854775807 < (D.extract 0 z ++ ⟨#[46]⟩).size + (D.extract z m).size := by rw [ByteArray.size_append]; show ¬ _ < _ + 1 + _; omega
  clear hx1 hx2
  have hDm : D.size = m := hDl
  clear o1' o2' o3' hx hx0 hS hgl
  go_enter Tryz.func27, Tryz.ntmps27
  go_wp2_with (go_at_call 56; refine (hI.out _).mono ?_; rintro e w1 ⟨rfl, rfl⟩)
  refine (hFF.out _ hL.out.pow hL.out.p10).mono ?_
  rintro e w2 ⟨rfl, hb2⟩
  have hL2 := Lib.hid (hLk.out _ hb2)
  go_wp2_with fail
  refine (hCut.out _ hL2.out).mono ?_
  rintro e w3 ⟨rfl, nq, rfl⟩
  have hbn : Below w.heap.size w (w2.drewN nq) := below_drewN hb2 nq
  have hL3 := Lib.hid (hLk.out _ hbn)
  generalize hw3 : w2.drewN nq = w3 at *
  clear hw3
  go_wp2_with fail
  refine (hRep.out _ hL3.out).mono ?_
  rintro e w4 ⟨rfl, hb4⟩
  have hb5 : Below w.heap.size w w4 := hbn.trans (hb4.mono hbn.size)
  clear hb4 hbn hb2
  go_wp2_with fail
  refine (hAt.out _).mono ?_
  rintro e w6 ⟨rfl, hb6⟩
  have hb7 : Below w.heap.size w w6 := hb5.trans (hb6.mono hb5.size)
  have hL7 := Lib.hid (hLk.out _ hb7)
  clear hb6 hb5
  go_wp2_with fail
  go_quiet (fail)
  go_wp2_with fail
  go_ret
  exact ⟨rfl, below_drewN hb7 _⟩
theorem c_showPC {x m v : Nat} {E : Int} (hx0 : 0 < x) (hx : x < 9218868437227405312) (hS : IsSci x m v E) (hE1 : -400 < E) (hE2 : E < 400) (hm1 : 1 ≤ m) (hm2 : m ≤ 18) (hc : -6 < E + 1) (hc2 : E + 1 ≤ 0) (w : World) (hL : LibW w) :
    Calls Tryz.prog 27 #[.float .f64 x] w fun r w' => r = .returned (.string (u8sG (txtG m v E))) ∧ Below w.heap.size w w' := by
  have o1 := ord_self x
  have o1' : F64.isNaN x = false := by unfold F64.isNaN; rw [rung_small (by omega)]; simp; omega
  rw [o1'] at o1
  have o2 := ord_eq (x := x) (y := 0) hx (by omega)
  have o2' : decide (x = 0) = false := by simp; omega
  rw [o2'] at o2
  have o3 := ord_lt (x := x) (y := 0) hx (by omega)
  have o3' : decide (x < 0) = false := by simp
  rw [o3'] at o3
  have hI := Lib.hid (c_IsInfP x hx)
  have hFF := Lib.hid (fun W hT hP => c_FormatFloatG hx0 hx hS (by omega) (by omega) W hT hP)
  have hgl : (sciG m v E).length ≤ 1000 := by
    rw [sciG_P]
    have h1 : (sciP m v).length ≤ m + 1 := by
      unfold sciP
      split
      · rw [dg_len]; omega
      · simp [dg_len]; omega
    have h2 : (exD E.natAbs).length ≤ 3 := by
      unfold exD
      split
      · simp
      · split <;> simp
    simp
    omega
  have hCut := Lib.hid (fun W hW => c_cutSci m v E hgl W hW)
  have hRep := Lib.hid (fun W hW => c_replSci m v hm1 (by omega) W hW)
  have hAt := Lib.hid (fun W => c_atoiSci E (by omega) (by omega) W)
  have hDl : (u8sG (dg m v)).size = m := by rw [uG_size, dg_len]
  have hPl : (u8sG (sciP m v)).size ≤ 20 := by
    rw [uG_size]
    unfold sciP
    split
    · rw [dg_len]; omega
    · simp [dg_len]; omega
  have hLk := Lib.hid (fun W (hb : Below w.heap.size w W) => hL.keep hb)
  replace hL := Lib.hid hL
  obtain ⟨z, hz⟩ : ∃ z : Nat, E + 1 = -(z : Int) := ⟨(-(E + 1)).toNat, by omega⟩
  have hR := Lib.hid (fun W => c_rep0 z (by omega) W)
  have htx : u8sG (txtG m v E) = ⟨#[48, 46]⟩ ++ u8sG (List.replicate z 48) ++ u8sG (dg m v) := by
    unfold txtG
    rw [if_neg (by omega), if_neg (by omega), if_pos ⟨hc, hc2⟩, hz, show (-(-(z : Int))).toNat = z by omega, show (⟨#[48, 46]⟩ : ByteArray) = u8sG [48, 46] from rfl, uG_app, uG_app]
  have hZl : (u8sG (List.replicate z 48)).size ≤ 30 := by rw [uG_size]; simp; omega
  rw [htx]
  clear htx
  obtain rfl : E = -(z : Int) - 1 := by omega
  generalize u8sG (List.replicate z 48) = Z at *
  generalize u8sG (dg m v) = D at *
  have q4 : -(z : Int) - 1 + 1 = -(z : Int) := by omega
  have q1 : ¬ (D.size : Int) ≤ -(z : Int) := by omega
  have q1b : decide ((D.size : Int) ≤ -(z : Int)) = false := decide_eq_false (by omega)
  have q2 : ¬ (0 : Int) < -(z : Int) := by omega
  have q2b : decide ((0 : Int) < -(z : Int)) = false := decide_eq_false (by omega)
  have q3 : (-6 : Int) < -(z : Int) := by omega
  have q5 : -(z : Int) ≤ 0 := by omega
  have q6 : (0 : Int) ≤ (z : Int) := by omega
  have hx1 : ¬ 9223372036854775807 < 2 + Z.size := by omega
  have hx2 : ¬ 9223372036854775807 < ((⟨#[48, 46]⟩ : ByteArray) ++ Z).size + D.size := by rw [ByteArray.size_append]; show ¬ _ < 2 + _ + _; omega
  clear hc hc2 hz hZl
  clear o1' o2' o3' hx hx0 hS hgl
  go_enter Tryz.func27, Tryz.ntmps27
  go_wp2_with (go_at_call 56; refine (hI.out _).mono ?_; rintro e w1 ⟨rfl, rfl⟩)
  refine (hFF.out _ hL.out.pow hL.out.p10).mono ?_
  rintro e w2 ⟨rfl, hb2⟩
  have hL2 := Lib.hid (hLk.out _ hb2)
  go_wp2_with fail
  refine (hCut.out _ hL2.out).mono ?_
  rintro e w3 ⟨rfl, nq, rfl⟩
  have hbn : Below w.heap.size w (w2.drewN nq) := below_drewN hb2 nq
  have hL3 := Lib.hid (hLk.out _ hbn)
  generalize hw3 : w2.drewN nq = w3 at *
  clear hw3
  go_wp2_with fail
  refine (hRep.out _ hL3.out).mono ?_
  rintro e w4 ⟨rfl, hb4⟩
  have hb5 : Below w.heap.size w w4 := hbn.trans (hb4.mono hbn.size)
  clear hb4 hbn hb2
  go_wp2_with fail
  refine (hAt.out _).mono ?_
  rintro e w6 ⟨rfl, hb6⟩
  have hb7 : Below w.heap.size w w6 := hb5.trans (hb6.mono hb5.size)
  have hL7 := Lib.hid (hLk.out _ hb7)
  clear hb6 hb5
  go_wp2_with fail
  refine (hR.out _).mono ?_
  rintro e w8 ⟨rfl, hb8⟩
  have hb9 : Below w.heap.size w w8 := hb7.trans (hb8.mono hb7.size)
  clear hb8
  go_wp2_with fail
  go_ret
  exact ⟨rfl, hb9⟩
theorem c_showPDp {x m v : Nat} {E : Int} (hx0 : 0 < x) (hx : x < 9218868437227405312) (hS : IsSci x m v E) (hE1 : -400 < E) (hE2 : E < 400) (hm1 : 1 ≤ m) (hm2 : m ≤ 18) (hc : 21 < E + 1) (w : World) (hL : LibW w) :
    Calls Tryz.prog 27 #[.float .f64 x] w fun r w' => r = .returned (.string (u8sG (txtG m v E))) ∧ Below w.heap.size w w' := by
  have o1 := ord_self x
  have o1' : F64.isNaN x = false := by unfold F64.isNaN; rw [rung_small (by omega)]; simp; omega
  rw [o1'] at o1
  have o2 := ord_eq (x := x) (y := 0) hx (by omega)
  have o2' : decide (x = 0) = false := by simp; omega
  rw [o2'] at o2
  have o3 := ord_lt (x := x) (y := 0) hx (by omega)
  have o3' : decide (x < 0) = false := by simp
  rw [o3'] at o3
  have hI := Lib.hid (c_IsInfP x hx)
  have hFF := Lib.hid (fun W hT hP => c_FormatFloatG hx0 hx hS (by omega) (by omega) W hT hP)
  have hgl : (sciG m v E).length ≤ 1000 := by
    rw [sciG_P]
    have h1 : (sciP m v).length ≤ m + 1 := by
      unfold sciP
      split
      · rw [dg_len]; omega
      · simp [dg_len]; omega
    have h2 : (exD E.natAbs).length ≤ 3 := by
      unfold exD
      split
      · simp
      · split <;> simp
    simp
    omega
  have hCut := Lib.hid (fun W hW => c_cutSci m v E hgl W hW)
  have hRep := Lib.hid (fun W hW => c_replSci m v hm1 (by omega) W hW)
  have hAt := Lib.hid (fun W => c_atoiSci E (by omega) (by omega) W)
  have hDl : (u8sG (dg m v)).size = m := by rw [uG_size, dg_len]
  have hPl : (u8sG (sciP m v)).size ≤ 20 := by
    rw [uG_size]
    unfold sciP
    split
    · rw [dg_len]; omega
    · simp [dg_len]; omega
  have hLk := Lib.hid (fun W (hb : Below w.heap.size w W) => hL.keep hb)
  replace hL := Lib.hid hL
  obtain ⟨z, hz⟩ : ∃ z : Nat, E = (z : Int) := ⟨E.natAbs, by omega⟩
  have hzl : z < 400 := by omega
  have hI2 := Lib.hid (fun W hW => c_itoa z (by omega) W hW)
  have htx : u8sG (txtG m v E) = u8sG (sciP m v) ++ ⟨#[101]⟩ ++ ⟨#[43]⟩ ++ u8sG (itG z) := by
    unfold txtG
    rw [if_neg (by omega), if_neg (by omega), if_neg (by omega), show E.natAbs = z by omega, hz, exS_pos, show (⟨#[101]⟩ : ByteArray) = u8sG [101] from rfl, show (⟨#[43]⟩ : ByteArray) = u8sG [43] from rfl, uG_app, uG_app, uG_app]
  have hZl : (u8sG (itG z)).size ≤ 3 := by rw [uG_size]; exact itG_len z 2 (by omega)
  rw [htx]
  clear htx
  have hx1 : ¬ 9223372036854775807 < (u8sG (sciP m v)).size + 1 := by omega
  have hx2 : ¬ 9223372036854775807 < (u8sG (sciP m v) ++ ⟨#[101]⟩).size + 1 := by rw [ByteArray.size_append]; show ¬ _ < _ + 1 + 1; omega
  have hx3 : ¬ 9223372036854775807 < (u8sG (sciP m v) ++ ⟨#[101]⟩ ++ ⟨#[43]⟩).size + (u8sG (itG z)).size := by rw [ByteArray.size_append, ByteArray.size_append]; show ¬ _ < _ + 1 + 1 + _; omega
  have hDi : ((u8sG (dg m v)).size : Int) = (m : Int) := by omega
  subst hz
  have q1 : ¬ (z : Int) + 1 ≤ 21 := by omega
  have q1b : decide ((z : Int) + 1 ≤ 21) = false := decide_eq_false (by omega)
  have q2 : (0 : Int) < (z : Int) + 1 := by omega
  have q3 : (-6 : Int) < (z : Int) + 1 := by omega
  have q4 : ¬ (z : Int) + 1 ≤ 0 := by omega
  have q4b : decide ((z : Int) + 1 ≤ 0) = false := decide_eq_false (by omega)
  have q5 : ¬ (z : Int) < 0 := by omega
  have q6 : ((u8sG (dg m v)).size : Int) ≤ (z : Int) + 1 := by omega
  have q7 : (m : Int) ≤ (z : Int) + 1 := by omega
  clear hc hDl
  clear o1' o2' o3' hx hx0 hS hgl
  go_enter Tryz.func27, Tryz.ntmps27
  go_wp2_with (go_at_call 56; refine (hI.out _).mono ?_; rintro e w1 ⟨rfl, rfl⟩)
  refine (hFF.out _ hL.out.pow hL.out.p10).mono ?_
  rintro e w2 ⟨rfl, hb2⟩
  have hL2 := Lib.hid (hLk.out _ hb2)
  go_wp2_with fail
  refine (hCut.out _ hL2.out).mono ?_
  rintro e w3 ⟨rfl, nq, rfl⟩
  have hbn : Below w.heap.size w (w2.drewN nq) := below_drewN hb2 nq
  have hL3 := Lib.hid (hLk.out _ hbn)
  generalize hw3 : w2.drewN nq = w3 at *
  clear hw3
  go_wp2_with fail
  refine (hRep.out _ hL3.out).mono ?_
  rintro e w4 ⟨rfl, hb4⟩
  have hb5 : Below w.heap.size w w4 := hbn.trans (hb4.mono hbn.size)
  clear hb4 hbn hb2
  go_wp2_with fail
  refine (hAt.out _).mono ?_
  rintro e w6 ⟨rfl, hb6⟩
  have hb7 : Below w.heap.size w w6 := hb5.trans (hb6.mono hb5.size)
  have hL7 := Lib.hid (hLk.out _ hb7)
  clear hb6 hb5
  go_wp2_with fail
  refine (hI2.out _ hL7.out).mono ?_
  rintro e w8 ⟨rfl, hb8⟩
  have hb9 : Below w.heap.size w w8 := hb7.trans (hb8.mono hb7.size)
  clear hb8
  go_wp2_with fail
  go_ret
  exact ⟨rfl, hb9⟩
theorem c_showPDn {x m v : Nat} {E : Int} (hx0 : 0 < x) (hx : x < 9218868437227405312) (hS : IsSci x m v E) (hE1 : -400 < E) (hE2 : E < 400) (hm1 : 1 ≤ m) (hm2 : m ≤ 18) (hc : E + 1 ≤ -6) (w : World) (hL : LibW w) :
    Calls Tryz.prog 27 #[.float .f64 x] w fun r w' => r = .returned (.string (u8sG (txtG m v E))) ∧ Below w.heap.size w w' := by
  have o1 := ord_self x
  have o1' : F64.isNaN x = false := by unfold F64.isNaN; rw [rung_small (by omega)]; simp; omega
  rw [o1'] at o1
  have o2 := ord_eq (x := x) (y := 0) hx (by omega)
  have o2' : decide (x = 0) = false := by simp; omega
  rw [o2'] at o2
  have o3 := ord_lt (x := x) (y := 0) hx (by omega)
  have o3' : decide (x < 0) = false := by simp
  rw [o3'] at o3
  have hI := Lib.hid (c_IsInfP x hx)
  have hFF := Lib.hid (fun W hT hP => c_FormatFloatG hx0 hx hS (by omega) (by omega) W hT hP)
  have hgl : (sciG m v E).length ≤ 1000 := by
    rw [sciG_P]
    have h1 : (sciP m v).length ≤ m + 1 := by
      unfold sciP
      split
      · rw [dg_len]; omega
      · simp [dg_len]; omega
    have h2 : (exD E.natAbs).length ≤ 3 := by
      unfold exD
      split
      · simp
      · split <;> simp
    simp
    omega
  have hCut := Lib.hid (fun W hW => c_cutSci m v E hgl W hW)
  have hRep := Lib.hid (fun W hW => c_replSci m v hm1 (by omega) W hW)
  have hAt := Lib.hid (fun W => c_atoiSci E (by omega) (by omega) W)
  have hDl : (u8sG (dg m v)).size = m := by rw [uG_size, dg_len]
  have hPl : (u8sG (sciP m v)).size ≤ 20 := by
    rw [uG_size]
    unfold sciP
    split
    · rw [dg_len]; omega
    · simp [dg_len]; omega
  have hLk := Lib.hid (fun W (hb : Below w.heap.size w W) => hL.keep hb)
  replace hL := Lib.hid hL
  obtain ⟨z, hz⟩ : ∃ z : Nat, E = -(z : Int) := ⟨E.natAbs, by omega⟩
  have hzl : z < 400 := by omega
  have hI2 := Lib.hid (fun W hW => c_itoa z (by omega) W hW)
  have htx : u8sG (txtG m v E) = u8sG (sciP m v) ++ ⟨#[101]⟩ ++ ⟨#[45]⟩ ++ u8sG (itG z) := by
    unfold txtG
    rw [if_neg (by omega), if_neg (by omega), if_neg (by omega), show E.natAbs = z by omega, hz, exS_neg z (by omega), show (⟨#[101]⟩ : ByteArray) = u8sG [101] from rfl, show (⟨#[45]⟩ : ByteArray) = u8sG [45] from rfl, uG_app, uG_app, uG_app]
  have hZl : (u8sG (itG z)).size ≤ 3 := by rw [uG_size]; exact itG_len z 2 (by omega)
  rw [htx]
  clear htx
  have hx1 : ¬ 9223372036854775807 < (u8sG (sciP m v)).size + 1 := by omega
  have hx2 : ¬ 9223372036854775807 < (u8sG (sciP m v) ++ ⟨#[101]⟩).size + 1 := by rw [ByteArray.size_append]; show ¬ _ < _ + 1 + 1; omega
  have hx3 : ¬ 9223372036854775807 < (u8sG (sciP m v) ++ ⟨#[101]⟩ ++ ⟨#[45]⟩).size + (u8sG (itG z)).size := by rw [ByteArray.size_append, ByteArray.size_append]; show ¬ _ < _ + 1 + 1 + _; omega
  have hDi : ((u8sG (dg m v)).size : Int) = (m : Int) := by omega
  have q0 : -E = (z : Int) := by omega
  have q1 : ¬ (m : Int) ≤ E + 1 := by omega
  have q1b : decide (((u8sG (dg m v)).size : Int) ≤ E + 1) = false := decide_eq_false (by omega)
  have q1c : decide ((m : Int) ≤ E + 1) = false := decide_eq_false (by omega)
  have q2 : ¬ (0 : Int) < E + 1 := by omega
  have q2b : decide ((0 : Int) < E + 1) = false := decide_eq_false (by omega)
  have q3 : ¬ (-6 : Int) < E + 1 := by omega
  have q3b : decide ((-6 : Int) < E + 1) = false := decide_eq_false (by omega)
  have q5 : E < 0 := by omega
  clear hc hDl hz
  clear o1' o2' o3' hx hx0 hS hgl
  go_enter Tryz.func27, Tryz.ntmps27
  go_wp2_with (go_at_call 56; refine (hI.out _).mono ?_; rintro e w1 ⟨rfl, rfl⟩)
  refine (hFF.out _ hL.out.pow hL.out.p10).mono ?_
  rintro e w2 ⟨rfl, hb2⟩
  have hL2 := Lib.hid (hLk.out _ hb2)
  go_wp2_with fail
  refine (hCut.out _ hL2.out).mono ?_
  rintro e w3 ⟨rfl, nq, rfl⟩
  have hbn : Below w.heap.size w (w2.drewN nq) := below_drewN hb2 nq
  have hL3 := Lib.hid (hLk.out _ hbn)
  generalize hw3 : w2.drewN nq = w3 at *
  clear hw3
  go_wp2_with fail
  refine (hRep.out _ hL3.out).mono ?_
  rintro e w4 ⟨rfl, hb4⟩
  have hb5 : Below w.heap.size w w4 := hbn.trans (hb4.mono hbn.size)
  clear hb4 hbn hb2
  go_wp2_with fail
  refine (hAt.out _).mono ?_
  rintro e w6 ⟨rfl, hb6⟩
  have hb7 : Below w.heap.size w w6 := hb5.trans (hb6.mono hb5.size)
  have hL7 := Lib.hid (hLk.out _ hb7)
  clear hb6 hb5
  go_wp2_with fail
  refine (hI2.out _ hL7.out).mono ?_
  rintro e w8 ⟨rfl, hb8⟩
  have hb9 : Below w.heap.size w w8 := hb7.trans (hb8.mono hb7.size)
  clear hb8
  go_wp2_with fail
  go_ret
  exact ⟨rfl, hb9⟩
end Go.Proofs.YtbakbikilbaafaaGreatDoor
namespace Go.Proofs.YtbakbikilbaafaaGreatDoor
open Go.RowKit
set_option maxHeartbeats 400000
set_option maxRecDepth 100000

/-- the units of a text -/
def ub (s : ByteArray) (i : Nat) : Nat := (s.data.toList.getD i 0).toNat
def unitAt (s : ByteArray) (k : Nat) : Nat := ub s (2 * k) * 256 + ub s (2 * k + 1)
def unitsN (s : ByteArray) : Nat → List Nat
  | 0 => []
  | k + 1 => unitsN s k ++ [unitAt s k]
def u16s (l : List Nat) : List Value := l.map fun n : Nat => .int .u16 (n : Int)
theorem own_base {w : World} {base : Nat} {e : TypeId} {size : Nat} {v : Value} {n : Nat} {xs : List Value} (h : w.ownsRow base e size v n xs) : ∀ k, v.ownBlock = some k → base ≤ k := by
  intro k hk
  rcases h.2 with ⟨rfl, _⟩ | ⟨g, cap, cur, rfl, hb, _⟩
  · cases hk
  · cases hk; exact hb
theorem infoU16 : (Tryz.prog.info? 27).map (fun i => (i.zero, i.size, i.bytes)) = some (some (.int .u16 0), 1, 2) := by kernel_rfl

theorem ub_get (s : ByteArray) (i : Nat) (h : i < s.size) : ub s i = s[i].toNat := by
  unfold ub
  have h' : i < s.data.toList.length := by simpa using h
  rw [List.getD_eq_getElem?_getD, List.getElem?_eq_getElem h']; rfl
end Go.Proofs.YtbakbikilbaafaaGreatDoor
namespace Go.Proofs.YtbakbikilbaafaaGreatDoor
open Go.RowKit
set_option maxHeartbeats 400000
set_option maxRecDepth 100000

/-- a text without an odd byte -/
def evenB (s : ByteArray) : ByteArray := s.extract 0 (s.size / 2 * 2)
theorem evenB_size (s : ByteArray) : (evenB s).size = s.size / 2 * 2 := by unfold evenB; rw [ByteArray.size_extract]; omega
theorem and_not1 (n : Nat) (h : n < 9223372036854775808) : bits BinOp.andNot IntKind.i64 (n : Int) 1 = ((n / 2 * 2 : Nat) : Int) := by
  have key : (BitVec.ofInt 64 (n : Int) &&& ~~~ BitVec.ofInt 64 1).toNat = n / 2 * 2 := by
    rw [BitVec.toNat_and, ofInt_u64 n (by omega)]
    have : (~~~ BitVec.ofInt 64 1).toNat = 18446744073709551614 := by decide
    rw [this]
    have e : n &&& 18446744073709551614 = n / 2 * 2 := by
      have h1 : n = n / 2 * 2 + n % 2 := by omega
      apply Nat.eq_of_testBit_eq
      intro i
      rw [Nat.testBit_and]
      cases i with
      | zero => simp [Nat.testBit_zero]
      | succ j =>
        rw [Nat.testBit_succ, Nat.testBit_succ]
        have h2 : n / 2 * 2 / 2 = n / 2 := by omega
        rw [Nat.testBit_succ, h2]
        have h3 : (18446744073709551614 : Nat) / 2 = 2 ^ 63 - 1 := by decide
        rw [h3, Nat.testBit_two_pow_sub_one]
        by_cases hj : j < 63
        · simp [hj]
        · have : (n / 2).testBit j = false := Nat.testBit_lt_two_pow (Nat.lt_of_lt_of_le (by omega : n / 2 < 2 ^ 63) (Nat.pow_le_pow_right (by decide) (by omega)))
          rw [this]; simp
    exact e
  show IntKind.i64.wrap ((BitVec.ofInt 64 (n : Int) &&& ~~~ BitVec.ofInt 64 1).toNat : Nat) = _
  rw [key, IntKind.wrap_i64]
  omega

theorem c_even (s : ByteArray) (hs : s.size ≤ 1099511627776) (w : World) :
    Calls Tryz.prog 103 #[.string s] w fun e w' => e = .returned (.string (evenB s)) ∧ w = w' := by
  have h := and_not1 s.size (by omega)
  have h1 : s.size / 2 * 2 ≤ s.size := by omega
  unfold evenB
  generalize s.size / 2 * 2 = n at *
  go_enter Tryz.func103, Tryz.ntmps103
  go_wp2
  go_ret
  exact ⟨rfl, rfl⟩
theorem c_ULen (s : ByteArray) (hs : s.size ≤ 1099511627776) (w : World) :
    Calls Tryz.prog 30 #[.string s] w fun e w' => e = .returned (.int .i64 ((s.size / 2 : Nat) : Int)) ∧ w = w' := by
  go_enter Tryz.func30, Tryz.ntmps30
  go_wp2
  go_ret
  exact ⟨rfl, rfl⟩
theorem unit_or (s : ByteArray) (k : Nat) (i j : Int) (hi : i = 2 * (k : Int)) (hj : j = 2 * (k : Int) + 1) (h1 : i.toNat < s.size) (h2 : j.toNat < s.size) :
    bits BinOp.or IntKind.u16 (IntKind.u16.wrap (IntKind.u16.wrap (s[i.toNat].toNat : Int) * 256)) (IntKind.u16.wrap (s[j.toNat].toNat : Int)) = (unitAt s k : Int) := by
  have e1 : i.toNat = 2 * k := by omega
  have e2 : j.toNat = 2 * k + 1 := by omega
  have a1 := ub_get s i.toNat h1
  have a2 := ub_get s j.toNat h2
  have b1 : s[i.toNat].toNat < 256 := s[i.toNat].toNat_lt
  have b2 : s[j.toNat].toNat < 256 := s[j.toNat].toNat_lt
  unfold unitAt
  rw [← a1, ← a2, e1, e2]
  rw [← a1, e1] at b1
  rw [← a2, e2] at b2
  generalize ub s (2 * k) = x at *
  generalize ub s (2 * k + 1) = y at *
  have w1 : IntKind.u16.wrap (IntKind.u16.wrap (x : Int) * 256) = ((x * 256 : Nat) : Int) := by simp only [IntKind.wrap_u16]; omega
  have w2 : IntKind.u16.wrap (y : Int) = (y : Int) := by simp only [IntKind.wrap_u16]; omega
  rw [w1, w2, u16_or_nat _ _ (by omega) (by omega), nat_join 8 _ _ (by omega) (by omega)]
theorem ret_int {k : IntKind} {a b : Int} (h : a = b) : Ending.returned (.int k a) = .returned (.int k b) := by rw [h]
theorem c_unit (s : ByteArray) (k : Nat) (hs : s.size ≤ 1099511627776) (hk : 2 * k + 1 < s.size) (w : World) :
    Calls Tryz.prog 68 #[.string s, .int .i64 (k : Int)] w fun e w' => e = .returned (.int .u16 (unitAt s k)) ∧ ∃ nq, w' = w.drewN nq := by
  have h0 : (0 : Int) ≤ 2 * (k : Int) := by omega
  have h1 : 2 * (k : Int) < (s.size : Int) := by omega
  have h2 : (0 : Int) ≤ 2 * (k : Int) + 1 := by omega
  have h3 : 2 * (k : Int) + 1 < (s.size : Int) := by omega
  have s1 : IntKind.i64.wrap (2 * (k : Int)) = 2 * (k : Int) := IntWalk.i64_in _ (by omega)
  have s2 : IntKind.i64.wrap (2 * (k : Int) + 1) = 2 * (k : Int) + 1 := IntWalk.i64_in _ (by omega)
  have hval := unit_or s k (2 * (k : Int)) (2 * (k : Int) + 1) rfl rfl (by omega) (by omega)
  go_enter Tryz.func68, Tryz.ntmps68
  go_wp2
  go_quiet (fail)
  go_wp2
  go_ret
  exact ⟨ret_int hval, _, rfl⟩
end Go.Proofs.YtbakbikilbaafaaGreatDoor
