/-
  Contracts of IsInf, Plain at whole numbers below 2^32; a whole number as a float.
-/
import Derived.Test.YtbodfdmmfaampaaGreatDoorD13
import Derived.Test.YtbodfdmmfaampaaGreatDoorG64
import Derived.WalkSpells
import Derived.WalkLawsBesides
namespace Go.Proofs.YtbodfdmmfaampaaGreatDoor
open Go.RowKit F64 Ieee
set_option maxHeartbeats 1000000
set_option maxRecDepth 100000

theorem wordOf_V (i k : Nat) (hk : 1 ≤ k) (hk2 : k ≤ 32) (hi : i < 2 ^ k) (hi0 : 2 ^ (k - 1) ≤ i) : wordOf i k < 9218868437227405312 ∧ 0 < wordOf i k ∧ V (wordOf i k) = i * U := by
  have hF : 4503599627370496 ≤ i * 2 ^ (53 - k) ∧ i * 2 ^ (53 - k) < 9007199254740992 := by
    have e1 : (2 : Nat) ^ 53 = 2 ^ k * 2 ^ (53 - k) := by rw [← Nat.pow_add]; congr 1; omega
    have e2 : (2 : Nat) ^ 52 = 2 ^ (k - 1) * 2 ^ (53 - k) := by rw [← Nat.pow_add]; congr 1; omega
    have h1 : i * 2 ^ (53 - k) < 2 ^ k * 2 ^ (53 - k) := Nat.mul_lt_mul_of_pos_right hi (Nat.two_pow_pos _)
    have h2 : 2 ^ (k - 1) * 2 ^ (53 - k) ≤ i * 2 ^ (53 - k) := Nat.mul_le_mul_right _ hi0
    have e3 : (2 : Nat) ^ 53 = 9007199254740992 := by decide
    have e4 : (2 : Nat) ^ 52 = 4503599627370496 := by decide
    omega
  obtain ⟨h1, h2⟩ := hF
  have hU : i * U = i * 2 ^ (53 - k) * 2 ^ (1021 + k) := by
    unfold U
    rw [PL_eq, Nat.mul_assoc, ← Nat.pow_add]
    congr 2; omega
  rw [hU]
  unfold wordOf
  generalize i * 2 ^ (53 - k) = M at *
  refine ⟨by omega, by omega, ?_⟩
  have hm : man ((1022 + k) * 4503599627370496 + (M - 4503599627370496)) = M := by
    unfold man
    rw [if_neg (by omega)]; omega
  have he : ex ((1022 + k) * 4503599627370496 + (M - 4503599627370496)) = 1021 + k := by
    unfold ex
    rw [if_neg (by omega)]; omega
  unfold V
  rw [hm, he]
theorem float_of (i k : Nat) (hk : 1 ≤ k) (hk2 : k ≤ 32) (hi : i < 2 ^ k) (hi0 : 2 ^ (k - 1) ≤ i) : floatOfInt .f64 (i : Int) = wordOf i k := by
  obtain ⟨h1, h2, h3⟩ := wordOf_V i k hk hk2 hi hi0
  have := write_whole false i (wordOf i k) h1 h3
  have e : floatOfInt .f64 (i : Int) = double.write (.number (decide ((i : Int) < 0)) (i : Int).natAbs 0) := rfl
  rw [e]
  have e2 : decide ((i : Int) < 0) = false := by simp
  have e3 : (i : Int).natAbs = i := by simp
  rw [e2, e3, this]
  rfl
theorem c_Abs (x : Nat) (hx : x < 18446744073709551616) (w : World) :
    Calls Tryz.prog 52 #[.float .f64 x] w fun e w' => e = .returned (.float .f64 (rung x)) ∧ w = w' := by
  have r1 : ∀ w, (callFunc 60 #[.float .f64 x]).run Tryz.prog w = .ok (.value (.int .u64 x)) w := fun w => by kernel_rfl
  have r2 : ∀ (x : Int) (w : World), (callFunc 59 #[.int .u64 x]).run Tryz.prog w = .ok (.value (.float .f64 x.toNat)) w := fun x w => by kernel_rfl
  go_enter Tryz.func52, Tryz.ntmps52
  go_wp2
  go_ret
  exact ⟨by rw [b_abs hx]; rfl, rfl⟩
theorem c_IsInf1 (x : Nat) (hx : x < 9218868437227405312) (w : World) :
    Calls Tryz.prog 44 #[.float .f64 x, .int .i64 1] w fun r w' => r = .returned (.bool false) ∧ w = w' := by
  have h := ord_max (x := x) (by omega)
  have h2 : decide (x = 9218868437227405312) = false := by simp; omega
  rw [h2] at h
  clear h2
  go_enter Tryz.func44, Tryz.ntmps44
  go_wp2
  go_ret
  exact ⟨rfl, rfl⟩
theorem u8s_app (a b : List Nat) : u8s a ++ u8s b = u8s (a ++ b) := by
  unfold u8s
  apply ByteArray.ext
  simp
theorem c_zeros (n : Nat) (hn : n ≤ 1000) (w : World) :
    Calls Tryz.prog 47 #[.int .i64 (n : Int)] w fun r w' => r = .returned (.string (u8s (List.replicate n 48))) ∧ w = w' := by
  have hs : ∀ j, u8s (List.replicate j 48) ++ ⟨#[48]⟩ = u8s (List.replicate (j + 1) 48) := fun j => by
    rw [List.replicate_succ', ← u8s_app]; rfl
  replace hs := Lib.hid hs
  have hsz : ∀ j, (u8s (List.replicate j 48)).size = j := fun j => by simp [u8s, ByteArray.size]
  replace hsz := Lib.hid hsz
  go_enter Tryz.func47, Tryz.ntmps47
  go_wp2
  go_loop [3, 4] (fun vs vi => ∃ j : Nat, j ≤ n ∧ vs = .string (u8s (List.replicate j 48)) ∧ vi = .int .i64 (j : Int)) (fun _ vi => n - (intOf vi).toNat)
  case atStart => exact ⟨0, by omega, rfl, rfl⟩
  case round =>
    obtain ⟨j, hj, rfl, rfl⟩ := hrel
    have h1 := Lib.hid (hs.out j)
    have h2 : (u8s (List.replicate j 48)).size ≤ 1000 := by rw [hsz.out]; omega
    by_cases hlt : j < n
    · generalize u8s (List.replicate j 48) = T at *
      have h3 : ¬ 9223372036854775807 < T.size + 1 := by omega
      clear h2
      go_wp2
      exact ⟨⟨j + 1, by omega, by rw [h1.out], by go_num⟩, by simp [intOf]; omega⟩
    · obtain rfl : j = n := by omega
      clear h1 h2
      go_wp2
      go_ret
      exact ⟨rfl, rfl⟩
/-- bytes ahead of the exponent -/
def sciA (m v : Nat) : List Nat := if m = 1 then dg m v else (dg m v).take 1 ++ [46] ++ (dg m v).drop 1
theorem sciB_eq (m v e : Nat) : sciB m v e = sciA m v ++ [101, 43, 48, e + 48] := by
  unfold sciB sciA; split <;> simp
theorem dg_dig (m v : Nat) : ∀ x ∈ dg m v, 48 ≤ x ∧ x ≤ 57 := by
  intro x hx
  obtain ⟨y, hy, rfl⟩ := List.mem_map.1 hx
  have := fw_lt m v y hy
  omega
theorem sciA_mem (m v : Nat) : ∀ x ∈ sciA m v, x = 46 ∨ 48 ≤ x ∧ x ≤ 57 := by
  intro x hx
  unfold sciA at hx
  split at hx
  · exact .inr (dg_dig m v x hx)
  · simp only [List.mem_append, List.mem_cons, List.not_mem_nil, or_false] at hx
    rcases hx with (h | h) | h
    · exact .inr (dg_dig m v x (List.mem_of_mem_take h))
    · exact .inl h
    · exact .inr (dg_dig m v x (List.mem_of_mem_drop h))
def noDot (l : List Nat) : List Nat := l.filter fun x => !(x == 46)
theorem noDot_dig {l : List Nat} (h : ∀ x ∈ l, 48 ≤ x ∧ x ≤ 57) : noDot l = l := by
  unfold noDot
  rw [List.filter_eq_self]
  intro x hx
  have := h x hx
  simp; omega
theorem noDot_A (m v : Nat) : noDot (sciA m v) = dg m v := by
  unfold sciA
  split
  · exact noDot_dig (dg_dig m v)
  · have e : ∀ a b : List Nat, noDot (a ++ b) = noDot a ++ noDot b := fun a b => List.filter_append ..
    rw [e, e, noDot_dig fun x hx => dg_dig m v x (List.mem_of_mem_take hx), noDot_dig fun x hx => dg_dig m v x (List.mem_of_mem_drop hx)]
    show (List.take 1 (dg m v) ++ []) ++ _ = _
    rw [List.append_nil, List.take_append_drop]
theorem noDot_snoc (A : List Nat) (j c : Nat) (h : A[j]? = some c) : noDot (A.take (j + 1)) = noDot (A.take j) ++ if c = 46 then [] else [c] := by
  rw [List.take_add_one, h]
  unfold noDot
  rw [List.filter_append]
  by_cases e : c = 46 <;> simp [e]
theorem atoi_one (e : Nat) (he : e < 10) : Lib.atoi (u8s [43, 48, e + 48]).data.toList = some (e : Int) := by
  have all : ∀ j : Fin 10, Lib.atoi (u8s [43, 48, j.val + 48]).data.toList = some (j.val : Int) := by decide +kernel
  exact all ⟨e, he⟩
theorem u8s_size (l : List Nat) : (u8s l).size = l.length := by simp [u8s, ByteArray.size]
theorem u8s_get (l : List Nat) (j c : Nat) (hc : l[j]? = some c) (h256 : c < 256) (h : j < (u8s l).size) : ((u8s l)[j]'h).toNat = c := by
  have hj : j < l.length := by rw [← u8s_size]; exact h
  have e : (u8s l)[j]'h = UInt8.ofNat (l[j]'hj) := by
    have h1 : (u8s l)[j]'h = (u8s l).data[j]'h := rfl
    rw [h1]
    simp [u8s]
  rw [e]
  rw [List.getElem?_eq_getElem hj] at hc
  cases hc
  simp; omega
theorem u8s_extract (a b : List Nat) (n i : Nat) (hn : n = (a ++ b).length) (hi : i = a.length) : (u8s (a ++ b)).extract i n = u8s b := by
  subst hn hi
  apply ByteArray.ext
  simp only [u8s, ByteArray.data_extract]
  simp
  exact List.take_of_length_le (by simp)
theorem enc_dig (c : Nat) (h1 : 48 ≤ c) (h2 : c ≤ 57) : Utf8.encode (c : Int) = u8s [c] := by
  have all : ∀ y : Fin 10, Utf8.encode ((48 + y.val : Nat) : Int) = u8s [48 + y.val] := by decide +kernel
  have := all ⟨c - 48, by omega⟩
  have e : 48 + (c - 48) = c := by omega
  simp only [e] at this
  exact this
theorem c_Plain (i k n : Nat) (hk : 1 ≤ k) (hk2 : k ≤ 32) (hi : i < 2 ^ k) (hi0 : 2 ^ (k - 1) ≤ i) (hn : IsNd i n) (hn10 : n ≤ 10) (w : World) (hT : Pows w) (hP : P10 w) :
    Calls Tryz.prog 36 #[.float .f64 (wordOf i k)] w fun r w' => r = .returned (.string (u8s (dg n i))) ∧ Below w.heap.size w w' := by
  have hFF := Lib.hid (fun w hT hP => c_FormatFloat i k n hk hk2 hi hi0 hn hn10 w hT hP)
  obtain ⟨hx, hx0, -⟩ := wordOf_V i k hk hk2 hi hi0
  generalize wordOf i k = x at *
  have o1 := ord_self x
  have o1' : F64.isNaN x = false := by unfold F64.isNaN; rw [rung_small (by omega)]; simp; omega
  rw [o1'] at o1
  have o2 := ord_eq (x := x) (y := 0) hx (by omega)
  have o2' : decide (x = 0) = false := by simp; omega
  rw [o2'] at o2
  have o3 := ord_lt (x := x) (y := 0) hx (by omega)
  have o3' : decide (x < 0) = false := by simp
  rw [o3'] at o3
  have hI := Lib.hid (c_IsInf1 x hx)
  clear o1' o2' o3' hx hx0 hi hi0
  go_enter Tryz.func36, Tryz.ntmps36
  go_wp2_with (go_at_call 44; refine (hI.out _).mono ?_; rintro e w1 ⟨rfl, rfl⟩)
  refine (hFF.out _ hT hP).mono ?_
  rintro e w2 ⟨m, v, rfl, hm1, hmn, hiv, hv, hb2⟩
  have hA := sciA_mem m v
  have hAd := noDot_A m v
  have hap : (sciA m v).length = if m = 1 then m else m + 1 := by
    unfold sciA
    split
    · exact dg_len m v
    · simp [dg_len]; omega
  have hdl := dg_len m v
  have hfin : dg m v ++ List.replicate (n - m) 48 = dg n i := by
    unfold dg
    have := fw_shift m (n - m) v
    rw [← hiv] at this
    have e : m + (n - m) = n := by omega
    rw [e] at this
    rw [this, List.map_append, List.map_replicate]
  have hAt := atoi_one (n - 1) (by omega)
  rw [sciB_eq]
  have hx1 : ∀ a : List Nat, u8s (a ++ [101, 43, 48, n - 1 + 48]) = u8s ((a ++ [101]) ++ [43, 48, n - 1 + 48]) := fun a => by simp
  have hS := Lib.hid (u8s_extract (sciA m v ++ [101]) [43, 48, n - 1 + 48])
  have hsz : (u8s (sciA m v ++ [101, 43, 48, n - 1 + 48])).size = (sciA m v).length + 4 := by rw [u8s_size]; simp
  have hget : ∀ (j c : Nat), (sciA m v ++ [101, 43, 48, n - 1 + 48])[j]? = some c → c < 256 → ∀ h : j < (u8s (sciA m v ++ [101, 43, 48, n - 1 + 48])).size, ((u8s (sciA m v ++ [101, 43, 48, n - 1 + 48]))[j]'h).toNat = c := fun j c h1 h2 h3 => u8s_get _ j c h1 h2 h3
  have hsn := noDot_snoc (sciA m v)
  replace hiv := Lib.hid hiv
  have hext : (u8s (sciA m v ++ [101, 43, 48, n - 1 + 48])).extract ((sciA m v).length + 1) ((sciA m v).length + 4) = u8s [43, 48, n - 1 + 48] := by
    rw [hx1]
    exact hS.out _ _ (by simp) (by simp)
  clear hx1 hS
  have hZ := Lib.hid (c_zeros (n - m) (by omega))
  have hAa := Lib.hid (fun w => c_Atoi (u8s [43, 48, n - 1 + 48]) ((n - 1 : Nat) : Int) (by rw [u8s_size]; simp) hAt w)
  generalize hSd : u8s (sciA m v ++ [101, 43, 48, n - 1 + 48]) = S at *
  generalize hLd : sciA m v ++ [101, 43, 48, n - 1 + 48] = L at *
  have hLA : ∀ j, j < (sciA m v).length → L[j]? = (sciA m v)[j]? := fun j hj => by rw [← hLd, List.getElem?_append_left hj]
  have hLe : L[(sciA m v).length]? = some 101 := by rw [← hLd, List.getElem?_append_right (Nat.le_refl _)]; simp
  clear hSd hLd hAt
  generalize u8s [43, 48, n - 1 + 48] = E at *
  generalize sciA m v = A at *
  have hpl : A.length ≤ 11 := by rw [hap]; split <;> omega
  replace hget := Lib.hid hget
  replace hsn := Lib.hid hsn
  replace hLA := Lib.hid hLA
  replace hLe := Lib.hid hLe
  replace hA := Lib.hid hA
  replace hAd := Lib.hid hAd
  replace hfin := Lib.hid hfin
  replace hext := Lib.hid hext
  replace hap := Lib.hid hap
  clear hT hP hFF
  have hsz2 : (S.size : Int) = (A.length : Int) + 4 := by omega
  generalize hp : A.length = p at *
  go_wp2
  go_loop [4, 5] (fun vd vj => ∃ j : Nat, j ≤ p ∧ vd = .string (u8s (noDot (A.take j))) ∧ vj = .int .i64 (j : Int)) (fun _ vj => p - (intOf vj).toNat)
  case atStart => exact ⟨0, by omega, rfl, rfl⟩
  case round =>
    obtain ⟨j, hj, rfl, rfl⟩ := hrel
    by_cases hlt : j < p
    · obtain ⟨c, hc⟩ : ∃ c, A[j]? = some c := ⟨A[j]'(by omega), List.getElem?_eq_getElem (by omega)⟩
      have hcm := hA.out c (List.mem_of_getElem? hc)
      have hg := hget.out j c (by rw [hLA.out j hlt]; exact hc) (by omega) (by omega)
      have hstep := Lib.hid (hsn.out j c hc)
      have hjs : j < S.size := by omega
      have n1 : ((c : Int) != 101) = true := by simp; omega
      have hlt' : (j : Int) < (p : Int) := by omega
      have hsz3 : (u8s (noDot (A.take j))).size ≤ 12 := by
        rw [u8s_size]
        have h1 := List.length_filter_le (fun x => !(x == 46)) (A.take j)
        have h2 := List.length_take_le j A
        unfold noDot; omega
      have hjs2 : (j : Int) < (S.size : Int) := by omega
      by_cases h46 : c = 46
      · have n2 : ((c : Int) != 46) = false := by simp; omega
        rw [if_pos h46, List.append_nil] at hstep
        clear hcm hc h46
        replace hsz3 := Lib.hid hsz3
        go_wp2
        exact ⟨⟨j + 1, by omega, by rw [hstep.out], by go_num⟩, by simp [intOf]; omega⟩
      · have n2 : ((c : Int) != 46) = true := by simp; omega
        rw [if_neg h46] at hstep
        have henc : ∀ w, (convert 5 9 (.int .u8 (c : Int))).run Tryz.prog w = .ok (.string (u8s [c])) w := fun w => by
          rw [← enc_dig c (by omega) (by omega)]
          exact run_convert_int_string w 5 9 .u8 c (by kernel_rfl) Tryz.underlying9
        have hstep : u8s (noDot (A.take (j + 1))) = u8s (noDot (A.take j)) ++ u8s [c] := by rw [hstep.out, ← u8s_app]
        replace hstep := Lib.hid hstep
        have hsz4 : (u8s [c]).size = 1 := u8s_size _
        clear hcm hc h46
        generalize u8s (noDot (A.take j)) = D at *
        generalize u8s [c] = C at *
        have h3 : ¬ 9223372036854775807 < D.size + C.size := by omega
        clear hsz4 hsz3
        go_wp2_with fail
        exact ⟨⟨j + 1, by omega, by rw [hstep.out], by go_num⟩, by simp [intOf]; omega⟩
    · obtain rfl : j = p := by omega
      have hg := hget.out j 101 hLe.out (by omega) (by omega)
      have hjs : j < S.size := by omega
      have hjs2 : (j : Int) < (S.size : Int) := by omega
      have hD : u8s (noDot (A.take j)) = u8s (dg m v) := by rw [← hp, List.take_length, hAd.out]
      rw [hD]
      have hDs : ((u8s (dg m v)).size : Int) = (m : Int) := by rw [u8s_size, hdl]
      have hDf : u8s (dg m v) ++ u8s (List.replicate (n - m) 48) = u8s (dg n i) := by rw [u8s_app, hfin.out]
      have hDl : ¬ 9223372036854775807 < (u8s (dg m v)).size + (u8s (List.replicate (n - m) 48)).size := by rw [u8s_size, u8s_size, hdl]; simp; omega
      generalize u8s (dg m v) = D at *
      generalize u8s (List.replicate (n - m) 48) = Z at *
      replace hDf := Lib.hid hDf
      clear hD hget hsn hLA hLe hp
      have hAa2 : Hid (∀ w, Calls Tryz.prog 46 #[.string (S.extract (j + 1) (j + 4))] w fun e w' => e = .returned (.tuple #[.int .i64 ((n - 1 : Nat) : Int), .nilIface]) ∧ Below w.heap.size w w') := by rw [hext.out]; exact hAa
      clear hext hAa
      go_wp2_with fail
      refine (hAa2.out _).mono ?_
      rintro e w3 ⟨rfl, hb3⟩
      have hnn : ((n - 1 : Nat) : Int) + 1 = (n : Int) := by omega
      have hmn' : (m : Int) ≤ (n : Int) := by omega
      have hn21 : (n : Int) ≤ 21 := by omega
      have hsub : (n : Int) - (m : Int) = ((n - m : Nat) : Int) := by omega
      go_wp2_with fail
      refine (hZ.out _).mono ?_
      rintro e w4 ⟨rfl, rfl⟩
      have hb4 : Below w.heap.size w w3 := hb2.trans (hb3.mono hb2.size)
      clear hb3 hb2 hAa2
      go_wp2_with fail
      go_ret
      exact ⟨by rw [hDf.out]; rfl, hb4⟩
theorem c_Plain0 (w : World) : Calls Tryz.prog 36 #[.float .f64 0] w fun r w' => r = .returned (.string (u8s [48])) ∧ w = w' := by
  have o1 := ord_self 0
  have o1' : F64.isNaN 0 = false := by decide +kernel
  rw [o1'] at o1
  have o2 := ord_eq (x := 0) (y := 0) (by omega) (by omega)
  have o2' : decide ((0 : Nat) = 0) = true := rfl
  rw [o2'] at o2
  clear o1' o2'
  go_enter Tryz.func36, Tryz.ntmps36
  go_wp2
  go_ret
  exact ⟨rfl, rfl⟩
end Go.Proofs.YtbodfdmmfaampaaGreatDoor
