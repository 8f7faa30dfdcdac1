/-
  Contracts: The contracts of the reference's Plain and Show (printed by gen_XSF.py). Plain facts: a positive float by its leading 53 digits. Conditions: as each theorem says. Plain facts: the bit fields of float words. Conditions: as each theorem says. Plain facts: scaling a float by a power of two, exactly. Conditions: as each theorem says.
-/
import Derived.Test.YtbakbikilbaafaaGreatDoorR11
import Derived.Test.YtbakbikilbaafaaGreatDoorR4
namespace Go.Proofs.YtbakbikilbaafaaGreatDoor
open Go.RowKit F64 Ieee
set_option linter.unusedVariables false
set_option maxHeartbeats 4000000
set_option maxRecDepth 100000

theorem c_IsInf1G (x : Nat) (hx : x < 18446744073709551616) (w : World) :
    Calls Tryz.prog 56 #[.float .f64 x, .int .i64 1] w fun r w' => r = .returned (.bool (decide (x = 9218868437227405312))) ∧ w = w' := by
  have h := ord_max hx
  generalize decide (x = 9218868437227405312) = d at *
  go_enter Tryz.func56, Tryz.ntmps56
  go_wp2
  go_ret
  exact ⟨rfl, rfl⟩
theorem c_zerosG (n : Nat) (hn : n ≤ 1000) (w : World) :
    Calls Tryz.prog 67 #[.int .i64 (n : Int)] w fun r w' => r = .returned (.string (u8sG (List.replicate n 48))) ∧ w = w' := by
  have hs : ∀ j, u8sG (List.replicate j 48) ++ ⟨#[48]⟩ = u8sG (List.replicate (j + 1) 48) := fun j => by
    rw [List.replicate_succ', ← uG_app]; rfl
  replace hs := Lib.hid hs
  have hsz : ∀ j, (u8sG (List.replicate j 48)).size = j := fun j => by simp [u8sG, ByteArray.size]
  replace hsz := Lib.hid hsz
  go_enter Tryz.func67, Tryz.ntmps67
  go_wp2
  go_loop [3, 4] (fun vs vi => ∃ j : Nat, j ≤ n ∧ vs = .string (u8sG (List.replicate j 48)) ∧ vi = .int .i64 (j : Int)) (fun _ vi => n - (intOf vi).toNat)
  case atStart => exact ⟨0, by omega, rfl, rfl⟩
  case round =>
    obtain ⟨j, hj, rfl, rfl⟩ := hrel
    have h1 := Lib.hid (hs.out j)
    have h2 : (u8sG (List.replicate j 48)).size ≤ 1000 := by rw [hsz.out]; omega
    by_cases hlt : j < n
    · generalize u8sG (List.replicate j 48) = T at *
      have h3 : ¬ 9223372036854775807 < T.size + 1 := by omega
      clear h2
      go_wp2
      exact ⟨⟨j + 1, by omega, by rw [h1.out], by go_num⟩, by simp [intOf]; omega⟩
    · obtain rfl : j = n := by omega
      clear h1 h2
      go_wp2
      go_ret
      exact ⟨rfl, rfl⟩
theorem sciP_le {m v : Nat} (h : 1 ≤ m) : (sciP m v).length ≤ m + 1 := by
  unfold sciP
  split
  · rw [dg_len]; omega
  · simp [dg_len]; omega
theorem sciP_ge {m v : Nat} (h : 1 ≤ m) : 1 ≤ (sciP m v).length := by
  unfold sciP
  split
  · rw [dg_len]; omega
  · simp; omega
def noDotG (l : List Nat) : List Nat := l.filter fun x => !(x == 46)
theorem noDotG_dig {l : List Nat} (h : ∀ x ∈ l, 48 ≤ x ∧ x ≤ 57) : noDotG l = l := by
  unfold noDotG
  rw [List.filter_eq_self]
  intro x hx
  have := h x hx
  simp; omega
theorem noDotG_P (m v : Nat) : noDotG (sciP m v) = dg m v := by
  unfold sciP
  split
  · exact noDotG_dig (dgG_dig m v)
  · have e : ∀ a b : List Nat, noDotG (a ++ b) = noDotG a ++ noDotG b := fun a b => List.filter_append ..
    rw [e, e, noDotG_dig fun x hx => dgG_dig m v x (List.mem_of_mem_take hx), noDotG_dig fun x hx => dgG_dig m v x (List.mem_of_mem_drop hx)]
    show (List.take 1 (dg m v) ++ []) ++ _ = _
    rw [List.append_nil, List.take_append_drop]
theorem noDotG_snoc (A : List Nat) (j c : Nat) (h : A[j]? = some c) : noDotG (A.take (j + 1)) = noDotG (A.take j) ++ if c = 46 then [] else [c] := by
  rw [List.take_add_one, h]
  unfold noDotG
  rw [List.filter_append]
  by_cases e : c = 46 <;> simp [e]
theorem enc_digG (c : Nat) (h1 : 48 ≤ c) (h2 : c ≤ 57) : Utf8.encode (c : Int) = u8sG [c] := by
  have all : ∀ y : Fin 10, Utf8.encode ((48 + y.val : Nat) : Int) = u8sG [48 + y.val] := by decide +kernel
  have := all ⟨c - 48, by omega⟩
  have e : 48 + (c - 48) = c := by omega
  simp only [e] at this
  exact this
theorem c_plainPA {x m v : Nat} {E : Int} (hx0 : 0 < x) (hx : x < 9218868437227405312) (hSci : IsSci x m v E) (hE1 : -400 < E) (hE2 : E < 400) (hm1 : 1 ≤ m) (hm2 : m ≤ 18) (hc : (m : Int) ≤ E + 1) (hc2 : E + 1 ≤ 21) (w : World) (hL : LibW w) :
    Calls Tryz.prog 28 #[.float .f64 x] w fun r w' => r = .returned (.string (u8sG (txtG m v E))) ∧ Below w.heap.size w w' := by
  have o1 := ord_self x
  have o1' : F64.isNaN x = false := by unfold F64.isNaN; rw [rung_small (by omega)]; simp; omega
  rw [o1'] at o1
  have o2 := ord_eq (x := x) (y := 0) hx (by omega)
  have o2' : decide (x = 0) = false := by simp; omega
  rw [o2'] at o2
  have o3 := ord_lt (x := x) (y := 0) hx (by omega)
  have o3' : decide (x < 0) = false := by simp
  rw [o3'] at o3
  have hI : Hid (∀ W, Calls Tryz.prog 56 #[.float .f64 x, .int .i64 1] W fun r w' => r = .returned (.bool false) ∧ W = w') := fun W => by
    have := c_IsInf1G x (by omega) W
    rw [show decide (x = 9218868437227405312) = false by simp; omega] at this
    exact this
  have hFF := Lib.hid (c_FormatFloatG hx0 hx hSci (by omega) (by omega) w hL.pow hL.p10)
  have hA := sciP_mem m v
  have hAd := noDotG_P m v
  have hap : (sciP m v).length ≤ m + 1 := sciP_le hm1
  have hal1 : 1 ≤ (sciP m v).length := sciP_ge hm1
  have htl : 2 ≤ (exS E :: exD E.natAbs).length ∧ (exS E :: exD E.natAbs).length ≤ 4 := by
    unfold exD
    split
    · simp
    · split <;> simp
  have hdl := dg_len m v
  have hAt := Lib.hid (fun W => c_atoiSci E (by omega) (by omega) W)
  rw [sciG_P] at hFF
  have hS := uG_extract (sciP m v ++ [101]) (exS E :: exD E.natAbs)
  have hsz : (u8sG (sciP m v ++ 101 :: (exS E :: exD E.natAbs))).size = (sciP m v).length + 1 + (exS E :: exD E.natAbs).length := by rw [uG_size]; simp; omega
  have hget := Lib.hid (fun (j c : Nat) (h1 : (sciP m v ++ 101 :: (exS E :: exD E.natAbs))[j]? = some c) (h2 : c < 256) (h3 : j < (u8sG (sciP m v ++ 101 :: (exS E :: exD E.natAbs))).size) => uG_get _ j c h1 h2 h3)
  have hsn := noDotG_snoc (sciP m v)
  have hext : (u8sG (sciP m v ++ 101 :: (exS E :: exD E.natAbs))).extract ((sciP m v).length + 1) (u8sG (sciP m v ++ 101 :: (exS E :: exD E.natAbs))).size = u8sG (exS E :: exD E.natAbs) := by
    rw [show sciP m v ++ 101 :: (exS E :: exD E.natAbs) = (sciP m v ++ [101]) ++ (exS E :: exD E.natAbs) by simp]
    exact hS _ _ (by rw [uG_size]) (by simp)
  clear hS
  generalize exS E :: exD E.natAbs = TL at *
  generalize hSd : u8sG (sciP m v ++ 101 :: TL) = S at *
  have hLA : ∀ j, j < (sciP m v).length → (sciP m v ++ 101 :: TL)[j]? = (sciP m v)[j]? := fun j hj => List.getElem?_append_left hj
  have hLe : (sciP m v ++ 101 :: TL)[(sciP m v).length]? = some 101 := by rw [List.getElem?_append_right (Nat.le_refl _)]; simp
  have hPd : m = 1 → sciP m v = dg m v := fun h => by unfold sciP; rw [if_pos h]
  have hPd2 : m ≠ 1 → sciP m v = (dg m v).take 1 ++ [46] ++ (dg m v).drop 1 := fun h => by unfold sciP; rw [if_neg h]
  have hLk := Lib.hid (fun W (hb : Below w.heap.size w W) => hL.keep hb)
  replace hL := Lib.hid hL
  have hDl : (u8sG (dg m v)).size = m := by rw [uG_size, dg_len]
  obtain ⟨z, hz⟩ : ∃ z : Nat, E + 1 - (m : Int) = (z : Int) := ⟨(E + 1 - m).toNat, by omega⟩
  have hR := Lib.hid (fun W => c_zerosG z (by omega) W)
  have htx : u8sG (txtG m v E) = u8sG (dg m v) ++ u8sG (List.replicate z 48) := by
    unfold txtG
    rw [if_pos ⟨hc, hc2⟩, uG_app, hz]; rfl
  have hZl : (u8sG (List.replicate z 48)).size ≤ 30 := by rw [uG_size]; simp; omega
  rw [htx]
  clear htx
  generalize u8sG (List.replicate z 48) = Z at *
  generalize hDD : u8sG (dg m v) = D at *
  replace hDD := Lib.hid hDD
  have hfit : ¬ 9223372036854775807 < D.size + Z.size := by omega
  have hDi : (D.size : Int) = (m : Int) := by omega
  have hDle : (m : Int) ≤ E + 1 := hc
  clear hZl hDl
  clear hSd o1' o2' o3' hx hx0 hSci hPd hPd2
  generalize sciP m v = A at *
  generalize u8sG TL = TS at *
  have hpl : A.length ≤ 19 := by omega
  replace hsn := Lib.hid hsn
  replace hLA := Lib.hid hLA
  replace hLe := Lib.hid hLe
  replace hA := Lib.hid hA
  replace hAd := Lib.hid hAd
  replace hext := Lib.hid hext
  replace hap := Lib.hid hap
  have hszb : A.length + 1 < S.size ∧ S.size ≤ 25 := by omega
  replace hsz := Lib.hid hsz
  replace htl := Lib.hid htl
  generalize hp : A.length = p at *
  obtain ⟨hsz1, hsz2⟩ := hszb
  go_enter Tryz.func28, Tryz.ntmps28
  go_wp2_with (go_at_call 56; refine (hI.out _).mono ?_; rintro e w1 ⟨rfl, rfl⟩)
  refine hFF.out.mono ?_
  rintro e w2 ⟨rfl, hb2⟩
  go_wp2_with fail
  go_loop [4, 5] (fun vd vj => ∃ j : Nat, j ≤ p ∧ vd = .string (u8sG (noDotG (A.take j))) ∧ vj = .int .i64 (j : Int)) (fun _ vj => p - (intOf vj).toNat)
  case atStart => exact ⟨0, by omega, rfl, rfl⟩
  case round =>
    obtain ⟨j, hj, rfl, rfl⟩ := hrel
    by_cases hlt : j < p
    · obtain ⟨c, hc⟩ : ∃ c, A[j]? = some c := ⟨A[j]'(by omega), List.getElem?_eq_getElem (by omega)⟩
      have hcm := hA.out c (List.mem_of_getElem? hc)
      have hjs : j < S.size := by omega
      have hg := hget.out j c (by rw [hLA.out j hlt]; exact hc) (by omega) hjs
      have hstep := Lib.hid (hsn.out j c hc)
      have n1 : ((c : Int) != 101) = true := by simp; omega
      have hlt' : (j : Int) < (p : Int) := by omega
      have hsz3 : (u8sG (noDotG (A.take j))).size ≤ 20 := by
        rw [uG_size]
        have h1 := List.length_filter_le (fun x => !(x == 46)) (A.take j)
        have h2 := List.length_take_le j A
        unfold noDotG; omega
      have hjs2 : (j : Int) < (S.size : Int) := by omega
      by_cases h46 : c = 46
      · have n2 : ((c : Int) != 46) = false := by simp; omega
        rw [if_pos h46, List.append_nil] at hstep
        clear hcm hc h46
        replace hsz3 := Lib.hid hsz3
        go_wp2
        exact ⟨⟨j + 1, by omega, by rw [hstep.out], by go_num⟩, by simp [intOf]; omega⟩
      · have n2 : ((c : Int) != 46) = true := by simp; omega
        rw [if_neg h46] at hstep
        have henc : ∀ w, (convert 5 9 (.int .u8 (c : Int))).run Tryz.prog w = .ok (.string (u8sG [c])) w := fun w => by
          rw [← enc_digG c (by omega) (by omega)]
          exact run_convert_int_string w 5 9 .u8 c (by kernel_rfl) Tryz.underlying9
        have hstep : u8sG (noDotG (A.take (j + 1))) = u8sG (noDotG (A.take j)) ++ u8sG [c] := by rw [hstep.out, ← uG_app]
        replace hstep := Lib.hid hstep
        have hsz4 : (u8sG [c]).size = 1 := uG_size _
        clear hcm hc h46
        generalize u8sG (noDotG (A.take j)) = D at *
        generalize u8sG [c] = C at *
        have h3 : ¬ 9223372036854775807 < D.size + C.size := by omega
        clear hsz4 hsz3
        go_wp2_with fail
        exact ⟨⟨j + 1, by omega, by rw [hstep.out], by go_num⟩, by simp [intOf]; omega⟩
    · obtain rfl : j = p := by omega
      have hjs : j < S.size := by omega
      have hg := hget.out j 101 hLe.out (by omega) hjs
      have hjs2 : (j : Int) < (S.size : Int) := by omega
      have hD : u8sG (noDotG (A.take j)) = u8sG (dg m v) := by rw [← hp, List.take_length, hAd.out]
      rw [hD]
      replace hp := Lib.hid hp
      clear hD hget hsn hLA hLe
      have hAa2 : Hid (∀ w, Calls Tryz.prog 64 #[.string (S.extract (j + 1) S.size)] w fun e w' => e = .returned (.tuple #[.int .i64 E, .nilIface]) ∧ Below w.heap.size w w') := by rw [hext.out]; exact hAt
      have hjs3 : (j : Int) + 1 ≤ (S.size : Int) := by omega
      clear hext hAt
      go_wp2_with fail
      refine (hAa2.out _).mono ?_
      rintro e w3 ⟨rfl, hb3⟩
      have hb7 : Below w.heap.size w w3 := hb2.trans (hb3.mono hb2.size)
      have hL7 := Lib.hid (hLk.out _ hb7)
      clear hb3 hb2 hAa2 hLk
      rw [hDD.out]
      go_wp2_with fail
      refine (hR.out _).mono ?_
      rintro e w8 ⟨rfl, rfl⟩
      go_wp2_with fail
      go_ret
      exact ⟨rfl, hb7⟩
theorem c_plainPB {x m v : Nat} {E : Int} (hx0 : 0 < x) (hx : x < 9218868437227405312) (hSci : IsSci x m v E) (hE1 : -400 < E) (hE2 : E < 400) (hm1 : 1 ≤ m) (hm2 : m ≤ 18) (hc : ¬ (m : Int) ≤ E + 1) (hc1 : 0 < E + 1) (hc2 : E + 1 ≤ 21) (w : World) (hL : LibW w) :
    Calls Tryz.prog 28 #[.float .f64 x] w fun r w' => r = .returned (.string (u8sG (txtG m v E))) ∧ Below w.heap.size w w' := by
  have o1 := ord_self x
  have o1' : F64.isNaN x = false := by unfold F64.isNaN; rw [rung_small (by omega)]; simp; omega
  rw [o1'] at o1
  have o2 := ord_eq (x := x) (y := 0) hx (by omega)
  have o2' : decide (x = 0) = false := by simp; omega
  rw [o2'] at o2
  have o3 := ord_lt (x := x) (y := 0) hx (by omega)
  have o3' : decide (x < 0) = false := by simp
  rw [o3'] at o3
  have hI : Hid (∀ W, Calls Tryz.prog 56 #[.float .f64 x, .int .i64 1] W fun r w' => r = .returned (.bool false) ∧ W = w') := fun W => by
    have := c_IsInf1G x (by omega) W
    rw [show decide (x = 9218868437227405312) = false by simp; omega] at this
    exact this
  have hFF := Lib.hid (c_FormatFloatG hx0 hx hSci (by omega) (by omega) w hL.pow hL.p10)
  have hA := sciP_mem m v
  have hAd := noDotG_P m v
  have hap : (sciP m v).length ≤ m + 1 := sciP_le hm1
  have hal1 : 1 ≤ (sciP m v).length := sciP_ge hm1
  have htl : 2 ≤ (exS E :: exD E.natAbs).length ∧ (exS E :: exD E.natAbs).length ≤ 4 := by
    unfold exD
    split
    · simp
    · split <;> simp
  have hdl := dg_len m v
  have hAt := Lib.hid (fun W => c_atoiSci E (by omega) (by omega) W)
  rw [sciG_P] at hFF
  have hS := uG_extract (sciP m v ++ [101]) (exS E :: exD E.natAbs)
  have hsz : (u8sG (sciP m v ++ 101 :: (exS E :: exD E.natAbs))).size = (sciP m v).length + 1 + (exS E :: exD E.natAbs).length := by rw [uG_size]; simp; omega
  have hget := Lib.hid (fun (j c : Nat) (h1 : (sciP m v ++ 101 :: (exS E :: exD E.natAbs))[j]? = some c) (h2 : c < 256) (h3 : j < (u8sG (sciP m v ++ 101 :: (exS E :: exD E.natAbs))).size) => uG_get _ j c h1 h2 h3)
  have hsn := noDotG_snoc (sciP m v)
  have hext : (u8sG (sciP m v ++ 101 :: (exS E :: exD E.natAbs))).extract ((sciP m v).length + 1) (u8sG (sciP m v ++ 101 :: (exS E :: exD E.natAbs))).size = u8sG (exS E :: exD E.natAbs) := by
    rw [show sciP m v ++ 101 :: (exS E :: exD E.natAbs) = (sciP m v ++ [101]) ++ (exS E :: exD E.natAbs) by simp]
    exact hS _ _ (by rw [uG_size]) (by simp)
  clear hS
  generalize exS E :: exD E.natAbs = TL at *
  generalize hSd : u8sG (sciP m v ++ 101 :: TL) = S at *
  have hLA : ∀ j, j < (sciP m v).length → (sciP m v ++ 101 :: TL)[j]? = (sciP m v)[j]? := fun j hj => List.getElem?_append_left hj
  have hLe : (sciP m v ++ 101 :: TL)[(sciP m v).length]? = some 101 := by rw [List.getElem?_append_right (Nat.le_refl _)]; simp
  have hPd : m = 1 → sciP m v = dg m v := fun h => by unfold sciP; rw [if_pos h]
  have hPd2 : m ≠ 1 → sciP m v = (dg m v).take 1 ++ [46] ++ (dg m v).drop 1 := fun h => by unfold sciP; rw [if_neg h]
  have hLk := Lib.hid (fun W (hb : Below w.heap.size w W) => hL.keep hb)
  replace hL := Lib.hid hL
  have hDl : (u8sG (dg m v)).size = m := by rw [uG_size, dg_len]
  obtain ⟨z, hz⟩ : ∃ z : Nat, E + 1 = (z : Int) := ⟨(E + 1).toNat, by omega⟩
  have htx : u8sG (txtG m v E) = (u8sG (dg m v)).extract 0 z ++ ⟨#[46]⟩ ++ (u8sG (dg m v)).extract z m := by
    unfold txtG
    rw [if_neg (fun h => hc h.1), if_pos ⟨hc1, hc2⟩, hz]
    have h1 : (u8sG (dg m v)).extract 0 z = u8sG ((dg m v).take z) := by
      conv => lhs; rw [← List.take_append_drop z (dg m v)]
      exact uG_extract0 _ _ _ (by rw [List.length_take, dg_len]; omega)
    have h2 : (u8sG (dg m v)).extract z m = u8sG ((dg m v).drop z) := by
      conv => lhs; rw [← List.take_append_drop z (dg m v)]
      exact uG_extract _ _ _ _ (by rw [List.take_append_drop, dg_len]) (by rw [List.length_take, dg_len]; omega)
    rw [h1, h2, show (⟨#[46]⟩ : ByteArray) = u8sG [46] from rfl, uG_app, uG_app]
    rfl
  rw [htx]
  clear htx
  have hzm : z < m := by omega
  have hz0 : 0 < z := by omega
  have hz2 : z ≤ 21 := by omega
  have q4 : E + 1 = (z : Int) := hz
  clear hz hc hc1 hc2
  generalize hDD : u8sG (dg m v) = D at *
  replace hDD := Lib.hid hDD
  have q1b : decide ((D.size : Int) ≤ (z : Int)) = false := decide_eq_false (by omega)
  have q1d : decide ((m : Int) ≤ (z : Int)) = false := decide_eq_false (by omega)
  have q1c : decide (D.size ≤ z) = false := decide_eq_false (by omega)
  have q1e : decide (m ≤ z) = false := decide_eq_false (by omega)
  have q2 : (0 : Int) < (z : Int) := by omega
  have q3 : (z : Int) ≤ 21 := by omega
  have q5 : (z : Int) ≤ (D.size : Int) := by omega
  have hx1 : (D.extract 0 z).size ≤ 18 := by rw [ByteArray.size_extract]; omega
  have hx2 : (D.extract z m).size ≤ 18 := by rw [ByteArray.size_extract]; omega
  have hx3 : ¬ 9223372036854775807 < (D.extract 0 z).size + 1 := by omega
  have hx4 : ¬ 9223372036854775807 < (D.extract 0 z ++ ⟨#[46]⟩).size + (D.extract z m).size := by rw [ByteArray.size_append]; show ¬ _ < _ + 1 + _; omega
  clear hx1 hx2
  have hDm : D.size = m := hDl
  clear hSd o1' o2' o3' hx hx0 hSci hPd hPd2
  generalize sciP m v = A at *
  generalize u8sG TL = TS at *
  have hpl : A.length ≤ 19 := by omega
  replace hsn := Lib.hid hsn
  replace hLA := Lib.hid hLA
  replace hLe := Lib.hid hLe
  replace hA := Lib.hid hA
  replace hAd := Lib.hid hAd
  replace hext := Lib.hid hext
  replace hap := Lib.hid hap
  have hszb : A.length + 1 < S.size ∧ S.size ≤ 25 := by omega
  replace hsz := Lib.hid hsz
  replace htl := Lib.hid htl
  generalize hp : A.length = p at *
  obtain ⟨hsz1, hsz2⟩ := hszb
  go_enter Tryz.func28, Tryz.ntmps28
  go_wp2_with (go_at_call 56; refine (hI.out _).mono ?_; rintro e w1 ⟨rfl, rfl⟩)
  refine hFF.out.mono ?_
  rintro e w2 ⟨rfl, hb2⟩
  go_wp2_with fail
  go_loop [4, 5] (fun vd vj => ∃ j : Nat, j ≤ p ∧ vd = .string (u8sG (noDotG (A.take j))) ∧ vj = .int .i64 (j : Int)) (fun _ vj => p - (intOf vj).toNat)
  case atStart => exact ⟨0, by omega, rfl, rfl⟩
  case round =>
    obtain ⟨j, hj, rfl, rfl⟩ := hrel
    by_cases hlt : j < p
    · obtain ⟨c, hc⟩ : ∃ c, A[j]? = some c := ⟨A[j]'(by omega), List.getElem?_eq_getElem (by omega)⟩
      have hcm := hA.out c (List.mem_of_getElem? hc)
      have hjs : j < S.size := by omega
      have hg := hget.out j c (by rw [hLA.out j hlt]; exact hc) (by omega) hjs
      have hstep := Lib.hid (hsn.out j c hc)
      have n1 : ((c : Int) != 101) = true := by simp; omega
      have hlt' : (j : Int) < (p : Int) := by omega
      have hsz3 : (u8sG (noDotG (A.take j))).size ≤ 20 := by
        rw [uG_size]
        have h1 := List.length_filter_le (fun x => !(x == 46)) (A.take j)
        have h2 := List.length_take_le j A
        unfold noDotG; omega
      have hjs2 : (j : Int) < (S.size : Int) := by omega
      by_cases h46 : c = 46
      · have n2 : ((c : Int) != 46) = false := by simp; omega
        rw [if_pos h46, List.append_nil] at hstep
        clear hcm hc h46
        replace hsz3 := Lib.hid hsz3
        go_wp2
        exact ⟨⟨j + 1, by omega, by rw [hstep.out], by go_num⟩, by simp [intOf]; omega⟩
      · have n2 : ((c : Int) != 46) = true := by simp; omega
        rw [if_neg h46] at hstep
        have henc : ∀ w, (convert 5 9 (.int .u8 (c : Int))).run Tryz.prog w = .ok (.string (u8sG [c])) w := fun w => by
          rw [← enc_digG c (by omega) (by omega)]
          exact run_convert_int_string w 5 9 .u8 c (by kernel_rfl) Tryz.underlying9
        have hstep : u8sG (noDotG (A.take (j + 1))) = u8sG (noDotG (A.take j)) ++ u8sG [c] := by rw [hstep.out, ← uG_app]
        replace hstep := Lib.hid hstep
        have hsz4 : (u8sG [c]).size = 1 := uG_size _
        clear hcm hc h46
        generalize u8sG (noDotG (A.take j)) = D at *
        generalize u8sG [c] = C at *
        have h3 : ¬ 9223372036854775807 < D.size + C.size := by omega
        clear hsz4 hsz3
        go_wp2_with fail
        exact ⟨⟨j + 1, by omega, by rw [hstep.out], by go_num⟩, by simp [intOf]; omega⟩
    · obtain rfl : j = p := by omega
      have hjs : j < S.size := by omega
      have hg := hget.out j 101 hLe.out (by omega) hjs
      have hjs2 : (j : Int) < (S.size : Int) := by omega
      have hD : u8sG (noDotG (A.take j)) = u8sG (dg m v) := by rw [← hp, List.take_length, hAd.out]
      rw [hD]
      replace hp := Lib.hid hp
      clear hD hget hsn hLA hLe
      have hAa2 : Hid (∀ w, Calls Tryz.prog 64 #[.string (S.extract (j + 1) S.size)] w fun e w' => e = .returned (.tuple #[.int .i64 E, .nilIface]) ∧ Below w.heap.size w w') := by rw [hext.out]; exact hAt
      have hjs3 : (j : Int) + 1 ≤ (S.size : Int) := by omega
      clear hext hAt
      go_wp2_with fail
      refine (hAa2.out _).mono ?_
      rintro e w3 ⟨rfl, hb3⟩
      have hb7 : Below w.heap.size w w3 := hb2.trans (hb3.mono hb2.size)
      have hL7 := Lib.hid (hLk.out _ hb7)
      clear hb3 hb2 hAa2 hLk
      rw [hDD.out]
      go_wp2_with fail
      go_quiet (fail)
      go_wp2_with fail
      go_ret
      exact ⟨rfl, below_drewN hb7 _⟩
theorem c_plainPC {x m v : Nat} {E : Int} (hx0 : 0 < x) (hx : x < 9218868437227405312) (hSci : IsSci x m v E) (hE1 : -400 < E) (hE2 : E < 400) (hm1 : 1 ≤ m) (hm2 : m ≤ 18) (hc : -6 < E + 1) (hc2 : E + 1 ≤ 0) (w : World) (hL : LibW w) :
    Calls Tryz.prog 28 #[.float .f64 x] w fun r w' => r = .returned (.string (u8sG (txtG m v E))) ∧ Below w.heap.size w w' := by
  have o1 := ord_self x
  have o1' : F64.isNaN x = false := by unfold F64.isNaN; rw [rung_small (by omega)]; simp; omega
  rw [o1'] at o1
  have o2 := ord_eq (x := x) (y := 0) hx (by omega)
  have o2' : decide (x = 0) = false := by simp; omega
  rw [o2'] at o2
  have o3 := ord_lt (x := x) (y := 0) hx (by omega)
  have o3' : decide (x < 0) = false := by simp
  rw [o3'] at o3
  have hI : Hid (∀ W, Calls Tryz.prog 56 #[.float .f64 x, .int .i64 1] W fun r w' => r = .returned (.bool false) ∧ W = w') := fun W => by
    have := c_IsInf1G x (by omega) W
    rw [show decide (x = 9218868437227405312) = false by simp; omega] at this
    exact this
  have hFF := Lib.hid (c_FormatFloatG hx0 hx hSci (by omega) (by omega) w hL.pow hL.p10)
  have hA := sciP_mem m v
  have hAd := noDotG_P m v
  have hap : (sciP m v).length ≤ m + 1 := sciP_le hm1
  have hal1 : 1 ≤ (sciP m v).length := sciP_ge hm1
  have htl : 2 ≤ (exS E :: exD E.natAbs).length ∧ (exS E :: exD E.natAbs).length ≤ 4 := by
    unfold exD
    split
    · simp
    · split <;> simp
  have hdl := dg_len m v
  have hAt := Lib.hid (fun W => c_atoiSci E (by omega) (by omega) W)
  rw [sciG_P] at hFF
  have hS := uG_extract (sciP m v ++ [101]) (exS E :: exD E.natAbs)
  have hsz : (u8sG (sciP m v ++ 101 :: (exS E :: exD E.natAbs))).size = (sciP m v).length + 1 + (exS E :: exD E.natAbs).length := by rw [uG_size]; simp; omega
  have hget := Lib.hid (fun (j c : Nat) (h1 : (sciP m v ++ 101 :: (exS E :: exD E.natAbs))[j]? = some c) (h2 : c < 256) (h3 : j < (u8sG (sciP m v ++ 101 :: (exS E :: exD E.natAbs))).size) => uG_get _ j c h1 h2 h3)
  have hsn := noDotG_snoc (sciP m v)
  have hext : (u8sG (sciP m v ++ 101 :: (exS E :: exD E.natAbs))).extract ((sciP m v).length + 1) (u8sG (sciP m v ++ 101 :: (exS E :: exD E.natAbs))).size = u8sG (exS E :: exD E.natAbs) := by
    rw [show sciP m v ++ 101 :: (exS E :: exD E.natAbs) = (sciP m v ++ [101]) ++ (exS E :: exD E.natAbs) by simp]
    exact hS _ _ (by rw [uG_size]) (by simp)
  clear hS
  generalize exS E :: exD E.natAbs = TL at *
  generalize hSd : u8sG (sciP m v ++ 101 :: TL) = S at *
  have hLA : ∀ j, j < (sciP m v).length → (sciP m v ++ 101 :: TL)[j]? = (sciP m v)[j]? := fun j hj => List.getElem?_append_left hj
  have hLe : (sciP m v ++ 101 :: TL)[(sciP m v).length]? = some 101 := by rw [List.getElem?_append_right (Nat.le_refl _)]; simp
  have hPd : m = 1 → sciP m v = dg m v := fun h => by unfold sciP; rw [if_pos h]
  have hPd2 : m ≠ 1 → sciP m v = (dg m v).take 1 ++ [46] ++ (dg m v).drop 1 := fun h => by unfold sciP; rw [if_neg h]
  have hLk := Lib.hid (fun W (hb : Below w.heap.size w W) => hL.keep hb)
  replace hL := Lib.hid hL
  have hDl : (u8sG (dg m v)).size = m := by rw [uG_size, dg_len]
  obtain ⟨z, hz⟩ : ∃ z : Nat, E + 1 = -(z : Int) := ⟨(-(E + 1)).toNat, by omega⟩
  have hR := Lib.hid (fun W => c_zerosG z (by omega) W)
  have htx : u8sG (txtG m v E) = ⟨#[48, 46]⟩ ++ u8sG (List.replicate z 48) ++ u8sG (dg m v) := by
    unfold txtG
    rw [if_neg (by omega), if_neg (by omega), if_pos ⟨hc, hc2⟩, hz, show (-(-(z : Int))).toNat = z by omega, show (⟨#[48, 46]⟩ : ByteArray) = u8sG [48, 46] from rfl, uG_app, uG_app]
  have hZl : (u8sG (List.replicate z 48)).size ≤ 30 := by rw [uG_size]; simp; omega
  rw [htx]
  clear htx
  have q4 : E + 1 = -(z : Int) := hz
  generalize u8sG (List.replicate z 48) = Z at *
  generalize hDD : u8sG (dg m v) = D at *
  replace hDD := Lib.hid hDD
  have q1 : ¬ (m : Int) ≤ -(z : Int) := by omega
  have q1b : decide ((D.size : Int) ≤ -(z : Int)) = false := decide_eq_false (by omega)
  have q1c : decide ((m : Int) ≤ -(z : Int)) = false := decide_eq_false (by omega)
  have q2 : ¬ (0 : Int) < -(z : Int) := by omega
  have q2b : decide ((0 : Int) < -(z : Int)) = false := decide_eq_false (by omega)
  have q3 : (-6 : Int) < -(z : Int) := by omega
  have q5 : -(z : Int) ≤ 0 := by omega
  have q6 : (0 : Int) ≤ (z : Int) := by omega
  have hx1 : ¬ 9223372036854775807 < 2 + Z.size := by omega
  have hx2 : ¬ 9223372036854775807 < ((⟨#[48, 46]⟩ : ByteArray) ++ Z).size + D.size := by rw [ByteArray.size_append]; show ¬ _ < 2 + _ + _; omega
  clear hc hc2 hz hZl
  clear hSd o1' o2' o3' hx hx0 hSci hPd hPd2
  generalize sciP m v = A at *
  generalize u8sG TL = TS at *
  have hpl : A.length ≤ 19 := by omega
  replace hsn := Lib.hid hsn
  replace hLA := Lib.hid hLA
  replace hLe := Lib.hid hLe
  replace hA := Lib.hid hA
  replace hAd := Lib.hid hAd
  replace hext := Lib.hid hext
  replace hap := Lib.hid hap
  have hszb : A.length + 1 < S.size ∧ S.size ≤ 25 := by omega
  replace hsz := Lib.hid hsz
  replace htl := Lib.hid htl
  generalize hp : A.length = p at *
  obtain ⟨hsz1, hsz2⟩ := hszb
  go_enter Tryz.func28, Tryz.ntmps28
  go_wp2_with (go_at_call 56; refine (hI.out _).mono ?_; rintro e w1 ⟨rfl, rfl⟩)
  refine hFF.out.mono ?_
  rintro e w2 ⟨rfl, hb2⟩
  go_wp2_with fail
  go_loop [4, 5] (fun vd vj => ∃ j : Nat, j ≤ p ∧ vd = .string (u8sG (noDotG (A.take j))) ∧ vj = .int .i64 (j : Int)) (fun _ vj => p - (intOf vj).toNat)
  case atStart => exact ⟨0, by omega, rfl, rfl⟩
  case round =>
    obtain ⟨j, hj, rfl, rfl⟩ := hrel
    by_cases hlt : j < p
    · obtain ⟨c, hc⟩ : ∃ c, A[j]? = some c := ⟨A[j]'(by omega), List.getElem?_eq_getElem (by omega)⟩
      have hcm := hA.out c (List.mem_of_getElem? hc)
      have hjs : j < S.size := by omega
      have hg := hget.out j c (by rw [hLA.out j hlt]; exact hc) (by omega) hjs
      have hstep := Lib.hid (hsn.out j c hc)
      have n1 : ((c : Int) != 101) = true := by simp; omega
      have hlt' : (j : Int) < (p : Int) := by omega
      have hsz3 : (u8sG (noDotG (A.take j))).size ≤ 20 := by
        rw [uG_size]
        have h1 := List.length_filter_le (fun x => !(x == 46)) (A.take j)
        have h2 := List.length_take_le j A
        unfold noDotG; omega
      have hjs2 : (j : Int) < (S.size : Int) := by omega
      by_cases h46 : c = 46
      · have n2 : ((c : Int) != 46) = false := by simp; omega
        rw [if_pos h46, List.append_nil] at hstep
        clear hcm hc h46
        replace hsz3 := Lib.hid hsz3
        go_wp2
        exact ⟨⟨j + 1, by omega, by rw [hstep.out], by go_num⟩, by simp [intOf]; omega⟩
      · have n2 : ((c : Int) != 46) = true := by simp; omega
        rw [if_neg h46] at hstep
        have henc : ∀ w, (convert 5 9 (.int .u8 (c : Int))).run Tryz.prog w = .ok (.string (u8sG [c])) w := fun w => by
          rw [← enc_digG c (by omega) (by omega)]
          exact run_convert_int_string w 5 9 .u8 c (by kernel_rfl) Tryz.underlying9
        have hstep : u8sG (noDotG (A.take (j + 1))) = u8sG (noDotG (A.take j)) ++ u8sG [c] := by rw [hstep.out, ← uG_app]
        replace hstep := Lib.hid hstep
        have hsz4 : (u8sG [c]).size = 1 := uG_size _
        clear hcm hc h46
        generalize u8sG (noDotG (A.take j)) = D at *
        generalize u8sG [c] = C at *
        have h3 : ¬ 9223372036854775807 < D.size + C.size := by omega
        clear hsz4 hsz3
        go_wp2_with fail
        exact ⟨⟨j + 1, by omega, by rw [hstep.out], by go_num⟩, by simp [intOf]; omega⟩
    · obtain rfl : j = p := by omega
      have hjs : j < S.size := by omega
      have hg := hget.out j 101 hLe.out (by omega) hjs
      have hjs2 : (j : Int) < (S.size : Int) := by omega
      have hD : u8sG (noDotG (A.take j)) = u8sG (dg m v) := by rw [← hp, List.take_length, hAd.out]
      rw [hD]
      replace hp := Lib.hid hp
      clear hD hget hsn hLA hLe
      have hAa2 : Hid (∀ w, Calls Tryz.prog 64 #[.string (S.extract (j + 1) S.size)] w fun e w' => e = .returned (.tuple #[.int .i64 E, .nilIface]) ∧ Below w.heap.size w w') := by rw [hext.out]; exact hAt
      have hjs3 : (j : Int) + 1 ≤ (S.size : Int) := by omega
      clear hext hAt
      go_wp2_with fail
      refine (hAa2.out _).mono ?_
      rintro e w3 ⟨rfl, hb3⟩
      have hb7 : Below w.heap.size w w3 := hb2.trans (hb3.mono hb2.size)
      have hL7 := Lib.hid (hLk.out _ hb7)
      clear hb3 hb2 hAa2 hLk
      rw [hDD.out]
      go_wp2_with fail
      refine (hR.out _).mono ?_
      rintro e w8 ⟨rfl, rfl⟩
      go_wp2_with fail
      go_ret
      exact ⟨rfl, hb7⟩
theorem c_plainPDp1 {x m v : Nat} {E : Int} (hx0 : 0 < x) (hx : x < 9218868437227405312) (hSci : IsSci x m v E) (hE1 : -400 < E) (hE2 : E < 400) (hm1 : 1 ≤ m) (hm2 : m ≤ 18) (hc : 21 < E + 1) (hmm : m = 1) (w : World) (hL : LibW w) :
    Calls Tryz.prog 28 #[.float .f64 x] w fun r w' => r = .returned (.string (u8sG (txtG m v E))) ∧ Below w.heap.size w w' := by
  have o1 := ord_self x
  have o1' : F64.isNaN x = false := by unfold F64.isNaN; rw [rung_small (by omega)]; simp; omega
  rw [o1'] at o1
  have o2 := ord_eq (x := x) (y := 0) hx (by omega)
  have o2' : decide (x = 0) = false := by simp; omega
  rw [o2'] at o2
  have o3 := ord_lt (x := x) (y := 0) hx (by omega)
  have o3' : decide (x < 0) = false := by simp
  rw [o3'] at o3
  have hI : Hid (∀ W, Calls Tryz.prog 56 #[.float .f64 x, .int .i64 1] W fun r w' => r = .returned (.bool false) ∧ W = w') := fun W => by
    have := c_IsInf1G x (by omega) W
    rw [show decide (x = 9218868437227405312) = false by simp; omega] at this
    exact this
  have hFF := Lib.hid (c_FormatFloatG hx0 hx hSci (by omega) (by omega) w hL.pow hL.p10)
  have hA := sciP_mem m v
  have hAd := noDotG_P m v
  have hap : (sciP m v).length ≤ m + 1 := sciP_le hm1
  have hal1 : 1 ≤ (sciP m v).length := sciP_ge hm1
  have htl : 2 ≤ (exS E :: exD E.natAbs).length ∧ (exS E :: exD E.natAbs).length ≤ 4 := by
    unfold exD
    split
    · simp
    · split <;> simp
  have hdl := dg_len m v
  have hAt := Lib.hid (fun W => c_atoiSci E (by omega) (by omega) W)
  rw [sciG_P] at hFF
  have hS := uG_extract (sciP m v ++ [101]) (exS E :: exD E.natAbs)
  have hsz : (u8sG (sciP m v ++ 101 :: (exS E :: exD E.natAbs))).size = (sciP m v).length + 1 + (exS E :: exD E.natAbs).length := by rw [uG_size]; simp; omega
  have hget := Lib.hid (fun (j c : Nat) (h1 : (sciP m v ++ 101 :: (exS E :: exD E.natAbs))[j]? = some c) (h2 : c < 256) (h3 : j < (u8sG (sciP m v ++ 101 :: (exS E :: exD E.natAbs))).size) => uG_get _ j c h1 h2 h3)
  have hsn := noDotG_snoc (sciP m v)
  have hext : (u8sG (sciP m v ++ 101 :: (exS E :: exD E.natAbs))).extract ((sciP m v).length + 1) (u8sG (sciP m v ++ 101 :: (exS E :: exD E.natAbs))).size = u8sG (exS E :: exD E.natAbs) := by
    rw [show sciP m v ++ 101 :: (exS E :: exD E.natAbs) = (sciP m v ++ [101]) ++ (exS E :: exD E.natAbs) by simp]
    exact hS _ _ (by rw [uG_size]) (by simp)
  clear hS
  generalize exS E :: exD E.natAbs = TL at *
  generalize hSd : u8sG (sciP m v ++ 101 :: TL) = S at *
  have hLA : ∀ j, j < (sciP m v).length → (sciP m v ++ 101 :: TL)[j]? = (sciP m v)[j]? := fun j hj => List.getElem?_append_left hj
  have hLe : (sciP m v ++ 101 :: TL)[(sciP m v).length]? = some 101 := by rw [List.getElem?_append_right (Nat.le_refl _)]; simp
  have hPd : m = 1 → sciP m v = dg m v := fun h => by unfold sciP; rw [if_pos h]
  have hPd2 : m ≠ 1 → sciP m v = (dg m v).take 1 ++ [46] ++ (dg m v).drop 1 := fun h => by unfold sciP; rw [if_neg h]
  have hLk := Lib.hid (fun W (hb : Below w.heap.size w W) => hL.keep hb)
  replace hL := Lib.hid hL
  have hDl : (u8sG (dg m v)).size = m := by rw [uG_size, dg_len]
  obtain ⟨z, hz⟩ : ∃ z : Nat, E = (z : Int) := ⟨E.natAbs, by omega⟩
  have hzl : z < 400 := by omega
  have hI2 := Lib.hid (fun W hW => c_itoa z (by omega) W hW)
  have hX1 : (u8sG (dg m v)).extract 0 1 = u8sG ((dg m v).take 1) := by
    conv => lhs; rw [← List.take_append_drop 1 (dg m v)]
    exact uG_extract0 _ _ _ (by rw [List.length_take, dg_len]; omega)
  have hX2 : (u8sG (dg m v)).extract 1 m = u8sG ((dg m v).drop 1) := by
    conv => lhs; rw [← List.take_append_drop 1 (dg m v)]
    exact uG_extract _ _ _ _ (by rw [List.take_append_drop, dg_len]) (by rw [List.length_take, dg_len]; omega)
  have htx : u8sG (txtG m v E) = (u8sG (dg m v)).extract 0 1 ++ ⟨#[101, 43]⟩ ++ u8sG (itG z) := by
    unfold txtG
    rw [if_neg (by omega), if_neg (by omega), if_neg (by omega), show E.natAbs = z by omega, hz, exS_pos]
    rw [hPd hmm]
    rw [hX1, show (⟨#[101, 43]⟩ : ByteArray) = u8sG [101, 43] from rfl]
    have ht1 : (dg m v).take 1 = dg m v := List.take_of_length_le (by rw [dg_len]; omega)
    rw [ht1]
    simp only [uG_app]
    congr 1
    simp
  have hZl : (u8sG (itG z)).size ≤ 3 := by rw [uG_size]; exact itG_len z 2 (by omega)
  rw [htx]
  clear htx hX1 hX2
  generalize hDD : u8sG (dg m v) = D at *
  replace hDD := Lib.hid hDD
  have hx1 : (D.extract 0 1).size ≤ 1 := by rw [ByteArray.size_extract]; omega
  have hx2 : (D.extract 1 m).size ≤ 18 := by rw [ByteArray.size_extract]; omega
  have hy1 : ¬ 9223372036854775807 < 1 + (D.extract 1 m).size := by omega
  have hy2 : ¬ 9223372036854775807 < (D.extract 0 1).size + ((⟨#[46]⟩ : ByteArray) ++ D.extract 1 m).size := by rw [ByteArray.size_append]; show ¬ _ < _ + (1 + _); omega
  have hy3 : ¬ 9223372036854775807 < (D.extract 0 1).size + 2 := by omega
  have hy4 : ¬ 9223372036854775807 < (D.extract 0 1 ++ (⟨#[46]⟩ ++ D.extract 1 m)).size + 2 := by rw [ByteArray.size_append, ByteArray.size_append]; show ¬ _ < _ + (1 + _) + 2; omega
  have hy5 : ¬ 9223372036854775807 < (D.extract 0 1 ++ ⟨#[101, 43]⟩).size + (u8sG (itG z)).size := by rw [ByteArray.size_append]; show ¬ _ < _ + 2 + _; omega
  have hy6 : ¬ 9223372036854775807 < (D.extract 0 1 ++ (⟨#[46]⟩ ++ D.extract 1 m) ++ ⟨#[101, 43]⟩).size + (u8sG (itG z)).size := by rw [ByteArray.size_append, ByteArray.size_append, ByteArray.size_append]; show ¬ _ < _ + (1 + _) + 2 + _; omega
  clear hx1 hx2
  have hDi : (D.size : Int) = (m : Int) := by omega
  have hDm : D.size = m := hDl
  have hD1 : (1 : Int) ≤ (m : Int) := by omega
  have q1m : ¬ (1 : Int) < (m : Int) := by omega
  have q1 : ¬ E + 1 ≤ 21 := by omega
  have q1b : decide (E + 1 ≤ 21) = false := decide_eq_false (by omega)
  have q2 : 0 < E + 1 := by omega
  have q3 : -6 < E + 1 := by omega
  have q4 : ¬ E + 1 ≤ 0 := by omega
  have q4b : decide (E + 1 ≤ 0) = false := decide_eq_false (by omega)
  have q5 : ¬ E + 1 - 1 < 0 := by omega
  have q6 : ¬ E < 0 := by omega
  have q7 : (m : Int) ≤ E + 1 := by omega
  have q8 : E + 1 - 1 = (z : Int) := by omega
  clear hc hDl hz hmm
  clear hSd o1' o2' o3' hx hx0 hSci hPd hPd2
  generalize sciP m v = A at *
  generalize u8sG TL = TS at *
  have hpl : A.length ≤ 19 := by omega
  replace hsn := Lib.hid hsn
  replace hLA := Lib.hid hLA
  replace hLe := Lib.hid hLe
  replace hA := Lib.hid hA
  replace hAd := Lib.hid hAd
  replace hext := Lib.hid hext
  replace hap := Lib.hid hap
  have hszb : A.length + 1 < S.size ∧ S.size ≤ 25 := by omega
  replace hsz := Lib.hid hsz
  replace htl := Lib.hid htl
  generalize hp : A.length = p at *
  obtain ⟨hsz1, hsz2⟩ := hszb
  go_enter Tryz.func28, Tryz.ntmps28
  go_wp2_with (go_at_call 56; refine (hI.out _).mono ?_; rintro e w1 ⟨rfl, rfl⟩)
  refine hFF.out.mono ?_
  rintro e w2 ⟨rfl, hb2⟩
  go_wp2_with fail
  go_loop [4, 5] (fun vd vj => ∃ j : Nat, j ≤ p ∧ vd = .string (u8sG (noDotG (A.take j))) ∧ vj = .int .i64 (j : Int)) (fun _ vj => p - (intOf vj).toNat)
  case atStart => exact ⟨0, by omega, rfl, rfl⟩
  case round =>
    obtain ⟨j, hj, rfl, rfl⟩ := hrel
    by_cases hlt : j < p
    · obtain ⟨c, hc⟩ : ∃ c, A[j]? = some c := ⟨A[j]'(by omega), List.getElem?_eq_getElem (by omega)⟩
      have hcm := hA.out c (List.mem_of_getElem? hc)
      have hjs : j < S.size := by omega
      have hg := hget.out j c (by rw [hLA.out j hlt]; exact hc) (by omega) hjs
      have hstep := Lib.hid (hsn.out j c hc)
      have n1 : ((c : Int) != 101) = true := by simp; omega
      have hlt' : (j : Int) < (p : Int) := by omega
      have hsz3 : (u8sG (noDotG (A.take j))).size ≤ 20 := by
        rw [uG_size]
        have h1 := List.length_filter_le (fun x => !(x == 46)) (A.take j)
        have h2 := List.length_take_le j A
        unfold noDotG; omega
      have hjs2 : (j : Int) < (S.size : Int) := by omega
      by_cases h46 : c = 46
      · have n2 : ((c : Int) != 46) = false := by simp; omega
        rw [if_pos h46, List.append_nil] at hstep
        clear hcm hc h46
        replace hsz3 := Lib.hid hsz3
        go_wp2
        exact ⟨⟨j + 1, by omega, by rw [hstep.out], by go_num⟩, by simp [intOf]; omega⟩
      · have n2 : ((c : Int) != 46) = true := by simp; omega
        rw [if_neg h46] at hstep
        have henc : ∀ w, (convert 5 9 (.int .u8 (c : Int))).run Tryz.prog w = .ok (.string (u8sG [c])) w := fun w => by
          rw [← enc_digG c (by omega) (by omega)]
          exact run_convert_int_string w 5 9 .u8 c (by kernel_rfl) Tryz.underlying9
        have hstep : u8sG (noDotG (A.take (j + 1))) = u8sG (noDotG (A.take j)) ++ u8sG [c] := by rw [hstep.out, ← uG_app]
        replace hstep := Lib.hid hstep
        have hsz4 : (u8sG [c]).size = 1 := uG_size _
        clear hcm hc h46
        generalize u8sG (noDotG (A.take j)) = D at *
        generalize u8sG [c] = C at *
        have h3 : ¬ 9223372036854775807 < D.size + C.size := by omega
        clear hsz4 hsz3
        go_wp2_with fail
        exact ⟨⟨j + 1, by omega, by rw [hstep.out], by go_num⟩, by simp [intOf]; omega⟩
    · obtain rfl : j = p := by omega
      have hjs : j < S.size := by omega
      have hg := hget.out j 101 hLe.out (by omega) hjs
      have hjs2 : (j : Int) < (S.size : Int) := by omega
      have hD : u8sG (noDotG (A.take j)) = u8sG (dg m v) := by rw [← hp, List.take_length, hAd.out]
      rw [hD]
      replace hp := Lib.hid hp
      clear hD hget hsn hLA hLe
      have hAa2 : Hid (∀ w, Calls Tryz.prog 64 #[.string (S.extract (j + 1) S.size)] w fun e w' => e = .returned (.tuple #[.int .i64 E, .nilIface]) ∧ Below w.heap.size w w') := by rw [hext.out]; exact hAt
      have hjs3 : (j : Int) + 1 ≤ (S.size : Int) := by omega
      clear hext hAt
      go_wp2_with fail
      refine (hAa2.out _).mono ?_
      rintro e w3 ⟨rfl, hb3⟩
      have hb7 : Below w.heap.size w w3 := hb2.trans (hb3.mono hb2.size)
      have hL7 := Lib.hid (hLk.out _ hb7)
      clear hb3 hb2 hAa2 hLk
      rw [hDD.out]
      go_wp2_with fail
      refine (hI2.out _ hL7.out).mono ?_
      rintro e w8 ⟨rfl, hb8⟩
      have hb9 : Below w.heap.size w w8 := hb7.trans (hb8.mono hb7.size)
      clear hb8
      go_wp2_with fail
      go_ret
      exact ⟨rfl, hb9⟩
theorem c_plainPDp2 {x m v : Nat} {E : Int} (hx0 : 0 < x) (hx : x < 9218868437227405312) (hSci : IsSci x m v E) (hE1 : -400 < E) (hE2 : E < 400) (hm1 : 1 ≤ m) (hm2 : m ≤ 18) (hc : 21 < E + 1) (hmm : 1 < m) (w : World) (hL : LibW w) :
    Calls Tryz.prog 28 #[.float .f64 x] w fun r w' => r = .returned (.string (u8sG (txtG m v E))) ∧ Below w.heap.size w w' := by
  have o1 := ord_self x
  have o1' : F64.isNaN x = false := by unfold F64.isNaN; rw [rung_small (by omega)]; simp; omega
  rw [o1'] at o1
  have o2 := ord_eq (x := x) (y := 0) hx (by omega)
  have o2' : decide (x = 0) = false := by simp; omega
  rw [o2'] at o2
  have o3 := ord_lt (x := x) (y := 0) hx (by omega)
  have o3' : decide (x < 0) = false := by simp
  rw [o3'] at o3
  have hI : Hid (∀ W, Calls Tryz.prog 56 #[.float .f64 x, .int .i64 1] W fun r w' => r = .returned (.bool false) ∧ W = w') := fun W => by
    have := c_IsInf1G x (by omega) W
    rw [show decide (x = 9218868437227405312) = false by simp; omega] at this
    exact this
  have hFF := Lib.hid (c_FormatFloatG hx0 hx hSci (by omega) (by omega) w hL.pow hL.p10)
  have hA := sciP_mem m v
  have hAd := noDotG_P m v
  have hap : (sciP m v).length ≤ m + 1 := sciP_le hm1
  have hal1 : 1 ≤ (sciP m v).length := sciP_ge hm1
  have htl : 2 ≤ (exS E :: exD E.natAbs).length ∧ (exS E :: exD E.natAbs).length ≤ 4 := by
    unfold exD
    split
    · simp
    · split <;> simp
  have hdl := dg_len m v
  have hAt := Lib.hid (fun W => c_atoiSci E (by omega) (by omega) W)
  rw [sciG_P] at hFF
  have hS := uG_extract (sciP m v ++ [101]) (exS E :: exD E.natAbs)
  have hsz : (u8sG (sciP m v ++ 101 :: (exS E :: exD E.natAbs))).size = (sciP m v).length + 1 + (exS E :: exD E.natAbs).length := by rw [uG_size]; simp; omega
  have hget := Lib.hid (fun (j c : Nat) (h1 : (sciP m v ++ 101 :: (exS E :: exD E.natAbs))[j]? = some c) (h2 : c < 256) (h3 : j < (u8sG (sciP m v ++ 101 :: (exS E :: exD E.natAbs))).size) => uG_get _ j c h1 h2 h3)
  have hsn := noDotG_snoc (sciP m v)
  have hext : (u8sG (sciP m v ++ 101 :: (exS E :: exD E.natAbs))).extract ((sciP m v).length + 1) (u8sG (sciP m v ++ 101 :: (exS E :: exD E.natAbs))).size = u8sG (exS E :: exD E.natAbs) := by
    rw [show sciP m v ++ 101 :: (exS E :: exD E.natAbs) = (sciP m v ++ [101]) ++ (exS E :: exD E.natAbs) by simp]
    exact hS _ _ (by rw [uG_size]) (by simp)
  clear hS
  generalize exS E :: exD E.natAbs = TL at *
  generalize hSd : u8sG (sciP m v ++ 101 :: TL) = S at *
  have hLA : ∀ j, j < (sciP m v).length → (sciP m v ++ 101 :: TL)[j]? = (sciP m v)[j]? := fun j hj => List.getElem?_append_left hj
  have hLe : (sciP m v ++ 101 :: TL)[(sciP m v).length]? = some 101 := by rw [List.getElem?_append_right (Nat.le_refl _)]; simp
  have hPd : m = 1 → sciP m v = dg m v := fun h => by unfold sciP; rw [if_pos h]
  have hPd2 : m ≠ 1 → sciP m v = (dg m v).take 1 ++ [46] ++ (dg m v).drop 1 := fun h => by unfold sciP; rw [if_neg h]
  have hLk := Lib.hid (fun W (hb : Below w.heap.size w W) => hL.keep hb)
  replace hL := Lib.hid hL
  have hDl : (u8sG (dg m v)).size = m := by rw [uG_size, dg_len]
  obtain ⟨z, hz⟩ : ∃ z : Nat, E = (z : Int) := ⟨E.natAbs, by omega⟩
  have hzl : z < 400 := by omega
  have hI2 := Lib.hid (fun W hW => c_itoa z (by omega) W hW)
  have hX1 : (u8sG (dg m v)).extract 0 1 = u8sG ((dg m v).take 1) := by
    conv => lhs; rw [← List.take_append_drop 1 (dg m v)]
    exact uG_extract0 _ _ _ (by rw [List.length_take, dg_len]; omega)
  have hX2 : (u8sG (dg m v)).extract 1 m = u8sG ((dg m v).drop 1) := by
    conv => lhs; rw [← List.take_append_drop 1 (dg m v)]
    exact uG_extract _ _ _ _ (by rw [List.take_append_drop, dg_len]) (by rw [List.length_take, dg_len]; omega)
  have htx : u8sG (txtG m v E) = ((u8sG (dg m v)).extract 0 1 ++ (⟨#[46]⟩ ++ (u8sG (dg m v)).extract 1 m)) ++ ⟨#[101, 43]⟩ ++ u8sG (itG z) := by
    unfold txtG
    rw [if_neg (by omega), if_neg (by omega), if_neg (by omega), show E.natAbs = z by omega, hz, exS_pos]
    rw [hPd2 (by omega)]
    rw [hX1, hX2, show (⟨#[101, 43]⟩ : ByteArray) = u8sG [101, 43] from rfl, show (⟨#[46]⟩ : ByteArray) = u8sG [46] from rfl]
    simp only [uG_app]
    congr 1
    simp
  have hZl : (u8sG (itG z)).size ≤ 3 := by rw [uG_size]; exact itG_len z 2 (by omega)
  rw [htx]
  clear htx hX1 hX2
  generalize hDD : u8sG (dg m v) = D at *
  replace hDD := Lib.hid hDD
  have hx1 : (D.extract 0 1).size ≤ 1 := by rw [ByteArray.size_extract]; omega
  have hx2 : (D.extract 1 m).size ≤ 18 := by rw [ByteArray.size_extract]; omega
  have hy1 : ¬ 9223372036854775807 < 1 + (D.extract 1 m).size := by omega
  have hy2 : ¬ 9223372036854775807 < (D.extract 0 1).size + ((⟨#[46]⟩ : ByteArray) ++ D.extract 1 m).size := by rw [ByteArray.size_append]; show ¬ _ < _ + (1 + _); omega
  have hy3 : ¬ 9223372036854775807 < (D.extract 0 1).size + 2 := by omega
  have hy4 : ¬ 9223372036854775807 < (D.extract 0 1 ++ (⟨#[46]⟩ ++ D.extract 1 m)).size + 2 := by rw [ByteArray.size_append, ByteArray.size_append]; show ¬ _ < _ + (1 + _) + 2; omega
  have hy5 : ¬ 9223372036854775807 < (D.extract 0 1 ++ ⟨#[101, 43]⟩).size + (u8sG (itG z)).size := by rw [ByteArray.size_append]; show ¬ _ < _ + 2 + _; omega
  have hy6 : ¬ 9223372036854775807 < (D.extract 0 1 ++ (⟨#[46]⟩ ++ D.extract 1 m) ++ ⟨#[101, 43]⟩).size + (u8sG (itG z)).size := by rw [ByteArray.size_append, ByteArray.size_append, ByteArray.size_append]; show ¬ _ < _ + (1 + _) + 2 + _; omega
  clear hx1 hx2
  have hDi : (D.size : Int) = (m : Int) := by omega
  have hDm : D.size = m := hDl
  have hD1 : (1 : Int) ≤ (m : Int) := by omega
  have q1m : (1 : Int) < (m : Int) := by omega
  have q1 : ¬ E + 1 ≤ 21 := by omega
  have q1b : decide (E + 1 ≤ 21) = false := decide_eq_false (by omega)
  have q2 : 0 < E + 1 := by omega
  have q3 : -6 < E + 1 := by omega
  have q4 : ¬ E + 1 ≤ 0 := by omega
  have q4b : decide (E + 1 ≤ 0) = false := decide_eq_false (by omega)
  have q5 : ¬ E + 1 - 1 < 0 := by omega
  have q6 : ¬ E < 0 := by omega
  have q7 : (m : Int) ≤ E + 1 := by omega
  have q8 : E + 1 - 1 = (z : Int) := by omega
  clear hc hDl hz hmm
  clear hSd o1' o2' o3' hx hx0 hSci hPd hPd2
  generalize sciP m v = A at *
  generalize u8sG TL = TS at *
  have hpl : A.length ≤ 19 := by omega
  replace hsn := Lib.hid hsn
  replace hLA := Lib.hid hLA
  replace hLe := Lib.hid hLe
  replace hA := Lib.hid hA
  replace hAd := Lib.hid hAd
  replace hext := Lib.hid hext
  replace hap := Lib.hid hap
  have hszb : A.length + 1 < S.size ∧ S.size ≤ 25 := by omega
  replace hsz := Lib.hid hsz
  replace htl := Lib.hid htl
  generalize hp : A.length = p at *
  obtain ⟨hsz1, hsz2⟩ := hszb
  go_enter Tryz.func28, Tryz.ntmps28
  go_wp2_with (go_at_call 56; refine (hI.out _).mono ?_; rintro e w1 ⟨rfl, rfl⟩)
  refine hFF.out.mono ?_
  rintro e w2 ⟨rfl, hb2⟩
  go_wp2_with fail
  go_loop [4, 5] (fun vd vj => ∃ j : Nat, j ≤ p ∧ vd = .string (u8sG (noDotG (A.take j))) ∧ vj = .int .i64 (j : Int)) (fun _ vj => p - (intOf vj).toNat)
  case atStart => exact ⟨0, by omega, rfl, rfl⟩
  case round =>
    obtain ⟨j, hj, rfl, rfl⟩ := hrel
    by_cases hlt : j < p
    · obtain ⟨c, hc⟩ : ∃ c, A[j]? = some c := ⟨A[j]'(by omega), List.getElem?_eq_getElem (by omega)⟩
      have hcm := hA.out c (List.mem_of_getElem? hc)
      have hjs : j < S.size := by omega
      have hg := hget.out j c (by rw [hLA.out j hlt]; exact hc) (by omega) hjs
      have hstep := Lib.hid (hsn.out j c hc)
      have n1 : ((c : Int) != 101) = true := by simp; omega
      have hlt' : (j : Int) < (p : Int) := by omega
      have hsz3 : (u8sG (noDotG (A.take j))).size ≤ 20 := by
        rw [uG_size]
        have h1 := List.length_filter_le (fun x => !(x == 46)) (A.take j)
        have h2 := List.length_take_le j A
        unfold noDotG; omega
      have hjs2 : (j : Int) < (S.size : Int) := by omega
      by_cases h46 : c = 46
      · have n2 : ((c : Int) != 46) = false := by simp; omega
        rw [if_pos h46, List.append_nil] at hstep
        clear hcm hc h46
        replace hsz3 := Lib.hid hsz3
        go_wp2
        exact ⟨⟨j + 1, by omega, by rw [hstep.out], by go_num⟩, by simp [intOf]; omega⟩
      · have n2 : ((c : Int) != 46) = true := by simp; omega
        rw [if_neg h46] at hstep
        have henc : ∀ w, (convert 5 9 (.int .u8 (c : Int))).run Tryz.prog w = .ok (.string (u8sG [c])) w := fun w => by
          rw [← enc_digG c (by omega) (by omega)]
          exact run_convert_int_string w 5 9 .u8 c (by kernel_rfl) Tryz.underlying9
        have hstep : u8sG (noDotG (A.take (j + 1))) = u8sG (noDotG (A.take j)) ++ u8sG [c] := by rw [hstep.out, ← uG_app]
        replace hstep := Lib.hid hstep
        have hsz4 : (u8sG [c]).size = 1 := uG_size _
        clear hcm hc h46
        generalize u8sG (noDotG (A.take j)) = D at *
        generalize u8sG [c] = C at *
        have h3 : ¬ 9223372036854775807 < D.size + C.size := by omega
        clear hsz4 hsz3
        go_wp2_with fail
        exact ⟨⟨j + 1, by omega, by rw [hstep.out], by go_num⟩, by simp [intOf]; omega⟩
    · obtain rfl : j = p := by omega
      have hjs : j < S.size := by omega
      have hg := hget.out j 101 hLe.out (by omega) hjs
      have hjs2 : (j : Int) < (S.size : Int) := by omega
      have hD : u8sG (noDotG (A.take j)) = u8sG (dg m v) := by rw [← hp, List.take_length, hAd.out]
      rw [hD]
      replace hp := Lib.hid hp
      clear hD hget hsn hLA hLe
      have hAa2 : Hid (∀ w, Calls Tryz.prog 64 #[.string (S.extract (j + 1) S.size)] w fun e w' => e = .returned (.tuple #[.int .i64 E, .nilIface]) ∧ Below w.heap.size w w') := by rw [hext.out]; exact hAt
      have hjs3 : (j : Int) + 1 ≤ (S.size : Int) := by omega
      clear hext hAt
      go_wp2_with fail
      refine (hAa2.out _).mono ?_
      rintro e w3 ⟨rfl, hb3⟩
      have hb7 : Below w.heap.size w w3 := hb2.trans (hb3.mono hb2.size)
      have hL7 := Lib.hid (hLk.out _ hb7)
      clear hb3 hb2 hAa2 hLk
      rw [hDD.out]
      go_wp2_with fail
      refine (hI2.out _ hL7.out).mono ?_
      rintro e w8 ⟨rfl, hb8⟩
      have hb9 : Below w.heap.size w w8 := hb7.trans (hb8.mono hb7.size)
      clear hb8
      go_wp2_with fail
      go_ret
      exact ⟨rfl, hb9⟩
theorem c_plainPDn1 {x m v : Nat} {E : Int} (hx0 : 0 < x) (hx : x < 9218868437227405312) (hSci : IsSci x m v E) (hE1 : -400 < E) (hE2 : E < 400) (hm1 : 1 ≤ m) (hm2 : m ≤ 18) (hc : E + 1 ≤ -6) (hmm : m = 1) (w : World) (hL : LibW w) :
    Calls Tryz.prog 28 #[.float .f64 x] w fun r w' => r = .returned (.string (u8sG (txtG m v E))) ∧ Below w.heap.size w w' := by
  have o1 := ord_self x
  have o1' : F64.isNaN x = false := by unfold F64.isNaN; rw [rung_small (by omega)]; simp; omega
  rw [o1'] at o1
  have o2 := ord_eq (x := x) (y := 0) hx (by omega)
  have o2' : decide (x = 0) = false := by simp; omega
  rw [o2'] at o2
  have o3 := ord_lt (x := x) (y := 0) hx (by omega)
  have o3' : decide (x < 0) = false := by simp
  rw [o3'] at o3
  have hI : Hid (∀ W, Calls Tryz.prog 56 #[.float .f64 x, .int .i64 1] W fun r w' => r = .returned (.bool false) ∧ W = w') := fun W => by
    have := c_IsInf1G x (by omega) W
    rw [show decide (x = 9218868437227405312) = false by simp; omega] at this
    exact this
  have hFF := Lib.hid (c_FormatFloatG hx0 hx hSci (by omega) (by omega) w hL.pow hL.p10)
  have hA := sciP_mem m v
  have hAd := noDotG_P m v
  have hap : (sciP m v).length ≤ m + 1 := sciP_le hm1
  have hal1 : 1 ≤ (sciP m v).length := sciP_ge hm1
  have htl : 2 ≤ (exS E :: exD E.natAbs).length ∧ (exS E :: exD E.natAbs).length ≤ 4 := by
    unfold exD
    split
    · simp
    · split <;> simp
  have hdl := dg_len m v
  have hAt := Lib.hid (fun W => c_atoiSci E (by omega) (by omega) W)
  rw [sciG_P] at hFF
  have hS := uG_extract (sciP m v ++ [101]) (exS E :: exD E.natAbs)
  have hsz : (u8sG (sciP m v ++ 101 :: (exS E :: exD E.natAbs))).size = (sciP m v).length + 1 + (exS E :: exD E.natAbs).length := by rw [uG_size]; simp; omega
  have hget := Lib.hid (fun (j c : Nat) (h1 : (sciP m v ++ 101 :: (exS E :: exD E.natAbs))[j]? = some c) (h2 : c < 256) (h3 : j < (u8sG (sciP m v ++ 101 :: (exS E :: exD E.natAbs))).size) => uG_get _ j c h1 h2 h3)
  have hsn := noDotG_snoc (sciP m v)
  have hext : (u8sG (sciP m v ++ 101 :: (exS E :: exD E.natAbs))).extract ((sciP m v).length + 1) (u8sG (sciP m v ++ 101 :: (exS E :: exD E.natAbs))).size = u8sG (exS E :: exD E.natAbs) := by
    rw [show sciP m v ++ 101 :: (exS E :: exD E.natAbs) = (sciP m v ++ [101]) ++ (exS E :: exD E.natAbs) by simp]
    exact hS _ _ (by rw [uG_size]) (by simp)
  clear hS
  generalize exS E :: exD E.natAbs = TL at *
  generalize hSd : u8sG (sciP m v ++ 101 :: TL) = S at *
  have hLA : ∀ j, j < (sciP m v).length → (sciP m v ++ 101 :: TL)[j]? = (sciP m v)[j]? := fun j hj => List.getElem?_append_left hj
  have hLe : (sciP m v ++ 101 :: TL)[(sciP m v).length]? = some 101 := by rw [List.getElem?_append_right (Nat.le_refl _)]; simp
  have hPd : m = 1 → sciP m v = dg m v := fun h => by unfold sciP; rw [if_pos h]
  have hPd2 : m ≠ 1 → sciP m v = (dg m v).take 1 ++ [46] ++ (dg m v).drop 1 := fun h => by unfold sciP; rw [if_neg h]
  have hLk := Lib.hid (fun W (hb : Below w.heap.size w W) => hL.keep hb)
  replace hL := Lib.hid hL
  have hDl : (u8sG (dg m v)).size = m := by rw [uG_size, dg_len]
  obtain ⟨z, hz⟩ : ∃ z : Nat, E = -(z : Int) := ⟨E.natAbs, by omega⟩
  have hzl : z < 400 := by omega
  have hI2 := Lib.hid (fun W hW => c_itoa z (by omega) W hW)
  have hX1 : (u8sG (dg m v)).extract 0 1 = u8sG ((dg m v).take 1) := by
    conv => lhs; rw [← List.take_append_drop 1 (dg m v)]
    exact uG_extract0 _ _ _ (by rw [List.length_take, dg_len]; omega)
  have hX2 : (u8sG (dg m v)).extract 1 m = u8sG ((dg m v).drop 1) := by
    conv => lhs; rw [← List.take_append_drop 1 (dg m v)]
    exact uG_extract _ _ _ _ (by rw [List.take_append_drop, dg_len]) (by rw [List.length_take, dg_len]; omega)
  have htx : u8sG (txtG m v E) = (u8sG (dg m v)).extract 0 1 ++ ⟨#[101, 45]⟩ ++ u8sG (itG z) := by
    unfold txtG
    rw [if_neg (by omega), if_neg (by omega), if_neg (by omega), show E.natAbs = z by omega, hz, exS_neg z (by omega)]
    rw [hPd hmm]
    rw [hX1, show (⟨#[101, 45]⟩ : ByteArray) = u8sG [101, 45] from rfl]
    have ht1 : (dg m v).take 1 = dg m v := List.take_of_length_le (by rw [dg_len]; omega)
    rw [ht1]
    simp only [uG_app]
    congr 1
    simp
  have hZl : (u8sG (itG z)).size ≤ 3 := by rw [uG_size]; exact itG_len z 2 (by omega)
  rw [htx]
  clear htx hX1 hX2
  generalize hDD : u8sG (dg m v) = D at *
  replace hDD := Lib.hid hDD
  have hx1 : (D.extract 0 1).size ≤ 1 := by rw [ByteArray.size_extract]; omega
  have hx2 : (D.extract 1 m).size ≤ 18 := by rw [ByteArray.size_extract]; omega
  have hy1 : ¬ 9223372036854775807 < 1 + (D.extract 1 m).size := by omega
  have hy2 : ¬ 9223372036854775807 < (D.extract 0 1).size + ((⟨#[46]⟩ : ByteArray) ++ D.extract 1 m).size := by rw [ByteArray.size_append]; show ¬ _ < _ + (1 + _); omega
  have hy3 : ¬ 9223372036854775807 < (D.extract 0 1).size + 2 := by omega
  have hy4 : ¬ 9223372036854775807 < (D.extract 0 1 ++ (⟨#[46]⟩ ++ D.extract 1 m)).size + 2 := by rw [ByteArray.size_append, ByteArray.size_append]; show ¬ _ < _ + (1 + _) + 2; omega
  have hy5 : ¬ 9223372036854775807 < (D.extract 0 1 ++ ⟨#[101, 45]⟩).size + (u8sG (itG z)).size := by rw [ByteArray.size_append]; show ¬ _ < _ + 2 + _; omega
  have hy6 : ¬ 9223372036854775807 < (D.extract 0 1 ++ (⟨#[46]⟩ ++ D.extract 1 m) ++ ⟨#[101, 45]⟩).size + (u8sG (itG z)).size := by rw [ByteArray.size_append, ByteArray.size_append, ByteArray.size_append]; show ¬ _ < _ + (1 + _) + 2 + _; omega
  clear hx1 hx2
  have hDi : (D.size : Int) = (m : Int) := by omega
  have hDm : D.size = m := hDl
  have hD1 : (1 : Int) ≤ (m : Int) := by omega
  have q1m : ¬ (1 : Int) < (m : Int) := by omega
  have q0 : 1 - (E + 1) = (z : Int) := by omega
  have q1 : ¬ (m : Int) ≤ E + 1 := by omega
  have q1b : decide ((D.size : Int) ≤ E + 1) = false := decide_eq_false (by omega)
  have q1c : decide ((m : Int) ≤ E + 1) = false := decide_eq_false (by omega)
  have q2 : ¬ (0 : Int) < E + 1 := by omega
  have q2b : decide ((0 : Int) < E + 1) = false := decide_eq_false (by omega)
  have q3 : ¬ (-6 : Int) < E + 1 := by omega
  have q3b : decide ((-6 : Int) < E + 1) = false := decide_eq_false (by omega)
  have q5 : E + 1 - 1 < 0 := by omega
  have q6 : E < 0 := by omega
  clear hc hDl hz hmm
  clear hSd o1' o2' o3' hx hx0 hSci hPd hPd2
  generalize sciP m v = A at *
  generalize u8sG TL = TS at *
  have hpl : A.length ≤ 19 := by omega
  replace hsn := Lib.hid hsn
  replace hLA := Lib.hid hLA
  replace hLe := Lib.hid hLe
  replace hA := Lib.hid hA
  replace hAd := Lib.hid hAd
  replace hext := Lib.hid hext
  replace hap := Lib.hid hap
  have hszb : A.length + 1 < S.size ∧ S.size ≤ 25 := by omega
  replace hsz := Lib.hid hsz
  replace htl := Lib.hid htl
  generalize hp : A.length = p at *
  obtain ⟨hsz1, hsz2⟩ := hszb
  go_enter Tryz.func28, Tryz.ntmps28
  go_wp2_with (go_at_call 56; refine (hI.out _).mono ?_; rintro e w1 ⟨rfl, rfl⟩)
  refine hFF.out.mono ?_
  rintro e w2 ⟨rfl, hb2⟩
  go_wp2_with fail
  go_loop [4, 5] (fun vd vj => ∃ j : Nat, j ≤ p ∧ vd = .string (u8sG (noDotG (A.take j))) ∧ vj = .int .i64 (j : Int)) (fun _ vj => p - (intOf vj).toNat)
  case atStart => exact ⟨0, by omega, rfl, rfl⟩
  case round =>
    obtain ⟨j, hj, rfl, rfl⟩ := hrel
    by_cases hlt : j < p
    · obtain ⟨c, hc⟩ : ∃ c, A[j]? = some c := ⟨A[j]'(by omega), List.getElem?_eq_getElem (by omega)⟩
      have hcm := hA.out c (List.mem_of_getElem? hc)
      have hjs : j < S.size := by omega
      have hg := hget.out j c (by rw [hLA.out j hlt]; exact hc) (by omega) hjs
      have hstep := Lib.hid (hsn.out j c hc)
      have n1 : ((c : Int) != 101) = true := by simp; omega
      have hlt' : (j : Int) < (p : Int) := by omega
      have hsz3 : (u8sG (noDotG (A.take j))).size ≤ 20 := by
        rw [uG_size]
        have h1 := List.length_filter_le (fun x => !(x == 46)) (A.take j)
        have h2 := List.length_take_le j A
        unfold noDotG; omega
      have hjs2 : (j : Int) < (S.size : Int) := by omega
      by_cases h46 : c = 46
      · have n2 : ((c : Int) != 46) = false := by simp; omega
        rw [if_pos h46, List.append_nil] at hstep
        clear hcm hc h46
        replace hsz3 := Lib.hid hsz3
        go_wp2
        exact ⟨⟨j + 1, by omega, by rw [hstep.out], by go_num⟩, by simp [intOf]; omega⟩
      · have n2 : ((c : Int) != 46) = true := by simp; omega
        rw [if_neg h46] at hstep
        have henc : ∀ w, (convert 5 9 (.int .u8 (c : Int))).run Tryz.prog w = .ok (.string (u8sG [c])) w := fun w => by
          rw [← enc_digG c (by omega) (by omega)]
          exact run_convert_int_string w 5 9 .u8 c (by kernel_rfl) Tryz.underlying9
        have hstep : u8sG (noDotG (A.take (j + 1))) = u8sG (noDotG (A.take j)) ++ u8sG [c] := by rw [hstep.out, ← uG_app]
        replace hstep := Lib.hid hstep
        have hsz4 : (u8sG [c]).size = 1 := uG_size _
        clear hcm hc h46
        generalize u8sG (noDotG (A.take j)) = D at *
        generalize u8sG [c] = C at *
        have h3 : ¬ 9223372036854775807 < D.size + C.size := by omega
        clear hsz4 hsz3
        go_wp2_with fail
        exact ⟨⟨j + 1, by omega, by rw [hstep.out], by go_num⟩, by simp [intOf]; omega⟩
    · obtain rfl : j = p := by omega
      have hjs : j < S.size := by omega
      have hg := hget.out j 101 hLe.out (by omega) hjs
      have hjs2 : (j : Int) < (S.size : Int) := by omega
      have hD : u8sG (noDotG (A.take j)) = u8sG (dg m v) := by rw [← hp, List.take_length, hAd.out]
      rw [hD]
      replace hp := Lib.hid hp
      clear hD hget hsn hLA hLe
      have hAa2 : Hid (∀ w, Calls Tryz.prog 64 #[.string (S.extract (j + 1) S.size)] w fun e w' => e = .returned (.tuple #[.int .i64 E, .nilIface]) ∧ Below w.heap.size w w') := by rw [hext.out]; exact hAt
      have hjs3 : (j : Int) + 1 ≤ (S.size : Int) := by omega
      clear hext hAt
      go_wp2_with fail
      refine (hAa2.out _).mono ?_
      rintro e w3 ⟨rfl, hb3⟩
      have hb7 : Below w.heap.size w w3 := hb2.trans (hb3.mono hb2.size)
      have hL7 := Lib.hid (hLk.out _ hb7)
      clear hb3 hb2 hAa2 hLk
      rw [hDD.out]
      go_wp2_with fail
      refine (hI2.out _ hL7.out).mono ?_
      rintro e w8 ⟨rfl, hb8⟩
      have hb9 : Below w.heap.size w w8 := hb7.trans (hb8.mono hb7.size)
      clear hb8
      go_wp2_with fail
      go_ret
      exact ⟨rfl, hb9⟩
theorem c_plainPDn2 {x m v : Nat} {E : Int} (hx0 : 0 < x) (hx : x < 9218868437227405312) (hSci : IsSci x m v E) (hE1 : -400 < E) (hE2 : E < 400) (hm1 : 1 ≤ m) (hm2 : m ≤ 18) (hc : E + 1 ≤ -6) (hmm : 1 < m) (w : World) (hL : LibW w) :
    Calls Tryz.prog 28 #[.float .f64 x] w fun r w' => r = .returned (.string (u8sG (txtG m v E))) ∧ Below w.heap.size w w' := by
  have o1 := ord_self x
  have o1' : F64.isNaN x = false := by unfold F64.isNaN; rw [rung_small (by omega)]; simp; omega
  rw [o1'] at o1
  have o2 := ord_eq (x := x) (y := 0) hx (by omega)
  have o2' : decide (x = 0) = false := by simp; omega
  rw [o2'] at o2
  have o3 := ord_lt (x := x) (y := 0) hx (by omega)
  have o3' : decide (x < 0) = false := by simp
  rw [o3'] at o3
  have hI : Hid (∀ W, Calls Tryz.prog 56 #[.float .f64 x, .int .i64 1] W fun r w' => r = .returned (.bool false) ∧ W = w') := fun W => by
    have := c_IsInf1G x (by omega) W
    rw [show decide (x = 9218868437227405312) = false by simp; omega] at this
    exact this
  have hFF := Lib.hid (c_FormatFloatG hx0 hx hSci (by omega) (by omega) w hL.pow hL.p10)
  have hA := sciP_mem m v
  have hAd := noDotG_P m v
  have hap : (sciP m v).length ≤ m + 1 := sciP_le hm1
  have hal1 : 1 ≤ (sciP m v).length := sciP_ge hm1
  have htl : 2 ≤ (exS E :: exD E.natAbs).length ∧ (exS E :: exD E.natAbs).length ≤ 4 := by
    unfold exD
    split
    · simp
    · split <;> simp
  have hdl := dg_len m v
  have hAt := Lib.hid (fun W => c_atoiSci E (by omega) (by omega) W)
  rw [sciG_P] at hFF
  have hS := uG_extract (sciP m v ++ [101]) (exS E :: exD E.natAbs)
  have hsz : (u8sG (sciP m v ++ 101 :: (exS E :: exD E.natAbs))).size = (sciP m v).length + 1 + (exS E :: exD E.natAbs).length := by rw [uG_size]; simp; omega
  have hget := Lib.hid (fun (j c : Nat) (h1 : (sciP m v ++ 101 :: (exS E :: exD E.natAbs))[j]? = some c) (h2 : c < 256) (h3 : j < (u8sG (sciP m v ++ 101 :: (exS E :: exD E.natAbs))).size) => uG_get _ j c h1 h2 h3)
  have hsn := noDotG_snoc (sciP m v)
  have hext : (u8sG (sciP m v ++ 101 :: (exS E :: exD E.natAbs))).extract ((sciP m v).length + 1) (u8sG (sciP m v ++ 101 :: (exS E :: exD E.natAbs))).size = u8sG (exS E :: exD E.natAbs) := by
    rw [show sciP m v ++ 101 :: (exS E :: exD E.natAbs) = (sciP m v ++ [101]) ++ (exS E :: exD E.natAbs) by simp]
    exact hS _ _ (by rw [uG_size]) (by simp)
  clear hS
  generalize exS E :: exD E.natAbs = TL at *
  generalize hSd : u8sG (sciP m v ++ 101 :: TL) = S at *
  have hLA : ∀ j, j < (sciP m v).length → (sciP m v ++ 101 :: TL)[j]? = (sciP m v)[j]? := fun j hj => List.getElem?_append_left hj
  have hLe : (sciP m v ++ 101 :: TL)[(sciP m v).length]? = some 101 := by rw [List.getElem?_append_right (Nat.le_refl _)]; simp
  have hPd : m = 1 → sciP m v = dg m v := fun h => by unfold sciP; rw [if_pos h]
  have hPd2 : m ≠ 1 → sciP m v = (dg m v).take 1 ++ [46] ++ (dg m v).drop 1 := fun h => by unfold sciP; rw [if_neg h]
  have hLk := Lib.hid (fun W (hb : Below w.heap.size w W) => hL.keep hb)
  replace hL := Lib.hid hL
  have hDl : (u8sG (dg m v)).size = m := by rw [uG_size, dg_len]
  obtain ⟨z, hz⟩ : ∃ z : Nat, E = -(z : Int) := ⟨E.natAbs, by omega⟩
  have hzl : z < 400 := by omega
  have hI2 := Lib.hid (fun W hW => c_itoa z (by omega) W hW)
  have hX1 : (u8sG (dg m v)).extract 0 1 = u8sG ((dg m v).take 1) := by
    conv => lhs; rw [← List.take_append_drop 1 (dg m v)]
    exact uG_extract0 _ _ _ (by rw [List.length_take, dg_len]; omega)
  have hX2 : (u8sG (dg m v)).extract 1 m = u8sG ((dg m v).drop 1) := by
    conv => lhs; rw [← List.take_append_drop 1 (dg m v)]
    exact uG_extract _ _ _ _ (by rw [List.take_append_drop, dg_len]) (by rw [List.length_take, dg_len]; omega)
  have htx : u8sG (txtG m v E) = ((u8sG (dg m v)).extract 0 1 ++ (⟨#[46]⟩ ++ (u8sG (dg m v)).extract 1 m)) ++ ⟨#[101, 45]⟩ ++ u8sG (itG z) := by
    unfold txtG
    rw [if_neg (by omega), if_neg (by omega), if_neg (by omega), show E.natAbs = z by omega, hz, exS_neg z (by omega)]
    rw [hPd2 (by omega)]
    rw [hX1, hX2, show (⟨#[101, 45]⟩ : ByteArray) = u8sG [101, 45] from rfl, show (⟨#[46]⟩ : ByteArray) = u8sG [46] from rfl]
    simp only [uG_app]
    congr 1
    simp
  have hZl : (u8sG (itG z)).size ≤ 3 := by rw [uG_size]; exact itG_len z 2 (by omega)
  rw [htx]
  clear htx hX1 hX2
  generalize hDD : u8sG (dg m v) = D at *
  replace hDD := Lib.hid hDD
  have hx1 : (D.extract 0 1).size ≤ 1 := by rw [ByteArray.size_extract]; omega
  have hx2 : (D.extract 1 m).size ≤ 18 := by rw [ByteArray.size_extract]; omega
  have hy1 : ¬ 9223372036854775807 < 1 + (D.extract 1 m).size := by omega
  have hy2 : ¬ 9223372036854775807 < (D.extract 0 1).size + ((⟨#[46]⟩ : ByteArray) ++ D.extract 1 m).size := by rw [ByteArray.size_append]; show ¬ _ < _ + (1 + _); omega
  have hy3 : ¬ 9223372036854775807 < (D.extract 0 1).size + 2 := by omega
  have hy4 : ¬ 9223372036854775807 < (D.extract 0 1 ++ (⟨#[46]⟩ ++ D.extract 1 m)).size + 2 := by rw [ByteArray.size_append, ByteArray.size_append]; show ¬ _ < _ + (1 + _) + 2; omega
  have hy5 : ¬ 9223372036854775807 < (D.extract 0 1 ++ ⟨#[101, 45]⟩).size + (u8sG (itG z)).size := by rw [ByteArray.size_append]; show ¬ _ < _ + 2 + _; omega
  have hy6 : ¬ 9223372036854775807 < (D.extract 0 1 ++ (⟨#[46]⟩ ++ D.extract 1 m) ++ ⟨#[101, 45]⟩).size + (u8sG (itG z)).size := by rw [ByteArray.size_append, ByteArray.size_append, ByteArray.size_append]; show ¬ _ < _ + (1 + _) + 2 + _; omega
  clear hx1 hx2
  have hDi : (D.size : Int) = (m : Int) := by omega
  have hDm : D.size = m := hDl
  have hD1 : (1 : Int) ≤ (m : Int) := by omega
  have q1m : (1 : Int) < (m : Int) := by omega
  have q0 : 1 - (E + 1) = (z : Int) := by omega
  have q1 : ¬ (m : Int) ≤ E + 1 := by omega
  have q1b : decide ((D.size : Int) ≤ E + 1) = false := decide_eq_false (by omega)
  have q1c : decide ((m : Int) ≤ E + 1) = false := decide_eq_false (by omega)
  have q2 : ¬ (0 : Int) < E + 1 := by omega
  have q2b : decide ((0 : Int) < E + 1) = false := decide_eq_false (by omega)
  have q3 : ¬ (-6 : Int) < E + 1 := by omega
  have q3b : decide ((-6 : Int) < E + 1) = false := decide_eq_false (by omega)
  have q5 : E + 1 - 1 < 0 := by omega
  have q6 : E < 0 := by omega
  clear hc hDl hz hmm
  clear hSd o1' o2' o3' hx hx0 hSci hPd hPd2
  generalize sciP m v = A at *
  generalize u8sG TL = TS at *
  have hpl : A.length ≤ 19 := by omega
  replace hsn := Lib.hid hsn
  replace hLA := Lib.hid hLA
  replace hLe := Lib.hid hLe
  replace hA := Lib.hid hA
  replace hAd := Lib.hid hAd
  replace hext := Lib.hid hext
  replace hap := Lib.hid hap
  have hszb : A.length + 1 < S.size ∧ S.size ≤ 25 := by omega
  replace hsz := Lib.hid hsz
  replace htl := Lib.hid htl
  generalize hp : A.length = p at *
  obtain ⟨hsz1, hsz2⟩ := hszb
  go_enter Tryz.func28, Tryz.ntmps28
  go_wp2_with (go_at_call 56; refine (hI.out _).mono ?_; rintro e w1 ⟨rfl, rfl⟩)
  refine hFF.out.mono ?_
  rintro e w2 ⟨rfl, hb2⟩
  go_wp2_with fail
  go_loop [4, 5] (fun vd vj => ∃ j : Nat, j ≤ p ∧ vd = .string (u8sG (noDotG (A.take j))) ∧ vj = .int .i64 (j : Int)) (fun _ vj => p - (intOf vj).toNat)
  case atStart => exact ⟨0, by omega, rfl, rfl⟩
  case round =>
    obtain ⟨j, hj, rfl, rfl⟩ := hrel
    by_cases hlt : j < p
    · obtain ⟨c, hc⟩ : ∃ c, A[j]? = some c := ⟨A[j]'(by omega), List.getElem?_eq_getElem (by omega)⟩
      have hcm := hA.out c (List.mem_of_getElem? hc)
      have hjs : j < S.size := by omega
      have hg := hget.out j c (by rw [hLA.out j hlt]; exact hc) (by omega) hjs
      have hstep := Lib.hid (hsn.out j c hc)
      have n1 : ((c : Int) != 101) = true := by simp; omega
      have hlt' : (j : Int) < (p : Int) := by omega
      have hsz3 : (u8sG (noDotG (A.take j))).size ≤ 20 := by
        rw [uG_size]
        have h1 := List.length_filter_le (fun x => !(x == 46)) (A.take j)
        have h2 := List.length_take_le j A
        unfold noDotG; omega
      have hjs2 : (j : Int) < (S.size : Int) := by omega
      by_cases h46 : c = 46
      · have n2 : ((c : Int) != 46) = false := by simp; omega
        rw [if_pos h46, List.append_nil] at hstep
        clear hcm hc h46
        replace hsz3 := Lib.hid hsz3
        go_wp2
        exact ⟨⟨j + 1, by omega, by rw [hstep.out], by go_num⟩, by simp [intOf]; omega⟩
      · have n2 : ((c : Int) != 46) = true := by simp; omega
        rw [if_neg h46] at hstep
        have henc : ∀ w, (convert 5 9 (.int .u8 (c : Int))).run Tryz.prog w = .ok (.string (u8sG [c])) w := fun w => by
          rw [← enc_digG c (by omega) (by omega)]
          exact run_convert_int_string w 5 9 .u8 c (by kernel_rfl) Tryz.underlying9
        have hstep : u8sG (noDotG (A.take (j + 1))) = u8sG (noDotG (A.take j)) ++ u8sG [c] := by rw [hstep.out, ← uG_app]
        replace hstep := Lib.hid hstep
        have hsz4 : (u8sG [c]).size = 1 := uG_size _
        clear hcm hc h46
        generalize u8sG (noDotG (A.take j)) = D at *
        generalize u8sG [c] = C at *
        have h3 : ¬ 9223372036854775807 < D.size + C.size := by omega
        clear hsz4 hsz3
        go_wp2_with fail
        exact ⟨⟨j + 1, by omega, by rw [hstep.out], by go_num⟩, by simp [intOf]; omega⟩
    · obtain rfl : j = p := by omega
      have hjs : j < S.size := by omega
      have hg := hget.out j 101 hLe.out (by omega) hjs
      have hjs2 : (j : Int) < (S.size : Int) := by omega
      have hD : u8sG (noDotG (A.take j)) = u8sG (dg m v) := by rw [← hp, List.take_length, hAd.out]
      rw [hD]
      replace hp := Lib.hid hp
      clear hD hget hsn hLA hLe
      have hAa2 : Hid (∀ w, Calls Tryz.prog 64 #[.string (S.extract (j + 1) S.size)] w fun e w' => e = .returned (.tuple #[.int .i64 E, .nilIface]) ∧ Below w.heap.size w w') := by rw [hext.out]; exact hAt
      have hjs3 : (j : Int) + 1 ≤ (S.size : Int) := by omega
      clear hext hAt
      go_wp2_with fail
      refine (hAa2.out _).mono ?_
      rintro e w3 ⟨rfl, hb3⟩
      have hb7 : Below w.heap.size w w3 := hb2.trans (hb3.mono hb2.size)
      have hL7 := Lib.hid (hLk.out _ hb7)
      clear hb3 hb2 hAa2 hLk
      rw [hDD.out]
      go_wp2_with fail
      refine (hI2.out _ hL7.out).mono ?_
      rintro e w8 ⟨rfl, hb8⟩
      have hb9 : Below w.heap.size w w8 := hb7.trans (hb8.mono hb7.size)
      clear hb8
      go_wp2_with fail
      go_ret
      exact ⟨rfl, hb9⟩
theorem c_plainPos {x m v : Nat} {E : Int} (hx0 : 0 < x) (hx : x < 9218868437227405312) (hS : IsSci x m v E) (hE1 : -400 < E) (hE2 : E < 400) (hm1 : 1 ≤ m) (hm2 : m ≤ 18) (w : World) (hL : LibW w) :
    Calls Tryz.prog 28 #[.float .f64 x] w fun r w' => r = .returned (.string (u8sG (txtG m v E))) ∧ Below w.heap.size w w' := by
  by_cases h1 : E + 1 ≤ 21
  · by_cases h2 : (m : Int) ≤ E + 1
    · exact c_plainPA hx0 hx hS hE1 hE2 hm1 hm2 h2 h1 w hL
    · by_cases h3 : 0 < E + 1
      · exact c_plainPB hx0 hx hS hE1 hE2 hm1 hm2 h2 h3 h1 w hL
      · by_cases h4 : -6 < E + 1
        · exact c_plainPC hx0 hx hS hE1 hE2 hm1 hm2 h4 (by omega) w hL
        · by_cases h5 : m = 1
          · exact c_plainPDn1 hx0 hx hS hE1 hE2 hm1 hm2 (by omega) h5 w hL
          · exact c_plainPDn2 hx0 hx hS hE1 hE2 hm1 hm2 (by omega) (by omega) w hL
  · by_cases h5 : m = 1
    · exact c_plainPDp1 hx0 hx hS hE1 hE2 hm1 hm2 (by omega) h5 w hL
    · exact c_plainPDp2 hx0 hx hS hE1 hE2 hm1 hm2 (by omega) (by omega) w hL
theorem c_plain0 {x : Nat} {L : List Nat} (hx : x < 18446744073709551616) (h : ShowT x L) (hs : sgn x = false ∨ F64.isNaN x = true ∨ rung x = 0) (w : World) (hL : LibW w) :
    Calls Tryz.prog 28 #[.float .f64 x] w fun r w' => r = .returned (.string (u8sG L)) ∧ Below w.heap.size w w' := by
  cases h with
  | nan h =>
    have o1 := ord_self x
    rw [h] at o1
    clear h hs
    go_enter Tryz.func28, Tryz.ntmps28
    go_wp2
    go_ret
    exact ⟨rfl, Below.refl _ _⟩
  | zero h =>
    have o1 := ord_self x
    have o1' : F64.isNaN x = false := by unfold F64.isNaN; rw [h]; decide
    rw [o1'] at o1
    have o2 : (FloatKind.f64.format.order x 0 == some Ordering.eq) = true := by
      have hp := wd_parts x hx
      rw [h] at hp
      cases hsx : sgn x
      · rw [hsx] at hp
        have : x = 0 := hp.symm
        subst this
        decide +kernel
      · rw [hsx] at hp
        have : x = 9223372036854775808 := hp.symm
        subst this
        decide +kernel
    clear h hs o1' hx
    go_enter Tryz.func28, Tryz.ntmps28
    go_wp2
    go_ret
    exact ⟨rfl, Below.refl _ _⟩
  | inf =>
    have o1 : (FloatKind.f64.format.order 9218868437227405312 9218868437227405312 != some Ordering.eq) = false := by decide +kernel
    have o2 : (FloatKind.f64.format.order 9218868437227405312 0 == some Ordering.eq) = false := by decide +kernel
    have o3 : (FloatKind.f64.format.order 9218868437227405312 0 == some Ordering.lt) = false := by decide +kernel
    have hI := Lib.hid (fun W => c_IsInf1G 9218868437227405312 (by decide) W)
    have hd : decide ((9218868437227405312 : Nat) = 9218868437227405312) = true := by decide
    rw [hd] at hI
    clear hs hx hd
    go_enter Tryz.func28, Tryz.ntmps28
    go_wp2_with (go_at_call 56; refine (hI.out _).mono ?_; rintro e w1 ⟨rfl, rfl⟩)
    go_ret
    exact ⟨rfl, Below.refl _ _⟩
  | pos hx0 hx hS hE1 hE2 hm1 hm2 => exact c_plainPos hx0 hx hS hE1 hE2 hm1 hm2 w hL
  | neg hs' h1 h2 h =>
    exfalso
    rcases hs with h3 | h3 | h3
    · rw [h3] at hs'; cases hs'
    · unfold F64.isNaN at h3; simp at h3; omega
    · omega
theorem c_Plain {x : Nat} {L : List Nat} (hx : x < 18446744073709551616) (h : ShowT x L) (w : World) (hL : LibW w) :
    Calls Tryz.prog 28 #[.float .f64 x] w fun r w' => r = .returned (.string (u8sG L)) ∧ Below w.heap.size w w' := by
  by_cases hc : sgn x = false ∨ F64.isNaN x = true ∨ rung x = 0
  · exact c_plain0 hx h hc w hL
  · cases h with
    | nan h => exact absurd (.inr (.inl h)) hc
    | zero h => exact absurd (.inr (.inr h)) hc
    | inf => exact absurd (.inl (by decide)) hc
    | pos hx0 hx hS hE1 hE2 hm1 hm2 => exact absurd (.inl (sgn_small (by omega))) hc
    | @neg x L hs h1 h2 h =>
      have hb := (h.b0 (sgn_small (rung_lt x))).1
      have hI := Lib.hid (fun W hW => c_plain0 (by have := rung_lt x; omega) h (.inl (sgn_small (rung_lt x))) W hW)
      have o1 := ord_self x
      have o1' : F64.isNaN x = false := by unfold F64.isNaN; simp; omega
      rw [o1'] at o1
      have hord : ∀ y, FloatKind.f64.format.order x y = double.order x y := fun y => rfl
      have hnum : (FloatKind.f64.format.order x 0 == some Ordering.eq) = false ∧ (FloatKind.f64.format.order x 0 == some Ordering.lt) = true := by
        rcases Nat.lt_or_ge (rung x) 9218868437227405312 with hr | hr
        · have fx : fin x = true := by unfold fin; simp; exact hr
          have f0 : fin 0 = true := by decide
          have hc : compare (SV x) (SV 0) = .lt := by
            have s0 : SV 0 = 0 := by decide +kernel
            have sx : SV x < 0 := by
              unfold SV
              rw [hs]
              have := V_pos h1
              simp
              exact this
            rw [s0]
            simp [compare, compareOfLessAndEq, sx]
          rw [hord, order_fin fx f0, hc]
          exact ⟨rfl, rfl⟩
        · have hx3 : x = 18442240474082181120 := by
            have hp := wd_parts x hx
            rw [hs, show rung x = 9218868437227405312 by omega] at hp
            exact hp.symm
          subst hx3
          exact ⟨by decide +kernel, by decide +kernel⟩
      obtain ⟨o2, o3⟩ := hnum
      have hn := neg_runG x
      have hx2 : x ^^^ 9223372036854775808 = rung x := by rw [b_neg hx, hs]; rfl
      rw [hx2] at hn
      have hcons : (⟨#[45]⟩ : ByteArray) ++ u8sG L = u8sG (45 :: L) := by rw [show (⟨#[45]⟩ : ByteArray) = u8sG [45] from rfl, uG_app]; rfl
      have hsz : (u8sG L).size ≤ 100 := by rw [uG_size]; exact hb
      rw [← hcons]
      have hx1 : ¬ 9223372036854775807 < 1 + (u8sG L).size := by omega
      clear o1' hord hx2 hs h1 h2 hb h hc hsz
      replace hcons := Lib.hid hcons
      generalize u8sG L = T at *
      generalize rung x = y at *
      go_enter Tryz.func28, Tryz.ntmps28
      go_wp2_with fail
      refine (hI.out _ hL).mono ?_
      rintro e w1 ⟨rfl, hb1⟩
      go_wp2_with fail
      go_ret
      exact ⟨rfl, hb1⟩
theorem codes_uG (L : List Nat) (h : ∀ c ∈ L, c < 128) : codes (u8sG L) = L := by
  unfold codes u8sG
  simp only [List.map_map]
  conv => rhs; rw [← List.map_id L]
  refine List.map_congr_left fun c hc => ?_
  have := h c hc
  simp
  omega
theorem c_RShow {x : Nat} {L : List Nat} (hx : x < 18446744073709551616) (h : ShowT x L) (w : World) (hL : LibW w) :
    Calls Tryz.prog 11 #[.float .f64 x] w fun r w' => r = .returned (.string (textU L)) ∧ Below w.heap.size w w' := by
  have h1 := Lib.hid (c_Plain hx h w hL)
  obtain ⟨b1, b2⟩ := h.b
  have h2 := Lib.hid (fun W => c_AsciiR (u8sG L) (by rw [uG_size]; omega) (by rw [codes_uG L b2]; exact b2) W)
  rw [codes_uG L b2] at h2
  clear h b1 b2
  go_enter Tryz.func11, Tryz.ntmps11
  go_wp2_with fail
  refine h1.out.mono ?_
  rintro e w1 ⟨rfl, hb⟩
  go_wp2_with fail
  refine (h2.out _).mono ?_
  rintro e w2 ⟨rfl, hb2⟩
  go_wp2_with fail
  go_ret
  exact ⟨rfl, hb.trans (hb2.mono hb.size)⟩
end Go.Proofs.YtbakbikilbaafaaGreatDoor
namespace F64
open Ieee Go Go.RowKit

/-- a positive number by its leading 53 digits: V r * 2^52 = nm r * 2^ne r -/
def nm (r : Nat) : Nat := if r < 4503599627370496 then r * 2 ^ (52 - r.log2) else man r
def ne (r : Nat) : Nat := if r < 4503599627370496 then r.log2 else ex r + 52
def nz (r : Nat) : Nat := if r < 4503599627370496 then (r.log2 + 1) * 4503599627370496 + (nm r - 4503599627370496) else r

theorem log2_lt52 {r : Nat} (h0 : 0 < r) (h : r < 4503599627370496) : r.log2 < 52 :=
  (Nat.log2_lt (by omega)).2 (by omega)

theorem nm_bounds {r : Nat} (h0 : 0 < r) : 4503599627370496 ≤ nm r ∧ nm r < 9007199254740992 := by
  unfold nm
  by_cases h : r < 4503599627370496
  · rw [if_pos h]
    have hl := log2_lt52 h0 h
    have h1 := Nat.log2_self_le (n := r) (by omega)
    have h2 := @Nat.lt_log2_self r
    have e1 : (4503599627370496 : Nat) = 2 ^ r.log2 * 2 ^ (52 - r.log2) := by
      rw [← Nat.pow_add, show r.log2 + (52 - r.log2) = 52 by omega]
    have e2 : (9007199254740992 : Nat) = 2 ^ (r.log2 + 1) * 2 ^ (52 - r.log2) := by
      rw [← Nat.pow_add, show r.log2 + 1 + (52 - r.log2) = 53 by omega]
    constructor
    · rw [e1]; exact Nat.mul_le_mul_right _ h1
    · rw [e2]; exact Nat.mul_lt_mul_of_pos_right h2 (Nat.two_pow_pos _)
  · rw [if_neg h]
    unfold man
    rw [if_neg h]
    omega

theorem ex_lt {r : Nat} (h : r < 9218868437227405312) : ex r ≤ 2045 := by unfold ex; split <;> omega
theorem ne_le {r : Nat} (h0 : 0 < r) (h : r < 9218868437227405312) : ne r ≤ 2097 := by
  unfold ne
  split
  · rename_i h1; have := log2_lt52 h0 h1; omega
  · have := ex_lt h; omega

theorem nz_div {r : Nat} (h0 : 0 < r) : nz r / 4503599627370496 = (if r < 4503599627370496 then r.log2 + 1 else ex r + 1) := by
  have hb := nm_bounds h0
  unfold nz
  by_cases h : r < 4503599627370496
  · rw [if_pos h, if_pos h]; omega
  · rw [if_neg h, if_neg h]; unfold ex; rw [if_neg h]; omega
theorem nz_mod {r : Nat} (h0 : 0 < r) : nz r % 4503599627370496 = nm r - 4503599627370496 := by
  have hb := nm_bounds h0
  by_cases h : r < 4503599627370496
  · unfold nz; rw [if_pos h]; omega
  · unfold nz nm; rw [if_neg h, if_neg h]; unfold man; rw [if_neg h]; omega
theorem nz_lt {r : Nat} (h0 : 0 < r) (h : r < 9218868437227405312) : nz r < 9218868437227405312 := by
  have hb := nm_bounds h0
  unfold nz; split
  · rename_i h1; have := log2_lt52 h0 h1; omega
  · exact h
end F64
namespace F64
open Ieee Go Go.RowKit

theorem i64_and_nat (a b : Nat) (ha : a < 9223372036854775808) (hb : b < 9223372036854775808) : bits .and .i64 (a : Int) (b : Int) = ((a &&& b : Nat) : Int) := by
  have key : (BitVec.ofInt 64 (a : Int) &&& BitVec.ofInt 64 (b : Int)).toNat = a &&& b := by
    rw [BitVec.toNat_and, ofInt_u64 a (by omega), ofInt_u64 b (by omega)]
  show IntKind.i64.wrap ((BitVec.ofInt 64 (a : Int) &&& BitVec.ofInt 64 (b : Int)).toNat : Nat) = ((a &&& b : Nat) : Int)
  rw [key, IntKind.wrap_i64]
  have : a &&& b ≤ a := Nat.and_le_left
  omega
theorem b_exp_i {z : Nat} (hz : z < 9223372036854775808) : bits BinOp.and IntKind.i64 (wrap64 ((z : Int) / 4503599627370496)) 2047 = ((z / 4503599627370496 : Nat) : Int) := by
  have e : wrap64 ((z : Int) / 4503599627370496) = ((z / 4503599627370496 : Nat) : Int) := by unfold wrap64; omega
  rw [e, show (2047 : Int) = ((2047 : Nat) : Int) from rfl, i64_and_nat _ _ (by omega) (by decide), nat_mask11, Nat.mod_eq_of_lt (by omega)]
theorem b_frac {z : Nat} (hz : z < 9223372036854775808) : bits BinOp.andNot IntKind.u64 (z : Int) 9218868437227405312 = ((z % 4503599627370496 : Nat) : Int) := by
  rw [show (9218868437227405312 : Int) = ((9218868437227405312 : Nat) : Int) from rfl, u64_andNot_nat _ _ (by omega) (by decide)]
  congr 1
  rw [show 18446744073709551615 - 9218868437227405312 = 9223372036854775808 ||| (2 ^ 52 - 1) from rfl, Nat.and_or_distrib_left, Nat.and_two_pow_sub_one_eq_mod]
  rw [show (9223372036854775808 : Nat) = 2 ^ 63 from rfl, nat_bit, Nat.div_eq_of_lt (by omega)]
  simp
theorem b_or52 {t f : Nat} (ht : t < 4503599627370496) (hf : f < 2048) : bits BinOp.or IntKind.u64 (t : Int) ((f * 4503599627370496 : Nat) : Int) = ((f * 4503599627370496 + t : Nat) : Int) := by
  rw [u64_or_nat _ _ (by omega) (by omega), Nat.or_comm, nat_join 52 _ _ (by simp) (by omega)]
theorem word_V {f t : Nat} (hf : 1 ≤ f) (ht : t < 4503599627370496) : V (f * 4503599627370496 + t) = (4503599627370496 + t) * 2 ^ (f - 1) := by
  unfold V man ex
  rw [if_neg (by omega), if_neg (by omega)]
  have h1 : (f * 4503599627370496 + t) % 4503599627370496 = t := by omega
  have h2 : (f * 4503599627370496 + t) / 4503599627370496 = f := by omega
  rw [h1, h2]

theorem nz_field {x : Nat} (h0 : 0 < x) : nz x / 4503599627370496 = if x < 4503599627370496 then ne x + 1 else ne x - 51 := by
  rw [nz_div h0]; unfold ne
  split
  · rfl
  · omega
theorem ne_ge {x : Nat} (h : 4503599627370496 ≤ x) : 52 ≤ ne x := by unfold ne; rw [if_neg (by omega)]; omega
end F64
namespace F64
open Ieee Go Go.RowKit

theorem U_parts (a b : Nat) (h : a + b = 1074) : 2 ^ a * 2 ^ b = U := by
  unfold U; rw [← Nat.pow_add, h, ← PL_eq]
theorem V_of {r m e : Nat} (hm : man r = 2 ^ m) (he : ex r = e) (h : m + e = 1074) : V r = U := by
  unfold V; rw [hm, he]; exact U_parts m e h
theorem V_one : V 4607182418800017408 = U := V_of (m := 52) (e := 1022) (by decide) (by decide) rfl
theorem mul_one {d : Nat} (h : d < 9218868437227405312) : double.mul 4607182418800017408 d = some d := by
  have := mul_exact (x := 4607182418800017408) (y := d) (r := d) (fin_small (by decide)) (fin_small h) h (by
    rw [rung_small (by decide), rung_small (by omega), V_one, Nat.mul_comm])
  rw [this, sgn_small (by decide), sgn_small (by omega)]; rfl
theorem ld_hi {x d : Nat} {k : Int} (h0 : 0 < x) (h1 : 52 ≤ k + ne x)
    (hv : V d * 2 ^ 53 = nm x * 2 ^ (k + ne x + 1).toNat) : d = (k + ne x - 51).toNat * 4503599627370496 + (nm x - 4503599627370496) := by
  have hb := nm_bounds h0
  apply V_inj
  rw [word_V (by omega) (by omega), show 4503599627370496 + (nm x - 4503599627370496) = nm x by omega]
  apply Nat.eq_of_mul_eq_mul_right (Nat.two_pow_pos 53)
  rw [hv, Nat.mul_assoc, ← Nat.pow_add]
  congr 2; omega
theorem b_or_field {t : Nat} {E : Int} (ht : t < 4503599627370496) (h0 : 0 ≤ E) (h1 : E < 2048) : bits BinOp.or IntKind.u64 (t : Int) (E * 4503599627370496) = ((E.toNat * 4503599627370496 + t : Nat) : Int) := by
  have := b_or52 (t := t) (f := E.toNat) ht (by omega)
  rw [← this]
  congr 1
  omega
theorem b_exp_j {z : Nat} (hz : z < 9223372036854775808) : bits BinOp.and IntKind.i64 ((z : Int) / 4503599627370496) 2047 = ((z / 4503599627370496 : Nat) : Int) := by
  have h := b_exp_i hz
  have e : wrap64 ((z : Int) / 4503599627370496) = (z : Int) / 4503599627370496 := by unfold wrap64; omega
  rw [e] at h
  exact h
end F64
