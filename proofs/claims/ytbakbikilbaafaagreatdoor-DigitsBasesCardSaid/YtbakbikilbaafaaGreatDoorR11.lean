/-
  Contracts: The contract of the program's show (printed by gen_XSD.py). Contract of the reference Units: the units of a text. Condition: the text is shorter than 2^40 bytes. Contracts of the program's even, unit, Len, Units. Condition: the text is shorter than 2^40 bytes. Contract of the program's Units. Condition: the text is shorter than 2^40 bytes. Contract of the reference Compare: how two lists of units compare. Condition: the texts are shorter than 2^40 bytes. The contract of the reference's Make: the text of units. The contracts of the reference's Of, Ascii and Name, of texts of bytes below 128. Contracts of the program's Point, Of (of texts of bytes below 128), ascii, Show.
-/
import Derived.Test.YtbakbikilbaafaaGreatDoorR8
import Derived.Test.YtbakbikilbaafaaGreatDoorRows
import Derived.WalkKit
import Derived.WalkSpells
import Derived.WalkLawsBesides
import Derived.Deep.QuietTactic
import Derived.BigQuiet
import Derived.Deep.RegionHeld3
import Derived.Deep.AppendLies
import Derived.Lib.Hide
import Derived.Test.YtbakbikilbaafaaGreatDoorR2
import Derived.Shelf.Strings.Cut
import Derived.Laws.IdiomStrings
import Derived.Laws.BytesArg
import Derived.Shelf.Strings.BuilderK
import Derived.Lib.OthersKept
namespace Go.Proofs.YtbakbikilbaafaaGreatDoor
open Go.RowKit F64 Ieee
set_option linter.unusedVariables false
set_option maxHeartbeats 4000000
set_option maxRecDepth 100000

theorem below_freezeG {B : Nat} {a w : World} (h : Below B a w) {p : Addr} (hp : B ≤ p.block) (n : Nat) : Below B a (w.freeze p n) := by
  unfold World.freeze
  split
  · exact h
  · refine ⟨h.os, h.tape, h.output, by simpa using h.size, fun k hk => ?_⟩
    rw [← h.block k hk]
    simp only [Array.getElem?_modify]
    rw [if_neg (by omega)]
theorem c_AbsG (x : Nat) (hx : x < 18446744073709551616) (w : World) :
    Calls Tryz.prog 58 #[.float .f64 x] w fun e w' => e = .returned (.float .f64 (rung x)) ∧ w = w' := by
  have r1 : ∀ w, (callFunc 87 #[.float .f64 x]).run Tryz.prog w = .ok (.value (.int .u64 x)) w := fun w => by kernel_rfl
  have r2 : ∀ (x : Int) (w : World), (callFunc 77 #[.int .u64 x]).run Tryz.prog w = .ok (.value (.float .f64 x.toNat)) w := fun x w => by kernel_rfl
  go_enter Tryz.func58, Tryz.ntmps58
  go_wp2
  go_ret
  exact ⟨by rw [b_abs hx]; rfl, rfl⟩
theorem c_IsInfG (x : Nat) (hx : x < 18446744073709551616) (w : World) :
    Calls Tryz.prog 56 #[.float .f64 x, .int .i64 0] w fun r w' => r = .returned (.bool (decide (rung x = 9218868437227405312))) ∧ w = w' := by
  have h := ord_max (x := rung x) (by have := rung_lt x; omega)
  have hA := Lib.hid (fun W => c_AbsG x hx W)
  generalize rung x = y at *
  generalize decide (y = 9218868437227405312) = d at *
  go_enter Tryz.func56, Tryz.ntmps56
  go_wp2_with (go_at_call 58; refine (hA.out _).mono ?_; rintro e w1 ⟨rfl, rfl⟩)
  go_ret
  exact ⟨rfl, rfl⟩
theorem c_IsInfP (x : Nat) (hx : x < 9218868437227405312) (w : World) :
    Calls Tryz.prog 56 #[.float .f64 x, .int .i64 0] w fun r w' => r = .returned (.bool false) ∧ w = w' := by
  have h := c_IsInfG x (by omega) w
  rw [show decide (rung x = 9218868437227405312) = false by rw [rung_small (by omega)]; simp; omega] at h
  exact h
theorem c_cutSci (m v : Nat) (E : Int) (hlen : (sciG m v E).length ≤ 1000) (w : World) (hL : LibW w) :
    Calls Tryz.prog 61 #[.string (u8sG (sciG m v E)), .string ⟨#[101]⟩] w fun e w' => e = .returned (.tuple #[.string (u8sG (sciP m v)), .string (u8sG (exS E :: exD E.natAbs)), .bool true]) ∧ ∃ n, w' = w.drewN n := by
  obtain ⟨ml, hml⟩ := hL.ml
  refine (s_Cut _ _ ml w (by rw [uG_size]; omega) hml).mono ?_
  rintro e w' ⟨rfl, h⟩
  have hc := cut_sci m v E
  have e1 : (⟨#[101]⟩ : ByteArray).data.toList = [101] := rfl
  rw [e1, hc]
  exact ⟨rfl, h⟩
theorem c_replSci (m v : Nat) (hm : 1 ≤ m) (hm2 : m ≤ 100) (w : World) (hL : LibW w) :
    Calls Tryz.prog 63 #[.string (u8sG (sciP m v)), .string ⟨#[46]⟩, .string ⟨#[]⟩, .int .i64 1] w fun e w' => e = .returned (.string (u8sG (dg m v))) ∧ Below w.heap.size w w' := by
  obtain ⟨ml, hml⟩ := hL.ml
  have hl : (sciP m v).length ≤ m + 1 := by
    unfold sciP
    split
    · rw [dg_len]; omega
    · simp [dg_len]; omega
  refine (s_Replace _ _ _ 1 ml w (by rw [uG_size]; omega) hml (by decide) (by rw [uG_size]; show _ + _ * 0 ≤ _; omega)).mono ?_
  rintro e w' ⟨rfl, h⟩
  have e1 : (⟨#[46]⟩ : ByteArray).data.toList = [46] := rfl
  have e2 : (⟨#[]⟩ : ByteArray).data.toList = [] := rfl
  rw [uG_data, e1, e2, replace_sci m v hm]
  exact ⟨rfl, h⟩
theorem c_atoiSci (E : Int) (h1 : -1000 < E) (h2 : E < 1000) (w : World) :
    Calls Tryz.prog 64 #[.string (u8sG (exS E :: exD E.natAbs))] w fun e w' => e = .returned (.tuple #[.int .i64 E, .nilIface]) ∧ Below w.heap.size w w' := by
  have hl : (exD E.natAbs).length ≤ 3 := by
    unfold exD
    split
    · simp
    · split <;> simp
  refine (s_Atoi _ E (by rw [uG_size]; simp; omega) (by rw [uG_data]; exact atoi_exp E h1 h2) w).mono ?_
  rintro e w' ⟨rfl, t, rfl⟩
  refine ⟨rfl, ?_⟩
  exact below_freezeG ((Below.refl _ w).drew.alloc (Nat.le_refl _) _) (Nat.le_refl _) _
theorem c_rep0 (k : Nat) (hk : k ≤ 1000) (w : World) :
    Calls Tryz.prog 65 #[.string ⟨#[48]⟩, .int .i64 (k : Int)] w fun e w' => e = .returned (.string (u8sG (List.replicate k 48))) ∧ Below w.heap.size w w' := by
  refine (s_Repeat ⟨#[48]⟩ k w (by omega) (by show 1 * k ≤ _; omega)).mono ?_
  rintro e w' ⟨rfl, h⟩
  have e1 : (⟨#[48]⟩ : ByteArray).data.toList = [48] := rfl
  rw [e1, repeat_zero]
  exact ⟨rfl, h⟩
theorem c_itoa (n : Nat) (hn : n < 9223372036854775808) (w : World) (hL : LibW w) :
    Calls Tryz.prog 66 #[.int .i64 (n : Int)] w fun e w' => e = .returned (.string (u8sG (itG n))) ∧ Below w.heap.size w w' := by
  refine (s_Itoa (n : Int) (by omega) (by omega) w hL.tab).mono ?_
  rintro e w' ⟨rfl, h⟩
  have e1 : Lib.itoa (n : Int) = Lib.decDigits n := by unfold Lib.itoa; rw [if_neg (by omega)]; rfl
  rw [e1, uG_mk]
  exact ⟨rfl, h⟩
theorem itG_len (n k : Nat) (h : n < 10 ^ (k + 1)) : (itG n).length ≤ k + 1 := by
  induction k generalizing n with
  | zero =>
    unfold itG Lib.decDigits
    rw [dif_pos (by simpa using h)]
    simp
  | succ k ih =>
    unfold itG Lib.decDigits
    split
    · simp
    · have := ih (n / 10) (by rw [Nat.pow_succ] at h; omega)
      unfold itG at this
      simp at this ⊢
      omega
theorem c_showPA {x m v : Nat} {E : Int} (hx0 : 0 < x) (hx : x < 9218868437227405312) (hS : IsSci x m v E) (hE1 : -400 < E) (hE2 : E < 400) (hm1 : 1 ≤ m) (hm2 : m ≤ 18) (hc : (m : Int) ≤ E + 1) (hc2 : E + 1 ≤ 21) (w : World) (hL : LibW w) :
    Calls Tryz.prog 27 #[.float .f64 x] w fun r w' => r = .returned (.string (u8sG (txtG m v E))) ∧ Below w.heap.size w w' := by
  have o1 := ord_self x
  have o1' : F64.isNaN x = false := by unfold F64.isNaN; rw [rung_small (by omega)]; simp; omega
  rw [o1'] at o1
  have o2 := ord_eq (x := x) (y := 0) hx (by omega)
  have o2' : decide (x = 0) = false := by simp; omega
  rw [o2'] at o2
  have o3 := ord_lt (x := x) (y := 0) hx (by omega)
  have o3' : decide (x < 0) = false := by simp
  rw [o3'] at o3
  have hI := Lib.hid (c_IsInfP x hx)
  have hFF := Lib.hid (fun W hT hP => c_FormatFloatG hx0 hx hS (by omega) (by omega) W hT hP)
  have hgl : (sciG m v E).length ≤ 1000 := by
    rw [sciG_P]
    have h1 : (sciP m v).length ≤ m + 1 := by
      unfold sciP
      split
      · rw [dg_len]; omega
      · simp [dg_len]; omega
    have h2 : (exD E.natAbs).length ≤ 3 := by
      unfold exD
      split
      · simp
      · split <;> simp
    simp
    omega
  have hCut := Lib.hid (fun W hW => c_cutSci m v E hgl W hW)
  have hRep := Lib.hid (fun W hW => c_replSci m v hm1 (by omega) W hW)
  have hAt := Lib.hid (fun W => c_atoiSci E (by omega) (by omega) W)
  have hDl : (u8sG (dg m v)).size = m := by rw [uG_size, dg_len]
  have hPl : (u8sG (sciP m v)).size ≤ 20 := by
    rw [uG_size]
    unfold sciP
    split
    · rw [dg_len]; omega
    · simp [dg_len]; omega
  have hLk := Lib.hid (fun W (hb : Below w.heap.size w W) => hL.keep hb)
  replace hL := Lib.hid hL
  obtain ⟨z, hz⟩ : ∃ z : Nat, E + 1 - (m : Int) = (z : Int) := ⟨(E + 1 - m).toNat, by omega⟩
  have hR := Lib.hid (fun W => c_rep0 z (by omega) W)
  have htx : u8sG (txtG m v E) = u8sG (dg m v) ++ u8sG (List.replicate z 48) := by
    unfold txtG
    rw [if_pos ⟨hc, hc2⟩, uG_app, hz]; rfl
  have hZl : (u8sG (List.replicate z 48)).size ≤ 30 := by rw [uG_size]; simp; omega
  rw [htx]
  clear htx
  generalize u8sG (List.replicate z 48) = Z at *
  generalize u8sG (dg m v) = D at *
  have hfit : ¬ 9223372036854775807 < D.size + Z.size := by omega
  have hDi : (D.size : Int) = (m : Int) := by omega
  have hDle : (m : Int) ≤ E + 1 := hc
  clear hZl hDl
  clear o1' o2' o3' hx hx0 hS hgl
  go_enter Tryz.func27, Tryz.ntmps27
  go_wp2_with (go_at_call 56; refine (hI.out _).mono ?_; rintro e w1 ⟨rfl, rfl⟩)
  refine (hFF.out _ hL.out.pow hL.out.p10).mono ?_
  rintro e w2 ⟨rfl, hb2⟩
  have hL2 := Lib.hid (hLk.out _ hb2)
  go_wp2_with fail
  refine (hCut.out _ hL2.out).mono ?_
  rintro e w3 ⟨rfl, nq, rfl⟩
  have hbn : Below w.heap.size w (w2.drewN nq) := below_drewN hb2 nq
  have hL3 := Lib.hid (hLk.out _ hbn)
  generalize hw3 : w2.drewN nq = w3 at *
  clear hw3
  go_wp2_with fail
  refine (hRep.out _ hL3.out).mono ?_
  rintro e w4 ⟨rfl, hb4⟩
  have hb5 : Below w.heap.size w w4 := hbn.trans (hb4.mono hbn.size)
  clear hb4 hbn hb2
  go_wp2_with fail
  refine (hAt.out _).mono ?_
  rintro e w6 ⟨rfl, hb6⟩
  have hb7 : Below w.heap.size w w6 := hb5.trans (hb6.mono hb5.size)
  have hL7 := Lib.hid (hLk.out _ hb7)
  clear hb6 hb5
  go_wp2_with fail
  refine (hR.out _).mono ?_
  rintro e w8 ⟨rfl, hb8⟩
  have hb9 : Below w.heap.size w w8 := hb7.trans (hb8.mono hb7.size)
  clear hb8
  go_wp2_with fail
  go_ret
  exact ⟨rfl, hb9⟩
theorem c_showPB {x m v : Nat} {E : Int} (hx0 : 0 < x) (hx : x < 9218868437227405312) (hS : IsSci x m v E) (hE1 : -400 < E) (hE2 : E < 400) (hm1 : 1 ≤ m) (hm2 : m ≤ 18) (hc : ¬ (m : Int) ≤ E + 1) (hc1 : 0 < E + 1) (hc2 : E + 1 ≤ 21) (w : World) (hL : LibW w) :
    Calls Tryz.prog 27 #[.float .f64 x] w fun r w' => r = .returned (.string (u8sG (txtG m v E))) ∧ Below w.heap.size w w' := by
  have o1 := ord_self x
  have o1' : F64.isNaN x = false := by unfold F64.isNaN; rw [rung_small (by omega)]; simp; omega
  rw [o1'] at o1
  have o2 := ord_eq (x := x) (y := 0) hx (by omega)
  have o2' : decide (x = 0) = false := by simp; omega
  rw [o2'] at o2
  have o3 := ord_lt (x := x) (y := 0) hx (by omega)
  have o3' : decide (x < 0) = false := by simp
  rw [o3'] at o3
  have hI := Lib.hid (c_IsInfP x hx)
  have hFF := Lib.hid (fun W hT hP => c_FormatFloatG hx0 hx hS (by omega) (by omega) W hT hP)
  have hgl : (sciG m v E).length ≤ 1000 := by
    rw [sciG_P]
    have h1 : (sciP m v).length ≤ m + 1 := by
      unfold sciP
      split
      · rw [dg_len]; omega
      · simp [dg_len]; omega
    have h2 : (exD E.natAbs).length ≤ 3 := by
      unfold exD
      split
      · simp
      · split <;> simp
    simp
    omega
  have hCut := Lib.hid (fun W hW => c_cutSci m v E hgl W hW)
  have hRep := Lib.hid (fun W hW => c_replSci m v hm1 (by omega) W hW)
  have hAt := Lib.hid (fun W => c_atoiSci E (by omega) (by omega) W)
  have hDl : (u8sG (dg m v)).size = m := by rw [uG_size, dg_len]
  have hPl : (u8sG (sciP m v)).size ≤ 20 := by
    rw [uG_size]
    unfold sciP
    split
    · rw [dg_len]; omega
    · simp [dg_len]; omega
  have hLk := Lib.hid (fun W (hb : Below w.heap.size w W) => hL.keep hb)
  replace hL := Lib.hid hL
  obtain ⟨z, hz⟩ : ∃ z : Nat, E + 1 = (z : Int) := ⟨(E + 1).toNat, by omega⟩
  have htx : u8sG (txtG m v E) = (u8sG (dg m v)).extract 0 z ++ ⟨#[46]⟩ ++ (u8sG (dg m v)).extract z m := by
    unfold txtG
    rw [if_neg (fun h => hc h.1), if_pos ⟨hc1, hc2⟩, hz]
    have h1 : (u8sG (dg m v)).extract 0 z = u8sG ((dg m v).take z) := by
      conv => lhs; rw [← List.take_append_drop z (dg m v)]
      exact uG_extract0 _ _ _ (by rw [List.length_take, dg_len]; omega)
    have h2 : (u8sG (dg m v)).extract z m = u8sG ((dg m v).drop z) := by
      conv => lhs; rw [← List.take_append_drop z (dg m v)]
      exact uG_extract _ _ _ _ (by rw [List.take_append_drop, dg_len]) (by rw [List.length_take, dg_len]; omega)
    rw [h1, h2, show (⟨#[46]⟩ : ByteArray) = u8sG [46] from rfl, uG_app, uG_app]
    rfl
  rw [htx]
  clear htx
  have hzm : z < m := by omega
  have hz0 : 0 < z := by omega
  have hz2 : z ≤ 21 := by omega
  obtain rfl : E = (z : Int) - 1 := by omega
  clear hz hc hc1 hc2
  generalize u8sG (dg m v) = D at *
  have q1 : ¬ (D.size : Int) ≤ (z : Int) - 1 + 1 := by omega
  have q1b : decide ((D.size : Int) ≤ (z : Int)) = false := decide_eq_false (by omega)
  have q1c : decide (D.size ≤ z) = false := decide_eq_false (by omega)
  have q2 : (0 : Int) < (z : Int) := by omega
  have q3 : (z : Int) ≤ 21 := by omega
  have q4 : (z : Int) - 1 + 1 = (z : Int) := by omega
  have q5 : (z : Int) ≤ (D.size : Int) := by omega
  have hx1 : (D.extract 0 z).size ≤ 18 := by rw [ByteArray.size_extract]; omega
  have hx2 : (D.extract z m).size ≤ 18 := by rw [ByteArray.size_extract]; omega
  have hx3 : ¬ 9223372036854775807 < (D.extract 0 z).size + 1 := by omega
  have hx4 : ¬ 9223372036854775807 < (D.extract 0 z ++ ⟨#[46]⟩).size + (D.extract z m).size := by rw [ByteArray.size_append]; show ¬ _ < _ + 1 + _; omega
  clear hx1 hx2
  have hDm : D.size = m := hDl
  clear o1' o2' o3' hx hx0 hS hgl
  go_enter Tryz.func27, Tryz.ntmps27
  go_wp2_with (go_at_call 56; refine (hI.out _).mono ?_; rintro e w1 ⟨rfl, rfl⟩)
  refine (hFF.out _ hL.out.pow hL.out.p10).mono ?_
  rintro e w2 ⟨rfl, hb2⟩
  have hL2 := Lib.hid (hLk.out _ hb2)
  go_wp2_with fail
  refine (hCut.out _ hL2.out).mono ?_
  rintro e w3 ⟨rfl, nq, rfl⟩
  have hbn : Below w.heap.size w (w2.drewN nq) := below_drewN hb2 nq
  have hL3 := Lib.hid (hLk.out _ hbn)
  generalize hw3 : w2.drewN nq = w3 at *
  clear hw3
  go_wp2_with fail
  refine (hRep.out _ hL3.out).mono ?_
  rintro e w4 ⟨rfl, hb4⟩
  have hb5 : Below w.heap.size w w4 := hbn.trans (hb4.mono hbn.size)
  clear hb4 hbn hb2
  go_wp2_with fail
  refine (hAt.out _).mono ?_
  rintro e w6 ⟨rfl, hb6⟩
  have hb7 : Below w.heap.size w w6 := hb5.trans (hb6.mono hb5.size)
  have hL7 := Lib.hid (hLk.out _ hb7)
  clear hb6 hb5
  go_wp2_with fail
  go_quiet (fail)
  go_wp2_with fail
  go_ret
  exact ⟨rfl, below_drewN hb7 _⟩
theorem c_showPC {x m v : Nat} {E : Int} (hx0 : 0 < x) (hx : x < 9218868437227405312) (hS : IsSci x m v E) (hE1 : -400 < E) (hE2 : E < 400) (hm1 : 1 ≤ m) (hm2 : m ≤ 18) (hc : -6 < E + 1) (hc2 : E + 1 ≤ 0) (w : World) (hL : LibW w) :
    Calls Tryz.prog 27 #[.float .f64 x] w fun r w' => r = .returned (.string (u8sG (txtG m v E))) ∧ Below w.heap.size w w' := by
  have o1 := ord_self x
  have o1' : F64.isNaN x = false := by unfold F64.isNaN; rw [rung_small (by omega)]; simp; omega
  rw [o1'] at o1
  have o2 := ord_eq (x := x) (y := 0) hx (by omega)
  have o2' : decide (x = 0) = false := by simp; omega
  rw [o2'] at o2
  have o3 := ord_lt (x := x) (y := 0) hx (by omega)
  have o3' : decide (x < 0) = false := by simp
  rw [o3'] at o3
  have hI := Lib.hid (c_IsInfP x hx)
  have hFF := Lib.hid (fun W hT hP => c_FormatFloatG hx0 hx hS (by omega) (by omega) W hT hP)
  have hgl : (sciG m v E).length ≤ 1000 := by
    rw [sciG_P]
    have h1 : (sciP m v).length ≤ m + 1 := by
      unfold sciP
      split
      · rw [dg_len]; omega
      · simp [dg_len]; omega
    have h2 : (exD E.natAbs).length ≤ 3 := by
      unfold exD
      split
      · simp
      · split <;> simp
    simp
    omega
  have hCut := Lib.hid (fun W hW => c_cutSci m v E hgl W hW)
  have hRep := Lib.hid (fun W hW => c_replSci m v hm1 (by omega) W hW)
  have hAt := Lib.hid (fun W => c_atoiSci E (by omega) (by omega) W)
  have hDl : (u8sG (dg m v)).size = m := by rw [uG_size, dg_len]
  have hPl : (u8sG (sciP m v)).size ≤ 20 := by
    rw [uG_size]
    unfold sciP
    split
    · rw [dg_len]; omega
    · simp [dg_len]; omega
  have hLk := Lib.hid (fun W (hb : Below w.heap.size w W) => hL.keep hb)
  replace hL := Lib.hid hL
  obtain ⟨z, hz⟩ : ∃ z : Nat, E + 1 = -(z : Int) := ⟨(-(E + 1)).toNat, by omega⟩
  have hR := Lib.hid (fun W => c_rep0 z (by omega) W)
  have htx : u8sG (txtG m v E) = ⟨#[48, 46]⟩ ++ u8sG (List.replicate z 48) ++ u8sG (dg m v) := by
    unfold txtG
    rw [if_neg (by omega), if_neg (by omega), if_pos ⟨hc, hc2⟩, hz, show (-(-(z : Int))).toNat = z by omega, show (⟨#[48, 46]⟩ : ByteArray) = u8sG [48, 46] from rfl, uG_app, uG_app]
  have hZl : (u8sG (List.replicate z 48)).size ≤ 30 := by rw [uG_size]; simp; omega
  rw [htx]
  clear htx
  obtain rfl : E = -(z : Int) - 1 := by omega
  generalize u8sG (List.replicate z 48) = Z at *
  generalize u8sG (dg m v) = D at *
  have q4 : -(z : Int) - 1 + 1 = -(z : Int) := by omega
  have q1 : ¬ (D.size : Int) ≤ -(z : Int) := by omega
  have q1b : decide ((D.size : Int) ≤ -(z : Int)) = false := decide_eq_false (by omega)
  have q2 : ¬ (0 : Int) < -(z : Int) := by omega
  have q2b : decide ((0 : Int) < -(z : Int)) = false := decide_eq_false (by omega)
  have q3 : (-6 : Int) < -(z : Int) := by omega
  have q5 : -(z : Int) ≤ 0 := by omega
  have q6 : (0 : Int) ≤ (z : Int) := by omega
  have hx1 : ¬ 9223372036854775807 < 2 + Z.size := by omega
  have hx2 : ¬ 9223372036854775807 < ((⟨#[48, 46]⟩ : ByteArray) ++ Z).size + D.size := by rw [ByteArray.size_append]; show ¬ _ < 2 + _ + _; omega
  clear hc hc2 hz hZl
  clear o1' o2' o3' hx hx0 hS hgl
  go_enter Tryz.func27, Tryz.ntmps27
  go_wp2_with (go_at_call 56; refine (hI.out _).mono ?_; rintro e w1 ⟨rfl, rfl⟩)
  refine (hFF.out _ hL.out.pow hL.out.p10).mono ?_
  rintro e w2 ⟨rfl, hb2⟩
  have hL2 := Lib.hid (hLk.out _ hb2)
  go_wp2_with fail
  refine (hCut.out _ hL2.out).mono ?_
  rintro e w3 ⟨rfl, nq, rfl⟩
  have hbn : Below w.heap.size w (w2.drewN nq) := below_drewN hb2 nq
  have hL3 := Lib.hid (hLk.out _ hbn)
  generalize hw3 : w2.drewN nq = w3 at *
  clear hw3
  go_wp2_with fail
  refine (hRep.out _ hL3.out).mono ?_
  rintro e w4 ⟨rfl, hb4⟩
  have hb5 : Below w.heap.size w w4 := hbn.trans (hb4.mono hbn.size)
  clear hb4 hbn hb2
  go_wp2_with fail
  refine (hAt.out _).mono ?_
  rintro e w6 ⟨rfl, hb6⟩
  have hb7 : Below w.heap.size w w6 := hb5.trans (hb6.mono hb5.size)
  have hL7 := Lib.hid (hLk.out _ hb7)
  clear hb6 hb5
  go_wp2_with fail
  refine (hR.out _).mono ?_
  rintro e w8 ⟨rfl, hb8⟩
  have hb9 : Below w.heap.size w w8 := hb7.trans (hb8.mono hb7.size)
  clear hb8
  go_wp2_with fail
  go_ret
  exact ⟨rfl, hb9⟩
theorem c_showPDp {x m v : Nat} {E : Int} (hx0 : 0 < x) (hx : x < 9218868437227405312) (hS : IsSci x m v E) (hE1 : -400 < E) (hE2 : E < 400) (hm1 : 1 ≤ m) (hm2 : m ≤ 18) (hc : 21 < E + 1) (w : World) (hL : LibW w) :
    Calls Tryz.prog 27 #[.float .f64 x] w fun r w' => r = .returned (.string (u8sG (txtG m v E))) ∧ Below w.heap.size w w' := by
  have o1 := ord_self x
  have o1' : F64.isNaN x = false := by unfold F64.isNaN; rw [rung_small (by omega)]; simp; omega
  rw [o1'] at o1
  have o2 := ord_eq (x := x) (y := 0) hx (by omega)
  have o2' : decide (x = 0) = false := by simp; omega
  rw [o2'] at o2
  have o3 := ord_lt (x := x) (y := 0) hx (by omega)
  have o3' : decide (x < 0) = false := by simp
  rw [o3'] at o3
  have hI := Lib.hid (c_IsInfP x hx)
  have hFF := Lib.hid (fun W hT hP => c_FormatFloatG hx0 hx hS (by omega) (by omega) W hT hP)
  have hgl : (sciG m v E).length ≤ 1000 := by
    rw [sciG_P]
    have h1 : (sciP m v).length ≤ m + 1 := by
      unfold sciP
      split
      · rw [dg_len]; omega
      · simp [dg_len]; omega
    have h2 : (exD E.natAbs).length ≤ 3 := by
      unfold exD
      split
      · simp
      · split <;> simp
    simp
    omega
  have hCut := Lib.hid (fun W hW => c_cutSci m v E hgl W hW)
  have hRep := Lib.hid (fun W hW => c_replSci m v hm1 (by omega) W hW)
  have hAt := Lib.hid (fun W => c_atoiSci E (by omega) (by omega) W)
  have hDl : (u8sG (dg m v)).size = m := by rw [uG_size, dg_len]
  have hPl : (u8sG (sciP m v)).size ≤ 20 := by
    rw [uG_size]
    unfold sciP
    split
    · rw [dg_len]; omega
    · simp [dg_len]; omega
  have hLk := Lib.hid (fun W (hb : Below w.heap.size w W) => hL.keep hb)
  replace hL := Lib.hid hL
  obtain ⟨z, hz⟩ : ∃ z : Nat, E = (z : Int) := ⟨E.natAbs, by omega⟩
  have hzl : z < 400 := by omega
  have hI2 := Lib.hid (fun W hW => c_itoa z (by omega) W hW)
  have htx : u8sG (txtG m v E) = u8sG (sciP m v) ++ ⟨#[101]⟩ ++ ⟨#[43]⟩ ++ u8sG (itG z) := by
    unfold txtG
    rw [if_neg (by omega), if_neg (by omega), if_neg (by omega), show E.natAbs = z by omega, hz, exS_pos, show (⟨#[101]⟩ : ByteArray) = u8sG [101] from rfl, show (⟨#[43]⟩ : ByteArray) = u8sG [43] from rfl, uG_app, uG_app, uG_app]
  have hZl : (u8sG (itG z)).size ≤ 3 := by rw [uG_size]; exact itG_len z 2 (by omega)
  rw [htx]
  clear htx
  have hx1 : ¬ 9223372036854775807 < (u8sG (sciP m v)).size + 1 := by omega
  have hx2 : ¬ 9223372036854775807 < (u8sG (sciP m v) ++ ⟨#[101]⟩).size + 1 := by rw [ByteArray.size_append]; show ¬ _ < _ + 1 + 1; omega
  have hx3 : ¬ 9223372036854775807 < (u8sG (sciP m v) ++ ⟨#[101]⟩ ++ ⟨#[43]⟩).size + (u8sG (itG z)).size := by rw [ByteArray.size_append, ByteArray.size_append]; show ¬ _ < _ + 1 + 1 + _; omega
  have hDi : ((u8sG (dg m v)).size : Int) = (m : Int) := by omega
  subst hz
  have q1 : ¬ (z : Int) + 1 ≤ 21 := by omega
  have q1b : decide ((z : Int) + 1 ≤ 21) = false := decide_eq_false (by omega)
  have q2 : (0 : Int) < (z : Int) + 1 := by omega
  have q3 : (-6 : Int) < (z : Int) + 1 := by omega
  have q4 : ¬ (z : Int) + 1 ≤ 0 := by omega
  have q4b : decide ((z : Int) + 1 ≤ 0) = false := decide_eq_false (by omega)
  have q5 : ¬ (z : Int) < 0 := by omega
  have q6 : ((u8sG (dg m v)).size : Int) ≤ (z : Int) + 1 := by omega
  have q7 : (m : Int) ≤ (z : Int) + 1 := by omega
  clear hc hDl
  clear o1' o2' o3' hx hx0 hS hgl
  go_enter Tryz.func27, Tryz.ntmps27
  go_wp2_with (go_at_call 56; refine (hI.out _).mono ?_; rintro e w1 ⟨rfl, rfl⟩)
  refine (hFF.out _ hL.out.pow hL.out.p10).mono ?_
  rintro e w2 ⟨rfl, hb2⟩
  have hL2 := Lib.hid (hLk.out _ hb2)
  go_wp2_with fail
  refine (hCut.out _ hL2.out).mono ?_
  rintro e w3 ⟨rfl, nq, rfl⟩
  have hbn : Below w.heap.size w (w2.drewN nq) := below_drewN hb2 nq
  have hL3 := Lib.hid (hLk.out _ hbn)
  generalize hw3 : w2.drewN nq = w3 at *
  clear hw3
  go_wp2_with fail
  refine (hRep.out _ hL3.out).mono ?_
  rintro e w4 ⟨rfl, hb4⟩
  have hb5 : Below w.heap.size w w4 := hbn.trans (hb4.mono hbn.size)
  clear hb4 hbn hb2
  go_wp2_with fail
  refine (hAt.out _).mono ?_
  rintro e w6 ⟨rfl, hb6⟩
  have hb7 : Below w.heap.size w w6 := hb5.trans (hb6.mono hb5.size)
  have hL7 := Lib.hid (hLk.out _ hb7)
  clear hb6 hb5
  go_wp2_with fail
  refine (hI2.out _ hL7.out).mono ?_
  rintro e w8 ⟨rfl, hb8⟩
  have hb9 : Below w.heap.size w w8 := hb7.trans (hb8.mono hb7.size)
  clear hb8
  go_wp2_with fail
  go_ret
  exact ⟨rfl, hb9⟩
theorem c_showPDn {x m v : Nat} {E : Int} (hx0 : 0 < x) (hx : x < 9218868437227405312) (hS : IsSci x m v E) (hE1 : -400 < E) (hE2 : E < 400) (hm1 : 1 ≤ m) (hm2 : m ≤ 18) (hc : E + 1 ≤ -6) (w : World) (hL : LibW w) :
    Calls Tryz.prog 27 #[.float .f64 x] w fun r w' => r = .returned (.string (u8sG (txtG m v E))) ∧ Below w.heap.size w w' := by
  have o1 := ord_self x
  have o1' : F64.isNaN x = false := by unfold F64.isNaN; rw [rung_small (by omega)]; simp; omega
  rw [o1'] at o1
  have o2 := ord_eq (x := x) (y := 0) hx (by omega)
  have o2' : decide (x = 0) = false := by simp; omega
  rw [o2'] at o2
  have o3 := ord_lt (x := x) (y := 0) hx (by omega)
  have o3' : decide (x < 0) = false := by simp
  rw [o3'] at o3
  have hI := Lib.hid (c_IsInfP x hx)
  have hFF := Lib.hid (fun W hT hP => c_FormatFloatG hx0 hx hS (by omega) (by omega) W hT hP)
  have hgl : (sciG m v E).length ≤ 1000 := by
    rw [sciG_P]
    have h1 : (sciP m v).length ≤ m + 1 := by
      unfold sciP
      split
      · rw [dg_len]; omega
      · simp [dg_len]; omega
    have h2 : (exD E.natAbs).length ≤ 3 := by
      unfold exD
      split
      · simp
      · split <;> simp
    simp
    omega
  have hCut := Lib.hid (fun W hW => c_cutSci m v E hgl W hW)
  have hRep := Lib.hid (fun W hW => c_replSci m v hm1 (by omega) W hW)
  have hAt := Lib.hid (fun W => c_atoiSci E (by omega) (by omega) W)
  have hDl : (u8sG (dg m v)).size = m := by rw [uG_size, dg_len]
  have hPl : (u8sG (sciP m v)).size ≤ 20 := by
    rw [uG_size]
    unfold sciP
    split
    · rw [dg_len]; omega
    · simp [dg_len]; omega
  have hLk := Lib.hid (fun W (hb : Below w.heap.size w W) => hL.keep hb)
  replace hL := Lib.hid hL
  obtain ⟨z, hz⟩ : ∃ z : Nat, E = -(z : Int) := ⟨E.natAbs, by omega⟩
  have hzl : z < 400 := by omega
  have hI2 := Lib.hid (fun W hW => c_itoa z (by omega) W hW)
  have htx : u8sG (txtG m v E) = u8sG (sciP m v) ++ ⟨#[101]⟩ ++ ⟨#[45]⟩ ++ u8sG (itG z) := by
    unfold txtG
    rw [if_neg (by omega), if_neg (by omega), if_neg (by omega), show E.natAbs = z by omega, hz, exS_neg z (by omega), show (⟨#[101]⟩ : ByteArray) = u8sG [101] from rfl, show (⟨#[45]⟩ : ByteArray) = u8sG [45] from rfl, uG_app, uG_app, uG_app]
  have hZl : (u8sG (itG z)).size ≤ 3 := by rw [uG_size]; exact itG_len z 2 (by omega)
  rw [htx]
  clear htx
  have hx1 : ¬ 9223372036854775807 < (u8sG (sciP m v)).size + 1 := by omega
  have hx2 : ¬ 9223372036854775807 < (u8sG (sciP m v) ++ ⟨#[101]⟩).size + 1 := by rw [ByteArray.size_append]; show ¬ _ < _ + 1 + 1; omega
  have hx3 : ¬ 9223372036854775807 < (u8sG (sciP m v) ++ ⟨#[101]⟩ ++ ⟨#[45]⟩).size + (u8sG (itG z)).size := by rw [ByteArray.size_append, ByteArray.size_append]; show ¬ _ < _ + 1 + 1 + _; omega
  have hDi : ((u8sG (dg m v)).size : Int) = (m : Int) := by omega
  have q0 : -E = (z : Int) := by omega
  have q1 : ¬ (m : Int) ≤ E + 1 := by omega
  have q1b : decide (((u8sG (dg m v)).size : Int) ≤ E + 1) = false := decide_eq_false (by omega)
  have q1c : decide ((m : Int) ≤ E + 1) = false := decide_eq_false (by omega)
  have q2 : ¬ (0 : Int) < E + 1 := by omega
  have q2b : decide ((0 : Int) < E + 1) = false := decide_eq_false (by omega)
  have q3 : ¬ (-6 : Int) < E + 1 := by omega
  have q3b : decide ((-6 : Int) < E + 1) = false := decide_eq_false (by omega)
  have q5 : E < 0 := by omega
  clear hc hDl hz
  clear o1' o2' o3' hx hx0 hS hgl
  go_enter Tryz.func27, Tryz.ntmps27
  go_wp2_with (go_at_call 56; refine (hI.out _).mono ?_; rintro e w1 ⟨rfl, rfl⟩)
  refine (hFF.out _ hL.out.pow hL.out.p10).mono ?_
  rintro e w2 ⟨rfl, hb2⟩
  have hL2 := Lib.hid (hLk.out _ hb2)
  go_wp2_with fail
  refine (hCut.out _ hL2.out).mono ?_
  rintro e w3 ⟨rfl, nq, rfl⟩
  have hbn : Below w.heap.size w (w2.drewN nq) := below_drewN hb2 nq
  have hL3 := Lib.hid (hLk.out _ hbn)
  generalize hw3 : w2.drewN nq = w3 at *
  clear hw3
  go_wp2_with fail
  refine (hRep.out _ hL3.out).mono ?_
  rintro e w4 ⟨rfl, hb4⟩
  have hb5 : Below w.heap.size w w4 := hbn.trans (hb4.mono hbn.size)
  clear hb4 hbn hb2
  go_wp2_with fail
  refine (hAt.out _).mono ?_
  rintro e w6 ⟨rfl, hb6⟩
  have hb7 : Below w.heap.size w w6 := hb5.trans (hb6.mono hb5.size)
  have hL7 := Lib.hid (hLk.out _ hb7)
  clear hb6 hb5
  go_wp2_with fail
  refine (hI2.out _ hL7.out).mono ?_
  rintro e w8 ⟨rfl, hb8⟩
  have hb9 : Below w.heap.size w w8 := hb7.trans (hb8.mono hb7.size)
  clear hb8
  go_wp2_with fail
  go_ret
  exact ⟨rfl, hb9⟩
end Go.Proofs.YtbakbikilbaafaaGreatDoor
namespace Go.Proofs.YtbakbikilbaafaaGreatDoor
open Go.RowKit
set_option maxHeartbeats 400000
set_option maxRecDepth 100000

/-- the units of a text -/
def ub (s : ByteArray) (i : Nat) : Nat := (s.data.toList.getD i 0).toNat
def unitAt (s : ByteArray) (k : Nat) : Nat := ub s (2 * k) * 256 + ub s (2 * k + 1)
def unitsN (s : ByteArray) : Nat → List Nat
  | 0 => []
  | k + 1 => unitsN s k ++ [unitAt s k]
def u16s (l : List Nat) : List Value := l.map fun n : Nat => .int .u16 (n : Int)
theorem own_base {w : World} {base : Nat} {e : TypeId} {size : Nat} {v : Value} {n : Nat} {xs : List Value} (h : w.ownsRow base e size v n xs) : ∀ k, v.ownBlock = some k → base ≤ k := by
  intro k hk
  rcases h.2 with ⟨rfl, _⟩ | ⟨g, cap, cur, rfl, hb, _⟩
  · cases hk
  · cases hk; exact hb
theorem infoU16 : (Tryz.prog.info? 27).map (fun i => (i.zero, i.size, i.bytes)) = some (some (.int .u16 0), 1, 2) := by kernel_rfl

theorem ub_get (s : ByteArray) (i : Nat) (h : i < s.size) : ub s i = s[i].toNat := by
  unfold ub
  have h' : i < s.data.toList.length := by simpa using h
  rw [List.getD_eq_getElem?_getD, List.getElem?_eq_getElem h']; rfl
theorem unit_val (s : ByteArray) (k : Nat) (i j : Int) (hi : i = 2 * (k : Int)) (hj : j = 2 * (k : Int) + 1) (h1 : i.toNat < s.size) (h2 : j.toNat < s.size) :
    IntKind.u16.wrap (IntKind.u16.wrap (IntKind.u16.wrap (s[i.toNat].toNat : Int) * 256) + IntKind.u16.wrap (s[j.toNat].toNat : Int)) = (unitAt s k : Int) := by
  have e1 : i.toNat = 2 * k := by omega
  have e2 : j.toNat = 2 * k + 1 := by omega
  have a1 := ub_get s i.toNat h1
  have a2 := ub_get s j.toNat h2
  have b1 : s[i.toNat].toNat < 256 := s[i.toNat].toNat_lt
  have b2 : s[j.toNat].toNat < 256 := s[j.toNat].toNat_lt
  unfold unitAt
  rw [← a1, ← a2, e1, e2]
  rw [← a1, e1] at b1
  rw [← a2, e2] at b2
  generalize ub s (2 * k) = x at *
  generalize ub s (2 * k + 1) = y at *
  simp only [IntKind.wrap_u16]
  omega
theorem c_UnitsR (s : ByteArray) (hs : s.size ≤ 1099511627776) (w : World) :
    Calls Tryz.prog 33 #[.string s] w fun e w' => ∃ v, e = .returned v ∧ w'.ownsRow w.heap.size 27 1 v (s.size / 2) (u16s (unitsN s (s.size / 2))) ∧ Below w.heap.size w w' := by
  obtain ⟨i0, hi0, hz0, hz1, hz2⟩ := info_parts infoU16
  go_enter Tryz.func33, Tryz.ntmps33
  go_wp2
  go_loopw [3, 4] (fun v i wr => ∃ k : Nat, k ≤ s.size / 2 ∧ i = .int .i64 ((2 * k : Nat) : Int) ∧ wr.ownsRow w.heap.size 27 1 v k (u16s (unitsN s k)) ∧ Below w.heap.size w wr) (fun _ i _ => s.size - (intOf i).toNat)
  case atStart => exact ⟨0, by omega, rfl, World.ownsRow_nil _ _ _ _, Below.refl _ _⟩
  case round =>
    obtain ⟨k, hk, rfl, hown, hbel⟩ := hrel
    rcases Nat.lt_or_ge (2 * k + 1) s.size with hlt | hge
    · go_wp2
      have hi0' : (0 : Int) ≤ ((2 * k : Nat) : Int) := Int.natCast_nonneg _
      have hi1 : ((2 * k : Nat) : Int) < (s.size : Int) := by omega
      have hk0 : (0 : Int) ≤ 2 * (k : Int) + 1 := by omega
      have hk1 : 2 * (k : Int) + 1 < (s.size : Int) := by omega
      have hsum : IntKind.i64.wrap (2 * (k : Int) + 1) = 2 * (k : Int) + 1 := IntWalk.i64_in _ (by omega)
      have hsz := hbel.size
      have hval := unit_val s k (2 * (k : Int)) (2 * (k : Int) + 1) rfl rfl (by omega) (by omega)
      go_region_held3 (fun _ => True) (first | trivial | go_keep) ((refine step_append_lies _ (by rfl) _ _ _ (by rfl) w.heap.size 27 i0 _ 1 2 Tryz.underlying49 hi0 hz0 hz1 hz2 rfl (by omega) u3 k (u16s (unitsN s k)) (by rfl) ((hown.alloc _).drew) ⟨wr.heap.size, 0, none⟩ 1 1 [.int .u16 (unitAt s k)] (by rfl) (by rfl) (World.news_of_block (cs := #[.int .u16 (unitAt s k)]) (t := 27) (fr := (0, 0)) (by exact heap_alloc_new wr _)) (by simp [Value.oneCell']) (by omega) (by unfold maxLen; omega) (by omega) (by simp; omega) (wr.heap.size + 1) (by simp) ?_; intro gg cap w1 hown1 hgrow hat hlt))
      all_goals
        have hown2 : w1.ownsRow w.heap.size 27 1 (Value.slice (some ⟨gg, 0, none⟩) (k + 1) cap) (k + 1) (u16s (unitsN s (k + 1))) := by
          have e : u16s (unitsN s (k + 1)) = u16s (unitsN s k) ++ [Value.int IntKind.u16 (unitAt s k)] := by simp [u16s, unitsN]
          rw [e]; exact hown1
        have hbel2 : Below w.heap.size w w1 := ((hbel.alloc hsz _).drew).grown hgrow (by simp; omega) (own_base hown)
        clear hown1 hgrow hval hsum
        go_wp2
        go_roundw
        case rel => exact ⟨k + 1, by omega, by go_num, hown2, hbel2⟩
        case measure => simp [intOf]; omega
    · have hk2 : k = s.size / 2 := by omega
      go_wp2
      go_ret
      exact ⟨_, rfl, by rw [← hk2]; exact hown, hbel⟩
end Go.Proofs.YtbakbikilbaafaaGreatDoor
namespace Go.Proofs.YtbakbikilbaafaaGreatDoor
open Go.RowKit
set_option maxHeartbeats 400000
set_option maxRecDepth 100000

/-- a text without an odd byte -/
def evenB (s : ByteArray) : ByteArray := s.extract 0 (s.size / 2 * 2)
theorem evenB_size (s : ByteArray) : (evenB s).size = s.size / 2 * 2 := by unfold evenB; rw [ByteArray.size_extract]; omega
theorem and_not1 (n : Nat) (h : n < 9223372036854775808) : bits BinOp.andNot IntKind.i64 (n : Int) 1 = ((n / 2 * 2 : Nat) : Int) := by
  have key : (BitVec.ofInt 64 (n : Int) &&& ~~~ BitVec.ofInt 64 1).toNat = n / 2 * 2 := by
    rw [BitVec.toNat_and, ofInt_u64 n (by omega)]
    have : (~~~ BitVec.ofInt 64 1).toNat = 18446744073709551614 := by decide
    rw [this]
    have e : n &&& 18446744073709551614 = n / 2 * 2 := by
      have h1 : n = n / 2 * 2 + n % 2 := by omega
      apply Nat.eq_of_testBit_eq
      intro i
      rw [Nat.testBit_and]
      cases i with
      | zero => simp [Nat.testBit_zero]
      | succ j =>
        rw [Nat.testBit_succ, Nat.testBit_succ]
        have h2 : n / 2 * 2 / 2 = n / 2 := by omega
        rw [Nat.testBit_succ, h2]
        have h3 : (18446744073709551614 : Nat) / 2 = 2 ^ 63 - 1 := by decide
        rw [h3, Nat.testBit_two_pow_sub_one]
        by_cases hj : j < 63
        · simp [hj]
        · have : (n / 2).testBit j = false := Nat.testBit_lt_two_pow (Nat.lt_of_lt_of_le (by omega : n / 2 < 2 ^ 63) (Nat.pow_le_pow_right (by decide) (by omega)))
          rw [this]; simp
    exact e
  show IntKind.i64.wrap ((BitVec.ofInt 64 (n : Int) &&& ~~~ BitVec.ofInt 64 1).toNat : Nat) = _
  rw [key, IntKind.wrap_i64]
  omega

theorem c_even (s : ByteArray) (hs : s.size ≤ 1099511627776) (w : World) :
    Calls Tryz.prog 103 #[.string s] w fun e w' => e = .returned (.string (evenB s)) ∧ w = w' := by
  have h := and_not1 s.size (by omega)
  have h1 : s.size / 2 * 2 ≤ s.size := by omega
  unfold evenB
  generalize s.size / 2 * 2 = n at *
  go_enter Tryz.func103, Tryz.ntmps103
  go_wp2
  go_ret
  exact ⟨rfl, rfl⟩
theorem c_ULen (s : ByteArray) (hs : s.size ≤ 1099511627776) (w : World) :
    Calls Tryz.prog 30 #[.string s] w fun e w' => e = .returned (.int .i64 ((s.size / 2 : Nat) : Int)) ∧ w = w' := by
  go_enter Tryz.func30, Tryz.ntmps30
  go_wp2
  go_ret
  exact ⟨rfl, rfl⟩
theorem unit_or (s : ByteArray) (k : Nat) (i j : Int) (hi : i = 2 * (k : Int)) (hj : j = 2 * (k : Int) + 1) (h1 : i.toNat < s.size) (h2 : j.toNat < s.size) :
    bits BinOp.or IntKind.u16 (IntKind.u16.wrap (IntKind.u16.wrap (s[i.toNat].toNat : Int) * 256)) (IntKind.u16.wrap (s[j.toNat].toNat : Int)) = (unitAt s k : Int) := by
  have e1 : i.toNat = 2 * k := by omega
  have e2 : j.toNat = 2 * k + 1 := by omega
  have a1 := ub_get s i.toNat h1
  have a2 := ub_get s j.toNat h2
  have b1 : s[i.toNat].toNat < 256 := s[i.toNat].toNat_lt
  have b2 : s[j.toNat].toNat < 256 := s[j.toNat].toNat_lt
  unfold unitAt
  rw [← a1, ← a2, e1, e2]
  rw [← a1, e1] at b1
  rw [← a2, e2] at b2
  generalize ub s (2 * k) = x at *
  generalize ub s (2 * k + 1) = y at *
  have w1 : IntKind.u16.wrap (IntKind.u16.wrap (x : Int) * 256) = ((x * 256 : Nat) : Int) := by simp only [IntKind.wrap_u16]; omega
  have w2 : IntKind.u16.wrap (y : Int) = (y : Int) := by simp only [IntKind.wrap_u16]; omega
  rw [w1, w2, u16_or_nat _ _ (by omega) (by omega), nat_join 8 _ _ (by omega) (by omega)]
theorem ret_int {k : IntKind} {a b : Int} (h : a = b) : Ending.returned (.int k a) = .returned (.int k b) := by rw [h]
theorem c_unit (s : ByteArray) (k : Nat) (hs : s.size ≤ 1099511627776) (hk : 2 * k + 1 < s.size) (w : World) :
    Calls Tryz.prog 68 #[.string s, .int .i64 (k : Int)] w fun e w' => e = .returned (.int .u16 (unitAt s k)) ∧ ∃ nq, w' = w.drewN nq := by
  have h0 : (0 : Int) ≤ 2 * (k : Int) := by omega
  have h1 : 2 * (k : Int) < (s.size : Int) := by omega
  have h2 : (0 : Int) ≤ 2 * (k : Int) + 1 := by omega
  have h3 : 2 * (k : Int) + 1 < (s.size : Int) := by omega
  have s1 : IntKind.i64.wrap (2 * (k : Int)) = 2 * (k : Int) := IntWalk.i64_in _ (by omega)
  have s2 : IntKind.i64.wrap (2 * (k : Int) + 1) = 2 * (k : Int) + 1 := IntWalk.i64_in _ (by omega)
  have hval := unit_or s k (2 * (k : Int)) (2 * (k : Int) + 1) rfl rfl (by omega) (by omega)
  go_enter Tryz.func68, Tryz.ntmps68
  go_wp2
  go_quiet (fail)
  go_wp2
  go_ret
  exact ⟨ret_int hval, _, rfl⟩
end Go.Proofs.YtbakbikilbaafaaGreatDoor
namespace Go.Proofs.YtbakbikilbaafaaGreatDoor
open Go.RowKit
set_option maxHeartbeats 400000
set_option maxRecDepth 100000

theorem bel_drewN {B : Nat} {a w : World} (h : Below B a w) (n : Nat) : Below B a (w.drewN n) := h.trans ⟨rfl, rfl, rfl, Nat.le_refl _, fun _ _ => rfl⟩
theorem own_drewN {w : World} {B e size n : Nat} {v : Value} {xs : List Value} (h : w.ownsRow B e size v n xs) (q : Nat) : (w.drewN q).ownsRow B e size v n xs := h
theorem u16s_snoc (s : ByteArray) (k : Nat) : u16s (unitsN s (k + 1)) = u16s (unitsN s k) ++ [Value.int IntKind.u16 (unitAt s k)] := by simp [u16s, unitsN]
theorem unitAt_even (s : ByteArray) (k : Nat) (h : k < s.size / 2) : unitAt (evenB s) k = unitAt s k := by
  have hs := evenB_size s
  have key : ∀ i, i < s.size / 2 * 2 → ub (evenB s) i = ub s i := by
    intro i hi
    rw [ub_get _ _ (by omega), ub_get _ _ (by omega)]
    unfold evenB
    rw [ByteArray.getElem_extract]
    congr 2; omega
  unfold unitAt
  rw [key _ (by omega), key _ (by omega)]
theorem unitsN_even (s : ByteArray) (k : Nat) (h : k ≤ s.size / 2) : unitsN (evenB s) k = unitsN s k := by
  induction k with
  | zero => rfl
  | succ k ih => simp only [unitsN]; rw [ih (by omega), unitAt_even s k (by omega)]
theorem c_Units (s : ByteArray) (hs : s.size ≤ 1099511627776) (w : World) :
    Calls Tryz.prog 69 #[.string s] w fun e w' => ∃ v, e = .returned v ∧ w'.ownsRow w.heap.size 27 1 v (s.size / 2) (u16s (unitsN s (s.size / 2))) ∧ Below w.heap.size w w' := by
  obtain ⟨i0, hi0, hz0, hz1, hz2⟩ := info_parts infoU16
  have hE := evenB_size s
  have hU := unitsN_even s (s.size / 2) (Nat.le_refl _)
  rw [← hU]
  have H := Lib.hid (c_even s hs)
  have hm : s.size / 2 ≤ 549755813888 := by omega
  generalize evenB s = E at *
  generalize s.size / 2 = m at *
  have hE1 : E.size ≤ m * 2 := by omega
  have hE2 : m * 2 ≤ E.size := by omega
  clear hE hU
  go_enter Tryz.func69, Tryz.ntmps69
  go_wp2_with (first | (go_at_call 103; refine (H.out _).mono ?_; rintro e w' ⟨rfl, rfl⟩) | (at_make; refine wpList_make_own _ rfl _ _ 49 rfl w.heap.size 27 i0 (.int .u16 0) 1 Tryz.underlying49 hi0 hz0 hz1 _ _ _ m rfl rfl (by omega) (by rw [hz2]; omega) (by unfold maxLen; omega) (Nat.le_refl _) ?_; intro w1 hown1 hgrow1))
  have hbel1 : Below w.heap.size w w1 := (Below.refl _ _).grown hgrow1 (Nat.le_refl _) (fun _ h => by cases h)
  have eE : (E.size : Int) / 2 = (m : Int) := by omega
  rw [eE]
  clear eE hgrow1
  generalize hv0 : Value.slice (some ⟨w.heap.size, 0, none⟩) 0 m = v0 at *
  clear hv0
  go_loopw [4, 5, 15] (fun v _ i wr => ∃ k : Nat, k ≤ m ∧ i = .int .i64 (k : Int) ∧ wr.ownsRow w.heap.size 27 1 v k (u16s (unitsN E k)) ∧ Below w.heap.size w wr) (fun _ _ i _ => m - (intOf i).toNat)
  case atStart => exact ⟨0, by omega, rfl, hown1, hbel1⟩
  case round =>
    obtain ⟨k, hk, rfl, hown, hbel⟩ := hrel
    rcases Nat.lt_or_ge k m with hlt | hge
    · have hsz := hbel.size
      go_wp2_with (first | (go_at_call 68; refine (c_unit E k (by omega) (by omega) _).mono ?_; rintro e w' ⟨rfl, nq, rfl⟩) | (at_builtin; go_loud (refine wpList_append_lies _ (by rfl) _ _ _ (by rfl) w.heap.size 27 i0 _ 1 2 Tryz.underlying49 hi0 hz0 hz1 hz2 rfl (by omega) u4 k (u16s (unitsN E k)) (by rfl) ((own_drewN hown nq).alloc _) ⟨wr.heap.size, 0, none⟩ 1 1 [.int .u16 (unitAt E k)] (by rfl) (by rfl) (World.news_of_block (cs := #[.int .u16 (unitAt E k)]) (t := 27) (fr := (0, 0)) (by exact heap_alloc_new (wr.drewN nq) _)) (by simp [Value.oneCell']) (by omega) (by unfold maxLen; omega) (by omega) (by simp; omega) (wr.heap.size + 1) (by simp) ?_); intro gg cap w2 hown2 hgrow hat hlt2))
      have hown3 : w2.ownsRow w.heap.size 27 1 (Value.slice (some ⟨gg, 0, none⟩) (k + 1) cap) (k + 1) (u16s (unitsN E (k + 1))) := by
        rw [u16s_snoc]; exact hown2
      have hbel2 : Below w.heap.size w w2 := ((bel_drewN hbel nq).alloc hsz _).grown hgrow (by simp; omega) (own_base hown)
      clear hown2 hgrow
      go_roundw
      case rel => exact ⟨k + 1, by omega, by go_num, hown3, hbel2⟩
      case measure => simp [intOf]; omega
    · have hk2 : k = m := by omega
      subst hk2
      go_wp2
      go_ret
      exact ⟨_, rfl, hown, hbel⟩
end Go.Proofs.YtbakbikilbaafaaGreatDoor
namespace Go.Proofs.YtbakbikilbaafaaGreatDoor
open Go.RowKit
set_option maxHeartbeats 400000
set_option maxRecDepth 100000

/-- v reads as the row xs; its block is below B -/
def Rd (B : Nat) (w : World) (v : Value) (xs : List Value) : Prop :=
  ∃ b c, v = .slice b xs.length c ∧ ∀ j u, xs[j]? = some u → ∃ g, g < B ∧ b = some ⟨g, 0, none⟩ ∧ xs.length ≤ c ∧ w.cell? ⟨g, j, none⟩ = some u
theorem add_zero_addr (g j : Nat) : (⟨g, 0, none⟩ : Addr).add j = ⟨g, j, none⟩ := by
  unfold Addr.add
  simp
  omega
theorem Rd_own {w : World} {base : Nat} {e : TypeId} {v : Value} {n : Nat} {xs : List Value} (h : w.ownsRow base e 1 v n xs) : Rd w.heap.size w v xs := by
  have hl := h.lt
  have hc := fun g hg => World.ownsRow.cells h (g := g) hg
  rcases h with ⟨hn, ⟨rfl, rfl⟩ | ⟨g, cap, cur, rfl, hb, hh, h1, h2, h3, h4⟩⟩
  · have : xs = [] := List.length_eq_zero_iff.1 (by omega)
    subst this
    exact ⟨none, 0, rfl, fun j u hu => by simp at hu⟩
  · have hn' : n = xs.length := by omega
    subst hn'
    refine ⟨_, cap, rfl, ?_⟩
    intro j u hu
    have := hc g rfl j u hu
    rw [add_zero_addr] at this
    exact ⟨g, (hl g rfl).2, rfl, h1, this⟩
theorem Rd.keep {B B' : Nat} {w w' : World} {v : Value} {xs : List Value} (h : Rd B w v xs) (hb : Below B' w w') (hB : B ≤ B') : Rd B w' v xs := by
  obtain ⟨b, c, h1, h2⟩ := h
  refine ⟨b, c, h1, fun j u hu => ?_⟩
  obtain ⟨g, k1, k2, k3, k4⟩ := h2 j u hu
  exact ⟨g, k1, k2, k3, by rw [hb.cell (p := ⟨g, j, none⟩) (by show g < B'; omega)]; exact k4⟩

/-- the units of a text -/
def U (s : ByteArray) : List Nat := unitsN s (s.size / 2)
theorem unitsN_len (s : ByteArray) (k : Nat) : (unitsN s k).length = k := by induction k with
  | zero => rfl
  | succ k ih => simp [unitsN, ih]
end Go.Proofs.YtbakbikilbaafaaGreatDoor
namespace Go.Proofs.YtbakbikilbaafaaGreatDoor
open Go.RowKit Go.Proofs
set_option maxHeartbeats 400000
set_option maxRecDepth 100000

def byteU (u : Nat) : List UInt8 := [UInt8.ofNat (u / 256), UInt8.ofNat (u % 256)]
def bytesU (us : List Nat) : List UInt8 := us.flatMap byteU
def textU (us : List Nat) : ByteArray := ⟨(bytesU us).toArray⟩
def cellsB (l : List UInt8) : List Value := l.map fun b => .int .u8 (b.toNat : Int)
theorem bytesU_len (us : List Nat) : (bytesU us).length = 2 * us.length := by
  induction us with
  | nil => rfl
  | cons u us ih => simp only [bytesU, List.flatMap_cons, List.length_append, List.length_cons] at ih ⊢; rw [ih]; simp [byteU]; omega
theorem bytesU_snoc (us : List Nat) (k u : Nat) (h : us[k]? = some u) : bytesU (us.take (k + 1)) = bytesU (us.take k) ++ byteU u := by
  unfold bytesU
  rw [List.take_add_one, h]; simp
theorem infoU8 : (Tryz.prog.info? 5).map (fun i => (i.zero, i.size, i.bytes)) = some (some (.int .u8 0), 1, 1) := by kernel_rfl
theorem c_MakeR (us : List Nat) (v : Value) (hus : ∀ u ∈ us, u < 65536) (hl : us.length ≤ 549755813888) (w : World) (h : Rd w.heap.size w v (u16s us)) :
    Calls Tryz.prog 35 #[v] w fun e w' => e = .returned (.string (textU us)) ∧ Below w.heap.size w w' := by
  obtain ⟨i0, hi0, hz0, hz1, hz2⟩ := info_parts infoU8
  obtain ⟨p, c, rfl, hcell⟩ := h
  have hlen : (u16s us).length = us.length := by simp [u16s]
  rw [hlen] at hcell ⊢
  have hget : ∀ k, k < us.length → ∃ u g, us[k]? = some u ∧ u < 65536 ∧ p = some ⟨g, 0, none⟩ ∧ ∀ y, Below w.heap.size w y → y.cell? ⟨g, k, none⟩ = some (.int .u16 (u : Int)) := by
    intro k hk
    have hx : us[k]? = some us[k] := List.getElem?_eq_getElem hk
    obtain ⟨g, g1, g2, g3, g4⟩ := hcell k (.int .u16 (us[k] : Int)) (by simp [u16s, hk])
    refine ⟨us[k], g, hx, hus _ (List.getElem_mem hk), g2, fun y hy => ?_⟩
    rw [hy.cell (p := ⟨g, k, none⟩) (by exact g1)]
    exact g4
  have hsn := bytesU_snoc us
  have hbl : ∀ k, (bytesU (us.take k)).length = 2 * (us.take k).length := fun k => bytesU_len _
  have hend : bytesU (us.take us.length) = bytesU us := by rw [List.take_length]
  have h0 : bytesU (us.take 0) = [] := rfl
  unfold textU
  generalize bytesU us = E at *
  generalize hF : (fun k => bytesU (us.take k)) = F at *
  have hF' : ∀ k, bytesU (us.take k) = F k := fun k => by rw [← hF]
  simp only [hF'] at hsn hbl hend h0
  have hFl : ∀ k, k ≤ us.length → (F k).length = 2 * k := fun k hk => by rw [hbl, List.length_take]; omega
  clear hcell hlen hus hF hF' hbl
  generalize us.length = n at *
  replace hget := Lib.hid hget
  replace hsn := Lib.hid hsn
  replace hend := Lib.hid hend
  replace h0 := Lib.hid h0
  replace hFl := Lib.hid hFl
  go_enter Tryz.func35, Tryz.ntmps35
  go_wp2
  go_loopw [3, 8] (fun vb vk wr => ∃ k : Nat, k ≤ n ∧ vk = .int .i64 (k : Int) ∧ wr.ownsRow w.heap.size 5 1 vb (2 * k) (cellsB (F k)) ∧ Below w.heap.size w wr) (fun _ vk _ => n - (intOf vk).toNat)
  case atStart => exact ⟨0, by omega, rfl, ⟨by rw [h0.out]; rfl, .inl ⟨rfl, rfl⟩⟩, Below.refl _ _⟩
  case round =>
    obtain ⟨k, hk, rfl, hown, hbel⟩ := hrel
    rcases Nat.lt_or_ge k n with hlt | hge
    · obtain ⟨u, g, hu, hu2, rfl, hy⟩ := hget.out k hlt
      have d1 := hy wr hbel
      have hs := Lib.hid (hsn.out k u hu)
      clear hu hy
      have hk2 := Lib.hid (hFl.out k hk)
      have hcB : cellsB (F k) ++ [.int .u8 ((u : Int) / 256), .int .u8 ((u : Int) % 256)] = cellsB (F (k + 1)) := by
        rw [hs.out]
        simp only [cellsB, List.map_append, byteU, List.map_cons, List.map_nil]
        congr 2
        · congr 1
          simp; omega
        · congr 2
          simp
      replace hcB := Lib.hid hcB
      go_wp2_with (at_builtin; refine wpList_append_lies _ (by rfl) _ _ _ (by rfl) w.heap.size 5 i0 _ 1 1 Tryz.underlying90 hi0 hz0 hz1 hz2 rfl (by omega) u3 (2 * k) (cellsB (F k)) (by rfl) (hown.alloc _) ⟨wr.heap.size, 0, none⟩ 2 2 [.int .u8 ((u : Int) / 256), .int .u8 ((u : Int) % 256)] (by rfl) (by rfl) (World.news_of_block (cs := #[.int .u8 ((u : Int) / 256), .int .u8 ((u : Int) % 256)]) (t := 5) (fr := (0, 0)) (by exact heap_alloc_new wr _)) (by simp [Value.oneCell']) (by omega) (by unfold maxLen; omega) (by omega) (by have := hbel.size; simp; omega) (wr.heap.size + 1) (by simp) ?_; intro gg cap w2 hown2 hgrow hat hlt2)
      have hown3 : w2.ownsRow w.heap.size 5 1 (.slice (some ⟨gg, 0, none⟩) (2 * k + 2) cap) (2 * (k + 1)) (cellsB (F (k + 1))) := by
        rw [← hcB.out]; exact hown2
      have hbel2 : Below w.heap.size w w2 := (hbel.alloc hbel.size _).grown hgrow (by have := hbel.size; simp; omega) (own_base hown)
      clear hown2 hgrow
      go_roundw
      case rel => exact ⟨k + 1, by omega, by go_num, hown3, hbel2⟩
      case measure => simp [intOf]; omega
    · obtain rfl : k = n := by omega
      have hE := hend.out
      have hkl := hFl.out k hk
      have hcv : (convert 90 24 u3).run Tryz.prog wr = .ok (.string ⟨E.toArray⟩) wr := by
        rw [hE] at hown hkl
        rcases Nat.eq_zero_or_pos k with h1 | h1
        · subst h1
          have hE0 : E = [] := List.length_eq_zero_iff.1 (by omega)
          subst hE0
          rcases hown with ⟨_, ⟨rfl, _⟩ | ⟨g, cap, cur, rfl, _⟩⟩
          · exact run_convert_bytes_nil (P := Tryz.prog) wr 90 5 Tryz.underlying90 Tryz.underlying5 0 0 24 Tryz.underlying24
          · exact run_convert_bytes_back (P := Tryz.prog) wr 90 24 5 ⟨g, 0, none⟩ cap [] Tryz.underlying90 Tryz.underlying5 Tryz.underlying24 (fun j hj => by simp at hj)
        · obtain ⟨g, cap, rfl, _, _⟩ := hown.form (by omega)
          have hc := World.ownsRow.cells hown (g := g) rfl
          rw [← hkl]
          refine run_convert_bytes_back (P := Tryz.prog) wr 90 24 5 ⟨g, 0, none⟩ cap E Tryz.underlying90 Tryz.underlying5 Tryz.underlying24 (fun j hj => hc j _ ?_)
          simp [cellsB, hj]
      clear hown hkl hE
      go_wp2
      go_ret
      exact ⟨rfl, hbel⟩
end Go.Proofs.YtbakbikilbaafaaGreatDoor
namespace Go.Proofs.YtbakbikilbaafaaGreatDoor
open Go.RowKit Go.Proofs
set_option maxHeartbeats 400000
set_option maxRecDepth 100000

theorem below_after {w w1 w' : World} (h1 : Below w.heap.size w w1) (h : Below w1.heap.size w1 w') : Below w.heap.size w w' := h1.trans (h.mono h1.size)
theorem c_point (s : ByteArray) (b : Nat) (h0 : 0 < s.size) (he : ub s 0 = b) (hb : b < 128) (w : World) :
    Calls Tryz.prog 82 #[.string s] w fun e w' => e = .returned (.tuple #[.int .i32 (b : Int), .int .i64 1]) ∧ w' = w := by
  have e0 : (s[0]'h0).toNat = b := by rw [← he, ub_get s 0 h0]
  have hb' : (b : Int) < 128 := by omega
  clear he
  go_enter Tryz.func82, Tryz.ntmps82
  go_wp2
  go_ret2
  exact ⟨rfl, rfl⟩
theorem c_Point (r : Nat) (hr : r < 65536) (w : World) :
    Calls Tryz.prog 83 #[.int .i32 (r : Int)] w fun e w' => e = .returned (.slice (some ⟨w.heap.size, 0, none⟩) 1 1) ∧ w' = w.alloc (.cells #[.int .u16 (r : Int)] 27) := by
  have k1 : ¬ (r : Int) < 0 := by omega
  have k2 : ¬ (1114111 : Int) < (r : Int) := by omega
  have k3 : (r : Int) < 65536 := by omega
  have k4 : IntKind.u16.wrap (r : Int) = (r : Int) := by simp [IntKind.wrap, IntKind.bits, IntKind.signed]; omega
  clear hr
  go_enter Tryz.func83, Tryz.ntmps83
  go_wp2
  go_ret
  exact ⟨rfl, rfl⟩
def codes (s : ByteArray) : List Nat := s.data.toList.map UInt8.toNat
theorem codes_len (s : ByteArray) : (codes s).length = s.size := by simp [codes]
theorem codes_get (s : ByteArray) (i : Nat) (h : i < s.size) : (codes s)[i]? = some (ub s i) := by
  have : i < s.data.toList.length := by simpa using h
  unfold codes ub
  rw [List.getElem?_map, List.getElem?_eq_getElem this, List.getD_eq_getElem?_getD, List.getElem?_eq_getElem this]
  rfl
theorem ub_extract (s : ByteArray) (i : Nat) (h : i < s.size) : ub (s.extract i s.size) 0 = ub s i := by
  rw [ub_get _ _ (by simp; omega), ub_get _ _ h, ByteArray.getElem_extract]
  simp
theorem c_OfR (s : ByteArray) (hs : s.size ≤ 549755813888) (ha : ∀ u ∈ codes s, u < 128) (w : World) :
    Calls Tryz.prog 48 #[.string s] w fun e w' => e = .returned (.tuple #[.string (textU (codes s)), .int .i64 0, .int .i64 0]) ∧ Below w.heap.size w w' := by
  obtain ⟨i0, hi0, hz0, hz1, hz2⟩ := info_parts infoU16
  have hget : ∀ k, k < s.size → ∃ u, u < 128 ∧ 0 < (s.extract k s.size).size ∧ ub (s.extract k s.size) 0 = u ∧ u16s ((codes s).take (k + 1)) = u16s ((codes s).take k) ++ [.int .u16 (u : Int)] := by
    intro k hk
    refine ⟨ub s k, ha _ (List.mem_of_getElem? (codes_get s k hk)), by simp; omega, ub_extract s k hk, ?_⟩
    rw [List.take_add_one, codes_get s k hk]
    simp [u16s]
  have hend : (codes s).take s.size = codes s := by rw [← codes_len s, List.take_length]
  have h0 : u16s ((codes s).take 0) = [] := rfl
  have hM := fun v w h => Lib.hid (c_MakeR (codes s) v (fun u hu => by have := ha u hu; omega) (by rw [codes_len]; exact hs) w h)
  have hcl := codes_len s
  generalize codes s = C at *
  replace hget := Lib.hid hget
  replace hend := Lib.hid hend
  replace h0 := Lib.hid h0
  replace hcl := Lib.hid hcl
  clear ha
  go_enter Tryz.func48, Tryz.ntmps48
  go_wp2
  go_loopw [5, 6] (fun vb vk wr => ∃ k : Nat, k ≤ s.size ∧ vk = .int .i64 (k : Int) ∧ wr.ownsRow w.heap.size 27 1 vb k (u16s (C.take k)) ∧ Below w.heap.size w wr) (fun _ vk _ => s.size - (intOf vk).toNat)
  case atStart => exact ⟨0, by omega, rfl, ⟨by rw [h0.out]; rfl, .inl ⟨rfl, rfl⟩⟩, Below.refl _ _⟩
  case round =>
    obtain ⟨k, hk, rfl, hown, hbel⟩ := hrel
    rcases Nat.lt_or_ge k s.size with hlt | hge
    · obtain ⟨u, hu, hx0, hx1, hx2⟩ := hget.out k hlt
      have hP := fun y => Lib.hid (c_point (s.extract k s.size) u hx0 hx1 hu y)
      have hx2 := Lib.hid hx2
      have hQ := fun y => Lib.hid (c_Point u (by omega) y)
      clear hx0 hx1
      have hsz := hbel.size
      go_wp2_with (first | (go_at_call 82; refine (hP _).out.mono ?_; rintro e w1 ⟨rfl, rfl⟩) | (go_at_call 83; refine (hQ _).out.mono ?_; rintro e w1 ⟨rfl, rfl⟩) | (at_builtin; refine wpList_append_lies _ (by rfl) _ _ _ (by rfl) w.heap.size 27 i0 _ 1 2 Tryz.underlying49 hi0 hz0 hz1 hz2 rfl (by omega) u5 k (u16s (C.take k)) (by rfl) (hown.alloc _) ⟨_, 0, none⟩ 1 1 [.int .u16 (u : Int)] (by rfl) (by rfl) (World.news_of_block (cs := #[.int .u16 (u : Int)]) (t := 27) (fr := (0, 0)) (by exact heap_alloc_new _ _)) (by simp [Value.oneCell']) (by omega) (by unfold maxLen; omega) (by omega) (by simp; omega) _ rfl ?_; intro gg cap w2 hown2 hgrow hat hlt2))
      have hown3 : w2.ownsRow w.heap.size 27 1 (.slice (some ⟨gg, 0, none⟩) (k + 1) cap) (k + 1) (u16s (C.take (k + 1))) := by
        rw [hx2.out]; exact hown2
      have hbel2 : Below w.heap.size w w2 := (hbel.alloc hsz _).grown hgrow (by simp; omega) (own_base hown)
      clear hown2 hgrow
      go_roundw
      case rel => exact ⟨k + 1, by omega, by go_num, hown3, hbel2⟩
      case measure => simp [intOf]; omega
    · obtain rfl : k = s.size := by omega
      rw [hend.out] at hown
      have hM2 := Lib.hid ((hM u5 wr (Rd_own hown)).out)
      clear hown
      go_wp2_with (go_at_call 35; refine hM2.out.mono ?_; rintro e w1 ⟨rfl, hb⟩)
      go_ret3
      exact ⟨rfl, below_after hbel hb⟩
theorem c_AsciiR (s : ByteArray) (hs : s.size ≤ 549755813888) (ha : ∀ u ∈ codes s, u < 128) (w : World) :
    Calls Tryz.prog 19 #[.string s] w fun e w' => e = .returned (.string (textU (codes s))) ∧ Below w.heap.size w w' := by
  have hO := Lib.hid (c_OfR s hs ha w)
  clear ha
  go_enter Tryz.func19, Tryz.ntmps19
  go_wp2_with (go_at_call 48; refine hO.out.mono ?_; rintro e w1 ⟨rfl, hb⟩)
  go_ret
  exact ⟨rfl, hb⟩
end Go.Proofs.YtbakbikilbaafaaGreatDoor
namespace Go.Proofs.YtbakbikilbaafaaGreatDoor
open Go.RowKit F64 Ieee
set_option linter.unusedVariables false
set_option maxHeartbeats 4000000
set_option maxRecDepth 100000

theorem byteUG_cells (u : Nat) (hu : u < 65536) : Lib.byteCells (byteU u) = [.int .u8 ((u : Int) / 256), .int .u8 ((u : Int) % 256)] := by
  simp only [Lib.byteCells, byteU, List.map_cons, List.map_nil]
  congr 2
  · simp; omega
  · congr 1
    simp
theorem c_putG (B b u : Nat) (bs : List Value) (hu : u < 65536) (w : World) (h : Lib.IsBuilder 93 5 B b bs w) (hl : bs.length ≤ 1000000) (hB : B ≤ w.heap.size) :
    Calls Tryz.prog 129 #[.pointer (some ⟨b, 0, none⟩), .int .u16 (u : Int)] w fun e w' => e = .returned (.tuple #[]) ∧ Lib.IsBuilder 93 5 B b (bs ++ [.int .u8 ((u : Int) / 256), .int .u8 ((u : Int) % 256)]) w' ∧ Below B w w' := by
  have h1 := Lib.hid (s_WriteByte B b bs ((u : Int) / 256) w h (by omega) hB)
  have h2 := Lib.hid (fun W h hB => s_WriteByte B b (bs ++ [.int .u8 ((u : Int) / 256)]) ((u : Int) % 256) W h (by simp; omega) hB)
  have hcat := Lib.hid (List.append_assoc bs [.int .u8 ((u : Int) / 256)] [.int .u8 ((u : Int) % 256)])
  have hu' : (u : Int) < 65536 := by omega
  replace h := Lib.hid h
  go_enter Tryz.func129, Tryz.ntmps129
  go_wp2_with fail
  refine h1.out.mono ?_
  rintro e w1 ⟨rfl, hb1, hbel1⟩
  replace hb1 := Lib.hid hb1
  go_wp2_with fail
  refine (h2.out w1 (.inr hb1.out) (Nat.le_trans hB hbel1.size)).mono ?_
  rintro e w2 ⟨rfl, hb2, hbel2⟩
  replace hb2 := Lib.hid hb2
  go_wp2_with fail
  go_end0
  refine ⟨rfl, ?_, hbel1.trans hbel2⟩
  have := hb2.out
  rw [hcat.out] at this
  exact .inr this
theorem textU_one (u : Nat) : textU [u] = ⟨(byteU u).toArray⟩ := by unfold textU bytesU; simp
theorem c_UPointP (r : Nat) (hr : r < 65536) (w : World) :
    Calls Tryz.prog 91 #[.int .i32 (r : Int)] w fun e w' => e = .returned (.string (textU [r])) ∧ Below w.heap.size w w' := by
  have hP := Lib.hid (c_putG w.heap.size w.heap.size r [] hr (w.alloc (.cells #[.pointer none, .slice none 0 0] 93)) (Lib.fresh_isBuilder 93 5 w) (by simp) (by simp))
  have hS := Lib.hid (fun W h hB => s_String w.heap.size w.heap.size (byteU r) W h hB)
  have r1 : (r : Int) < 65536 := by omega
  have r2 : (0 : Int) ≤ (r : Int) := by omega
  have r3 : ¬ (r : Int) < 0 := by omega
  have r4 : decide ((r : Int) < 0) = false := decide_eq_false (by omega)
  have r5 : decide ((1114111 : Int) < (r : Int)) = false := decide_eq_false (by omega)
  have r6 : ¬ (1114111 : Int) < (r : Int) := by omega
  have hcells := Lib.hid (byteUG_cells r hr)
  have htx := Lib.hid (textU_one r)
  go_enter Tryz.func91, Tryz.ntmps91
  go_wp2_with fail
  refine hP.out.mono ?_
  rintro e w1 ⟨rfl, hb1, hbel1⟩
  rw [List.nil_append] at hb1
  have hbel : Below w.heap.size w w1 := ((Below.refl _ w).alloc (Nat.le_refl _) _).trans hbel1
  have hS2 := Lib.hid (hS.out w1 (by rw [hcells.out]; exact hb1) (by have := hbel1.size; simp at this; omega))
  clear hb1 hbel1 hS hP
  go_wp2_with fail
  refine hS2.out.mono ?_
  rintro e w2 ⟨rfl, hbel2⟩
  go_wp2_with fail
  go_ret
  exact ⟨by rw [htx.out]; rfl, hbel.trans hbel2⟩
theorem builderF_keep {T e : TypeId} {B b : Nat} {bs : List Value} {w w' : World} (h : Lib.IsBuilderF T e B b bs w) (hb : Below w.heap.size w w') : Lib.IsBuilderF T e B b bs w' := by
  have key : ∀ p, Lib.BuilderAtF T e B b p bs w → Lib.BuilderAtF T e B b p bs w' := by
    rintro p ⟨h1, v, h2, h3, h4⟩
    refine ⟨h1, v, ?_, ?_, h4⟩
    · rw [hb.block b (Array.getElem?_eq_some_iff.1 h2).1]; exact h2
    · exact h3.kept (row := none) ⟨hb.os, hb.tape, hb.output, hb.size, fun k hk _ => hb.block k hk⟩ (by cases h : v.ownBlock with | none => exact .inl rfl | some q => exact .inr (by simp))
  rcases h with h | h
  · exact .inl (key _ h)
  · exact .inr (key _ h)
theorem bytesU_take {us : List Nat} {k u : Nat} (h : us[k]? = some u) : Lib.byteCells (bytesU (us.take (k + 1))) = Lib.byteCells (bytesU (us.take k)) ++ Lib.strCells (textU [u]) := by
  rw [bytesU_snoc us k u h, Lib.byteCells_append, textU_one]
  rfl
theorem c_UOf (L : List Nat) (hl : L.length ≤ 10000000) (hL : ∀ c ∈ L, c < 128) (w : World) :
    Calls Tryz.prog 60 #[.string (u8sG L)] w fun e w' => e = .returned (.tuple #[.string (textU L), .int .i64 0, .int .i64 0]) ∧ Below w.heap.size w w' := by
  have hP := Lib.hid (fun c (hc : c < 65536) W => c_UPointP c hc W)
  have hW := Lib.hid (fun bs s W h hlen hB => Any.Builder_WriteString_k lays166 bextra w.heap.size w.heap.size bs s W h hlen hB)
  have hS := Lib.hid (fun l W h hB => Any.Builder_String_any_k lays169 bextra w.heap.size w.heap.size l W h hB)
  have hsz : (u8sG L).size = L.length := uG_size L
  have hget := Lib.hid (fun j c hc h256 h => uG_get L j c hc h256 h)
  have hLb := Lib.hid hL
  have hst := Lib.hid (fun k u (h : L[k]? = some u) => bytesU_take h)
  have hbl := Lib.hid (fun k => bytesU_len (L.take k))
  generalize hSS : u8sG L = S at *
  replace hsz := Lib.hid hsz
  clear hL hSS
  go_enter Tryz.func60, Tryz.ntmps60
  go_wp2_with fail
  go_loopw [] (fun wr => ∃ pos : Nat, pos ≤ L.length ∧ Lib.IsBuilderF 93 5 w.heap.size w.heap.size (Lib.byteCells (bytesU (L.take pos))) wr ∧ wr.heap[w.heap.size + 1]? = some (.stringIter S pos) ∧ Below w.heap.size w wr) (fun wr => S.size - wr.iterPos (w.heap.size + 1))
  case atStart =>
    refine ⟨0, Nat.zero_le _, (Lib.IsBuilderF.of (Lib.fresh_isBuilder 93 5 w)).alloc _, ?_, ((Below.refl _ w).alloc (Nat.le_refl _) _).alloc (by simp) _⟩
    have := World.iter_heap (w.alloc (.cells #[.pointer none, .slice none 0 0] 93)) S 0
    simpa using this
  case round =>
    obtain ⟨pos, hpl, hI, hit, hbw⟩ := hrel
    have hszr : w.heap.size + 1 < wr.heap.size := (Array.getElem?_eq_some_iff.1 hit).1
    have hszS := hsz.out
    by_cases hp : pos < S.size
    · obtain ⟨c, hc⟩ : ∃ c, L[pos]? = some c := ⟨L[pos]'(by omega), List.getElem?_eq_getElem _⟩
      have hc128 := hLb.out c (List.mem_of_getElem? hc)
      have hg := hget.out pos c hc (by omega) hp
      have hnx : ∀ ty, (Instr.next (.pointer (some ⟨w.heap.size + 1, 0, none⟩)) true ty).run Tryz.prog wr = .ok (.tuple #[.bool true, .int .i64 (pos : Int), .int .i32 (c : Int)]) (wr.iterAt (w.heap.size + 1) S (pos + 1)) := fun ty => by
        have := Lib.run_next_ascii_at (P := Tryz.prog) wr (w.heap.size + 1) S pos ty hit hp (by rw [hg]; exact hc128)
        rw [hg] at this
        exact this
      have hI2 := hI.iterAt hit (pos + 1)
      have hit2 := Lib.iterAt_heap wr (w.heap.size + 1) S pos (pos + 1) hit
      have hbw2 := Lib.below_iterAt hbw (k := w.heap.size + 1) (by omega) S (pos + 1)
      have hsz2 : w.heap.size + 1 < (wr.iterAt (w.heap.size + 1) S (pos + 1)).heap.size := by rw [Lib.iterAt_size]; omega
      have hp1 : pos + 1 ≤ L.length := by omega
      have hstep := Lib.hid (hst.out pos c hc)
      have hblen := hbl.out pos
      have htk : (L.take pos).length ≤ pos := List.length_take_le _ _
      have q1 : ((c : Int) == 65533) = false := by simp; omega
      have hcell : (Lib.byteCells (bytesU (L.take pos))).length ≤ 20000000 := by rw [Lib.byteCells_length]; omega
      have hPc := Lib.hid (hP.out c (by omega))
      have hits := Lib.hid hit
      have hmeas : S.size - (pos + 1) < S.size - pos := by omega
      generalize wr.iterAt (w.heap.size + 1) S (pos + 1) = w1 at *
      clear hc hblen htk hp hit hI hbw hg hszS
      have hcs : (textU [c]).size = 2 := by rw [textU_one]; rfl
      generalize textU [c] = tc at *
      go_wp2_with fail
      refine (hPc.out _).mono ?_
      rintro e w2 ⟨rfl, hb2⟩
      have hI3 := builderF_keep hI2 hb2
      have hit3 : w2.heap[w.heap.size + 1]? = some (.stringIter S (pos + 1)) := (hb2.block _ hsz2).trans hit2
      have hbw3 : Below w.heap.size w w2 := hbw2.trans (hb2.mono (by omega))
      clear hI2 hit2 hb2 hbw2
      go_wp2_with fail
      refine (hW.out _ _ _ hI3 (by rw [hcs]; omega) hbw3.size).mono ?_
      rintro e w3 ⟨rfl, h1, b1, k1⟩
      go_wp2_with fail
      go_roundw
      case rel => exact ⟨pos + 1, hp1, by rw [hstep.out]; exact .inr h1, k1.iter hit3 (by omega), hbw3.trans b1⟩
      case measure =>
        simp only [World.iterPos, k1.iter hit3 (by omega), hits.out]
        exact hmeas
    · obtain rfl : pos = L.length := by omega
      have hnx : ∀ ty, (Instr.next (.pointer (some ⟨w.heap.size + 1, 0, none⟩)) true ty).run Tryz.prog wr = _ := fun ty => Lib.run_next_end_at wr (w.heap.size + 1) S L.length ty hit hp
      clear hszS
      go_wp2_with fail
      refine (hS.out _ _ hI (by omega)).mono ?_
      rintro e w2 ⟨rfl, _, b1, _⟩
      go_wp2_with fail
      go_ret3
      exact ⟨rfl, hbw.trans b1⟩
theorem c_dascii (L : List Nat) (hl : L.length ≤ 10000000) (hL : ∀ c ∈ L, c < 128) (w : World) :
    Calls Tryz.prog 26 #[.string (u8sG L)] w fun e w' => e = .returned (.string (textU L)) ∧ Below w.heap.size w w' := by
  have hO := Lib.hid (c_UOf L hl hL w)
  clear hL
  go_enter Tryz.func26, Tryz.ntmps26
  go_wp2_with fail
  refine hO.out.mono ?_
  rintro e w1 ⟨rfl, hb⟩
  go_wp2_with fail
  go_ret
  exact ⟨rfl, hb⟩
/-- a number's text -/
inductive ShowT : Nat → List Nat → Prop
  | nan {x : Nat} (h : F64.isNaN x = true) : ShowT x [78, 97, 78]
  | zero {x : Nat} (h : rung x = 0) : ShowT x [48]
  | inf : ShowT 9218868437227405312 [73, 110, 102, 105, 110, 105, 116, 121]
  | pos {x m v : Nat} {E : Int} (hx0 : 0 < x) (hx : x < 9218868437227405312) (hS : IsSci x m v E) (hE1 : -400 < E) (hE2 : E < 400) (hm1 : 1 ≤ m) (hm2 : m ≤ 18) : ShowT x (txtG m v E)
  | neg {x : Nat} {L : List Nat} (hs : sgn x = true) (h1 : 0 < rung x) (h2 : rung x ≤ 9218868437227405312) (h : ShowT (rung x) L) : ShowT x (45 :: L)
theorem showT_pos (x : Nat) (h0 : 0 < x) (h : x ≤ 9218868437227405312) : ∃ L, ShowT x L := by
  by_cases hi : x = 9218868437227405312
  · rw [hi]; exact ⟨_, .inf⟩
  · obtain ⟨m, v, E, h1, h2, h3, h4, h5⟩ := sci_ex h0 (show x < 9218868437227405312 by omega)
    exact ⟨_, .pos h0 (by omega) h1 h2 h3 h4 h5⟩
theorem showT_ex (x : Nat) (hx : x < 18446744073709551616) : ∃ L, ShowT x L := by
  by_cases hn : F64.isNaN x = true
  · exact ⟨_, .nan hn⟩
  · have hn' : ¬ 9218868437227405312 < rung x := by unfold F64.isNaN at hn; simpa using hn
    by_cases h0 : rung x = 0
    · exact ⟨_, .zero h0⟩
    · obtain ⟨L, hL⟩ := showT_pos (rung x) (by omega) (by omega)
      cases hs : sgn x
      · have hp := wd_parts x hx
        rw [hs] at hp
        have : rung x = x := hp
        rw [this] at hL
        exact ⟨L, hL⟩
      · exact ⟨_, .neg hs (by omega) (by omega) hL⟩
theorem txtG_mem (m v : Nat) (E : Int) : ∀ c ∈ txtG m v E, c < 128 := by
  have hd : ∀ c ∈ dg m v, c < 128 := fun c hc => by have := dgG_dig m v c hc; omega
  have hr : ∀ k, ∀ c ∈ List.replicate k 48, c < 128 := fun k c hc => by have := (List.mem_replicate.1 hc).2; omega
  have hi : ∀ n, ∀ c ∈ itG n, c < 128 := by
    intro n
    induction n using Nat.strongRecOn with
    | ind n ih =>
      intro c hc
      unfold itG Lib.decDigits at hc
      split at hc
      · simp at hc; omega
      · rw [List.map_append, List.mem_append] at hc
        rcases hc with h | h
        · exact ih (n / 10) (by omega) c h
        · simp at h; omega
  intro c hc
  unfold txtG at hc
  split at hc
  · rcases List.mem_append.1 hc with h | h
    · exact hd c h
    · exact hr _ c h
  · split at hc
    · simp only [List.mem_append, List.mem_singleton] at hc
      rcases hc with (h | h) | h
      · exact hd c (List.mem_of_mem_take h)
      · omega
      · exact hd c (List.mem_of_mem_drop h)
    · split at hc
      · simp only [List.mem_append, List.mem_cons, List.not_mem_nil, or_false] at hc
        rcases hc with (h | h) | h
        · omega
        · exact hr _ c h
        · exact hd c h
      · simp only [List.mem_append, List.mem_singleton] at hc
        rcases hc with ((h | h) | h) | h
        · have := sciP_mem m v c h; omega
        · omega
        · unfold exS at h; split at h <;> omega
        · exact hi _ c h
theorem txtG_len (m v : Nat) (E : Int) (hm : m ≤ 18) (h1 : -400 < E) (h2 : E < 400) : (txtG m v E).length ≤ 100 := by
  have hp : (sciP m v).length ≤ m + 1 := by
    unfold sciP
    split
    · rw [dg_len]; omega
    · simp [dg_len]; omega
  have hi := itG_len E.natAbs 2 (by omega)
  unfold txtG
  split
  · simp [dg_len]; omega
  · split
    · simp [dg_len]; omega
    · split
      · simp [dg_len]; omega
      · simp; omega
theorem ShowT.b0 {x : Nat} {L : List Nat} (h : ShowT x L) (hs : sgn x = false) : L.length ≤ 100 ∧ ∀ c ∈ L, c < 128 := by
  cases h with
  | nan h => exact ⟨by decide, by decide⟩
  | zero h => exact ⟨by decide, by decide⟩
  | inf => exact ⟨by decide, by decide⟩
  | pos hx0 hx hS hE1 hE2 hm1 hm2 => exact ⟨txtG_len _ _ _ hm2 hE1 hE2, txtG_mem _ _ _⟩
  | neg hs' h1 h2 h => rw [hs] at hs'; cases hs'
theorem ShowT.b {x : Nat} {L : List Nat} (h : ShowT x L) : L.length ≤ 101 ∧ ∀ c ∈ L, c < 128 := by
  by_cases hs : sgn x = true
  · cases h with
    | nan h => exact ⟨by decide, by decide⟩
    | zero h => exact ⟨by decide, by decide⟩
    | inf => exact ⟨by decide, by decide⟩
    | pos hx0 hx hS hE1 hE2 hm1 hm2 => rw [sgn_small (by omega)] at hs; cases hs
    | neg hs' h1 h2 h =>
      obtain ⟨b1, b2⟩ := h.b0 (sgn_small (rung_lt x))
      refine ⟨by simp; omega, fun c hc => ?_⟩
      rcases List.mem_cons.1 hc with h | h
      · omega
      · exact b2 c h
  · obtain ⟨b1, b2⟩ := h.b0 (by simpa using hs)
    exact ⟨by omega, b2⟩
theorem neg_runG (x : Nat) (w : World) : (Op.unary .neg (.float .f64 x)).run Tryz.prog w = .ok (.float .f64 (x ^^^ 9223372036854775808)) w := by kernel_rfl
theorem c_showPos {x m v : Nat} {E : Int} (hx0 : 0 < x) (hx : x < 9218868437227405312) (hS : IsSci x m v E) (hE1 : -400 < E) (hE2 : E < 400) (hm1 : 1 ≤ m) (hm2 : m ≤ 18) (w : World) (hL : LibW w) :
    Calls Tryz.prog 27 #[.float .f64 x] w fun r w' => r = .returned (.string (u8sG (txtG m v E))) ∧ Below w.heap.size w w' := by
  by_cases h1 : E + 1 ≤ 21
  · by_cases h2 : (m : Int) ≤ E + 1
    · exact c_showPA hx0 hx hS hE1 hE2 hm1 hm2 h2 h1 w hL
    · by_cases h3 : 0 < E + 1
      · exact c_showPB hx0 hx hS hE1 hE2 hm1 hm2 h2 h3 h1 w hL
      · by_cases h4 : -6 < E + 1
        · exact c_showPC hx0 hx hS hE1 hE2 hm1 hm2 h4 (by omega) w hL
        · exact c_showPDn hx0 hx hS hE1 hE2 hm1 hm2 (by omega) w hL
  · exact c_showPDp hx0 hx hS hE1 hE2 hm1 hm2 (by omega) w hL
theorem c_show0 {x : Nat} {L : List Nat} (hx : x < 18446744073709551616) (h : ShowT x L) (hs : sgn x = false ∨ F64.isNaN x = true ∨ rung x = 0) (w : World) (hL : LibW w) :
    Calls Tryz.prog 27 #[.float .f64 x] w fun r w' => r = .returned (.string (u8sG L)) ∧ Below w.heap.size w w' := by
  cases h with
  | nan h =>
    have o1 := ord_self x
    rw [h] at o1
    clear h hs
    go_enter Tryz.func27, Tryz.ntmps27
    go_wp2
    go_ret
    exact ⟨rfl, Below.refl _ _⟩
  | zero h =>
    have o1 := ord_self x
    have o1' : F64.isNaN x = false := by unfold F64.isNaN; rw [h]; decide
    rw [o1'] at o1
    have o2 : (FloatKind.f64.format.order x 0 == some Ordering.eq) = true := by
      have hp := wd_parts x hx
      rw [h] at hp
      cases hsx : sgn x
      · rw [hsx] at hp
        have : x = 0 := hp.symm
        subst this
        decide +kernel
      · rw [hsx] at hp
        have : x = 9223372036854775808 := hp.symm
        subst this
        decide +kernel
    clear h hs o1' hx
    go_enter Tryz.func27, Tryz.ntmps27
    go_wp2
    go_ret
    exact ⟨rfl, Below.refl _ _⟩
  | inf =>
    have o1 : (FloatKind.f64.format.order 9218868437227405312 9218868437227405312 != some Ordering.eq) = false := by decide +kernel
    have o2 : (FloatKind.f64.format.order 9218868437227405312 0 == some Ordering.eq) = false := by decide +kernel
    have o3 : (FloatKind.f64.format.order 9218868437227405312 0 == some Ordering.lt) = false := by decide +kernel
    have hI := Lib.hid (fun W => c_IsInfG 9218868437227405312 (by decide) W)
    have hd : decide (rung 9218868437227405312 = 9218868437227405312) = true := by decide
    rw [hd] at hI
    clear hs hx hd
    go_enter Tryz.func27, Tryz.ntmps27
    go_wp2_with (go_at_call 56; refine (hI.out _).mono ?_; rintro e w1 ⟨rfl, rfl⟩)
    go_ret
    exact ⟨rfl, Below.refl _ _⟩
  | pos hx0 hx hS hE1 hE2 hm1 hm2 => exact c_showPos hx0 hx hS hE1 hE2 hm1 hm2 w hL
  | neg hs' h1 h2 h =>
    exfalso
    rcases hs with h3 | h3 | h3
    · rw [h3] at hs'; cases hs'
    · unfold F64.isNaN at h3; simp at h3; omega
    · omega
theorem c_dshow {x : Nat} {L : List Nat} (hx : x < 18446744073709551616) (h : ShowT x L) (w : World) (hL : LibW w) :
    Calls Tryz.prog 27 #[.float .f64 x] w fun r w' => r = .returned (.string (u8sG L)) ∧ Below w.heap.size w w' := by
  by_cases hc : sgn x = false ∨ F64.isNaN x = true ∨ rung x = 0
  · exact c_show0 hx h hc w hL
  · cases h with
    | nan h => exact absurd (.inr (.inl h)) hc
    | zero h => exact absurd (.inr (.inr h)) hc
    | inf => exact absurd (.inl (by decide)) hc
    | pos hx0 hx hS hE1 hE2 hm1 hm2 => exact absurd (.inl (sgn_small (by omega))) hc
    | @neg x L hs h1 h2 h =>
      have hb := (h.b0 (sgn_small (rung_lt x))).1
      have hI := Lib.hid (fun W hW => c_show0 (by have := rung_lt x; omega) h (.inl (sgn_small (rung_lt x))) W hW)
      have o1 := ord_self x
      have o1' : F64.isNaN x = false := by unfold F64.isNaN; simp; omega
      rw [o1'] at o1
      have hord : ∀ y, FloatKind.f64.format.order x y = double.order x y := fun y => rfl
      have hnum : (FloatKind.f64.format.order x 0 == some Ordering.eq) = false ∧ (FloatKind.f64.format.order x 0 == some Ordering.lt) = true := by
        rcases Nat.lt_or_ge (rung x) 9218868437227405312 with hr | hr
        · have fx : fin x = true := by unfold fin; simp; exact hr
          have f0 : fin 0 = true := by decide
          have hc : compare (SV x) (SV 0) = .lt := by
            have s0 : SV 0 = 0 := by decide +kernel
            have sx : SV x < 0 := by
              unfold SV
              rw [hs]
              have := V_pos h1
              simp
              exact this
            rw [s0]
            simp [compare, compareOfLessAndEq, sx]
          rw [hord, order_fin fx f0, hc]
          exact ⟨rfl, rfl⟩
        · have hx3 : x = 18442240474082181120 := by
            have hp := wd_parts x hx
            rw [hs, show rung x = 9218868437227405312 by omega] at hp
            exact hp.symm
          subst hx3
          exact ⟨by decide +kernel, by decide +kernel⟩
      obtain ⟨o2, o3⟩ := hnum
      have hn := neg_runG x
      have hx2 : x ^^^ 9223372036854775808 = rung x := by rw [b_neg hx, hs]; rfl
      rw [hx2] at hn
      have hcons : (⟨#[45]⟩ : ByteArray) ++ u8sG L = u8sG (45 :: L) := by rw [show (⟨#[45]⟩ : ByteArray) = u8sG [45] from rfl, uG_app]; rfl
      have hsz : (u8sG L).size ≤ 100 := by rw [uG_size]; exact hb
      rw [← hcons]
      have hx1 : ¬ 9223372036854775807 < 1 + (u8sG L).size := by omega
      clear o1' hord hx2 hs h1 h2 hb h hc hsz
      replace hcons := Lib.hid hcons
      generalize u8sG L = T at *
      generalize rung x = y at *
      go_enter Tryz.func27, Tryz.ntmps27
      go_wp2_with fail
      refine (hI.out _ hL).mono ?_
      rintro e w1 ⟨rfl, hb1⟩
      go_wp2_with fail
      go_ret
      exact ⟨rfl, hb1⟩
theorem c_dShow {x : Nat} {L : List Nat} (hx : x < 18446744073709551616) (h : ShowT x L) (w : World) (hL : LibW w) :
    Calls Tryz.prog 10 #[.float .f64 x] w fun r w' => r = .returned (.string (textU L)) ∧ Below w.heap.size w w' := by
  have h1 := Lib.hid (c_dshow hx h w hL)
  obtain ⟨b1, b2⟩ := h.b
  have h2 := Lib.hid (fun W => c_dascii L (by omega) b2 W)
  clear h b1 b2
  go_enter Tryz.func10, Tryz.ntmps10
  go_wp2_with fail
  refine h1.out.mono ?_
  rintro e w1 ⟨rfl, hb⟩
  go_wp2_with fail
  refine (h2.out _).mono ?_
  rintro e w2 ⟨rfl, hb2⟩
  go_wp2_with fail
  go_ret
  exact ⟨rfl, hb.trans (hb2.mono hb.size)⟩
end Go.Proofs.YtbakbikilbaafaaGreatDoor
