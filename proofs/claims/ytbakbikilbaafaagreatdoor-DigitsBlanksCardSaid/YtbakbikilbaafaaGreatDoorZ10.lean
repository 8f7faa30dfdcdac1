/-
  Contracts: Plain: the text of a number, in the standard's form; the library's functions on texts at it. The contract of the program's show (printed by gen_XSD.py). Contract of the reference Units: the units of a text. Condition: the text is shorter than 2^40 bytes. Contracts of the program's even, unit, Len, Units. Condition: the text is shorter than 2^40 bytes. Contract of the program's Units. Condition: the text is shorter than 2^40 bytes. Contract of the reference Compare: how two lists of units compare. Condition: the texts are shorter than 2^40 bytes. The contract of the reference's Make: the text of units. The contracts of the reference's Of, Ascii and Name, of texts of bytes below 128.
-/
import Derived.Test.YtbakbikilbaafaaGreatDoorZ9
import Derived.Lib.IndexBytes
import Derived.Lib.ReplaceLaws
import Derived.Test.YtbakbikilbaafaaGreatDoorRows
import Derived.WalkKit
import Derived.WalkSpells
import Derived.WalkLawsBesides
import Derived.Deep.QuietTactic
import Derived.BigQuiet
import Derived.Deep.RegionHeld3
import Derived.Deep.AppendLies
import Derived.Lib.Hide
import Derived.Test.YtbakbikilbaafaaGreatDoorZ2
import Derived.Shelf.Strings.Cut
import Derived.Laws.IdiomStrings
import Derived.Laws.BytesArg
namespace Go.Proofs.YtbakbikilbaafaaGreatDoor
open Go.RowKit F64
set_option linter.unusedVariables false
set_option maxHeartbeats 1000000
set_option maxRecDepth 100000

theorem uG_app (a b : List Nat) : u8sG a ++ u8sG b = u8sG (a ++ b) := by
  unfold u8sG
  apply ByteArray.ext
  simp
theorem uG_size (l : List Nat) : (u8sG l).size = l.length := by simp [u8sG, ByteArray.size]
theorem uG_data (l : List Nat) : (u8sG l).data.toList = l.map UInt8.ofNat := by simp [u8sG]
theorem uG_get (l : List Nat) (j c : Nat) (hc : l[j]? = some c) (h256 : c < 256) (h : j < (u8sG l).size) : ((u8sG l)[j]'h).toNat = c := by
  have hj : j < l.length := by rw [← uG_size]; exact h
  have e : (u8sG l)[j]'h = UInt8.ofNat (l[j]'hj) := by
    have h1 : (u8sG l)[j]'h = (u8sG l).data[j]'h := rfl
    rw [h1]
    simp [u8sG]
  rw [e]
  rw [List.getElem?_eq_getElem hj] at hc
  cases hc
  simp; omega
theorem uG_extract (a b : List Nat) (n i : Nat) (hn : n = (a ++ b).length) (hi : i = a.length) : (u8sG (a ++ b)).extract i n = u8sG b := by
  subst hn hi
  apply ByteArray.ext
  simp only [u8sG, ByteArray.data_extract]
  simp
  exact List.take_of_length_le (by simp)
theorem uG_extract0 (a b : List Nat) (i : Nat) (hi : i = a.length) : (u8sG (a ++ b)).extract 0 i = u8sG a := by
  subst hi
  apply ByteArray.ext
  simp only [u8sG, ByteArray.data_extract]
  simp
theorem uG_mk (l : List UInt8) : (⟨l.toArray⟩ : ByteArray) = u8sG (l.map UInt8.toNat) := by
  unfold u8sG
  rw [List.map_map]
  have : (UInt8.ofNat ∘ UInt8.toNat) = id := by funext x; simp
  rw [this, List.map_id]
theorem uG_back (l : List Nat) (h : ∀ c ∈ l, c < 256) : (l.map UInt8.ofNat).map UInt8.toNat = l := by
  rw [List.map_map]
  have : ∀ x ∈ l, (UInt8.toNat ∘ UInt8.ofNat) x = x := fun x hx => by
    have := h x hx
    simp; omega
  rw [List.map_congr_left this, List.map_id']
theorem index_hit (c : UInt8) : ∀ (A B : List UInt8), c ∉ A → Lib.index (A ++ c :: B) [c] = A.length
  | [], B, _ => by simp [Lib.index]
  | a :: A, B, h => by
    have h1 : a ≠ c := fun e => h (by rw [e]; exact List.mem_cons_self ..)
    have h2 : c ∉ A := fun e => h (List.mem_cons_of_mem _ e)
    have ih := index_hit c A B h2
    show Lib.index (a :: (A ++ c :: B)) [c] = _
    unfold Lib.index
    rw [ih]
    have e1 : [c].isPrefixOf (a :: (A ++ c :: B)) = false := by simp [List.isPrefixOf, Ne.symm h1]
    rw [e1]
    have e2 : ((A.length : Int) == -1) = false := beq_eq_false_iff_ne.2 (by omega)
    simp only [Bool.false_eq_true, if_false, e2, List.length_cons]
    omega
theorem index_miss (c : UInt8) : ∀ (A : List UInt8), c ∉ A → Lib.index A [c] = -1
  | [], _ => rfl
  | a :: A, h => by
    have h1 : a ≠ c := fun e => h (by rw [e]; exact List.mem_cons_self ..)
    have h2 : c ∉ A := fun e => h (List.mem_cons_of_mem _ e)
    have ih := index_miss c A h2
    unfold Lib.index
    rw [ih]
    have e1 : [c].isPrefixOf (a :: A) = false := by simp [List.isPrefixOf, Ne.symm h1]
    rw [e1]
    rfl
theorem cut_hit (c : UInt8) (A B : List UInt8) (h : c ∉ A) : Lib.cut (A ++ c :: B) [c] = (A, B, true) := by
  unfold Lib.cut
  rw [index_hit c A B h, if_pos (by omega)]
  have e : ((A.length : Int)).toNat = A.length := rfl
  rw [e]
  simp
theorem replace_miss (c : UInt8) (A : List UInt8) (h : c ∉ A) : Lib.replace A [c] [] 1 = A := by
  unfold Lib.replace
  have e : ([c] == ([] : List UInt8)) = false := rfl
  rw [e]
  have hc : Lib.count A [c] = 0 := by
    unfold Lib.count Lib.countFrom
    rw [index_miss c A h]
    rfl
  simp only [Bool.false_eq_true, if_false]
  unfold Lib.replaceNum
  rw [hc, if_pos (by omega)]
  rfl
theorem replace_hit (c : UInt8) (A B : List UInt8) (h : c ∉ A) : Lib.replace (A ++ c :: B) [c] [] 1 = A ++ B := by
  unfold Lib.replace
  have e : ([c] == ([] : List UInt8)) = false := rfl
  rw [e]
  have hi := index_hit c A B h
  have hc : 1 ≤ Lib.count (A ++ c :: B) [c] := by
    unfold Lib.count Lib.countFrom
    rw [hi]
    have e2 : ((A.length : Int) == -1) = false := beq_eq_false_iff_ne.2 (by omega)
    rw [e2]
    simp only [Bool.false_eq_true, if_false]
    omega
  simp only [Bool.false_eq_true, if_false]
  unfold Lib.replaceNum
  rw [if_neg (by omega)]
  have e1 : (1 : Int).toNat = 1 := rfl
  rw [e1]
  unfold Lib.replaceK
  rw [hi]
  have e2 : ((A.length : Int) == -1) = false := beq_eq_false_iff_ne.2 (by omega)
  rw [e2]
  have e3 : ((A.length : Int)).toNat = A.length := rfl
  simp only [Bool.false_eq_true, if_false, e3]
  unfold Lib.replaceK
  simp
/-- bytes ahead of the exponent -/
def sciP (m v : Nat) : List Nat := if m = 1 then dg m v else (dg m v).take 1 ++ [46] ++ (dg m v).drop 1
theorem sciG_P (m v : Nat) (E : Int) : sciG m v E = sciP m v ++ 101 :: (exS E :: exD E.natAbs) := by
  unfold sciG sciP; simp
theorem dgG_dig (m v : Nat) : ∀ x ∈ dg m v, 48 ≤ x ∧ x ≤ 57 := by
  intro x hx
  obtain ⟨y, hy, rfl⟩ := List.mem_map.1 hx
  have := fw_lt m v y hy
  omega
theorem sciP_mem (m v : Nat) : ∀ x ∈ sciP m v, x = 46 ∨ 48 ≤ x ∧ x ≤ 57 := by
  intro x hx
  unfold sciP at hx
  split at hx
  · exact .inr (dgG_dig m v x hx)
  · simp only [List.mem_append, List.mem_cons, List.not_mem_nil, or_false] at hx
    rcases hx with (h | h) | h
    · exact .inr (dgG_dig m v x (List.mem_of_mem_take h))
    · exact .inl h
    · exact .inr (dgG_dig m v x (List.mem_of_mem_drop h))
theorem ofNat_mem {l : List Nat} {c : Nat} (hc : c < 256) (h : ∀ x ∈ l, x < 256 ∧ x ≠ c) : UInt8.ofNat c ∉ l.map UInt8.ofNat := by
  intro hm
  obtain ⟨y, hy, e⟩ := List.mem_map.1 hm
  obtain ⟨h1, h2⟩ := h y hy
  have := congrArg UInt8.toNat e
  simp at this
  omega
theorem cut_sci (m v : Nat) (E : Int) : Lib.cut (u8sG (sciG m v E)).data.toList [101] = ((sciP m v).map UInt8.ofNat, (exS E :: exD E.natAbs).map UInt8.ofNat, true) := by
  rw [uG_data, sciG_P, List.map_append, List.map_cons]
  exact cut_hit 101 _ _ (ofNat_mem (c := 101) (by decide) (fun x hx => by rcases sciP_mem m v x hx with h | h <;> omega))
theorem replace_sci (m v : Nat) (hm : 1 ≤ m) : Lib.replace ((sciP m v).map UInt8.ofNat) [46] [] 1 = (dg m v).map UInt8.ofNat := by
  unfold sciP
  split
  · exact replace_miss 46 _ (ofNat_mem (c := 46) (by decide) (fun x hx => by have := dgG_dig m v x hx; omega))
  · rw [List.append_assoc, List.map_append, List.singleton_append, List.map_cons]
    have := replace_hit 46 (((dg m v).take 1).map UInt8.ofNat) (((dg m v).drop 1).map UInt8.ofNat) (ofNat_mem (c := 46) (by decide) (fun x hx => by have := dgG_dig m v x (List.mem_of_mem_take hx); omega))
    rw [show UInt8.ofNat 46 = 46 from rfl, this, ← List.map_append, List.take_append_drop]
theorem atoi_exp : ∀ E : Int, -1000 < E → E < 1000 → Lib.atoi ((exS E :: exD E.natAbs).map UInt8.ofNat) = some E := by
  have h1 : ∀ e : Fin 1000, Lib.atoi ((exS (e.val : Int) :: exD e.val).map UInt8.ofNat) = some (e.val : Int) := by decide +kernel
  have h2 : ∀ e : Fin 1000, e.val ≠ 0 → Lib.atoi ((exS (-(e.val : Int)) :: exD e.val).map UInt8.ofNat) = some (-(e.val : Int)) := by decide +kernel
  intro E ha hb
  by_cases h : 0 ≤ E
  · obtain ⟨e, rfl⟩ : ∃ e : Nat, E = (e : Int) := ⟨E.toNat, by omega⟩
    exact h1 ⟨e, by omega⟩
  · obtain ⟨e, he, rfl⟩ : ∃ e : Nat, e ≠ 0 ∧ E = -(e : Int) := ⟨E.natAbs, by omega, by omega⟩
    rw [Int.natAbs_neg]
    exact h2 ⟨e, by omega⟩ he
theorem repeat_zero (k : Nat) : Lib.repeatL [48] k = (List.replicate k 48).map UInt8.ofNat := by
  induction k with
  | zero => rfl
  | succ k ih => rw [List.replicate_succ, List.map_cons, Lib.repeatL, ih]; rfl
/-- a whole number's digits -/
def itG (n : Nat) : List Nat := (Lib.decDigits n).map UInt8.toNat
/-- a positive finite number's text, of digits v (m of them) and exponent E -/
def txtG (m v : Nat) (E : Int) : List Nat :=
  if (m : Int) ≤ E + 1 ∧ E + 1 ≤ 21 then dg m v ++ List.replicate (E + 1 - m).toNat 48
  else if 0 < E + 1 ∧ E + 1 ≤ 21 then (dg m v).take (E + 1).toNat ++ [46] ++ (dg m v).drop (E + 1).toNat
  else if -6 < E + 1 ∧ E + 1 ≤ 0 then [48, 46] ++ List.replicate (-(E + 1)).toNat 48 ++ dg m v
  else sciP m v ++ [101] ++ [exS E] ++ itG E.natAbs
end Go.Proofs.YtbakbikilbaafaaGreatDoor
namespace Go.Proofs.YtbakbikilbaafaaGreatDoor
open Go.RowKit F64 Ieee
set_option linter.unusedVariables false
set_option maxHeartbeats 4000000
set_option maxRecDepth 100000

theorem below_freezeG {B : Nat} {a w : World} (h : Below B a w) {p : Addr} (hp : B ≤ p.block) (n : Nat) : Below B a (w.freeze p n) := by
  unfold World.freeze
  split
  · exact h
  · refine ⟨h.os, h.tape, h.output, by simpa using h.size, fun k hk => ?_⟩
    rw [← h.block k hk]
    simp only [Array.getElem?_modify]
    rw [if_neg (by omega)]
theorem c_AbsG (x : Nat) (hx : x < 18446744073709551616) (w : World) :
    Calls Tryz.prog 58 #[.float .f64 x] w fun e w' => e = .returned (.float .f64 (rung x)) ∧ w = w' := by
  have r1 : ∀ w, (callFunc 87 #[.float .f64 x]).run Tryz.prog w = .ok (.value (.int .u64 x)) w := fun w => by kernel_rfl
  have r2 : ∀ (x : Int) (w : World), (callFunc 77 #[.int .u64 x]).run Tryz.prog w = .ok (.value (.float .f64 x.toNat)) w := fun x w => by kernel_rfl
  go_enter Tryz.func58, Tryz.ntmps58
  go_wp2
  go_ret
  exact ⟨by rw [b_abs hx]; rfl, rfl⟩
theorem c_IsInfG (x : Nat) (hx : x < 18446744073709551616) (w : World) :
    Calls Tryz.prog 56 #[.float .f64 x, .int .i64 0] w fun r w' => r = .returned (.bool (decide (rung x = 9218868437227405312))) ∧ w = w' := by
  have h := ord_max (x := rung x) (by have := rung_lt x; omega)
  have hA := Lib.hid (fun W => c_AbsG x hx W)
  generalize rung x = y at *
  generalize decide (y = 9218868437227405312) = d at *
  go_enter Tryz.func56, Tryz.ntmps56
  go_wp2_with (go_at_call 58; refine (hA.out _).mono ?_; rintro e w1 ⟨rfl, rfl⟩)
  go_ret
  exact ⟨rfl, rfl⟩
theorem c_IsInfP (x : Nat) (hx : x < 9218868437227405312) (w : World) :
    Calls Tryz.prog 56 #[.float .f64 x, .int .i64 0] w fun r w' => r = .returned (.bool false) ∧ w = w' := by
  have h := c_IsInfG x (by omega) w
  rw [show decide (rung x = 9218868437227405312) = false by rw [rung_small (by omega)]; simp; omega] at h
  exact h
theorem c_cutSci (m v : Nat) (E : Int) (hlen : (sciG m v E).length ≤ 1000) (w : World) (hL : LibW w) :
    Calls Tryz.prog 61 #[.string (u8sG (sciG m v E)), .string ⟨#[101]⟩] w fun e w' => e = .returned (.tuple #[.string (u8sG (sciP m v)), .string (u8sG (exS E :: exD E.natAbs)), .bool true]) ∧ ∃ n, w' = w.drewN n := by
  obtain ⟨ml, hml⟩ := hL.ml
  refine (s_Cut _ _ ml w (by rw [uG_size]; omega) hml).mono ?_
  rintro e w' ⟨rfl, h⟩
  have hc := cut_sci m v E
  have e1 : (⟨#[101]⟩ : ByteArray).data.toList = [101] := rfl
  rw [e1, hc]
  exact ⟨rfl, h⟩
theorem c_replSci (m v : Nat) (hm : 1 ≤ m) (hm2 : m ≤ 100) (w : World) (hL : LibW w) :
    Calls Tryz.prog 63 #[.string (u8sG (sciP m v)), .string ⟨#[46]⟩, .string ⟨#[]⟩, .int .i64 1] w fun e w' => e = .returned (.string (u8sG (dg m v))) ∧ Below w.heap.size w w' := by
  obtain ⟨ml, hml⟩ := hL.ml
  have hl : (sciP m v).length ≤ m + 1 := by
    unfold sciP
    split
    · rw [dg_len]; omega
    · simp [dg_len]; omega
  refine (s_Replace _ _ _ 1 ml w (by rw [uG_size]; omega) hml (by decide) (by rw [uG_size]; show _ + _ * 0 ≤ _; omega)).mono ?_
  rintro e w' ⟨rfl, h⟩
  have e1 : (⟨#[46]⟩ : ByteArray).data.toList = [46] := rfl
  have e2 : (⟨#[]⟩ : ByteArray).data.toList = [] := rfl
  rw [uG_data, e1, e2, replace_sci m v hm]
  exact ⟨rfl, h⟩
theorem c_atoiSci (E : Int) (h1 : -1000 < E) (h2 : E < 1000) (w : World) :
    Calls Tryz.prog 64 #[.string (u8sG (exS E :: exD E.natAbs))] w fun e w' => e = .returned (.tuple #[.int .i64 E, .nilIface]) ∧ Below w.heap.size w w' := by
  have hl : (exD E.natAbs).length ≤ 3 := by
    unfold exD
    split
    · simp
    · split <;> simp
  refine (s_Atoi _ E (by rw [uG_size]; simp; omega) (by rw [uG_data]; exact atoi_exp E h1 h2) w).mono ?_
  rintro e w' ⟨rfl, t, rfl⟩
  refine ⟨rfl, ?_⟩
  exact below_freezeG ((Below.refl _ w).drew.alloc (Nat.le_refl _) _) (Nat.le_refl _) _
theorem c_rep0 (k : Nat) (hk : k ≤ 1000) (w : World) :
    Calls Tryz.prog 65 #[.string ⟨#[48]⟩, .int .i64 (k : Int)] w fun e w' => e = .returned (.string (u8sG (List.replicate k 48))) ∧ Below w.heap.size w w' := by
  refine (s_Repeat ⟨#[48]⟩ k w (by omega) (by show 1 * k ≤ _; omega)).mono ?_
  rintro e w' ⟨rfl, h⟩
  have e1 : (⟨#[48]⟩ : ByteArray).data.toList = [48] := rfl
  rw [e1, repeat_zero]
  exact ⟨rfl, h⟩
theorem c_itoa (n : Nat) (hn : n < 9223372036854775808) (w : World) (hL : LibW w) :
    Calls Tryz.prog 66 #[.int .i64 (n : Int)] w fun e w' => e = .returned (.string (u8sG (itG n))) ∧ Below w.heap.size w w' := by
  refine (s_Itoa (n : Int) (by omega) (by omega) w hL.tab).mono ?_
  rintro e w' ⟨rfl, h⟩
  have e1 : Lib.itoa (n : Int) = Lib.decDigits n := by unfold Lib.itoa; rw [if_neg (by omega)]; rfl
  rw [e1, uG_mk]
  exact ⟨rfl, h⟩
theorem itG_len (n k : Nat) (h : n < 10 ^ (k + 1)) : (itG n).length ≤ k + 1 := by
  induction k generalizing n with
  | zero =>
    unfold itG Lib.decDigits
    rw [dif_pos (by simpa using h)]
    simp
  | succ k ih =>
    unfold itG Lib.decDigits
    split
    · simp
    · have := ih (n / 10) (by rw [Nat.pow_succ] at h; omega)
      unfold itG at this
      simp at this ⊢
      omega
theorem c_showPA {x m v : Nat} {E : Int} (hx0 : 0 < x) (hx : x < 9218868437227405312) (hS : IsSci x m v E) (hE1 : -400 < E) (hE2 : E < 400) (hm1 : 1 ≤ m) (hm2 : m ≤ 18) (hc : (m : Int) ≤ E + 1) (hc2 : E + 1 ≤ 21) (w : World) (hL : LibW w) :
    Calls Tryz.prog 27 #[.float .f64 x] w fun r w' => r = .returned (.string (u8sG (txtG m v E))) ∧ Below w.heap.size w w' := by
  have o1 := ord_self x
  have o1' : F64.isNaN x = false := by unfold F64.isNaN; rw [rung_small (by omega)]; simp; omega
  rw [o1'] at o1
  have o2 := ord_eq (x := x) (y := 0) hx (by omega)
  have o2' : decide (x = 0) = false := by simp; omega
  rw [o2'] at o2
  have o3 := ord_lt (x := x) (y := 0) hx (by omega)
  have o3' : decide (x < 0) = false := by simp
  rw [o3'] at o3
  have hI := Lib.hid (c_IsInfP x hx)
  have hFF := Lib.hid (fun W hT hP => c_FormatFloatG hx0 hx hS (by omega) (by omega) W hT hP)
  have hgl : (sciG m v E).length ≤ 1000 := by
    rw [sciG_P]
    have h1 : (sciP m v).length ≤ m + 1 := by
      unfold sciP
      split
      · rw [dg_len]; omega
      · simp [dg_len]; omega
    have h2 : (exD E.natAbs).length ≤ 3 := by
      unfold exD
      split
      · simp
      · split <;> simp
    simp
    omega
  have hCut := Lib.hid (fun W hW => c_cutSci m v E hgl W hW)
  have hRep := Lib.hid (fun W hW => c_replSci m v hm1 (by omega) W hW)
  have hAt := Lib.hid (fun W => c_atoiSci E (by omega) (by omega) W)
  have hDl : (u8sG (dg m v)).size = m := by rw [uG_size, dg_len]
  have hPl : (u8sG (sciP m v)).size ≤ 20 := by
    rw [uG_size]
    unfold sciP
    split
    · rw [dg_len]; omega
    · simp [dg_len]; omega
  have hLk := Lib.hid (fun W (hb : Below w.heap.size w W) => hL.keep hb)
  replace hL := Lib.hid hL
  obtain ⟨z, hz⟩ : ∃ z : Nat, E + 1 - (m : Int) = (z : Int) := ⟨(E + 1 - m).toNat, by omega⟩
  have hR := Lib.hid (fun W => c_rep0 z (by omega) W)
  have htx : u8sG (txtG m v E) = u8sG (dg m v) ++ u8sG (List.replicate z 48) := by
    unfold txtG
    rw [if_pos ⟨hc, hc2⟩, uG_app, hz]; rfl
  have hZl : (u8sG (List.replicate z 48)).size ≤ 30 := by rw [uG_size]; simp; omega
  rw [htx]
  clear htx
  generalize u8sG (List.replicate z 48) = Z at *
  generalize u8sG (dg m v) = D at *
  have hfit : ¬ 9223372036854775807 < D.size + Z.size := by omega
  have hDi : (D.size : Int) = (m : Int) := by omega
  have hDle : (m : Int) ≤ E + 1 := hc
  clear hZl hDl
  clear o1' o2' o3' hx hx0 hS hgl
  go_enter Tryz.func27, Tryz.ntmps27
  go_wp2_with (go_at_call 56; refine (hI.out _).mono ?_; rintro e w1 ⟨rfl, rfl⟩)
  refine (hFF.out _ hL.out.pow hL.out.p10).mono ?_
  rintro e w2 ⟨rfl, hb2⟩
  have hL2 := Lib.hid (hLk.out _ hb2)
  go_wp2_with fail
  refine (hCut.out _ hL2.out).mono ?_
  rintro e w3 ⟨rfl, nq, rfl⟩
  have hbn : Below w.heap.size w (w2.drewN nq) := below_drewN hb2 nq
  have hL3 := Lib.hid (hLk.out _ hbn)
  generalize hw3 : w2.drewN nq = w3 at *
  clear hw3
  go_wp2_with fail
  refine (hRep.out _ hL3.out).mono ?_
  rintro e w4 ⟨rfl, hb4⟩
  have hb5 : Below w.heap.size w w4 := hbn.trans (hb4.mono hbn.size)
  clear hb4 hbn hb2
  go_wp2_with fail
  refine (hAt.out _).mono ?_
  rintro e w6 ⟨rfl, hb6⟩
  have hb7 : Below w.heap.size w w6 := hb5.trans (hb6.mono hb5.size)
  have hL7 := Lib.hid (hLk.out _ hb7)
  clear hb6 hb5
  go_wp2_with fail
  refine (hR.out _).mono ?_
  rintro e w8 ⟨rfl, hb8⟩
  have hb9 : Below w.heap.size w w8 := hb7.trans (hb8.mono hb7.size)
  clear hb8
  go_wp2_with fail
  go_ret
  exact ⟨rfl, hb9⟩
theorem c_showPB {x m v : Nat} {E : Int} (hx0 : 0 < x) (hx : x < 9218868437227405312) (hS : IsSci x m v E) (hE1 : -400 < E) (hE2 : E < 400) (hm1 : 1 ≤ m) (hm2 : m ≤ 18) (hc : ¬ (m : Int) ≤ E + 1) (hc1 : 0 < E + 1) (hc2 : E + 1 ≤ 21) (w : World) (hL : LibW w) :
    Calls Tryz.prog 27 #[.float .f64 x] w fun r w' => r = .returned (.string (u8sG (txtG m v E))) ∧ Below w.heap.size w w' := by
  have o1 := ord_self x
  have o1' : F64.isNaN x = false := by unfold F64.isNaN; rw [rung_small (by omega)]; simp; omega
  rw [o1'] at o1
  have o2 := ord_eq (x := x) (y := 0) hx (by omega)
  have o2' : decide (x = 0) = false := by simp; omega
  rw [o2'] at o2
  have o3 := ord_lt (x := x) (y := 0) hx (by omega)
  have o3' : decide (x < 0) = false := by simp
  rw [o3'] at o3
  have hI := Lib.hid (c_IsInfP x hx)
  have hFF := Lib.hid (fun W hT hP => c_FormatFloatG hx0 hx hS (by omega) (by omega) W hT hP)
  have hgl : (sciG m v E).length ≤ 1000 := by
    rw [sciG_P]
    have h1 : (sciP m v).length ≤ m + 1 := by
      unfold sciP
      split
      · rw [dg_len]; omega
      · simp [dg_len]; omega
    have h2 : (exD E.natAbs).length ≤ 3 := by
      unfold exD
      split
      · simp
      · split <;> simp
    simp
    omega
  have hCut := Lib.hid (fun W hW => c_cutSci m v E hgl W hW)
  have hRep := Lib.hid (fun W hW => c_replSci m v hm1 (by omega) W hW)
  have hAt := Lib.hid (fun W => c_atoiSci E (by omega) (by omega) W)
  have hDl : (u8sG (dg m v)).size = m := by rw [uG_size, dg_len]
  have hPl : (u8sG (sciP m v)).size ≤ 20 := by
    rw [uG_size]
    unfold sciP
    split
    · rw [dg_len]; omega
    · simp [dg_len]; omega
  have hLk := Lib.hid (fun W (hb : Below w.heap.size w W) => hL.keep hb)
  replace hL := Lib.hid hL
  obtain ⟨z, hz⟩ : ∃ z : Nat, E + 1 = (z : Int) := ⟨(E + 1).toNat, by omega⟩
  have htx : u8sG (txtG m v E) = (u8sG (dg m v)).extract 0 z ++ ⟨#[46]⟩ ++ (u8sG (dg m v)).extract z m := by
    unfold txtG
    rw [if_neg (fun h => hc h.1), if_pos ⟨hc1, hc2⟩, hz]
    have h1 : (u8sG (dg m v)).extract 0 z = u8sG ((dg m v).take z) := by
      conv => lhs; rw [← List.take_append_drop z (dg m v)]
      exact uG_extract0 _ _ _ (by rw [List.length_take, dg_len]; omega)
    have h2 : (u8sG (dg m v)).extract z m = u8sG ((dg m v).drop z) := by
      conv => lhs; rw [← List.take_append_drop z (dg m v)]
      exact uG_extract _ _ _ _ (by rw [List.take_append_drop, dg_len]) (by rw [List.length_take, dg_len]; omega)
    rw [h1, h2, show (⟨#[46]⟩ : ByteArray) = u8sG [46] from rfl, uG_app, uG_app]
    rfl
  rw [htx]
  clear htx
  have hzm : z < m := by omega
  have hz0 : 0 < z := by omega
  have hz2 : z ≤ 21 := by omega
  obtain rfl : E = (z : Int) - 1 := by omega
  clear hz hc hc1 hc2
  generalize u8sG (dg m v) = D at *
  have q1 : ¬ (D.size : Int) ≤ (z : Int) - 1 + 1 := by omega
  have q1b : decide ((D.size : Int) ≤ (z : Int)) = false := decide_eq_false (by omega)
  have q1c : decide (D.size ≤ z) = false := decide_eq_false (by omega)
  have q2 : (0 : Int) < (z : Int) := by omega
  have q3 : (z : Int) ≤ 21 := by omega
  have q4 : (z : Int) - 1 + 1 = (z : Int) := by omega
  have q5 : (z : Int) ≤ (D.size : Int) := by omega
  have hx1 : (D.extract 0 z).size ≤ 18 := by rw [ByteArray.size_extract]; omega
  have hx2 : (D.extract z m).size ≤ 18 := by rw [ByteArray.size_extract]; omega
  have hx3 : ¬ 9223372036854775807 < (D.extract 0 z).size + 1 := by omega
  have hx4 : ¬ 9223372036854775807 < (D.extract 0 z ++ ⟨#[46]⟩).size + (D.extract z m).size := by rw [ByteArray.size_append]; show ¬ _ < _ + 1 + _; omega
  clear hx1 hx2
  have hDm : D.size = m := hDl
  clear o1' o2' o3' hx hx0 hS hgl
  go_enter Tryz.func27, Tryz.ntmps27
  go_wp2_with (go_at_call 56; refine (hI.out _).mono ?_; rintro e w1 ⟨rfl, rfl⟩)
  refine (hFF.out _ hL.out.pow hL.out.p10).mono ?_
  rintro e w2 ⟨rfl, hb2⟩
  have hL2 := Lib.hid (hLk.out _ hb2)
  go_wp2_with fail
  refine (hCut.out _ hL2.out).mono ?_
  rintro e w3 ⟨rfl, nq, rfl⟩
  have hbn : Below w.heap.size w (w2.drewN nq) := below_drewN hb2 nq
  have hL3 := Lib.hid (hLk.out _ hbn)
  generalize hw3 : w2.drewN nq = w3 at *
  clear hw3
  go_wp2_with fail
  refine (hRep.out _ hL3.out).mono ?_
  rintro e w4 ⟨rfl, hb4⟩
  have hb5 : Below w.heap.size w w4 := hbn.trans (hb4.mono hbn.size)
  clear hb4 hbn hb2
  go_wp2_with fail
  refine (hAt.out _).mono ?_
  rintro e w6 ⟨rfl, hb6⟩
  have hb7 : Below w.heap.size w w6 := hb5.trans (hb6.mono hb5.size)
  have hL7 := Lib.hid (hLk.out _ hb7)
  clear hb6 hb5
  go_wp2_with fail
  go_quiet (fail)
  go_wp2_with fail
  go_ret
  exact ⟨rfl, below_drewN hb7 _⟩
theorem c_showPC {x m v : Nat} {E : Int} (hx0 : 0 < x) (hx : x < 9218868437227405312) (hS : IsSci x m v E) (hE1 : -400 < E) (hE2 : E < 400) (hm1 : 1 ≤ m) (hm2 : m ≤ 18) (hc : -6 < E + 1) (hc2 : E + 1 ≤ 0) (w : World) (hL : LibW w) :
    Calls Tryz.prog 27 #[.float .f64 x] w fun r w' => r = .returned (.string (u8sG (txtG m v E))) ∧ Below w.heap.size w w' := by
  have o1 := ord_self x
  have o1' : F64.isNaN x = false := by unfold F64.isNaN; rw [rung_small (by omega)]; simp; omega
  rw [o1'] at o1
  have o2 := ord_eq (x := x) (y := 0) hx (by omega)
  have o2' : decide (x = 0) = false := by simp; omega
  rw [o2'] at o2
  have o3 := ord_lt (x := x) (y := 0) hx (by omega)
  have o3' : decide (x < 0) = false := by simp
  rw [o3'] at o3
  have hI := Lib.hid (c_IsInfP x hx)
  have hFF := Lib.hid (fun W hT hP => c_FormatFloatG hx0 hx hS (by omega) (by omega) W hT hP)
  have hgl : (sciG m v E).length ≤ 1000 := by
    rw [sciG_P]
    have h1 : (sciP m v).length ≤ m + 1 := by
      unfold sciP
      split
      · rw [dg_len]; omega
      · simp [dg_len]; omega
    have h2 : (exD E.natAbs).length ≤ 3 := by
      unfold exD
      split
      · simp
      · split <;> simp
    simp
    omega
  have hCut := Lib.hid (fun W hW => c_cutSci m v E hgl W hW)
  have hRep := Lib.hid (fun W hW => c_replSci m v hm1 (by omega) W hW)
  have hAt := Lib.hid (fun W => c_atoiSci E (by omega) (by omega) W)
  have hDl : (u8sG (dg m v)).size = m := by rw [uG_size, dg_len]
  have hPl : (u8sG (sciP m v)).size ≤ 20 := by
    rw [uG_size]
    unfold sciP
    split
    · rw [dg_len]; omega
    · simp [dg_len]; omega
  have hLk := Lib.hid (fun W (hb : Below w.heap.size w W) => hL.keep hb)
  replace hL := Lib.hid hL
  obtain ⟨z, hz⟩ : ∃ z : Nat, E + 1 = -(z : Int) := ⟨(-(E + 1)).toNat, by omega⟩
  have hR := Lib.hid (fun W => c_rep0 z (by omega) W)
  have htx : u8sG (txtG m v E) = ⟨#[48, 46]⟩ ++ u8sG (List.replicate z 48) ++ u8sG (dg m v) := by
    unfold txtG
    rw [if_neg (by omega), if_neg (by omega), if_pos ⟨hc, hc2⟩, hz, show (-(-(z : Int))).toNat = z by omega, show (⟨#[48, 46]⟩ : ByteArray) = u8sG [48, 46] from rfl, uG_app, uG_app]
  have hZl : (u8sG (List.replicate z 48)).size ≤ 30 := by rw [uG_size]; simp; omega
  rw [htx]
  clear htx
  obtain rfl : E = -(z : Int) - 1 := by omega
  generalize u8sG (List.replicate z 48) = Z at *
  generalize u8sG (dg m v) = D at *
  have q4 : -(z : Int) - 1 + 1 = -(z : Int) := by omega
  have q1 : ¬ (D.size : Int) ≤ -(z : Int) := by omega
  have q1b : decide ((D.size : Int) ≤ -(z : Int)) = false := decide_eq_false (by omega)
  have q2 : ¬ (0 : Int) < -(z : Int) := by omega
  have q2b : decide ((0 : Int) < -(z : Int)) = false := decide_eq_false (by omega)
  have q3 : (-6 : Int) < -(z : Int) := by omega
  have q5 : -(z : Int) ≤ 0 := by omega
  have q6 : (0 : Int) ≤ (z : Int) := by omega
  have hx1 : ¬ 9223372036854775807 < 2 + Z.size := by omega
  have hx2 : ¬ 9223372036854775807 < ((⟨#[48, 46]⟩ : ByteArray) ++ Z).size + D.size := by rw [ByteArray.size_append]; show ¬ _ < 2 + _ + _; omega
  clear hc hc2 hz hZl
  clear o1' o2' o3' hx hx0 hS hgl
  go_enter Tryz.func27, Tryz.ntmps27
  go_wp2_with (go_at_call 56; refine (hI.out _).mono ?_; rintro e w1 ⟨rfl, rfl⟩)
  refine (hFF.out _ hL.out.pow hL.out.p10).mono ?_
  rintro e w2 ⟨rfl, hb2⟩
  have hL2 := Lib.hid (hLk.out _ hb2)
  go_wp2_with fail
  refine (hCut.out _ hL2.out).mono ?_
  rintro e w3 ⟨rfl, nq, rfl⟩
  have hbn : Below w.heap.size w (w2.drewN nq) := below_drewN hb2 nq
  have hL3 := Lib.hid (hLk.out _ hbn)
  generalize hw3 : w2.drewN nq = w3 at *
  clear hw3
  go_wp2_with fail
  refine (hRep.out _ hL3.out).mono ?_
  rintro e w4 ⟨rfl, hb4⟩
  have hb5 : Below w.heap.size w w4 := hbn.trans (hb4.mono hbn.size)
  clear hb4 hbn hb2
  go_wp2_with fail
  refine (hAt.out _).mono ?_
  rintro e w6 ⟨rfl, hb6⟩
  have hb7 : Below w.heap.size w w6 := hb5.trans (hb6.mono hb5.size)
  have hL7 := Lib.hid (hLk.out _ hb7)
  clear hb6 hb5
  go_wp2_with fail
  refine (hR.out _).mono ?_
  rintro e w8 ⟨rfl, hb8⟩
  have hb9 : Below w.heap.size w w8 := hb7.trans (hb8.mono hb7.size)
  clear hb8
  go_wp2_with fail
  go_ret
  exact ⟨rfl, hb9⟩
theorem c_showPDp {x m v : Nat} {E : Int} (hx0 : 0 < x) (hx : x < 9218868437227405312) (hS : IsSci x m v E) (hE1 : -400 < E) (hE2 : E < 400) (hm1 : 1 ≤ m) (hm2 : m ≤ 18) (hc : 21 < E + 1) (w : World) (hL : LibW w) :
    Calls Tryz.prog 27 #[.float .f64 x] w fun r w' => r = .returned (.string (u8sG (txtG m v E))) ∧ Below w.heap.size w w' := by
  have o1 := ord_self x
  have o1' : F64.isNaN x = false := by unfold F64.isNaN; rw [rung_small (by omega)]; simp; omega
  rw [o1'] at o1
  have o2 := ord_eq (x := x) (y := 0) hx (by omega)
  have o2' : decide (x = 0) = false := by simp; omega
  rw [o2'] at o2
  have o3 := ord_lt (x := x) (y := 0) hx (by omega)
  have o3' : decide (x < 0) = false := by simp
  rw [o3'] at o3
  have hI := Lib.hid (c_IsInfP x hx)
  have hFF := Lib.hid (fun W hT hP => c_FormatFloatG hx0 hx hS (by omega) (by omega) W hT hP)
  have hgl : (sciG m v E).length ≤ 1000 := by
    rw [sciG_P]
    have h1 : (sciP m v).length ≤ m + 1 := by
      unfold sciP
      split
      · rw [dg_len]; omega
      · simp [dg_len]; omega
    have h2 : (exD E.natAbs).length ≤ 3 := by
      unfold exD
      split
      · simp
      · split <;> simp
    simp
    omega
  have hCut := Lib.hid (fun W hW => c_cutSci m v E hgl W hW)
  have hRep := Lib.hid (fun W hW => c_replSci m v hm1 (by omega) W hW)
  have hAt := Lib.hid (fun W => c_atoiSci E (by omega) (by omega) W)
  have hDl : (u8sG (dg m v)).size = m := by rw [uG_size, dg_len]
  have hPl : (u8sG (sciP m v)).size ≤ 20 := by
    rw [uG_size]
    unfold sciP
    split
    · rw [dg_len]; omega
    · simp [dg_len]; omega
  have hLk := Lib.hid (fun W (hb : Below w.heap.size w W) => hL.keep hb)
  replace hL := Lib.hid hL
  obtain ⟨z, hz⟩ : ∃ z : Nat, E = (z : Int) := ⟨E.natAbs, by omega⟩
  have hzl : z < 400 := by omega
  have hI2 := Lib.hid (fun W hW => c_itoa z (by omega) W hW)
  have htx : u8sG (txtG m v E) = u8sG (sciP m v) ++ ⟨#[101]⟩ ++ ⟨#[43]⟩ ++ u8sG (itG z) := by
    unfold txtG
    rw [if_neg (by omega), if_neg (by omega), if_neg (by omega), show E.natAbs = z by omega, hz, exS_pos, show (⟨#[101]⟩ : ByteArray) = u8sG [101] from rfl, show (⟨#[43]⟩ : ByteArray) = u8sG [43] from rfl, uG_app, uG_app, uG_app]
  have hZl : (u8sG (itG z)).size ≤ 3 := by rw [uG_size]; exact itG_len z 2 (by omega)
  rw [htx]
  clear htx
  have hx1 : ¬ 9223372036854775807 < (u8sG (sciP m v)).size + 1 := by omega
  have hx2 : ¬ 9223372036854775807 < (u8sG (sciP m v) ++ ⟨#[101]⟩).size + 1 := by rw [ByteArray.size_append]; show ¬ _ < _ + 1 + 1; omega
  have hx3 : ¬ 9223372036854775807 < (u8sG (sciP m v) ++ ⟨#[101]⟩ ++ ⟨#[43]⟩).size + (u8sG (itG z)).size := by rw [ByteArray.size_append, ByteArray.size_append]; show ¬ _ < _ + 1 + 1 + _; omega
  have hDi : ((u8sG (dg m v)).size : Int) = (m : Int) := by omega
  subst hz
  have q1 : ¬ (z : Int) + 1 ≤ 21 := by omega
  have q1b : decide ((z : Int) + 1 ≤ 21) = false := decide_eq_false (by omega)
  have q2 : (0 : Int) < (z : Int) + 1 := by omega
  have q3 : (-6 : Int) < (z : Int) + 1 := by omega
  have q4 : ¬ (z : Int) + 1 ≤ 0 := by omega
  have q4b : decide ((z : Int) + 1 ≤ 0) = false := decide_eq_false (by omega)
  have q5 : ¬ (z : Int) < 0 := by omega
  have q6 : ((u8sG (dg m v)).size : Int) ≤ (z : Int) + 1 := by omega
  have q7 : (m : Int) ≤ (z : Int) + 1 := by omega
  clear hc hDl
  clear o1' o2' o3' hx hx0 hS hgl
  go_enter Tryz.func27, Tryz.ntmps27
  go_wp2_with (go_at_call 56; refine (hI.out _).mono ?_; rintro e w1 ⟨rfl, rfl⟩)
  refine (hFF.out _ hL.out.pow hL.out.p10).mono ?_
  rintro e w2 ⟨rfl, hb2⟩
  have hL2 := Lib.hid (hLk.out _ hb2)
  go_wp2_with fail
  refine (hCut.out _ hL2.out).mono ?_
  rintro e w3 ⟨rfl, nq, rfl⟩
  have hbn : Below w.heap.size w (w2.drewN nq) := below_drewN hb2 nq
  have hL3 := Lib.hid (hLk.out _ hbn)
  generalize hw3 : w2.drewN nq = w3 at *
  clear hw3
  go_wp2_with fail
  refine (hRep.out _ hL3.out).mono ?_
  rintro e w4 ⟨rfl, hb4⟩
  have hb5 : Below w.heap.size w w4 := hbn.trans (hb4.mono hbn.size)
  clear hb4 hbn hb2
  go_wp2_with fail
  refine (hAt.out _).mono ?_
  rintro e w6 ⟨rfl, hb6⟩
  have hb7 : Below w.heap.size w w6 := hb5.trans (hb6.mono hb5.size)
  have hL7 := Lib.hid (hLk.out _ hb7)
  clear hb6 hb5
  go_wp2_with fail
  refine (hI2.out _ hL7.out).mono ?_
  rintro e w8 ⟨rfl, hb8⟩
  have hb9 : Below w.heap.size w w8 := hb7.trans (hb8.mono hb7.size)
  clear hb8
  go_wp2_with fail
  go_ret
  exact ⟨rfl, hb9⟩
theorem c_showPDn {x m v : Nat} {E : Int} (hx0 : 0 < x) (hx : x < 9218868437227405312) (hS : IsSci x m v E) (hE1 : -400 < E) (hE2 : E < 400) (hm1 : 1 ≤ m) (hm2 : m ≤ 18) (hc : E + 1 ≤ -6) (w : World) (hL : LibW w) :
    Calls Tryz.prog 27 #[.float .f64 x] w fun r w' => r = .returned (.string (u8sG (txtG m v E))) ∧ Below w.heap.size w w' := by
  have o1 := ord_self x
  have o1' : F64.isNaN x = false := by unfold F64.isNaN; rw [rung_small (by omega)]; simp; omega
  rw [o1'] at o1
  have o2 := ord_eq (x := x) (y := 0) hx (by omega)
  have o2' : decide (x = 0) = false := by simp; omega
  rw [o2'] at o2
  have o3 := ord_lt (x := x) (y := 0) hx (by omega)
  have o3' : decide (x < 0) = false := by simp
  rw [o3'] at o3
  have hI := Lib.hid (c_IsInfP x hx)
  have hFF := Lib.hid (fun W hT hP => c_FormatFloatG hx0 hx hS (by omega) (by omega) W hT hP)
  have hgl : (sciG m v E).length ≤ 1000 := by
    rw [sciG_P]
    have h1 : (sciP m v).length ≤ m + 1 := by
      unfold sciP
      split
      · rw [dg_len]; omega
      · simp [dg_len]; omega
    have h2 : (exD E.natAbs).length ≤ 3 := by
      unfold exD
      split
      · simp
      · split <;> simp
    simp
    omega
  have hCut := Lib.hid (fun W hW => c_cutSci m v E hgl W hW)
  have hRep := Lib.hid (fun W hW => c_replSci m v hm1 (by omega) W hW)
  have hAt := Lib.hid (fun W => c_atoiSci E (by omega) (by omega) W)
  have hDl : (u8sG (dg m v)).size = m := by rw [uG_size, dg_len]
  have hPl : (u8sG (sciP m v)).size ≤ 20 := by
    rw [uG_size]
    unfold sciP
    split
    · rw [dg_len]; omega
    · simp [dg_len]; omega
  have hLk := Lib.hid (fun W (hb : Below w.heap.size w W) => hL.keep hb)
  replace hL := Lib.hid hL
  obtain ⟨z, hz⟩ : ∃ z : Nat, E = -(z : Int) := ⟨E.natAbs, by omega⟩
  have hzl : z < 400 := by omega
  have hI2 := Lib.hid (fun W hW => c_itoa z (by omega) W hW)
  have htx : u8sG (txtG m v E) = u8sG (sciP m v) ++ ⟨#[101]⟩ ++ ⟨#[45]⟩ ++ u8sG (itG z) := by
    unfold txtG
    rw [if_neg (by omega), if_neg (by omega), if_neg (by omega), show E.natAbs = z by omega, hz, exS_neg z (by omega), show (⟨#[101]⟩ : ByteArray) = u8sG [101] from rfl, show (⟨#[45]⟩ : ByteArray) = u8sG [45] from rfl, uG_app, uG_app, uG_app]
  have hZl : (u8sG (itG z)).size ≤ 3 := by rw [uG_size]; exact itG_len z 2 (by omega)
  rw [htx]
  clear htx
  have hx1 : ¬ 9223372036854775807 < (u8sG (sciP m v)).size + 1 := by omega
  have hx2 : ¬ 9223372036854775807 < (u8sG (sciP m v) ++ ⟨#[101]⟩).size + 1 := by rw [ByteArray.size_append]; show ¬ _ < _ + 1 + 1; omega
  have hx3 : ¬ 9223372036854775807 < (u8sG (sciP m v) ++ ⟨#[101]⟩ ++ ⟨#[45]⟩).size + (u8sG (itG z)).size := by rw [ByteArray.size_append, ByteArray.size_append]; show ¬ _ < _ + 1 + 1 + _; omega
  have hDi : ((u8sG (dg m v)).size : Int) = (m : Int) := by omega
  have q0 : -E = (z : Int) := by omega
  have q1 : ¬ (m : Int) ≤ E + 1 := by omega
  have q1b : decide (((u8sG (dg m v)).size : Int) ≤ E + 1) = false := decide_eq_false (by omega)
  have q1c : decide ((m : Int) ≤ E + 1) = false := decide_eq_false (by omega)
  have q2 : ¬ (0 : Int) < E + 1 := by omega
  have q2b : decide ((0 : Int) < E + 1) = false := decide_eq_false (by omega)
  have q3 : ¬ (-6 : Int) < E + 1 := by omega
  have q3b : decide ((-6 : Int) < E + 1) = false := decide_eq_false (by omega)
  have q5 : E < 0 := by omega
  clear hc hDl hz
  clear o1' o2' o3' hx hx0 hS hgl
  go_enter Tryz.func27, Tryz.ntmps27
  go_wp2_with (go_at_call 56; refine (hI.out _).mono ?_; rintro e w1 ⟨rfl, rfl⟩)
  refine (hFF.out _ hL.out.pow hL.out.p10).mono ?_
  rintro e w2 ⟨rfl, hb2⟩
  have hL2 := Lib.hid (hLk.out _ hb2)
  go_wp2_with fail
  refine (hCut.out _ hL2.out).mono ?_
  rintro e w3 ⟨rfl, nq, rfl⟩
  have hbn : Below w.heap.size w (w2.drewN nq) := below_drewN hb2 nq
  have hL3 := Lib.hid (hLk.out _ hbn)
  generalize hw3 : w2.drewN nq = w3 at *
  clear hw3
  go_wp2_with fail
  refine (hRep.out _ hL3.out).mono ?_
  rintro e w4 ⟨rfl, hb4⟩
  have hb5 : Below w.heap.size w w4 := hbn.trans (hb4.mono hbn.size)
  clear hb4 hbn hb2
  go_wp2_with fail
  refine (hAt.out _).mono ?_
  rintro e w6 ⟨rfl, hb6⟩
  have hb7 : Below w.heap.size w w6 := hb5.trans (hb6.mono hb5.size)
  have hL7 := Lib.hid (hLk.out _ hb7)
  clear hb6 hb5
  go_wp2_with fail
  refine (hI2.out _ hL7.out).mono ?_
  rintro e w8 ⟨rfl, hb8⟩
  have hb9 : Below w.heap.size w w8 := hb7.trans (hb8.mono hb7.size)
  clear hb8
  go_wp2_with fail
  go_ret
  exact ⟨rfl, hb9⟩
end Go.Proofs.YtbakbikilbaafaaGreatDoor
namespace Go.Proofs.YtbakbikilbaafaaGreatDoor
open Go.RowKit
set_option maxHeartbeats 400000
set_option maxRecDepth 100000

/-- the units of a text -/
def ub (s : ByteArray) (i : Nat) : Nat := (s.data.toList.getD i 0).toNat
def unitAt (s : ByteArray) (k : Nat) : Nat := ub s (2 * k) * 256 + ub s (2 * k + 1)
def unitsN (s : ByteArray) : Nat → List Nat
  | 0 => []
  | k + 1 => unitsN s k ++ [unitAt s k]
def u16s (l : List Nat) : List Value := l.map fun n : Nat => .int .u16 (n : Int)
theorem own_base {w : World} {base : Nat} {e : TypeId} {size : Nat} {v : Value} {n : Nat} {xs : List Value} (h : w.ownsRow base e size v n xs) : ∀ k, v.ownBlock = some k → base ≤ k := by
  intro k hk
  rcases h.2 with ⟨rfl, _⟩ | ⟨g, cap, cur, rfl, hb, _⟩
  · cases hk
  · cases hk; exact hb
theorem infoU16 : (Tryz.prog.info? 27).map (fun i => (i.zero, i.size, i.bytes)) = some (some (.int .u16 0), 1, 2) := by kernel_rfl

theorem ub_get (s : ByteArray) (i : Nat) (h : i < s.size) : ub s i = s[i].toNat := by
  unfold ub
  have h' : i < s.data.toList.length := by simpa using h
  rw [List.getD_eq_getElem?_getD, List.getElem?_eq_getElem h']; rfl
theorem unit_val (s : ByteArray) (k : Nat) (i j : Int) (hi : i = 2 * (k : Int)) (hj : j = 2 * (k : Int) + 1) (h1 : i.toNat < s.size) (h2 : j.toNat < s.size) :
    IntKind.u16.wrap (IntKind.u16.wrap (IntKind.u16.wrap (s[i.toNat].toNat : Int) * 256) + IntKind.u16.wrap (s[j.toNat].toNat : Int)) = (unitAt s k : Int) := by
  have e1 : i.toNat = 2 * k := by omega
  have e2 : j.toNat = 2 * k + 1 := by omega
  have a1 := ub_get s i.toNat h1
  have a2 := ub_get s j.toNat h2
  have b1 : s[i.toNat].toNat < 256 := s[i.toNat].toNat_lt
  have b2 : s[j.toNat].toNat < 256 := s[j.toNat].toNat_lt
  unfold unitAt
  rw [← a1, ← a2, e1, e2]
  rw [← a1, e1] at b1
  rw [← a2, e2] at b2
  generalize ub s (2 * k) = x at *
  generalize ub s (2 * k + 1) = y at *
  simp only [IntKind.wrap_u16]
  omega
theorem c_UnitsR (s : ByteArray) (hs : s.size ≤ 1099511627776) (w : World) :
    Calls Tryz.prog 33 #[.string s] w fun e w' => ∃ v, e = .returned v ∧ w'.ownsRow w.heap.size 27 1 v (s.size / 2) (u16s (unitsN s (s.size / 2))) ∧ Below w.heap.size w w' := by
  obtain ⟨i0, hi0, hz0, hz1, hz2⟩ := info_parts infoU16
  go_enter Tryz.func33, Tryz.ntmps33
  go_wp2
  go_loopw [3, 4] (fun v i wr => ∃ k : Nat, k ≤ s.size / 2 ∧ i = .int .i64 ((2 * k : Nat) : Int) ∧ wr.ownsRow w.heap.size 27 1 v k (u16s (unitsN s k)) ∧ Below w.heap.size w wr) (fun _ i _ => s.size - (intOf i).toNat)
  case atStart => exact ⟨0, by omega, rfl, World.ownsRow_nil _ _ _ _, Below.refl _ _⟩
  case round =>
    obtain ⟨k, hk, rfl, hown, hbel⟩ := hrel
    rcases Nat.lt_or_ge (2 * k + 1) s.size with hlt | hge
    · go_wp2
      have hi0' : (0 : Int) ≤ ((2 * k : Nat) : Int) := Int.natCast_nonneg _
      have hi1 : ((2 * k : Nat) : Int) < (s.size : Int) := by omega
      have hk0 : (0 : Int) ≤ 2 * (k : Int) + 1 := by omega
      have hk1 : 2 * (k : Int) + 1 < (s.size : Int) := by omega
      have hsum : IntKind.i64.wrap (2 * (k : Int) + 1) = 2 * (k : Int) + 1 := IntWalk.i64_in _ (by omega)
      have hsz := hbel.size
      have hval := unit_val s k (2 * (k : Int)) (2 * (k : Int) + 1) rfl rfl (by omega) (by omega)
      go_region_held3 (fun _ => True) (first | trivial | go_keep) ((refine step_append_lies _ (by rfl) _ _ _ (by rfl) w.heap.size 27 i0 _ 1 2 Tryz.underlying49 hi0 hz0 hz1 hz2 rfl (by omega) u3 k (u16s (unitsN s k)) (by rfl) ((hown.alloc _).drew) ⟨wr.heap.size, 0, none⟩ 1 1 [.int .u16 (unitAt s k)] (by rfl) (by rfl) (World.news_of_block (cs := #[.int .u16 (unitAt s k)]) (t := 27) (fr := (0, 0)) (by exact heap_alloc_new wr _)) (by simp [Value.oneCell']) (by omega) (by unfold maxLen; omega) (by omega) (by simp; omega) (wr.heap.size + 1) (by simp) ?_; intro gg cap w1 hown1 hgrow hat hlt))
      all_goals
        have hown2 : w1.ownsRow w.heap.size 27 1 (Value.slice (some ⟨gg, 0, none⟩) (k + 1) cap) (k + 1) (u16s (unitsN s (k + 1))) := by
          have e : u16s (unitsN s (k + 1)) = u16s (unitsN s k) ++ [Value.int IntKind.u16 (unitAt s k)] := by simp [u16s, unitsN]
          rw [e]; exact hown1
        have hbel2 : Below w.heap.size w w1 := ((hbel.alloc hsz _).drew).grown hgrow (by simp; omega) (own_base hown)
        clear hown1 hgrow hval hsum
        go_wp2
        go_roundw
        case rel => exact ⟨k + 1, by omega, by go_num, hown2, hbel2⟩
        case measure => simp [intOf]; omega
    · have hk2 : k = s.size / 2 := by omega
      go_wp2
      go_ret
      exact ⟨_, rfl, by rw [← hk2]; exact hown, hbel⟩
end Go.Proofs.YtbakbikilbaafaaGreatDoor
namespace Go.Proofs.YtbakbikilbaafaaGreatDoor
open Go.RowKit
set_option maxHeartbeats 400000
set_option maxRecDepth 100000

/-- a text without an odd byte -/
def evenB (s : ByteArray) : ByteArray := s.extract 0 (s.size / 2 * 2)
theorem evenB_size (s : ByteArray) : (evenB s).size = s.size / 2 * 2 := by unfold evenB; rw [ByteArray.size_extract]; omega
theorem and_not1 (n : Nat) (h : n < 9223372036854775808) : bits BinOp.andNot IntKind.i64 (n : Int) 1 = ((n / 2 * 2 : Nat) : Int) := by
  have key : (BitVec.ofInt 64 (n : Int) &&& ~~~ BitVec.ofInt 64 1).toNat = n / 2 * 2 := by
    rw [BitVec.toNat_and, ofInt_u64 n (by omega)]
    have : (~~~ BitVec.ofInt 64 1).toNat = 18446744073709551614 := by decide
    rw [this]
    have e : n &&& 18446744073709551614 = n / 2 * 2 := by
      have h1 : n = n / 2 * 2 + n % 2 := by omega
      apply Nat.eq_of_testBit_eq
      intro i
      rw [Nat.testBit_and]
      cases i with
      | zero => simp [Nat.testBit_zero]
      | succ j =>
        rw [Nat.testBit_succ, Nat.testBit_succ]
        have h2 : n / 2 * 2 / 2 = n / 2 := by omega
        rw [Nat.testBit_succ, h2]
        have h3 : (18446744073709551614 : Nat) / 2 = 2 ^ 63 - 1 := by decide
        rw [h3, Nat.testBit_two_pow_sub_one]
        by_cases hj : j < 63
        · simp [hj]
        · have : (n / 2).testBit j = false := Nat.testBit_lt_two_pow (Nat.lt_of_lt_of_le (by omega : n / 2 < 2 ^ 63) (Nat.pow_le_pow_right (by decide) (by omega)))
          rw [this]; simp
    exact e
  show IntKind.i64.wrap ((BitVec.ofInt 64 (n : Int) &&& ~~~ BitVec.ofInt 64 1).toNat : Nat) = _
  rw [key, IntKind.wrap_i64]
  omega

theorem c_even (s : ByteArray) (hs : s.size ≤ 1099511627776) (w : World) :
    Calls Tryz.prog 103 #[.string s] w fun e w' => e = .returned (.string (evenB s)) ∧ w = w' := by
  have h := and_not1 s.size (by omega)
  have h1 : s.size / 2 * 2 ≤ s.size := by omega
  unfold evenB
  generalize s.size / 2 * 2 = n at *
  go_enter Tryz.func103, Tryz.ntmps103
  go_wp2
  go_ret
  exact ⟨rfl, rfl⟩
theorem c_ULen (s : ByteArray) (hs : s.size ≤ 1099511627776) (w : World) :
    Calls Tryz.prog 30 #[.string s] w fun e w' => e = .returned (.int .i64 ((s.size / 2 : Nat) : Int)) ∧ w = w' := by
  go_enter Tryz.func30, Tryz.ntmps30
  go_wp2
  go_ret
  exact ⟨rfl, rfl⟩
theorem unit_or (s : ByteArray) (k : Nat) (i j : Int) (hi : i = 2 * (k : Int)) (hj : j = 2 * (k : Int) + 1) (h1 : i.toNat < s.size) (h2 : j.toNat < s.size) :
    bits BinOp.or IntKind.u16 (IntKind.u16.wrap (IntKind.u16.wrap (s[i.toNat].toNat : Int) * 256)) (IntKind.u16.wrap (s[j.toNat].toNat : Int)) = (unitAt s k : Int) := by
  have e1 : i.toNat = 2 * k := by omega
  have e2 : j.toNat = 2 * k + 1 := by omega
  have a1 := ub_get s i.toNat h1
  have a2 := ub_get s j.toNat h2
  have b1 : s[i.toNat].toNat < 256 := s[i.toNat].toNat_lt
  have b2 : s[j.toNat].toNat < 256 := s[j.toNat].toNat_lt
  unfold unitAt
  rw [← a1, ← a2, e1, e2]
  rw [← a1, e1] at b1
  rw [← a2, e2] at b2
  generalize ub s (2 * k) = x at *
  generalize ub s (2 * k + 1) = y at *
  have w1 : IntKind.u16.wrap (IntKind.u16.wrap (x : Int) * 256) = ((x * 256 : Nat) : Int) := by simp only [IntKind.wrap_u16]; omega
  have w2 : IntKind.u16.wrap (y : Int) = (y : Int) := by simp only [IntKind.wrap_u16]; omega
  rw [w1, w2, u16_or_nat _ _ (by omega) (by omega), nat_join 8 _ _ (by omega) (by omega)]
theorem ret_int {k : IntKind} {a b : Int} (h : a = b) : Ending.returned (.int k a) = .returned (.int k b) := by rw [h]
theorem c_unit (s : ByteArray) (k : Nat) (hs : s.size ≤ 1099511627776) (hk : 2 * k + 1 < s.size) (w : World) :
    Calls Tryz.prog 68 #[.string s, .int .i64 (k : Int)] w fun e w' => e = .returned (.int .u16 (unitAt s k)) ∧ ∃ nq, w' = w.drewN nq := by
  have h0 : (0 : Int) ≤ 2 * (k : Int) := by omega
  have h1 : 2 * (k : Int) < (s.size : Int) := by omega
  have h2 : (0 : Int) ≤ 2 * (k : Int) + 1 := by omega
  have h3 : 2 * (k : Int) + 1 < (s.size : Int) := by omega
  have s1 : IntKind.i64.wrap (2 * (k : Int)) = 2 * (k : Int) := IntWalk.i64_in _ (by omega)
  have s2 : IntKind.i64.wrap (2 * (k : Int) + 1) = 2 * (k : Int) + 1 := IntWalk.i64_in _ (by omega)
  have hval := unit_or s k (2 * (k : Int)) (2 * (k : Int) + 1) rfl rfl (by omega) (by omega)
  go_enter Tryz.func68, Tryz.ntmps68
  go_wp2
  go_quiet (fail)
  go_wp2
  go_ret
  exact ⟨ret_int hval, _, rfl⟩
end Go.Proofs.YtbakbikilbaafaaGreatDoor
namespace Go.Proofs.YtbakbikilbaafaaGreatDoor
open Go.RowKit
set_option maxHeartbeats 400000
set_option maxRecDepth 100000

theorem bel_drewN {B : Nat} {a w : World} (h : Below B a w) (n : Nat) : Below B a (w.drewN n) := h.trans ⟨rfl, rfl, rfl, Nat.le_refl _, fun _ _ => rfl⟩
theorem own_drewN {w : World} {B e size n : Nat} {v : Value} {xs : List Value} (h : w.ownsRow B e size v n xs) (q : Nat) : (w.drewN q).ownsRow B e size v n xs := h
theorem u16s_snoc (s : ByteArray) (k : Nat) : u16s (unitsN s (k + 1)) = u16s (unitsN s k) ++ [Value.int IntKind.u16 (unitAt s k)] := by simp [u16s, unitsN]
theorem unitAt_even (s : ByteArray) (k : Nat) (h : k < s.size / 2) : unitAt (evenB s) k = unitAt s k := by
  have hs := evenB_size s
  have key : ∀ i, i < s.size / 2 * 2 → ub (evenB s) i = ub s i := by
    intro i hi
    rw [ub_get _ _ (by omega), ub_get _ _ (by omega)]
    unfold evenB
    rw [ByteArray.getElem_extract]
    congr 2; omega
  unfold unitAt
  rw [key _ (by omega), key _ (by omega)]
theorem unitsN_even (s : ByteArray) (k : Nat) (h : k ≤ s.size / 2) : unitsN (evenB s) k = unitsN s k := by
  induction k with
  | zero => rfl
  | succ k ih => simp only [unitsN]; rw [ih (by omega), unitAt_even s k (by omega)]
theorem c_Units (s : ByteArray) (hs : s.size ≤ 1099511627776) (w : World) :
    Calls Tryz.prog 69 #[.string s] w fun e w' => ∃ v, e = .returned v ∧ w'.ownsRow w.heap.size 27 1 v (s.size / 2) (u16s (unitsN s (s.size / 2))) ∧ Below w.heap.size w w' := by
  obtain ⟨i0, hi0, hz0, hz1, hz2⟩ := info_parts infoU16
  have hE := evenB_size s
  have hU := unitsN_even s (s.size / 2) (Nat.le_refl _)
  rw [← hU]
  have H := Lib.hid (c_even s hs)
  have hm : s.size / 2 ≤ 549755813888 := by omega
  generalize evenB s = E at *
  generalize s.size / 2 = m at *
  have hE1 : E.size ≤ m * 2 := by omega
  have hE2 : m * 2 ≤ E.size := by omega
  clear hE hU
  go_enter Tryz.func69, Tryz.ntmps69
  go_wp2_with (first | (go_at_call 103; refine (H.out _).mono ?_; rintro e w' ⟨rfl, rfl⟩) | (at_make; refine wpList_make_own _ rfl _ _ 49 rfl w.heap.size 27 i0 (.int .u16 0) 1 Tryz.underlying49 hi0 hz0 hz1 _ _ _ m rfl rfl (by omega) (by rw [hz2]; omega) (by unfold maxLen; omega) (Nat.le_refl _) ?_; intro w1 hown1 hgrow1))
  have hbel1 : Below w.heap.size w w1 := (Below.refl _ _).grown hgrow1 (Nat.le_refl _) (fun _ h => by cases h)
  have eE : (E.size : Int) / 2 = (m : Int) := by omega
  rw [eE]
  clear eE hgrow1
  generalize hv0 : Value.slice (some ⟨w.heap.size, 0, none⟩) 0 m = v0 at *
  clear hv0
  go_loopw [4, 5, 15] (fun v _ i wr => ∃ k : Nat, k ≤ m ∧ i = .int .i64 (k : Int) ∧ wr.ownsRow w.heap.size 27 1 v k (u16s (unitsN E k)) ∧ Below w.heap.size w wr) (fun _ _ i _ => m - (intOf i).toNat)
  case atStart => exact ⟨0, by omega, rfl, hown1, hbel1⟩
  case round =>
    obtain ⟨k, hk, rfl, hown, hbel⟩ := hrel
    rcases Nat.lt_or_ge k m with hlt | hge
    · have hsz := hbel.size
      go_wp2_with (first | (go_at_call 68; refine (c_unit E k (by omega) (by omega) _).mono ?_; rintro e w' ⟨rfl, nq, rfl⟩) | (at_builtin; go_loud (refine wpList_append_lies _ (by rfl) _ _ _ (by rfl) w.heap.size 27 i0 _ 1 2 Tryz.underlying49 hi0 hz0 hz1 hz2 rfl (by omega) u4 k (u16s (unitsN E k)) (by rfl) ((own_drewN hown nq).alloc _) ⟨wr.heap.size, 0, none⟩ 1 1 [.int .u16 (unitAt E k)] (by rfl) (by rfl) (World.news_of_block (cs := #[.int .u16 (unitAt E k)]) (t := 27) (fr := (0, 0)) (by exact heap_alloc_new (wr.drewN nq) _)) (by simp [Value.oneCell']) (by omega) (by unfold maxLen; omega) (by omega) (by simp; omega) (wr.heap.size + 1) (by simp) ?_); intro gg cap w2 hown2 hgrow hat hlt2))
      have hown3 : w2.ownsRow w.heap.size 27 1 (Value.slice (some ⟨gg, 0, none⟩) (k + 1) cap) (k + 1) (u16s (unitsN E (k + 1))) := by
        rw [u16s_snoc]; exact hown2
      have hbel2 : Below w.heap.size w w2 := ((bel_drewN hbel nq).alloc hsz _).grown hgrow (by simp; omega) (own_base hown)
      clear hown2 hgrow
      go_roundw
      case rel => exact ⟨k + 1, by omega, by go_num, hown3, hbel2⟩
      case measure => simp [intOf]; omega
    · have hk2 : k = m := by omega
      subst hk2
      go_wp2
      go_ret
      exact ⟨_, rfl, hown, hbel⟩
end Go.Proofs.YtbakbikilbaafaaGreatDoor
namespace Go.Proofs.YtbakbikilbaafaaGreatDoor
open Go.RowKit
set_option maxHeartbeats 400000
set_option maxRecDepth 100000

/-- v reads as the row xs; its block is below B -/
def Rd (B : Nat) (w : World) (v : Value) (xs : List Value) : Prop :=
  ∃ b c, v = .slice b xs.length c ∧ ∀ j u, xs[j]? = some u → ∃ g, g < B ∧ b = some ⟨g, 0, none⟩ ∧ xs.length ≤ c ∧ w.cell? ⟨g, j, none⟩ = some u
theorem add_zero_addr (g j : Nat) : (⟨g, 0, none⟩ : Addr).add j = ⟨g, j, none⟩ := by
  unfold Addr.add
  simp
  omega
theorem Rd_own {w : World} {base : Nat} {e : TypeId} {v : Value} {n : Nat} {xs : List Value} (h : w.ownsRow base e 1 v n xs) : Rd w.heap.size w v xs := by
  have hl := h.lt
  have hc := fun g hg => World.ownsRow.cells h (g := g) hg
  rcases h with ⟨hn, ⟨rfl, rfl⟩ | ⟨g, cap, cur, rfl, hb, hh, h1, h2, h3, h4⟩⟩
  · have : xs = [] := List.length_eq_zero_iff.1 (by omega)
    subst this
    exact ⟨none, 0, rfl, fun j u hu => by simp at hu⟩
  · have hn' : n = xs.length := by omega
    subst hn'
    refine ⟨_, cap, rfl, ?_⟩
    intro j u hu
    have := hc g rfl j u hu
    rw [add_zero_addr] at this
    exact ⟨g, (hl g rfl).2, rfl, h1, this⟩
theorem Rd.keep {B B' : Nat} {w w' : World} {v : Value} {xs : List Value} (h : Rd B w v xs) (hb : Below B' w w') (hB : B ≤ B') : Rd B w' v xs := by
  obtain ⟨b, c, h1, h2⟩ := h
  refine ⟨b, c, h1, fun j u hu => ?_⟩
  obtain ⟨g, k1, k2, k3, k4⟩ := h2 j u hu
  exact ⟨g, k1, k2, k3, by rw [hb.cell (p := ⟨g, j, none⟩) (by show g < B'; omega)]; exact k4⟩

/-- how lists of units compare -/
def cmpU : List Nat → List Nat → Int
  | [], [] => 0
  | [], _ :: _ => -1
  | _ :: _, [] => 1
  | x :: xs, y :: ys => if x < y then -1 else if y < x then 1 else cmpU xs ys
theorem cmpU_self (l : List Nat) : cmpU l l = 0 := by induction l with
  | nil => rfl
  | cons x l ih => simp [cmpU, ih]
theorem cmpU_eq {a b : List Nat} (h : cmpU a b = 0) : a = b := by
  induction a generalizing b with
  | nil => cases b with
    | nil => rfl
    | cons y b => simp [cmpU] at h
  | cons x a ih => cases b with
    | nil => simp [cmpU] at h
    | cons y b =>
      simp only [cmpU] at h
      split at h
      · omega
      · split at h
        · omega
        · have : x = y := by omega
          rw [this, ih h]
theorem cmpU_neg (a b : List Nat) : cmpU b a = - cmpU a b := by
  induction a generalizing b with
  | nil => cases b <;> simp [cmpU]
  | cons x a ih => cases b with
    | nil => simp [cmpU]
    | cons y b =>
      simp only [cmpU]
      rcases Nat.lt_trichotomy x y with h | h | h
      · rw [if_neg (by omega), if_pos h, if_pos h]; rfl
      · subst h; simp [ih]
      · rw [if_pos h, if_neg (by omega), if_pos h]
theorem cmpU_cases (a b : List Nat) : cmpU a b = -1 ∨ cmpU a b = 0 ∨ cmpU a b = 1 := by
  induction a generalizing b with
  | nil => cases b <;> simp [cmpU]
  | cons x a ih => cases b with
    | nil => simp [cmpU]
    | cons y b =>
      simp only [cmpU]
      split
      · simp
      · split
        · simp
        · exact ih b
/-- the units of a text -/
def U (s : ByteArray) : List Nat := unitsN s (s.size / 2)
theorem unitsN_len (s : ByteArray) (k : Nat) : (unitsN s k).length = k := by induction k with
  | zero => rfl
  | succ k ih => simp [unitsN, ih]
theorem U_len (s : ByteArray) : (U s).length = s.size / 2 := unitsN_len _ _
theorem u16s_len (l : List Nat) : (u16s l).length = l.length := by simp [u16s]
theorem u16s_get (l : List Nat) (k : Nat) (x : Nat) (h : l[k]? = some x) : (u16s l)[k]? = some (.int .u16 (x : Int)) := by simp [u16s, h]
theorem drop_one (l : List Nat) (k : Nat) (h : k < l.length) : ∃ x, l[k]? = some x ∧ l.drop k = x :: l.drop (k + 1) := ⟨l[k], List.getElem?_eq_getElem h, List.drop_eq_getElem_cons h⟩

end Go.Proofs.YtbakbikilbaafaaGreatDoor
namespace Go.Proofs.YtbakbikilbaafaaGreatDoor
open Go.RowKit Go.Proofs
set_option maxHeartbeats 400000
set_option maxRecDepth 100000

def byteU (u : Nat) : List UInt8 := [UInt8.ofNat (u / 256), UInt8.ofNat (u % 256)]
def bytesU (us : List Nat) : List UInt8 := us.flatMap byteU
def textU (us : List Nat) : ByteArray := ⟨(bytesU us).toArray⟩
def cellsB (l : List UInt8) : List Value := l.map fun b => .int .u8 (b.toNat : Int)
theorem bytesU_len (us : List Nat) : (bytesU us).length = 2 * us.length := by
  induction us with
  | nil => rfl
  | cons u us ih => simp only [bytesU, List.flatMap_cons, List.length_append, List.length_cons] at ih ⊢; rw [ih]; simp [byteU]; omega
theorem bytesU_snoc (us : List Nat) (k u : Nat) (h : us[k]? = some u) : bytesU (us.take (k + 1)) = bytesU (us.take k) ++ byteU u := by
  unfold bytesU
  rw [List.take_add_one, h]; simp
theorem infoU8 : (Tryz.prog.info? 5).map (fun i => (i.zero, i.size, i.bytes)) = some (some (.int .u8 0), 1, 1) := by kernel_rfl
theorem c_MakeR (us : List Nat) (v : Value) (hus : ∀ u ∈ us, u < 65536) (hl : us.length ≤ 549755813888) (w : World) (h : Rd w.heap.size w v (u16s us)) :
    Calls Tryz.prog 35 #[v] w fun e w' => e = .returned (.string (textU us)) ∧ Below w.heap.size w w' := by
  obtain ⟨i0, hi0, hz0, hz1, hz2⟩ := info_parts infoU8
  obtain ⟨p, c, rfl, hcell⟩ := h
  have hlen : (u16s us).length = us.length := by simp [u16s]
  rw [hlen] at hcell ⊢
  have hget : ∀ k, k < us.length → ∃ u g, us[k]? = some u ∧ u < 65536 ∧ p = some ⟨g, 0, none⟩ ∧ ∀ y, Below w.heap.size w y → y.cell? ⟨g, k, none⟩ = some (.int .u16 (u : Int)) := by
    intro k hk
    have hx : us[k]? = some us[k] := List.getElem?_eq_getElem hk
    obtain ⟨g, g1, g2, g3, g4⟩ := hcell k (.int .u16 (us[k] : Int)) (by simp [u16s, hk])
    refine ⟨us[k], g, hx, hus _ (List.getElem_mem hk), g2, fun y hy => ?_⟩
    rw [hy.cell (p := ⟨g, k, none⟩) (by exact g1)]
    exact g4
  have hsn := bytesU_snoc us
  have hbl : ∀ k, (bytesU (us.take k)).length = 2 * (us.take k).length := fun k => bytesU_len _
  have hend : bytesU (us.take us.length) = bytesU us := by rw [List.take_length]
  have h0 : bytesU (us.take 0) = [] := rfl
  unfold textU
  generalize bytesU us = E at *
  generalize hF : (fun k => bytesU (us.take k)) = F at *
  have hF' : ∀ k, bytesU (us.take k) = F k := fun k => by rw [← hF]
  simp only [hF'] at hsn hbl hend h0
  have hFl : ∀ k, k ≤ us.length → (F k).length = 2 * k := fun k hk => by rw [hbl, List.length_take]; omega
  clear hcell hlen hus hF hF' hbl
  generalize us.length = n at *
  replace hget := Lib.hid hget
  replace hsn := Lib.hid hsn
  replace hend := Lib.hid hend
  replace h0 := Lib.hid h0
  replace hFl := Lib.hid hFl
  go_enter Tryz.func35, Tryz.ntmps35
  go_wp2
  go_loopw [3, 8] (fun vb vk wr => ∃ k : Nat, k ≤ n ∧ vk = .int .i64 (k : Int) ∧ wr.ownsRow w.heap.size 5 1 vb (2 * k) (cellsB (F k)) ∧ Below w.heap.size w wr) (fun _ vk _ => n - (intOf vk).toNat)
  case atStart => exact ⟨0, by omega, rfl, ⟨by rw [h0.out]; rfl, .inl ⟨rfl, rfl⟩⟩, Below.refl _ _⟩
  case round =>
    obtain ⟨k, hk, rfl, hown, hbel⟩ := hrel
    rcases Nat.lt_or_ge k n with hlt | hge
    · obtain ⟨u, g, hu, hu2, rfl, hy⟩ := hget.out k hlt
      have d1 := hy wr hbel
      have hs := Lib.hid (hsn.out k u hu)
      clear hu hy
      have hk2 := Lib.hid (hFl.out k hk)
      have hcB : cellsB (F k) ++ [.int .u8 ((u : Int) / 256), .int .u8 ((u : Int) % 256)] = cellsB (F (k + 1)) := by
        rw [hs.out]
        simp only [cellsB, List.map_append, byteU, List.map_cons, List.map_nil]
        congr 2
        · congr 1
          simp; omega
        · congr 2
          simp
      replace hcB := Lib.hid hcB
      go_wp2_with (at_builtin; refine wpList_append_lies _ (by rfl) _ _ _ (by rfl) w.heap.size 5 i0 _ 1 1 Tryz.underlying90 hi0 hz0 hz1 hz2 rfl (by omega) u3 (2 * k) (cellsB (F k)) (by rfl) (hown.alloc _) ⟨wr.heap.size, 0, none⟩ 2 2 [.int .u8 ((u : Int) / 256), .int .u8 ((u : Int) % 256)] (by rfl) (by rfl) (World.news_of_block (cs := #[.int .u8 ((u : Int) / 256), .int .u8 ((u : Int) % 256)]) (t := 5) (fr := (0, 0)) (by exact heap_alloc_new wr _)) (by simp [Value.oneCell']) (by omega) (by unfold maxLen; omega) (by omega) (by have := hbel.size; simp; omega) (wr.heap.size + 1) (by simp) ?_; intro gg cap w2 hown2 hgrow hat hlt2)
      have hown3 : w2.ownsRow w.heap.size 5 1 (.slice (some ⟨gg, 0, none⟩) (2 * k + 2) cap) (2 * (k + 1)) (cellsB (F (k + 1))) := by
        rw [← hcB.out]; exact hown2
      have hbel2 : Below w.heap.size w w2 := (hbel.alloc hbel.size _).grown hgrow (by have := hbel.size; simp; omega) (own_base hown)
      clear hown2 hgrow
      go_roundw
      case rel => exact ⟨k + 1, by omega, by go_num, hown3, hbel2⟩
      case measure => simp [intOf]; omega
    · obtain rfl : k = n := by omega
      have hE := hend.out
      have hkl := hFl.out k hk
      have hcv : (convert 90 24 u3).run Tryz.prog wr = .ok (.string ⟨E.toArray⟩) wr := by
        rw [hE] at hown hkl
        rcases Nat.eq_zero_or_pos k with h1 | h1
        · subst h1
          have hE0 : E = [] := List.length_eq_zero_iff.1 (by omega)
          subst hE0
          rcases hown with ⟨_, ⟨rfl, _⟩ | ⟨g, cap, cur, rfl, _⟩⟩
          · exact run_convert_bytes_nil (P := Tryz.prog) wr 90 5 Tryz.underlying90 Tryz.underlying5 0 0 24 Tryz.underlying24
          · exact run_convert_bytes_back (P := Tryz.prog) wr 90 24 5 ⟨g, 0, none⟩ cap [] Tryz.underlying90 Tryz.underlying5 Tryz.underlying24 (fun j hj => by simp at hj)
        · obtain ⟨g, cap, rfl, _, _⟩ := hown.form (by omega)
          have hc := World.ownsRow.cells hown (g := g) rfl
          rw [← hkl]
          refine run_convert_bytes_back (P := Tryz.prog) wr 90 24 5 ⟨g, 0, none⟩ cap E Tryz.underlying90 Tryz.underlying5 Tryz.underlying24 (fun j hj => hc j _ ?_)
          simp [cellsB, hj]
      clear hown hkl hE
      go_wp2
      go_ret
      exact ⟨rfl, hbel⟩
end Go.Proofs.YtbakbikilbaafaaGreatDoor
namespace Go.Proofs.YtbakbikilbaafaaGreatDoor
open Go.RowKit Go.Proofs
set_option maxHeartbeats 400000
set_option maxRecDepth 100000

theorem below_after {w w1 w' : World} (h1 : Below w.heap.size w w1) (h : Below w1.heap.size w1 w') : Below w.heap.size w w' := h1.trans (h.mono h1.size)
theorem c_point (s : ByteArray) (b : Nat) (h0 : 0 < s.size) (he : ub s 0 = b) (hb : b < 128) (w : World) :
    Calls Tryz.prog 82 #[.string s] w fun e w' => e = .returned (.tuple #[.int .i32 (b : Int), .int .i64 1]) ∧ w' = w := by
  have e0 : (s[0]'h0).toNat = b := by rw [← he, ub_get s 0 h0]
  have hb' : (b : Int) < 128 := by omega
  clear he
  go_enter Tryz.func82, Tryz.ntmps82
  go_wp2
  go_ret2
  exact ⟨rfl, rfl⟩
theorem c_Point (r : Nat) (hr : r < 65536) (w : World) :
    Calls Tryz.prog 83 #[.int .i32 (r : Int)] w fun e w' => e = .returned (.slice (some ⟨w.heap.size, 0, none⟩) 1 1) ∧ w' = w.alloc (.cells #[.int .u16 (r : Int)] 27) := by
  have k1 : ¬ (r : Int) < 0 := by omega
  have k2 : ¬ (1114111 : Int) < (r : Int) := by omega
  have k3 : (r : Int) < 65536 := by omega
  have k4 : IntKind.u16.wrap (r : Int) = (r : Int) := by simp [IntKind.wrap, IntKind.bits, IntKind.signed]; omega
  clear hr
  go_enter Tryz.func83, Tryz.ntmps83
  go_wp2
  go_ret
  exact ⟨rfl, rfl⟩
def codes (s : ByteArray) : List Nat := s.data.toList.map UInt8.toNat
theorem codes_len (s : ByteArray) : (codes s).length = s.size := by simp [codes]
theorem codes_get (s : ByteArray) (i : Nat) (h : i < s.size) : (codes s)[i]? = some (ub s i) := by
  have : i < s.data.toList.length := by simpa using h
  unfold codes ub
  rw [List.getElem?_map, List.getElem?_eq_getElem this, List.getD_eq_getElem?_getD, List.getElem?_eq_getElem this]
  rfl
theorem ub_extract (s : ByteArray) (i : Nat) (h : i < s.size) : ub (s.extract i s.size) 0 = ub s i := by
  rw [ub_get _ _ (by simp; omega), ub_get _ _ h, ByteArray.getElem_extract]
  simp
theorem c_OfR (s : ByteArray) (hs : s.size ≤ 549755813888) (ha : ∀ u ∈ codes s, u < 128) (w : World) :
    Calls Tryz.prog 48 #[.string s] w fun e w' => e = .returned (.tuple #[.string (textU (codes s)), .int .i64 0, .int .i64 0]) ∧ Below w.heap.size w w' := by
  obtain ⟨i0, hi0, hz0, hz1, hz2⟩ := info_parts infoU16
  have hget : ∀ k, k < s.size → ∃ u, u < 128 ∧ 0 < (s.extract k s.size).size ∧ ub (s.extract k s.size) 0 = u ∧ u16s ((codes s).take (k + 1)) = u16s ((codes s).take k) ++ [.int .u16 (u : Int)] := by
    intro k hk
    refine ⟨ub s k, ha _ (List.mem_of_getElem? (codes_get s k hk)), by simp; omega, ub_extract s k hk, ?_⟩
    rw [List.take_add_one, codes_get s k hk]
    simp [u16s]
  have hend : (codes s).take s.size = codes s := by rw [← codes_len s, List.take_length]
  have h0 : u16s ((codes s).take 0) = [] := rfl
  have hM := fun v w h => Lib.hid (c_MakeR (codes s) v (fun u hu => by have := ha u hu; omega) (by rw [codes_len]; exact hs) w h)
  have hcl := codes_len s
  generalize codes s = C at *
  replace hget := Lib.hid hget
  replace hend := Lib.hid hend
  replace h0 := Lib.hid h0
  replace hcl := Lib.hid hcl
  clear ha
  go_enter Tryz.func48, Tryz.ntmps48
  go_wp2
  go_loopw [5, 6] (fun vb vk wr => ∃ k : Nat, k ≤ s.size ∧ vk = .int .i64 (k : Int) ∧ wr.ownsRow w.heap.size 27 1 vb k (u16s (C.take k)) ∧ Below w.heap.size w wr) (fun _ vk _ => s.size - (intOf vk).toNat)
  case atStart => exact ⟨0, by omega, rfl, ⟨by rw [h0.out]; rfl, .inl ⟨rfl, rfl⟩⟩, Below.refl _ _⟩
  case round =>
    obtain ⟨k, hk, rfl, hown, hbel⟩ := hrel
    rcases Nat.lt_or_ge k s.size with hlt | hge
    · obtain ⟨u, hu, hx0, hx1, hx2⟩ := hget.out k hlt
      have hP := fun y => Lib.hid (c_point (s.extract k s.size) u hx0 hx1 hu y)
      have hx2 := Lib.hid hx2
      have hQ := fun y => Lib.hid (c_Point u (by omega) y)
      clear hx0 hx1
      have hsz := hbel.size
      go_wp2_with (first | (go_at_call 82; refine (hP _).out.mono ?_; rintro e w1 ⟨rfl, rfl⟩) | (go_at_call 83; refine (hQ _).out.mono ?_; rintro e w1 ⟨rfl, rfl⟩) | (at_builtin; refine wpList_append_lies _ (by rfl) _ _ _ (by rfl) w.heap.size 27 i0 _ 1 2 Tryz.underlying49 hi0 hz0 hz1 hz2 rfl (by omega) u5 k (u16s (C.take k)) (by rfl) (hown.alloc _) ⟨_, 0, none⟩ 1 1 [.int .u16 (u : Int)] (by rfl) (by rfl) (World.news_of_block (cs := #[.int .u16 (u : Int)]) (t := 27) (fr := (0, 0)) (by exact heap_alloc_new _ _)) (by simp [Value.oneCell']) (by omega) (by unfold maxLen; omega) (by omega) (by simp; omega) _ rfl ?_; intro gg cap w2 hown2 hgrow hat hlt2))
      have hown3 : w2.ownsRow w.heap.size 27 1 (.slice (some ⟨gg, 0, none⟩) (k + 1) cap) (k + 1) (u16s (C.take (k + 1))) := by
        rw [hx2.out]; exact hown2
      have hbel2 : Below w.heap.size w w2 := (hbel.alloc hsz _).grown hgrow (by simp; omega) (own_base hown)
      clear hown2 hgrow
      go_roundw
      case rel => exact ⟨k + 1, by omega, by go_num, hown3, hbel2⟩
      case measure => simp [intOf]; omega
    · obtain rfl : k = s.size := by omega
      rw [hend.out] at hown
      have hM2 := Lib.hid ((hM u5 wr (Rd_own hown)).out)
      clear hown
      go_wp2_with (go_at_call 35; refine hM2.out.mono ?_; rintro e w1 ⟨rfl, hb⟩)
      go_ret3
      exact ⟨rfl, below_after hbel hb⟩
theorem c_AsciiR (s : ByteArray) (hs : s.size ≤ 549755813888) (ha : ∀ u ∈ codes s, u < 128) (w : World) :
    Calls Tryz.prog 19 #[.string s] w fun e w' => e = .returned (.string (textU (codes s))) ∧ Below w.heap.size w w' := by
  have hO := Lib.hid (c_OfR s hs ha w)
  clear ha
  go_enter Tryz.func19, Tryz.ntmps19
  go_wp2_with (go_at_call 48; refine hO.out.mono ?_; rintro e w1 ⟨rfl, hb⟩)
  go_ret
  exact ⟨rfl, hb⟩
end Go.Proofs.YtbakbikilbaafaaGreatDoor
