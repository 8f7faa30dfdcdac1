/-
  The contract of Atoi at a numeral of at most 18 bytes (turned from the guide's worked text).
-/
import Derived.Test.YtbodfdmmfaampaaGreatDoorD12
import Derived.Lib.Strings
import Derived.Lib.Walk
import Derived.Lib.ConvBytes
import Derived.Lib.Atoi
import Derived.Lib.ItoaWalk
import Derived.Laws.Strings3
import Derived.BigCall
import Derived.BigGuard
namespace Go.Proofs.YtbodfdmmfaampaaGreatDoor
open Go.RowKit
set_option maxHeartbeats 6400000
set_option maxRecDepth 100000

theorem below_freeze' {B : Nat} {a w : World} (h : Below B a w) {p : Addr} (hp : B ≤ p.block) (n : Nat) : Below B a (w.freeze p n) := by
  unfold World.freeze
  split
  · exact h
  · refine ⟨h.os, h.tape, h.output, by simpa using h.size, fun k hk => ?_⟩
    rw [← h.block k hk]
    simp only [Array.getElem?_modify]
    rw [if_neg (by omega)]
theorem c_AtoiI (s : ByteArray) (n : Int) (hl : s.size ≤ 18) (h : Lib.atoi s.data.toList = some n) (w : World) :
    Calls Tryz.prog 54 #[.string s] w fun e w' => e = .returned (.tuple #[.int .i64 n, .nilIface]) ∧ ∃ t, w' = Lib.bytesWorld w 5 t := by
  obtain ⟨b0, r, hL, hcase⟩ := Lib.atoi_cases h
  clear h
  have hsz : s.size = r.length + 1 := by rw [Lib.size_eq, hL]; rfl
  have hpos : 0 < s.size := by omega
  rcases hcase with hcase | hcase | hcase
  · -- '-'
    obtain ⟨rfl, m, hr, hm, rfl⟩ := hcase
    have hs0 : s[0]'hpos = 45 := by have := Lib.getD_at s 0 hpos; rw [hL] at this; exact this
    have hrl : 1 ≤ r.length := by cases r with | nil => exact absurd rfl hr | cons _ _ => simp
    have hsl : ∀ W, (Instr.slice 9 (.string s) (some (.int .i64 1)) none none).run Tryz.prog W = .ok (.string (s.extract 1 s.size)) W := fun W => by
      rw [run_slice_string_from_if W 9 s .i64 _ Tryz.underlying9, if_pos ⟨by omega, by omega⟩]
      rfl
    have htl : (s.extract 1 s.size).data.toList = r := by
      rw [Lib.extract_data, hL, List.drop_succ_cons, List.drop_zero, List.take_of_length_le (by omega)]
    have hts : (s.extract 1 s.size).size = s.size - 1 := by rw [Lib.size_eq, htl]; omega
    generalize s.extract 1 s.size = t at hsl htl hts
    rw [← htl] at hm
    clear hr htl hL
    have hcv := Lib.run_convert_string_bytes (P := Tryz.prog) w 9 67 5 t (u := .string) Tryz.underlying9 Tryz.underlying67 Tryz.underlying5
    have hB : ∀ j, j < t.size → (Lib.bytesWorld w 5 t).cell? ⟨w.heap.size, j, none⟩ = some (.int .u8 (t.data.toList.getD j 0).toNat) := fun j hj => Lib.bytesWorld_cell w 5 t j hj
    obtain ⟨W1, hW1⟩ : ∃ W1, W1 = Lib.bytesWorld w 5 t := ⟨_, rfl⟩
    rw [← hW1] at hcv hB
    have HW := Lib.hid hW1
    have HB := Lib.hid hB
    have hm18 := Lib.decFrom_lt18 hm (by rw [← Lib.size_eq]; omega)
    have HM := Lib.hid hm
    clear hW1 hB hm
    go_enter Tryz.func54, Tryz.ntmps54
    go_wp2
    go_loop [49, 6] (fun vi vn => ∃ (k acc : Nat), k ≤ t.size ∧ vi = .int .i64 k ∧ vn = .int .i64 acc ∧ Hid (Lib.decFrom 0 (t.data.toList.take k) = some acc)) (fun vi _ => t.size - (RowKit.intOf vi).toNat)
    case atStart => exact ⟨0, 0, Nat.zero_le _, rfl, rfl, rfl⟩
    case round =>
      obtain ⟨k, acc, hk, rfl, rfl, hacc⟩ := hrel
      by_cases hkn : k < t.size
      · obtain ⟨x, hx⟩ : ∃ x, x = t.data.toList.getD k 0 := ⟨_, rfl⟩
        have hxk : t.data.toList[k]? = some x := by
          rw [hx, List.getD, List.getElem?_eq_getElem (by rw [← Lib.size_eq]; exact hkn)]
          rfl
        have hc1 : W1.cell? ⟨w.heap.size, k, none⟩ = some (.int .u8 x.toNat) := by rw [hx]; exact HB.out k hkn
        obtain ⟨dv, hdv⟩ := Lib.digit_of_decFrom _ 0 m HM.out k x hxk
        obtain ⟨h48, h57, hde⟩ := Lib.digitVal_eq hdv
        have hlt := Lib.decFrom_take_lt hacc.out (by omega)
        have Hxk := Lib.hid hxk
        have Hdv := Lib.hid hdv
        clear hx hxk hdv
        go_wp2
        go_round
        case rel => exact ⟨k + 1, acc * 10 + dv, by omega, by go_num, by first | go_num | (congr 1; omega), Lib.decFrom_take _ k 0 acc x dv hacc.out Hxk.out Hdv.out⟩
        case measure => simp [RowKit.intOf]; omega
      · have hke : k = t.size := by omega
        subst hke
        have hfin : acc = m := by
          have h1 := hacc.out
          rw [List.take_of_length_le (by rw [← Lib.size_eq]; exact Nat.le_refl _), HM.out] at h1
          exact (Option.some.inj h1).symm
        subst hfin
        go_wp2
        go_ret2
        exact ⟨by first | rfl | (congr 3; omega), t, HW.out⟩
  · -- '+'
    obtain ⟨rfl, m, hr, hm, rfl⟩ := hcase
    have hs0 : s[0]'hpos = 43 := by have := Lib.getD_at s 0 hpos; rw [hL] at this; exact this
    have hrl : 1 ≤ r.length := by cases r with | nil => exact absurd rfl hr | cons _ _ => simp
    have hsl : ∀ W, (Instr.slice 9 (.string s) (some (.int .i64 1)) none none).run Tryz.prog W = .ok (.string (s.extract 1 s.size)) W := fun W => by
      rw [run_slice_string_from_if W 9 s .i64 _ Tryz.underlying9, if_pos ⟨by omega, by omega⟩]
      rfl
    have htl : (s.extract 1 s.size).data.toList = r := by
      rw [Lib.extract_data, hL, List.drop_succ_cons, List.drop_zero, List.take_of_length_le (by omega)]
    have hts : (s.extract 1 s.size).size = s.size - 1 := by rw [Lib.size_eq, htl]; omega
    generalize s.extract 1 s.size = t at hsl htl hts
    rw [← htl] at hm
    clear hr htl hL
    have hcv := Lib.run_convert_string_bytes (P := Tryz.prog) w 9 67 5 t (u := .string) Tryz.underlying9 Tryz.underlying67 Tryz.underlying5
    have hB : ∀ j, j < t.size → (Lib.bytesWorld w 5 t).cell? ⟨w.heap.size, j, none⟩ = some (.int .u8 (t.data.toList.getD j 0).toNat) := fun j hj => Lib.bytesWorld_cell w 5 t j hj
    obtain ⟨W1, hW1⟩ : ∃ W1, W1 = Lib.bytesWorld w 5 t := ⟨_, rfl⟩
    rw [← hW1] at hcv hB
    have HW := Lib.hid hW1
    have HB := Lib.hid hB
    have hm18 := Lib.decFrom_lt18 hm (by rw [← Lib.size_eq]; omega)
    have HM := Lib.hid hm
    clear hW1 hB hm
    go_enter Tryz.func54, Tryz.ntmps54
    go_wp2
    go_loop [49, 6] (fun vi vn => ∃ (k acc : Nat), k ≤ t.size ∧ vi = .int .i64 k ∧ vn = .int .i64 acc ∧ Hid (Lib.decFrom 0 (t.data.toList.take k) = some acc)) (fun vi _ => t.size - (RowKit.intOf vi).toNat)
    case atStart => exact ⟨0, 0, Nat.zero_le _, rfl, rfl, rfl⟩
    case round =>
      obtain ⟨k, acc, hk, rfl, rfl, hacc⟩ := hrel
      by_cases hkn : k < t.size
      · obtain ⟨x, hx⟩ : ∃ x, x = t.data.toList.getD k 0 := ⟨_, rfl⟩
        have hxk : t.data.toList[k]? = some x := by
          rw [hx, List.getD, List.getElem?_eq_getElem (by rw [← Lib.size_eq]; exact hkn)]
          rfl
        have hc1 : W1.cell? ⟨w.heap.size, k, none⟩ = some (.int .u8 x.toNat) := by rw [hx]; exact HB.out k hkn
        obtain ⟨dv, hdv⟩ := Lib.digit_of_decFrom _ 0 m HM.out k x hxk
        obtain ⟨h48, h57, hde⟩ := Lib.digitVal_eq hdv
        have hlt := Lib.decFrom_take_lt hacc.out (by omega)
        have Hxk := Lib.hid hxk
        have Hdv := Lib.hid hdv
        clear hx hxk hdv
        go_wp2
        go_round
        case rel => exact ⟨k + 1, acc * 10 + dv, by omega, by go_num, by first | go_num | (congr 1; omega), Lib.decFrom_take _ k 0 acc x dv hacc.out Hxk.out Hdv.out⟩
        case measure => simp [RowKit.intOf]; omega
      · have hke : k = t.size := by omega
        subst hke
        have hfin : acc = m := by
          have h1 := hacc.out
          rw [List.take_of_length_le (by rw [← Lib.size_eq]; exact Nat.le_refl _), HM.out] at h1
          exact (Option.some.inj h1).symm
        subst hfin
        go_wp2
        go_ret2
        exact ⟨rfl, t, HW.out⟩
  · -- a digit at once
    obtain ⟨hn45, hn43, m, hm, rfl⟩ := hcase
    have hs0 : s[0]'hpos = b0 := by have := Lib.getD_at s 0 hpos; rw [hL] at this; exact this
    have h45 : ((b0.toNat : Int) == 45) = false := beq_eq_false_iff_ne.2 fun e => hn45 (UInt8.toNat_inj.1 (by show b0.toNat = 45; omega))
    have h43 : ((b0.toNat : Int) == 43) = false := beq_eq_false_iff_ne.2 fun e => hn43 (UInt8.toNat_inj.1 (by show b0.toNat = 43; omega))
    rw [← hL] at hm
    clear hL hn45 hn43
    have hcv := Lib.run_convert_string_bytes (P := Tryz.prog) w 9 67 5 s (u := .string) Tryz.underlying9 Tryz.underlying67 Tryz.underlying5
    have hB : ∀ j, j < s.size → (Lib.bytesWorld w 5 s).cell? ⟨w.heap.size, j, none⟩ = some (.int .u8 (s.data.toList.getD j 0).toNat) := fun j hj => Lib.bytesWorld_cell w 5 s j hj
    obtain ⟨W1, hW1⟩ : ∃ W1, W1 = Lib.bytesWorld w 5 s := ⟨_, rfl⟩
    rw [← hW1] at hcv hB
    have HW := Lib.hid hW1
    have HB := Lib.hid hB
    have hm18 := Lib.decFrom_lt18 hm (by rw [← Lib.size_eq]; omega)
    have HM := Lib.hid hm
    clear hW1 hB hm
    go_enter Tryz.func54, Tryz.ntmps54
    go_wp2
    go_loop [49, 6] (fun vi vn => ∃ (k acc : Nat), k ≤ s.size ∧ vi = .int .i64 k ∧ vn = .int .i64 acc ∧ Hid (Lib.decFrom 0 (s.data.toList.take k) = some acc)) (fun vi _ => s.size - (RowKit.intOf vi).toNat)
    case atStart => exact ⟨0, 0, Nat.zero_le _, rfl, rfl, rfl⟩
    case round =>
      obtain ⟨k, acc, hk, rfl, rfl, hacc⟩ := hrel
      by_cases hkn : k < s.size
      · obtain ⟨x, hx⟩ : ∃ x, x = s.data.toList.getD k 0 := ⟨_, rfl⟩
        have hxk : s.data.toList[k]? = some x := by
          rw [hx, List.getD, List.getElem?_eq_getElem (by rw [← Lib.size_eq]; exact hkn)]
          rfl
        have hc1 : W1.cell? ⟨w.heap.size, k, none⟩ = some (.int .u8 x.toNat) := by rw [hx]; exact HB.out k hkn
        obtain ⟨dv, hdv⟩ := Lib.digit_of_decFrom _ 0 m HM.out k x hxk
        obtain ⟨h48, h57, hde⟩ := Lib.digitVal_eq hdv
        have hlt := Lib.decFrom_take_lt hacc.out (by omega)
        have Hxk := Lib.hid hxk
        have Hdv := Lib.hid hdv
        clear hx hxk hdv
        go_wp2
        go_round
        case rel => exact ⟨k + 1, acc * 10 + dv, by omega, by go_num, by first | go_num | (congr 1; omega), Lib.decFrom_take _ k 0 acc x dv hacc.out Hxk.out Hdv.out⟩
        case measure => simp [RowKit.intOf]; omega
      · have hke : k = s.size := by omega
        subst hke
        have hfin : acc = m := by
          have h1 := hacc.out
          rw [List.take_of_length_le (by rw [← Lib.size_eq]; exact Nat.le_refl _), HM.out] at h1
          exact (Option.some.inj h1).symm
        subst hfin
        go_wp2
        go_ret2
        exact ⟨rfl, s, HW.out⟩




set_option maxRecDepth 100000 in

theorem c_Atoi (s : ByteArray) (n : Int) (hl : s.size ≤ 18) (h : Lib.atoi s.data.toList = some n) (w : World) :
    Calls Tryz.prog 46 #[.string s] w fun e w' => e = .returned (.tuple #[.int .i64 n, .nilIface]) ∧ Below w.heap.size w w' := by
  have hA := Lib.hid (c_AtoiI s n hl h w)
  clear h hl
  go_enter Tryz.func46, Tryz.ntmps46
  go_wp2_with fail
  refine hA.out.mono ?_
  rintro e w2 ⟨rfl, t, rfl⟩
  have hb : Below w.heap.size w (Lib.bytesWorld w 5 t) := below_freeze' ((Below.refl _ w).drew.alloc (Nat.le_refl _) _) (Nat.le_refl _) _
  go_wp2_with fail
  go_ret2
  exact ⟨rfl, hb⟩
end Go.Proofs.YtbodfdmmfaampaaGreatDoor
