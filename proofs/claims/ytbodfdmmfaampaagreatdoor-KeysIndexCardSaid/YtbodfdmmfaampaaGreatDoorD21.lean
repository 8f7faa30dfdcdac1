/-
  The walk of the law KeysIndex.
-/
import Derived.Test.YtbodfdmmfaampaaGreatDoorD20
import Derived.Test.YtbodfdmmfaampaaGreatDoorL1
namespace Go.Proofs.YtbodfdmmfaampaaGreatDoor
open Go.RowKit
set_option maxHeartbeats 1000000
set_option maxRecDepth 100000

theorem c_KeysIndexS (s : ByteArray) (hs : s.size ≤ 1000) (i : Nat) (hi : i < 4294967296) (w : World) (hT : Pows w) (hP : P10 w) :
    Calls Tryz.prog 3 #[.string s, .int .u32 (i : Int)] w fun e w' => e = .returned (.bool true) ∧ Below w.heap.size w w' := by
  have hIx := Lib.hid (fun W => c_Index s (by omega) W)
  have hIx4 := Lib.hid (fun W => c_Index4 s (by omega) W)
  have hKO := Lib.hid (fun W => c_KOf i hi W)
  have hO4 := Lib.hid (fun W hT hP => c_Of4 i hi W hT hP)
  have hle : ∀ n, NdOf i n → n ≤ 10 := fun n h => (h.le10 hi).2
  have hone : ∀ n m, NdOf i n → NdOf i m → n = m := fun n m h h' => h.one h'
  have hsz : ∀ n, n ≤ 10 → (textU (dg n i)).size ≤ 1099511627776 := fun n h => by
    have : (textU (dg n i)).size = (bytesU (dg n i)).length := by simp [textU, ByteArray.size]
    rw [this, bytesU_len, dg_len]; omega
  have hUt : ∀ n, U (textU (dg n i)) = dg n i := fun n => U_textU _ (fun u hu => by have := dg_dig n i u hu; omega)
  have hidx : ∀ n, NdOf i n → idxOf (U (textU (dg n i))) = if i = 4294967295 then none else some i := fun n h => by rw [hUt]; exact idx_dg n i h hi
  have hsame : ∀ n, sameK (textU (dg n i)) (textU (dg n i)) 0 0 = true := fun n => by unfold sameK; simp [cmpU_self]
  generalize idxOf (U s) = R at *
  unfold idxV at hIx hIx4
  generalize R.getD 0 = rn at *
  generalize R.isSome = rb at *
  replace hle := Lib.hid hle
  replace hone := Lib.hid hone
  replace hsz := Lib.hid hsz
  replace hidx := Lib.hid hidx
  replace hsame := Lib.hid hsame
  have hi' := Lib.hid hi
  clear hUt hi
  have hbig : ¬ (1000 : Int) < (s.size : Int) := by omega
  clear hs
  go_enter Tryz.func3, Tryz.ntmps3
  go_wp2_with (go_at_call 4; refine (c_awake _).mono ?_; rintro e w1 ⟨rfl, hb1⟩)
  refine (hIx.out _).mono ?_
  rintro e w2 ⟨rfl, hb2⟩
  go_wp2_with fail
  refine (hIx4.out _).mono ?_
  rintro e w3 ⟨rfl, hb3⟩
  have hb3' := hb1.trans ((hb2.trans (hb3.mono hb2.size)).mono hb1.size)
  have n1 : ((rn : Int) != (rn : Int)) = false := by simp
  have n2 : (rb != rb) = false := by simp
  clear hb1 hb2 hb3
  go_wp2_with fail
  refine (hKO.out _).mono ?_
  rintro e w4 ⟨n, rfl, hn, hb4⟩
  have hb4' := hb3'.trans (hb4.mono hb3'.size)
  replace hn := Lib.hid hn
  go_wp2_with fail
  refine (hO4.out _ (hT.keep hb4') (hP.keep hb4')).mono ?_
  rintro e w5 ⟨m, rfl, hm, hb5⟩
  obtain rfl := hone.out n m hn.out hm
  have hb5' := hb4'.trans (hb5.mono hb4'.size)
  have hS := Lib.hid (c_Same4 (textU (dg n i)) (textU (dg n i)) 0 0 (hsz.out n (hle.out n hm)) (hsz.out n (hle.out n hm)) w5)
  rw [hsame.out n] at hS
  unfold keyV at hS
  clear hm hb3' hb4 hb4' hb5
  go_wp2_with fail
  refine hS.out.mono ?_
  rintro e w6 ⟨rfl, hb6⟩
  have hb6' := hb5'.trans (hb6.mono hb5'.size)
  clear hb6 hb5' hS
  go_wp2_with fail
  refine (hKO.out _).mono ?_
  rintro e w7 ⟨m, rfl, hm, hb7⟩
  obtain rfl := hone.out n m hn.out hm
  have hb7' := hb6'.trans (hb7.mono hb6'.size)
  have hI0 := c_Index (textU (dg n i)) (hsz.out n (hle.out n hm)) w7
  rw [hidx.out n hm] at hI0
  clear hm hb6' hb7 hIx hIx4 hKO hO4
  have hfld : ∀ W, (Instr.field 29 (.agg #[.string (textU (dg n i)), .int .i64 0]) 0).run Tryz.prog W = .ok (.string (textU (dg n i))) W := fun W => by kernel_rfl
  by_cases hmax : i = 4294967295
  · rw [if_pos hmax] at hI0
    unfold idxV at hI0
    have hI : Hid (Calls Tryz.prog 5 #[.string (textU (dg n i))] w7 fun e w' => e = .returned (.tuple #[.int .u32 0, .bool false]) ∧ Below w7.heap.size w7 w') := hI0
    have n3 : ((i : Int) == 4294967295) = true := by simp; omega
    clear hI0 hmax
    go_wp2_with (go_at_call 5; refine hI.out.mono ?_; rintro e w8 ⟨rfl, hb8⟩)
    go_ret
    exact ⟨rfl, hb7'.trans (hb8.mono hb7'.size)⟩
  · rw [if_neg hmax] at hI0
    unfold idxV at hI0
    have hI : Hid (Calls Tryz.prog 5 #[.string (textU (dg n i))] w7 fun e w' => e = .returned (.tuple #[.int .u32 (i : Int), .bool true]) ∧ Below w7.heap.size w7 w') := hI0
    have n3 : ((i : Int) == 4294967295) = false := by simp; omega
    have n4 : ((i : Int) == (i : Int)) = true := by simp
    clear hI0 hmax
    go_wp2_with (go_at_call 5; refine hI.out.mono ?_; rintro e w8 ⟨rfl, hb8⟩)
    go_ret
    exact ⟨rfl, hb7'.trans (hb8.mono hb7'.size)⟩
theorem c_KeysIndex (s : ByteArray) (i : Nat) (hi : i < 4294967296) (w : World) (hT : Pows w) (hP : P10 w) :
    Calls Tryz.prog 3 #[.string s, .int .u32 (i : Int)] w fun e w' => e = .returned (.bool true) ∧ Below w.heap.size w w' := by
  rcases Nat.lt_or_ge 1000 s.size with h | h
  · have hbig : (1000 : Int) < (s.size : Int) := by omega
    clear h hi hT hP
    go_enter Tryz.func3, Tryz.ntmps3
    go_wp2_with (go_at_call 4; refine (c_awake _).mono ?_; rintro e w1 ⟨rfl, hb1⟩)
    go_ret
    exact ⟨rfl, hb1⟩
  · exact c_KeysIndexS s h i hi w hT hP
end Go.Proofs.YtbodfdmmfaampaaGreatDoor
