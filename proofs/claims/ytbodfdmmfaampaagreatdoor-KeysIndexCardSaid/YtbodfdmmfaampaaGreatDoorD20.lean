/-
  The contract of the reference's Of.
-/
import Derived.Test.YtbodfdmmfaampaaGreatDoorD19
namespace Go.Proofs.YtbodfdmmfaampaaGreatDoor
open Go.RowKit F64 Ieee
set_option maxHeartbeats 1000000
set_option maxRecDepth 100000

theorem codes_u8s (l : List Nat) (h : ∀ x ∈ l, x < 256) : codes (u8s l) = l := by
  unfold codes u8s
  simp only [List.map_map]
  have : ∀ x ∈ l, (UInt8.toNat ∘ UInt8.ofNat) x = x := fun x hx => by
    have := h x hx
    simp; omega
  rw [List.map_congr_left this, List.map_id']
theorem c_Show3 (i : Nat) (hi : i < 4294967296) (w : World) (hT : Pows w) (hP : P10 w) :
    Calls Tryz.prog 21 #[.float .f64 (floatOfInt .f64 (i : Int))] w fun e w' => ∃ n, e = .returned (.string (textU (dg n i))) ∧ NdOf i n ∧ Below w.heap.size w w' := by
  have hPl : Calls Tryz.prog 36 #[.float .f64 (floatOfInt .f64 (i : Int))] w fun e w' => ∃ n, e = .returned (.string (u8s (dg n i))) ∧ NdOf i n ∧ Below w.heap.size w w' := by
    by_cases h0 : i = 0
    · subst h0
      have e : floatOfInt .f64 ((0 : Nat) : Int) = 0 := by decide +kernel
      rw [e]
      refine (c_Plain0 w).mono ?_
      rintro e w' ⟨rfl, rfl⟩
      exact ⟨1, rfl, .inl ⟨rfl, rfl⟩, Below.refl _ _⟩
    · obtain ⟨n, hn⟩ := nd_ex i (by omega)
      have hlog : 2 ^ i.log2 ≤ i ∧ i < 2 ^ (i.log2 + 1) := ⟨Nat.log2_self_le h0, Nat.lt_log2_self⟩
      have hk : i.log2 + 1 ≤ 32 := by
        rcases Nat.lt_or_ge i.log2 32 with h | h
        · exact h
        · have := Nat.pow_le_pow_right (n := 2) (by decide) h
          have e : (2 : Nat) ^ 32 = 4294967296 := by decide
          omega
      rw [float_of i (i.log2 + 1) (by omega) hk hlog.2 (by simpa using hlog.1)]
      refine (c_Plain i (i.log2 + 1) n (by omega) hk hlog.2 (by simpa using hlog.1) hn ((NdOf.le10 (.inr hn) hi).2) w hT hP).mono ?_
      rintro e w' ⟨rfl, hb⟩
      exact ⟨n, rfl, .inr hn, hb⟩
  generalize floatOfInt .f64 (i : Int) = x at *
  have hPl := Lib.hid hPl
  have hA : ∀ n, n ≤ 10 → ∀ W, Hid (Calls Tryz.prog 10 #[.string (u8s (dg n i))] W fun e w' => e = .returned (.string (textU (dg n i))) ∧ Below W.heap.size W w') := fun n hn W => by
    have h := c_AsciiR (u8s (dg n i)) (by rw [u8s_size, dg_len]; omega) (by rw [codes_u8s _ (fun x hx => by have := dg_dig n i x hx; omega)]; intro u hu; have := dg_dig n i u hu; omega) W
    rw [codes_u8s _ (fun x hx => by have := dg_dig n i x hx; omega)] at h
    exact h
  have hle : ∀ n, NdOf i n → n ≤ 10 := fun n h => (h.le10 hi).2
  replace hA := Lib.hid hA
  replace hle := Lib.hid hle
  clear hi hT hP
  go_enter Tryz.func21, Tryz.ntmps21
  go_wp2_with fail
  refine hPl.out.mono ?_
  rintro e w1 ⟨n, rfl, hn, hb1⟩
  have hA2 := hA.out n (hle.out n hn) w1
  replace hn := Lib.hid hn
  go_wp2_with fail
  refine hA2.out.mono ?_
  rintro e w2 ⟨rfl, hb2⟩
  go_wp2_with fail
  go_ret
  exact ⟨n, rfl, hn.out, hb1.trans (hb2.mono hb1.size)⟩
theorem c_Of4 (i : Nat) (hi : i < 4294967296) (w : World) (hT : Pows w) (hP : P10 w) :
    Calls Tryz.prog 9 #[.int .u32 (i : Int)] w fun e w' => ∃ n, e = .returned (.agg #[.string (textU (dg n i)), .int .i64 0]) ∧ NdOf i n ∧ Below w.heap.size w w' := by
  have hb0 := (Below.refl w.heap.size w).alloc (Nat.le_refl _) (.cells #[.string ⟨#[]⟩, .int .i64 0] 29)
  have hS := Lib.hid (c_Show3 i hi (w.alloc (.cells #[.string ⟨#[]⟩, .int .i64 0] 29)) (hT.keep hb0) (hP.keep hb0))
  have hcv := fun w => run_convert_int_float (P := Tryz.prog) (w := w) 23 47 .u32 .f64 (i : Int) (by kernel_rfl) Tryz.underlying47
  generalize floatOfInt .f64 (i : Int) = x at *
  clear hi hT hP hb0
  go_enter Tryz.func9, Tryz.ntmps9
  go_wp2_with fail
  refine hS.out.mono ?_
  rintro e w3 ⟨k, rfl, hn, hb3'⟩
  replace hn := Lib.hid hn
  have hh := (hb3'.block w.heap.size (by simp)).trans (heap_alloc_new w _)
  have c0 : w3.cell? ⟨w.heap.size, 0, none⟩ = some (.string ⟨#[]⟩) := by rw [cell_of_row w3 w.heap.size 0 _ _ _ hh]; rfl
  have c1 : w3.cell? ⟨w.heap.size, 1, none⟩ = some (.int .i64 0) := by rw [cell_of_row w3 w.heap.size 1 _ _ _ hh]; rfl
  have f0 : w3.frozen? ⟨w.heap.size, 0, none⟩ = false := by simp [World.frozen?, hh]
  have f1 : w3.frozen? ⟨w.heap.size, 1, none⟩ = false := by simp [World.frozen?, hh]
  have h2 := Lib.hid (heap_setCell_same (w3.setCell ⟨w.heap.size, 0, none⟩ (.string (textU (dg k i)))) w.heap.size 1 _ 29 (.int .i64 0) (heap_setCell_same w3 w.heap.size 0 _ 29 (.string (textU (dg k i))) hh))
  have hbl := Lib.hid (((Below.refl w.heap.size w).alloc (Nat.le_refl _) (.cells #[.string ⟨#[]⟩, .int .i64 0] 29)).trans (hb3'.mono (by simp)))
  clear hb3' hh
  go_wp2_with fail
  refine bodyPost_ret (results_cell_row rfl _ _ w.heap.size 29 #[.string (textU (dg k i)), .int .i64 0] (0, 0) _ rfl h2.out Tryz.underlying29 rfl infoKeyRow) rfl ?_
  exact ⟨k, rfl, hn.out, (hbl.out.setCell (Nat.le_refl _) _).setCell (Nat.le_refl _) _⟩
end Go.Proofs.YtbodfdmmfaampaaGreatDoor
