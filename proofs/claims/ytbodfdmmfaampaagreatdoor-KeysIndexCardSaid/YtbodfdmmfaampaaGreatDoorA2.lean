/-
  The contracts of the reference's Of, Ascii and Name, of texts of bytes below 128.
-/
import Derived.Test.YtbodfdmmfaampaaGreatDoorA1
namespace Go.Proofs.YtbodfdmmfaampaaGreatDoor
open Go.RowKit Go.Shelf Go.Lib Go.Sort Go.Proofs
set_option maxHeartbeats 400000
set_option maxRecDepth 100000

theorem c_point (s : ByteArray) (b : Nat) (h0 : 0 < s.size) (he : ub s 0 = b) (hb : b < 128) (w : World) :
    Calls Tryz.prog 37 #[.string s] w fun e w' => e = .returned (.tuple #[.int .i32 (b : Int), .int .i64 1]) ∧ w' = w := by
  have e0 : (s[0]'h0).toNat = b := by rw [← he, ub_get s 0 h0]
  have hb' : (b : Int) < 128 := by omega
  clear he
  go_enter Tryz.func37, Tryz.ntmps37
  go_wp2
  go_ret2
  exact ⟨rfl, rfl⟩
theorem c_Point (r : Nat) (hr : r < 65536) (w : World) :
    Calls Tryz.prog 38 #[.int .i32 (r : Int)] w fun e w' => e = .returned (.slice (some ⟨w.heap.size, 0, none⟩) 1 1) ∧ w' = w.alloc (.cells #[.int .u16 (r : Int)] 42) := by
  have k1 : ¬ (r : Int) < 0 := by omega
  have k2 : ¬ (1114111 : Int) < (r : Int) := by omega
  have k3 : (r : Int) < 65536 := by omega
  have k4 : IntKind.u16.wrap (r : Int) = (r : Int) := by simp [IntKind.wrap, IntKind.bits, IntKind.signed]; omega
  clear hr
  go_enter Tryz.func38, Tryz.ntmps38
  go_wp2
  go_ret
  exact ⟨rfl, rfl⟩
def codes (s : ByteArray) : List Nat := s.data.toList.map UInt8.toNat
theorem codes_len (s : ByteArray) : (codes s).length = s.size := by simp [codes]
theorem codes_get (s : ByteArray) (i : Nat) (h : i < s.size) : (codes s)[i]? = some (ub s i) := by
  have : i < s.data.toList.length := by simpa using h
  unfold codes ub
  rw [List.getElem?_map, List.getElem?_eq_getElem this, List.getD_eq_getElem?_getD, List.getElem?_eq_getElem this]
  rfl
theorem ub_extract (s : ByteArray) (i : Nat) (h : i < s.size) : ub (s.extract i s.size) 0 = ub s i := by
  rw [ub_get _ _ (by simp; omega), ub_get _ _ h, ByteArray.getElem_extract]
  simp
theorem c_OfR (s : ByteArray) (hs : s.size ≤ 549755813888) (ha : ∀ u ∈ codes s, u < 128) (w : World) :
    Calls Tryz.prog 22 #[.string s] w fun e w' => e = .returned (.tuple #[.string (textU (codes s)), .int .i64 0, .int .i64 0]) ∧ Below w.heap.size w w' := by
  obtain ⟨i0, hi0, hz0, hz1, hz2⟩ := info_parts infoU16
  have hget : ∀ k, k < s.size → ∃ u, u < 128 ∧ 0 < (s.extract k s.size).size ∧ ub (s.extract k s.size) 0 = u ∧ u16s ((codes s).take (k + 1)) = u16s ((codes s).take k) ++ [.int .u16 (u : Int)] := by
    intro k hk
    refine ⟨ub s k, ha _ (List.mem_of_getElem? (codes_get s k hk)), by simp; omega, ub_extract s k hk, ?_⟩
    rw [List.take_add_one, codes_get s k hk]
    simp [u16s]
  have hend : (codes s).take s.size = codes s := by rw [← codes_len s, List.take_length]
  have h0 : u16s ((codes s).take 0) = [] := rfl
  have hM := fun v w h => Lib.hid (c_MakeR (codes s) v (fun u hu => by have := ha u hu; omega) (by rw [codes_len]; exact hs) w h)
  have hcl := codes_len s
  generalize codes s = C at *
  replace hget := Lib.hid hget
  replace hend := Lib.hid hend
  replace h0 := Lib.hid h0
  replace hcl := Lib.hid hcl
  clear ha
  go_enter Tryz.func22, Tryz.ntmps22
  go_wp2
  go_loopw [5, 6] (fun vb vk wr => ∃ k : Nat, k ≤ s.size ∧ vk = .int .i64 (k : Int) ∧ wr.ownsRow w.heap.size 42 1 vb k (u16s (C.take k)) ∧ Below w.heap.size w wr) (fun _ vk _ => s.size - (intOf vk).toNat)
  case atStart => exact ⟨0, by omega, rfl, ⟨by rw [h0.out]; rfl, .inl ⟨rfl, rfl⟩⟩, Below.refl _ _⟩
  case round =>
    obtain ⟨k, hk, rfl, hown, hbel⟩ := hrel
    rcases Nat.lt_or_ge k s.size with hlt | hge
    · obtain ⟨u, hu, hx0, hx1, hx2⟩ := hget.out k hlt
      have hP := fun y => Lib.hid (c_point (s.extract k s.size) u hx0 hx1 hu y)
      have hx2 := Lib.hid hx2
      have hQ := fun y => Lib.hid (c_Point u (by omega) y)
      clear hx0 hx1
      have hsz := hbel.size
      go_wp2_with (first | (go_at_call 37; refine (hP _).out.mono ?_; rintro e w1 ⟨rfl, rfl⟩) | (go_at_call 38; refine (hQ _).out.mono ?_; rintro e w1 ⟨rfl, rfl⟩) | (at_builtin; refine wpList_append_lies _ (by rfl) _ _ _ (by rfl) w.heap.size 42 i0 _ 1 2 Tryz.underlying40 hi0 hz0 hz1 hz2 rfl (by omega) u5 k (u16s (C.take k)) (by rfl) (hown.alloc _) ⟨_, 0, none⟩ 1 1 [.int .u16 (u : Int)] (by rfl) (by rfl) (World.news_of_block (cs := #[.int .u16 (u : Int)]) (t := 42) (fr := (0, 0)) (by exact heap_alloc_new _ _)) (by simp [Value.oneCell']) (by omega) (by unfold maxLen; omega) (by omega) (by simp; omega) _ rfl ?_; intro gg cap w2 hown2 hgrow hat hlt2))
      have hown3 : w2.ownsRow w.heap.size 42 1 (.slice (some ⟨gg, 0, none⟩) (k + 1) cap) (k + 1) (u16s (C.take (k + 1))) := by
        rw [hx2.out]; exact hown2
      have hbel2 : Below w.heap.size w w2 := (hbel.alloc hsz _).grown hgrow (by simp; omega) (own_base hown)
      clear hown2 hgrow
      go_roundw
      case rel => exact ⟨k + 1, by omega, by go_num, hown3, hbel2⟩
      case measure => simp [intOf]; omega
    · obtain rfl : k = s.size := by omega
      rw [hend.out] at hown
      have hM2 := Lib.hid ((hM u5 wr (Rd_own hown)).out)
      clear hown
      go_wp2_with (go_at_call 39; refine hM2.out.mono ?_; rintro e w1 ⟨rfl, hb⟩)
      go_ret3
      exact ⟨rfl, below_after hbel hb⟩
theorem c_AsciiR (s : ByteArray) (hs : s.size ≤ 549755813888) (ha : ∀ u ∈ codes s, u < 128) (w : World) :
    Calls Tryz.prog 10 #[.string s] w fun e w' => e = .returned (.string (textU (codes s))) ∧ Below w.heap.size w w' := by
  have hO := Lib.hid (c_OfR s hs ha w)
  clear ha
  go_enter Tryz.func10, Tryz.ntmps10
  go_wp2_with (go_at_call 22; refine hO.out.mono ?_; rintro e w1 ⟨rfl, hb⟩)
  go_ret
  exact ⟨rfl, hb⟩
theorem infoKeyRow : (Tryz.prog.info? 29).map (·.size) = some 2 := by kernel_rfl
theorem c_Name4 (s : ByteArray) (hs : s.size ≤ 549755813888) (ha : ∀ u ∈ codes s, u < 128) (w : World) :
    Calls Tryz.prog 12 #[.string s] w fun e w' => e = .returned (keyV (textU (codes s)) 0) ∧ Below w.heap.size w w' := by
  have hO := Lib.hid (c_AsciiR s hs ha (w.alloc (.cells #[.string ⟨#[]⟩, .int .i64 0] 29)))
  clear ha
  unfold keyV
  go_enter Tryz.func12, Tryz.ntmps12
  go_wp2_with fail
  refine hO.out.mono ?_
  rintro e w1 ⟨rfl, hb⟩
  have hh := (hb.block w.heap.size (by simp)).trans (heap_alloc_new w _)
  have c0 : w1.cell? ⟨w.heap.size, 0, none⟩ = some (.string ⟨#[]⟩) := by rw [cell_of_row w1 w.heap.size 0 _ _ _ hh]; rfl
  have c1 : w1.cell? ⟨w.heap.size, 1, none⟩ = some (.int .i64 0) := by rw [cell_of_row w1 w.heap.size 1 _ _ _ hh]; rfl
  have f0 : w1.frozen? ⟨w.heap.size, 0, none⟩ = false := by simp [World.frozen?, hh]
  have f1 : w1.frozen? ⟨w.heap.size, 1, none⟩ = false := by simp [World.frozen?, hh]
  have h2 := Lib.hid (heap_setCell_same (w1.setCell ⟨w.heap.size, 0, none⟩ (.string (textU (codes s)))) w.heap.size 1 _ 29 (.int .i64 0) (heap_setCell_same w1 w.heap.size 0 _ 29 (.string (textU (codes s))) hh))
  have hbel := Lib.hid ((Below.refl w.heap.size w).alloc (Nat.le_refl _) (.cells #[.string ⟨#[]⟩, .int .i64 0] 29) |>.trans (hb.mono (by simp)))
  clear hb hh
  go_wp2
  refine bodyPost_ret (results_cell_row rfl _ _ w.heap.size 29 #[.string (textU (codes s)), .int .i64 0] (0, 0) _ rfl h2.out Tryz.underlying29 rfl infoKeyRow) rfl ?_
  exact ⟨rfl, (hbel.out.setCell (Nat.le_refl _) _).setCell (Nat.le_refl _) _⟩
end Go.Proofs.YtbodfdmmfaampaaGreatDoor
