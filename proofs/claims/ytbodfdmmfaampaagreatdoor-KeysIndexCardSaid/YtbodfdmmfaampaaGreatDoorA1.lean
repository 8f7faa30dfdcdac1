/-
  The contract of the reference's Make: the text of units.
-/
import Derived.Test.YtbodfdmmfaampaaGreatDoorK2
import Derived.Laws.IdiomStrings
import Derived.Laws.BytesArg
namespace Go.Proofs.YtbodfdmmfaampaaGreatDoor
open Go.RowKit Go.Shelf Go.Lib Go.Sort Go.Proofs
set_option maxHeartbeats 400000
set_option maxRecDepth 100000

def byteU (u : Nat) : List UInt8 := [UInt8.ofNat (u / 256), UInt8.ofNat (u % 256)]
def bytesU (us : List Nat) : List UInt8 := us.flatMap byteU
def textU (us : List Nat) : ByteArray := ⟨(bytesU us).toArray⟩
def cellsB (l : List UInt8) : List Value := l.map fun b => .int .u8 (b.toNat : Int)
theorem bytesU_len (us : List Nat) : (bytesU us).length = 2 * us.length := by
  induction us with
  | nil => rfl
  | cons u us ih => simp only [bytesU, List.flatMap_cons, List.length_append, List.length_cons] at ih ⊢; rw [ih]; simp [byteU]; omega
theorem bytesU_snoc (us : List Nat) (k u : Nat) (h : us[k]? = some u) : bytesU (us.take (k + 1)) = bytesU (us.take k) ++ byteU u := by
  unfold bytesU
  rw [List.take_add_one, h]; simp
theorem infoU8 : (Tryz.prog.info? 5).map (fun i => (i.zero, i.size, i.bytes)) = some (some (.int .u8 0), 1, 1) := by kernel_rfl
theorem c_MakeR (us : List Nat) (v : Value) (hus : ∀ u ∈ us, u < 65536) (hl : us.length ≤ 549755813888) (w : World) (h : Rd w.heap.size w v (u16s us)) :
    Calls Tryz.prog 39 #[v] w fun e w' => e = .returned (.string (textU us)) ∧ Below w.heap.size w w' := by
  obtain ⟨i0, hi0, hz0, hz1, hz2⟩ := info_parts infoU8
  obtain ⟨p, c, rfl, hcell⟩ := h
  have hlen : (u16s us).length = us.length := by simp [u16s]
  rw [hlen] at hcell ⊢
  have hget : ∀ k, k < us.length → ∃ u g, us[k]? = some u ∧ u < 65536 ∧ p = some ⟨g, 0, none⟩ ∧ ∀ y, Below w.heap.size w y → y.cell? ⟨g, k, none⟩ = some (.int .u16 (u : Int)) := by
    intro k hk
    have hx : us[k]? = some us[k] := List.getElem?_eq_getElem hk
    obtain ⟨g, g1, g2, g3, g4⟩ := hcell k (.int .u16 (us[k] : Int)) (by simp [u16s, hk])
    refine ⟨us[k], g, hx, hus _ (List.getElem_mem hk), g2, fun y hy => ?_⟩
    rw [hy.cell (p := ⟨g, k, none⟩) (by exact g1)]
    exact g4
  have hsn := bytesU_snoc us
  have hbl : ∀ k, (bytesU (us.take k)).length = 2 * (us.take k).length := fun k => bytesU_len _
  have hend : bytesU (us.take us.length) = bytesU us := by rw [List.take_length]
  have h0 : bytesU (us.take 0) = [] := rfl
  unfold textU
  generalize bytesU us = E at *
  generalize hF : (fun k => bytesU (us.take k)) = F at *
  have hF' : ∀ k, bytesU (us.take k) = F k := fun k => by rw [← hF]
  simp only [hF'] at hsn hbl hend h0
  have hFl : ∀ k, k ≤ us.length → (F k).length = 2 * k := fun k hk => by rw [hbl, List.length_take]; omega
  clear hcell hlen hus hF hF' hbl
  generalize us.length = n at *
  replace hget := Lib.hid hget
  replace hsn := Lib.hid hsn
  replace hend := Lib.hid hend
  replace h0 := Lib.hid h0
  replace hFl := Lib.hid hFl
  go_enter Tryz.func39, Tryz.ntmps39
  go_wp2
  go_loopw [3, 8] (fun vb vk wr => ∃ k : Nat, k ≤ n ∧ vk = .int .i64 (k : Int) ∧ wr.ownsRow w.heap.size 5 1 vb (2 * k) (cellsB (F k)) ∧ Below w.heap.size w wr) (fun _ vk _ => n - (intOf vk).toNat)
  case atStart => exact ⟨0, by omega, rfl, ⟨by rw [h0.out]; rfl, .inl ⟨rfl, rfl⟩⟩, Below.refl _ _⟩
  case round =>
    obtain ⟨k, hk, rfl, hown, hbel⟩ := hrel
    rcases Nat.lt_or_ge k n with hlt | hge
    · obtain ⟨u, g, hu, hu2, rfl, hy⟩ := hget.out k hlt
      have d1 := hy wr hbel
      have hs := Lib.hid (hsn.out k u hu)
      clear hu hy
      have hk2 := Lib.hid (hFl.out k hk)
      have hcB : cellsB (F k) ++ [.int .u8 ((u : Int) / 256), .int .u8 ((u : Int) % 256)] = cellsB (F (k + 1)) := by
        rw [hs.out]
        simp only [cellsB, List.map_append, byteU, List.map_cons, List.map_nil]
        congr 2
        · congr 1
          simp; omega
        · congr 2
          simp
      replace hcB := Lib.hid hcB
      go_wp2_with (at_builtin; refine wpList_append_lies _ (by rfl) _ _ _ (by rfl) w.heap.size 5 i0 _ 1 1 Tryz.underlying67 hi0 hz0 hz1 hz2 rfl (by omega) u3 (2 * k) (cellsB (F k)) (by rfl) (hown.alloc _) ⟨wr.heap.size, 0, none⟩ 2 2 [.int .u8 ((u : Int) / 256), .int .u8 ((u : Int) % 256)] (by rfl) (by rfl) (World.news_of_block (cs := #[.int .u8 ((u : Int) / 256), .int .u8 ((u : Int) % 256)]) (t := 5) (fr := (0, 0)) (by exact heap_alloc_new wr _)) (by simp [Value.oneCell']) (by omega) (by unfold maxLen; omega) (by omega) (by have := hbel.size; simp; omega) (wr.heap.size + 1) (by simp) ?_; intro gg cap w2 hown2 hgrow hat hlt2)
      have hown3 : w2.ownsRow w.heap.size 5 1 (.slice (some ⟨gg, 0, none⟩) (2 * k + 2) cap) (2 * (k + 1)) (cellsB (F (k + 1))) := by
        rw [← hcB.out]; exact hown2
      have hbel2 : Below w.heap.size w w2 := (hbel.alloc hbel.size _).grown hgrow (by have := hbel.size; simp; omega) (own_base hown)
      clear hown2 hgrow
      go_roundw
      case rel => exact ⟨k + 1, by omega, by go_num, hown3, hbel2⟩
      case measure => simp [intOf]; omega
    · obtain rfl : k = n := by omega
      have hE := hend.out
      have hkl := hFl.out k hk
      have hcv : (convert 67 22 u3).run Tryz.prog wr = .ok (.string ⟨E.toArray⟩) wr := by
        rw [hE] at hown hkl
        rcases Nat.eq_zero_or_pos k with h1 | h1
        · subst h1
          have hE0 : E = [] := List.length_eq_zero_iff.1 (by omega)
          subst hE0
          rcases hown with ⟨_, ⟨rfl, _⟩ | ⟨g, cap, cur, rfl, _⟩⟩
          · exact run_convert_bytes_nil (P := Tryz.prog) wr 67 5 Tryz.underlying67 Tryz.underlying5 0 0 22 Tryz.underlying22
          · exact run_convert_bytes_back (P := Tryz.prog) wr 67 22 5 ⟨g, 0, none⟩ cap [] Tryz.underlying67 Tryz.underlying5 Tryz.underlying22 (fun j hj => by simp at hj)
        · obtain ⟨g, cap, rfl, _, _⟩ := hown.form (by omega)
          have hc := World.ownsRow.cells hown (g := g) rfl
          rw [← hkl]
          refine run_convert_bytes_back (P := Tryz.prog) wr 67 22 5 ⟨g, 0, none⟩ cap E Tryz.underlying67 Tryz.underlying5 Tryz.underlying22 (fun j hj => hc j _ ?_)
          simp [cellsB, hj]
      clear hown hkl hE
      go_wp2
      go_ret
      exact ⟨rfl, hbel⟩
end Go.Proofs.YtbodfdmmfaampaaGreatDoor
