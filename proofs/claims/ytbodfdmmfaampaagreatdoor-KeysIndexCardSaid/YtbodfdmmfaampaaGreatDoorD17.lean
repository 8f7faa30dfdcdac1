/-
  Contracts of put and Make: the text of units.
-/
import Derived.Test.YtbodfdmmfaampaaGreatDoorD16
import Derived.Test.YtbodfdmmfaampaaGreatDoorA1
namespace Go.Proofs.YtbodfdmmfaampaaGreatDoor
open Go.RowKit
set_option maxHeartbeats 1000000
set_option maxRecDepth 100000

theorem byteU_cells (u : Nat) (hu : u < 65536) : Lib.byteCells (byteU u) = [.int .u8 ((u : Int) / 256), .int .u8 ((u : Int) % 256)] := by
  simp only [Lib.byteCells, byteU, List.map_cons, List.map_nil]
  congr 2
  · simp; omega
  · congr 1
    simp
theorem c_put (B b u : Nat) (bs : List Value) (hu : u < 65536) (w : World) (h : Lib.IsBuilder 69 5 B b bs w) (hl : bs.length ≤ 1000000) (hB : B ≤ w.heap.size) :
    Calls Tryz.prog 34 #[.pointer (some ⟨b, 0, none⟩), .int .u16 (u : Int)] w fun e w' => e = .returned (.tuple #[]) ∧ Lib.IsBuilder 69 5 B b (bs ++ [.int .u8 ((u : Int) / 256), .int .u8 ((u : Int) % 256)]) w' ∧ Below B w w' := by
  have h1 := Lib.hid (b_WriteByte B b bs ((u : Int) / 256) w h (by omega) hB)
  have h2 := Lib.hid (fun W h hB => b_WriteByte B b (bs ++ [.int .u8 ((u : Int) / 256)]) ((u : Int) % 256) W h (by simp; omega) hB)
  have hcat := Lib.hid (List.append_assoc bs [.int .u8 ((u : Int) / 256)] [.int .u8 ((u : Int) % 256)])
  have hu' : (u : Int) < 65536 := by omega
  replace h := Lib.hid h
  go_enter Tryz.func34, Tryz.ntmps34
  go_wp2_with fail
  refine h1.out.mono ?_
  rintro e w1 ⟨rfl, hb1, hbel1⟩
  replace hb1 := Lib.hid hb1
  go_wp2_with fail
  refine (h2.out w1 (.inr hb1.out) (Nat.le_trans hB hbel1.size)).mono ?_
  rintro e w2 ⟨rfl, hb2, hbel2⟩
  replace hb2 := Lib.hid hb2
  go_wp2_with fail
  go_end0
  refine ⟨rfl, ?_, hbel1.trans hbel2⟩
  have := hb2.out
  rw [hcat.out] at this
  exact .inr this
theorem c_UMake (us : List Nat) (g c : Nat) (hus : ∀ u ∈ us, u < 65536) (hl : us.length ≤ 1000) (h0 : us ≠ []) (w : World)
    (hc : ∀ y, Below w.heap.size w y → ∀ k u : Nat, us[k]? = some u → y.cell? ⟨g, k, none⟩ = some (.int .u16 (u : Int))) :
    Calls Tryz.prog 20 #[.slice (some ⟨g, 0, none⟩) us.length c] w fun e w' => e = .returned (.string (textU us)) ∧ Below w.heap.size w w' := by
  have hsn := Lib.hid (bytesU_snoc us)
  have hlenB := Lib.hid bytesU_len
  have hput := Lib.hid (fun u hu bs W h hl hB => c_put w.heap.size w.heap.size u bs hu W h hl hB)
  have hstr := Lib.hid (fun W h => b_String w.heap.size w.heap.size (bytesU us) W h (by
    intro e
    have := bytesU_len us
    rw [e] at this
    have : us.length = 0 := by simp at this; omega
    exact h0 (List.length_eq_zero_iff.1 this)))
  replace hus := Lib.hid hus
  replace hc := Lib.hid hc
  have hget : ∀ k, k < us.length → ∃ u, us[k]? = some u := fun k hk => ⟨us[k], List.getElem?_eq_getElem hk⟩
  replace hget := Lib.hid hget
  replace h0 := Lib.hid h0
  have hend := Lib.hid (show bytesU (us.take us.length) = bytesU us by rw [List.take_length])
  go_enter Tryz.func20, Tryz.ntmps20
  go_wp2
  go_loopw [5, 8] (fun _ vi wr => ∃ k : Nat, k ≤ us.length ∧ vi = .int .i64 (k : Int) ∧ Lib.IsBuilder 69 5 w.heap.size w.heap.size (Lib.byteCells (bytesU (us.take k))) wr ∧ Below w.heap.size w wr) (fun _ vi _ => us.length - (intOf vi).toNat)
  case atStart =>
    refine ⟨0, by omega, rfl, .inl ⟨Nat.le_refl _, .slice none 0 0, ?_, ⟨rfl, .inl ⟨rfl, rfl⟩⟩, by simp [Value.ownBlock]⟩, (Below.refl _ _).alloc (Nat.le_refl _) _⟩
    exact heap_alloc_new w _
  case round =>
    obtain ⟨k, hk, rfl, hB, hbel⟩ := hrel
    replace hB := Lib.hid hB
    by_cases hlt : k < us.length
    · obtain ⟨u, hu⟩ := hget.out k hlt
      have hu2 := hus.out u (List.mem_of_getElem? hu)
      have c1 := hc.out wr hbel k u hu
      have hs := Lib.hid (hsn.out k u hu)
      have hbl := hlenB.out (us.take k)
      have htl : (us.take k).length ≤ k := List.length_take_le _ _
      have hP := Lib.hid (hput.out u hu2 _ wr hB.out (by rw [Lib.byteCells_length]; omega) hbel.size)
      replace hu := Lib.hid hu
      clear hbl htl
      go_wp2_with (go_at_call 34; refine hP.out.mono ?_; rintro e w1 ⟨rfl, hb1, hbel1⟩)
      replace hb1 := Lib.hid hb1
      go_roundw
      case rel =>
        refine ⟨k + 1, by omega, by go_num, ?_, hbel.trans hbel1⟩
        have := hb1.out
        rw [hs.out]
        have e : Lib.byteCells (bytesU (us.take k) ++ byteU u) = Lib.byteCells (bytesU (us.take k)) ++ [.int .u8 ((u : Int) / 256), .int .u8 ((u : Int) % 256)] := by
          rw [← byteU_cells u hu2]; simp [Lib.byteCells]
        rw [e]; exact this
      case measure => simp [intOf]; omega
    · obtain rfl : k = us.length := by omega
      have hS := Lib.hid (hstr.out wr (by rw [← hend.out]; exact hB.out))
      clear hc
      go_wp2_with (go_at_call 35; refine hS.out.mono ?_; rintro e w1 ⟨rfl, hbel1⟩)
      go_ret
      exact ⟨rfl, hbel.trans hbel1⟩
end Go.Proofs.YtbodfdmmfaampaaGreatDoor
