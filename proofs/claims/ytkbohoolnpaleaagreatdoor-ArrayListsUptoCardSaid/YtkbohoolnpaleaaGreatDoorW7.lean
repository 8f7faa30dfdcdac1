/-
  Contracts: Contracts of put and Make: the text of units. The contracts of the reference's Of, Ascii and Name, of texts of bytes below 128. Contracts of both Of: the key of a number. Plain: the number that a number's digits are. The contract of the reference's Of.
-/
import Derived.Test.YtkbohoolnpaleaaGreatDoorW3
import Derived.Test.YtkbohoolnpaleaaGreatDoorW6
import Derived.Test.YtkbohoolnpaleaaGreatDoorW4
namespace Go.Proofs.YtkbohoolnpaleaaGreatDoor
open Go.RowKit
set_option maxHeartbeats 1000000
set_option maxRecDepth 100000

theorem byteU_cells (u : Nat) (hu : u < 65536) : Lib.byteCells (byteU u) = [.int .u8 ((u : Int) / 256), .int .u8 ((u : Int) % 256)] := by
  simp only [Lib.byteCells, byteU, List.map_cons, List.map_nil]
  congr 2
  · simp; omega
  · congr 1
    simp
theorem c_put (B b u : Nat) (bs : List Value) (hu : u < 65536) (w : World) (h : Lib.IsBuilder 115 5 B b bs w) (hl : bs.length ≤ 1000000) (hB : B ≤ w.heap.size) :
    Calls Tryz.prog 48 #[.pointer (some ⟨b, 0, none⟩), .int .u16 (u : Int)] w fun e w' => e = .returned (.tuple #[]) ∧ Lib.IsBuilder 115 5 B b (bs ++ [.int .u8 ((u : Int) / 256), .int .u8 ((u : Int) % 256)]) w' ∧ Below B w w' := by
  have h1 := Lib.hid (b_WriteByte B b bs ((u : Int) / 256) w h (by omega) hB)
  have h2 := Lib.hid (fun W h hB => b_WriteByte B b (bs ++ [.int .u8 ((u : Int) / 256)]) ((u : Int) % 256) W h (by simp; omega) hB)
  have hcat := Lib.hid (List.append_assoc bs [.int .u8 ((u : Int) / 256)] [.int .u8 ((u : Int) % 256)])
  have hu' : (u : Int) < 65536 := by omega
  replace h := Lib.hid h
  go_enter Tryz.func48, Tryz.ntmps48
  go_wp2_with fail
  refine h1.out.mono ?_
  rintro e w1 ⟨rfl, hb1, hbel1⟩
  replace hb1 := Lib.hid hb1
  go_wp2_with fail
  refine (h2.out w1 (.inr hb1.out) (Nat.le_trans hB hbel1.size)).mono ?_
  rintro e w2 ⟨rfl, hb2, hbel2⟩
  replace hb2 := Lib.hid hb2
  go_wp2_with fail
  go_end0
  refine ⟨rfl, ?_, hbel1.trans hbel2⟩
  have := hb2.out
  rw [hcat.out] at this
  exact .inr this
theorem c_UMake (us : List Nat) (g c : Nat) (hus : ∀ u ∈ us, u < 65536) (hl : us.length ≤ 1000) (h0 : us ≠ []) (w : World)
    (hc : ∀ y, Below w.heap.size w y → ∀ k u : Nat, us[k]? = some u → y.cell? ⟨g, k, none⟩ = some (.int .u16 (u : Int))) :
    Calls Tryz.prog 36 #[.slice (some ⟨g, 0, none⟩) us.length c] w fun e w' => e = .returned (.string (textU us)) ∧ Below w.heap.size w w' := by
  have hsn := Lib.hid (bytesU_snoc us)
  have hlenB := Lib.hid bytesU_len
  have hput := Lib.hid (fun u hu bs W h hl hB => c_put w.heap.size w.heap.size u bs hu W h hl hB)
  have hstr := Lib.hid (fun W h => b_String w.heap.size w.heap.size (bytesU us) W h (by
    intro e
    have := bytesU_len us
    rw [e] at this
    have : us.length = 0 := by simp at this; omega
    exact h0 (List.length_eq_zero_iff.1 this)))
  replace hus := Lib.hid hus
  replace hc := Lib.hid hc
  have hget : ∀ k, k < us.length → ∃ u, us[k]? = some u := fun k hk => ⟨us[k], List.getElem?_eq_getElem hk⟩
  replace hget := Lib.hid hget
  replace h0 := Lib.hid h0
  have hend := Lib.hid (show bytesU (us.take us.length) = bytesU us by rw [List.take_length])
  go_enter Tryz.func36, Tryz.ntmps36
  go_wp2
  go_loopw [5, 8] (fun _ vi wr => ∃ k : Nat, k ≤ us.length ∧ vi = .int .i64 (k : Int) ∧ Lib.IsBuilder 115 5 w.heap.size w.heap.size (Lib.byteCells (bytesU (us.take k))) wr ∧ Below w.heap.size w wr) (fun _ vi _ => us.length - (intOf vi).toNat)
  case atStart =>
    refine ⟨0, by omega, rfl, .inl ⟨Nat.le_refl _, .slice none 0 0, ?_, ⟨rfl, .inl ⟨rfl, rfl⟩⟩, by simp [Value.ownBlock]⟩, (Below.refl _ _).alloc (Nat.le_refl _) _⟩
    exact heap_alloc_new w _
  case round =>
    obtain ⟨k, hk, rfl, hB, hbel⟩ := hrel
    replace hB := Lib.hid hB
    by_cases hlt : k < us.length
    · obtain ⟨u, hu⟩ := hget.out k hlt
      have hu2 := hus.out u (List.mem_of_getElem? hu)
      have c1 := hc.out wr hbel k u hu
      have hs := Lib.hid (hsn.out k u hu)
      have hbl := hlenB.out (us.take k)
      have htl : (us.take k).length ≤ k := List.length_take_le _ _
      have hP := Lib.hid (hput.out u hu2 _ wr hB.out (by rw [Lib.byteCells_length]; omega) hbel.size)
      replace hu := Lib.hid hu
      clear hbl htl
      go_wp2_with (go_at_call 48; refine hP.out.mono ?_; rintro e w1 ⟨rfl, hb1, hbel1⟩)
      replace hb1 := Lib.hid hb1
      go_roundw
      case rel =>
        refine ⟨k + 1, by omega, by go_num, ?_, hbel.trans hbel1⟩
        have := hb1.out
        rw [hs.out]
        have e : Lib.byteCells (bytesU (us.take k) ++ byteU u) = Lib.byteCells (bytesU (us.take k)) ++ [.int .u8 ((u : Int) / 256), .int .u8 ((u : Int) % 256)] := by
          rw [← byteU_cells u hu2]; simp [Lib.byteCells]
        rw [e]; exact this
      case measure => simp [intOf]; omega
    · obtain rfl : k = us.length := by omega
      have hS := Lib.hid (hstr.out wr (by rw [← hend.out]; exact hB.out))
      clear hc
      go_wp2_with (go_at_call 49; refine hS.out.mono ?_; rintro e w1 ⟨rfl, hbel1⟩)
      go_ret
      exact ⟨rfl, hbel.trans hbel1⟩
end Go.Proofs.YtkbohoolnpaleaaGreatDoor
namespace Go.Proofs.YtkbohoolnpaleaaGreatDoor
open Go.RowKit Go.Shelf Go.Lib Go.Sort Go.Proofs
set_option maxHeartbeats 400000
set_option maxRecDepth 100000

theorem c_point (s : ByteArray) (b : Nat) (h0 : 0 < s.size) (he : ub s 0 = b) (hb : b < 128) (w : World) :
    Calls Tryz.prog 74 #[.string s] w fun e w' => e = .returned (.tuple #[.int .i32 (b : Int), .int .i64 1]) ∧ w' = w := by
  have e0 : (s[0]'h0).toNat = b := by rw [← he, ub_get s 0 h0]
  have hb' : (b : Int) < 128 := by omega
  clear he
  go_enter Tryz.func74, Tryz.ntmps74
  go_wp2
  go_ret2
  exact ⟨rfl, rfl⟩
theorem c_Point (r : Nat) (hr : r < 65536) (w : World) :
    Calls Tryz.prog 75 #[.int .i32 (r : Int)] w fun e w' => e = .returned (.slice (some ⟨w.heap.size, 0, none⟩) 1 1) ∧ w' = w.alloc (.cells #[.int .u16 (r : Int)] 85) := by
  have k1 : ¬ (r : Int) < 0 := by omega
  have k2 : ¬ (1114111 : Int) < (r : Int) := by omega
  have k3 : (r : Int) < 65536 := by omega
  have k4 : IntKind.u16.wrap (r : Int) = (r : Int) := by simp [IntKind.wrap, IntKind.bits, IntKind.signed]; omega
  clear hr
  go_enter Tryz.func75, Tryz.ntmps75
  go_wp2
  go_ret
  exact ⟨rfl, rfl⟩
def codes (s : ByteArray) : List Nat := s.data.toList.map UInt8.toNat
theorem codes_len (s : ByteArray) : (codes s).length = s.size := by simp [codes]
theorem codes_get (s : ByteArray) (i : Nat) (h : i < s.size) : (codes s)[i]? = some (ub s i) := by
  have : i < s.data.toList.length := by simpa using h
  unfold codes ub
  rw [List.getElem?_map, List.getElem?_eq_getElem this, List.getD_eq_getElem?_getD, List.getElem?_eq_getElem this]
  rfl
theorem ub_extract (s : ByteArray) (i : Nat) (h : i < s.size) : ub (s.extract i s.size) 0 = ub s i := by
  rw [ub_get _ _ (by simp; omega), ub_get _ _ h, ByteArray.getElem_extract]
  simp
theorem c_OfR (s : ByteArray) (hs : s.size ≤ 549755813888) (ha : ∀ u ∈ codes s, u < 128) (w : World) :
    Calls Tryz.prog 52 #[.string s] w fun e w' => e = .returned (.tuple #[.string (textU (codes s)), .int .i64 0, .int .i64 0]) ∧ Below w.heap.size w w' := by
  obtain ⟨i0, hi0, hz0, hz1, hz2⟩ := info_parts infoU16
  have hget : ∀ k, k < s.size → ∃ u, u < 128 ∧ 0 < (s.extract k s.size).size ∧ ub (s.extract k s.size) 0 = u ∧ u16s ((codes s).take (k + 1)) = u16s ((codes s).take k) ++ [.int .u16 (u : Int)] := by
    intro k hk
    refine ⟨ub s k, ha _ (List.mem_of_getElem? (codes_get s k hk)), by simp; omega, ub_extract s k hk, ?_⟩
    rw [List.take_add_one, codes_get s k hk]
    simp [u16s]
  have hend : (codes s).take s.size = codes s := by rw [← codes_len s, List.take_length]
  have h0 : u16s ((codes s).take 0) = [] := rfl
  have hM := fun v w h => Lib.hid (c_MakeR (codes s) v (fun u hu => by have := ha u hu; omega) (by rw [codes_len]; exact hs) w h)
  have hcl := codes_len s
  generalize codes s = C at *
  replace hget := Lib.hid hget
  replace hend := Lib.hid hend
  replace h0 := Lib.hid h0
  replace hcl := Lib.hid hcl
  clear ha
  go_enter Tryz.func52, Tryz.ntmps52
  go_wp2
  go_loopw [5, 6] (fun vb vk wr => ∃ k : Nat, k ≤ s.size ∧ vk = .int .i64 (k : Int) ∧ wr.ownsRow w.heap.size 85 1 vb k (u16s (C.take k)) ∧ Below w.heap.size w wr) (fun _ vk _ => s.size - (intOf vk).toNat)
  case atStart => exact ⟨0, by omega, rfl, ⟨by rw [h0.out]; rfl, .inl ⟨rfl, rfl⟩⟩, Below.refl _ _⟩
  case round =>
    obtain ⟨k, hk, rfl, hown, hbel⟩ := hrel
    rcases Nat.lt_or_ge k s.size with hlt | hge
    · obtain ⟨u, hu, hx0, hx1, hx2⟩ := hget.out k hlt
      have hP := fun y => Lib.hid (c_point (s.extract k s.size) u hx0 hx1 hu y)
      have hx2 := Lib.hid hx2
      have hQ := fun y => Lib.hid (c_Point u (by omega) y)
      clear hx0 hx1
      have hsz := hbel.size
      go_wp2_with (first | (go_at_call 74; refine (hP _).out.mono ?_; rintro e w1 ⟨rfl, rfl⟩) | (go_at_call 75; refine (hQ _).out.mono ?_; rintro e w1 ⟨rfl, rfl⟩) | (at_builtin; refine wpList_append_lies _ (by rfl) _ _ _ (by rfl) w.heap.size 85 i0 _ 1 2 Tryz.underlying86 hi0 hz0 hz1 hz2 rfl (by omega) u5 k (u16s (C.take k)) (by rfl) (hown.alloc _) ⟨_, 0, none⟩ 1 1 [.int .u16 (u : Int)] (by rfl) (by rfl) (World.news_of_block (cs := #[.int .u16 (u : Int)]) (t := 85) (fr := (0, 0)) (by exact heap_alloc_new _ _)) (by simp [Value.oneCell']) (by omega) (by unfold maxLen; omega) (by omega) (by simp; omega) _ rfl ?_; intro gg cap w2 hown2 hgrow hat hlt2))
      have hown3 : w2.ownsRow w.heap.size 85 1 (.slice (some ⟨gg, 0, none⟩) (k + 1) cap) (k + 1) (u16s (C.take (k + 1))) := by
        rw [hx2.out]; exact hown2
      have hbel2 : Below w.heap.size w w2 := (hbel.alloc hsz _).grown hgrow (by simp; omega) (own_base hown)
      clear hown2 hgrow
      go_roundw
      case rel => exact ⟨k + 1, by omega, by go_num, hown3, hbel2⟩
      case measure => simp [intOf]; omega
    · obtain rfl : k = s.size := by omega
      rw [hend.out] at hown
      have hM2 := Lib.hid ((hM u5 wr (Rd_own hown)).out)
      clear hown
      go_wp2_with (go_at_call 76; refine hM2.out.mono ?_; rintro e w1 ⟨rfl, hb⟩)
      go_ret3
      exact ⟨rfl, below_after hbel hb⟩
theorem c_AsciiR (s : ByteArray) (hs : s.size ≤ 549755813888) (ha : ∀ u ∈ codes s, u < 128) (w : World) :
    Calls Tryz.prog 38 #[.string s] w fun e w' => e = .returned (.string (textU (codes s))) ∧ Below w.heap.size w w' := by
  have hO := Lib.hid (c_OfR s hs ha w)
  clear ha
  go_enter Tryz.func38, Tryz.ntmps38
  go_wp2_with (go_at_call 52; refine hO.out.mono ?_; rintro e w1 ⟨rfl, hb⟩)
  go_ret
  exact ⟨rfl, hb⟩
theorem infoKeyRow : (Tryz.prog.info? 43).map (·.size) = some 2 := by kernel_rfl
theorem c_Name4 (s : ByteArray) (hs : s.size ≤ 549755813888) (ha : ∀ u ∈ codes s, u < 128) (w : World) :
    Calls Tryz.prog 32 #[.string s] w fun e w' => e = .returned (keyV (textU (codes s)) 0) ∧ Below w.heap.size w w' := by
  have hO := Lib.hid (c_AsciiR s hs ha (w.alloc (.cells #[.string ⟨#[]⟩, .int .i64 0] 43)))
  clear ha
  unfold keyV
  go_enter Tryz.func32, Tryz.ntmps32
  go_wp2_with fail
  refine hO.out.mono ?_
  rintro e w1 ⟨rfl, hb⟩
  have hh := (hb.block w.heap.size (by simp)).trans (heap_alloc_new w _)
  have c0 : w1.cell? ⟨w.heap.size, 0, none⟩ = some (.string ⟨#[]⟩) := by rw [cell_of_row w1 w.heap.size 0 _ _ _ hh]; rfl
  have c1 : w1.cell? ⟨w.heap.size, 1, none⟩ = some (.int .i64 0) := by rw [cell_of_row w1 w.heap.size 1 _ _ _ hh]; rfl
  have f0 : w1.frozen? ⟨w.heap.size, 0, none⟩ = false := by simp [World.frozen?, hh]
  have f1 : w1.frozen? ⟨w.heap.size, 1, none⟩ = false := by simp [World.frozen?, hh]
  have h2 := Lib.hid (heap_setCell_same (w1.setCell ⟨w.heap.size, 0, none⟩ (.string (textU (codes s)))) w.heap.size 1 _ 43 (.int .i64 0) (heap_setCell_same w1 w.heap.size 0 _ 43 (.string (textU (codes s))) hh))
  have hbel := Lib.hid ((Below.refl w.heap.size w).alloc (Nat.le_refl _) (.cells #[.string ⟨#[]⟩, .int .i64 0] 43) |>.trans (hb.mono (by simp)))
  clear hb hh
  go_wp2
  refine bodyPost_ret (results_cell_row rfl _ _ w.heap.size 43 #[.string (textU (codes s)), .int .i64 0] (0, 0) _ rfl h2.out Tryz.underlying43 rfl infoKeyRow) rfl ?_
  exact ⟨rfl, (hbel.out.setCell (Nat.le_refl _) _).setCell (Nat.le_refl _) _⟩
end Go.Proofs.YtkbohoolnpaleaaGreatDoor
namespace Go.Proofs.YtkbohoolnpaleaaGreatDoor
open Go.RowKit
set_option maxHeartbeats 1000000
set_option maxRecDepth 100000

/-- a number's digits are these, n of them -/
def NdOf (i n : Nat) : Prop := (i = 0 ∧ n = 1) ∨ IsNd i n
theorem NdOf.one {i n m : Nat} (h : NdOf i n) (h' : NdOf i m) : n = m := by
  rcases h with ⟨rfl, rfl⟩ | h
  · rcases h' with ⟨_, rfl⟩ | h'
    · rfl
    · exact absurd h'.pos (by omega)
  · rcases h' with ⟨rfl, _⟩ | h'
    · exact absurd h.pos (by omega)
    · exact h.one h'
theorem NdOf.le10 {i n : Nat} (h : NdOf i n) (hi : i < 4294967296) : 1 ≤ n ∧ n ≤ 10 := by
  rcases h with ⟨_, rfl⟩ | h
  · omega
  · refine ⟨h.1, ?_⟩
    rcases Nat.lt_or_ge 10 n with h' | h'
    · have := Nat.pow_le_pow_right (n := 10) (by decide) (show 10 ≤ n - 1 by omega)
      have h2 := h.2.1
      have e : (10 : Nat) ^ 10 = 10000000000 := by decide
      omega
    · exact h'
/-- the lowest k digits of i, the lowest first, as bytes -/
def rdg (k i : Nat) : List Nat := (dg k i).reverse
theorem rdg_len (k i : Nat) : (rdg k i).length = k := by simp [rdg, dg_len]
theorem dg_succ (k i : Nat) : dg (k + 1) i = (48 + i / 10 ^ k % 10) :: dg k i := by
  unfold dg
  rw [Nat.add_comm k 1, fw_add, fw_one]; rfl
theorem rdg_succ (k i : Nat) : rdg (k + 1) i = rdg k i ++ [48 + i / 10 ^ k % 10] := by
  unfold rdg; rw [dg_succ]; simp
theorem u16s_get' (l : List Nat) (k x : Nat) (h : l[k]? = some x) : (u16s l)[k]? = some (.int .u16 (x : Int)) := by simp [u16s, h]
theorem c_KOf (i : Nat) (hi : i < 4294967296) (w : World) :
    Calls Tryz.prog 18 #[.int .u32 (i : Int)] w fun e w' => ∃ n, e = .returned (.agg #[.string (textU (dg n i)), .int .i64 0]) ∧ NdOf i n ∧ Below w.heap.size w w' := by
  obtain ⟨i0, hi0, hz0, hz1, hz2⟩ := info_parts infoU16
  have h10 : (i : Int) < 4294967296 := by omega
  have hdiv : ∀ k, ((i / 10 ^ k : Nat) : Int) / 10 = ((i / 10 ^ (k + 1) : Nat) : Int) := fun k => by
    rw [Nat.pow_succ, ← Nat.div_div_eq_div_mul]; omega
  replace hdiv := Lib.hid hdiv
  have hrs := Lib.hid (fun k => rdg_succ k i)
  have hle : ∀ k, i / 10 ^ k ≤ i := fun k => Nat.div_le_self _ _
  replace hle := Lib.hid hle
  go_enter Tryz.func18, Tryz.ntmps18
  go_wp2_with fail
  go_loopw [0, 3] (fun vi v wr => ∃ k : Nat, 1 ≤ k ∧ k ≤ 10 ∧ vi = .int .u32 ((i / 10 ^ k : Nat) : Int) ∧ wr.ownsRow (w.heap.size + 1) 85 1 v k (u16s (rdg k i)) ∧ Below (w.heap.size + 1) (w.alloc (.cells #[.string ⟨#[]⟩, .int .i64 0] 43)) wr ∧ Hid (k = 1 ∨ 10 ^ (k - 1) ≤ i)) (fun vi _ _ => (intOf vi).toNat)
  case atStart =>
    refine ⟨1, Nat.le_refl _, by omega, by rw [show 10 ^ 1 = 10 from rfl]; go_num, ?_, ((Below.refl _ _).alloc (by simp) _), .inl rfl⟩
    refine ⟨rfl, .inr ⟨w.heap.size + 1, 1, #[.int .u16 (48 + (i : Int) % 10)], rfl, Nat.le_refl _, ?_, Nat.le_refl _, by unfold maxLen; omega, rfl, ?_⟩⟩
    · have := heap_alloc_new (w.alloc (.cells #[.string ⟨#[]⟩, .int .i64 0] 43)) (.cells #[.int .u16 (48 + (i : Int) % 10)] 85)
      simpa using this
    · simp [u16s, rdg, dg, fw]
  case round =>
    obtain ⟨k, hk1, hk10, rfl, hown, hbel, hnd⟩ := hrel
    have hsz : w.heap.size + 1 ≤ wr.heap.size := by have := hbel.size; simpa using this
    by_cases hpos : 0 < i / 10 ^ k
    · have hkk : k + 1 ≤ 10 := by
        rcases Nat.lt_or_ge k 10 with h | h
        · omega
        · exfalso
          have e : i / 10 ^ k = 0 := by
            apply Nat.div_eq_of_lt
            have := Nat.pow_le_pow_right (n := 10) (by decide) h
            have e : (10 : Nat) ^ 10 = 10000000000 := by decide
            omega
          omega
      have hnd2 : Hid (k + 1 = 1 ∨ 10 ^ (k + 1 - 1) ≤ i) := .inr ((Nat.one_le_div_iff (Nat.pow_pos (by decide))).1 hpos)
      have hr := Lib.hid (hrs.out k)
      have hd := Lib.hid (hdiv.out k)
      have hl := hle.out k
      clear hk10 hnd
      generalize i / 10 ^ k = q at *
      have hqw : IntKind.u32.wrap ((q : Int) / 10) = (q : Int) / 10 := by rw [IntKind.wrap_u32]; omega
      have hq0 : (0 : Int) < (q : Int) := by omega
      have hsn : u16s (rdg k i) ++ [.int .u16 (48 + (q : Int) % 10)] = u16s (rdg (k + 1) i) := by
        rw [hr.out]; simp [u16s]
      replace hsn := Lib.hid hsn
      have hpos' := Lib.hid hpos
      have hk1' := Lib.hid hk1
      have hkk' := Lib.hid hkk
      have hk11 : k ≤ 10 := by omega
      clear hl hpos hi hk1 hkk h10
      go_wp2_with (at_builtin; refine wpList_append_lies _ (by rfl) _ _ _ (by rfl) (w.heap.size + 1) 85 i0 _ 1 2 Tryz.underlying86 hi0 hz0 hz1 hz2 rfl (by omega) u3 k (u16s (rdg k i)) (by rfl) (hown.alloc _) ⟨wr.heap.size, 0, none⟩ 1 1 [.int .u16 (48 + (q : Int) % 10)] (by rfl) (by rfl) (World.news_of_block (cs := #[.int .u16 (48 + (q : Int) % 10)]) (t := 85) (fr := (0, 0)) (by exact heap_alloc_new wr _)) (by simp [Value.oneCell']) (by omega) (by unfold maxLen; omega) (by omega) (by simp; omega) (wr.heap.size + 1) (by simp) ?_; intro gg cap w2 hown2 hgrow hat hlt2)
      have hown3 : w2.ownsRow (w.heap.size + 1) 85 1 (.slice (some ⟨gg, 0, none⟩) (k + 1) cap) (k + 1) (u16s (rdg (k + 1) i)) := by
        rw [← hsn.out]; exact hown2
      have hbel2 := (hbel.alloc hsz (.cells #[.int .u16 (48 + (q : Int) % 10)] 85)).grown hgrow (by simp; omega) (own_lo hown)
      clear hown2 hgrow
      go_roundw
      case rel => exact ⟨k + 1, by omega, hkk'.out, by rw [← hd.out], hown3, hbel2, hnd2⟩
      case measure => have := hpos'.out; simp [intOf]; omega
    · have hq0 : i / 10 ^ k = 0 := Nat.eq_zero_of_not_pos hpos
      have hq : ((i / 10 ^ k : Nat) : Int) = 0 := by rw [hq0]; rfl
      have hlt : i < 10 ^ k := by
        rcases Nat.lt_or_ge i (10 ^ k) with h | h
        · exact h
        · have := (Nat.one_le_div_iff (Nat.pow_pos (by decide))).2 h
          omega
      have hNd : NdOf i k := by
        rcases hnd.out with rfl | h
        · by_cases h0 : i = 0
          · exact .inl ⟨h0, rfl⟩
          · exact .inr (IsNd.digit (by omega) (by simpa using hlt))
        · exact .inr ⟨hk1, h, hlt⟩
      obtain ⟨g, cap, rfl, hgB, hgs⟩ := hown.form (by omega)
      have hgh : ∃ cur, wr.heap[g]? = some (.cells cur 85 (0, 0)) := by
        rcases hown.2 with ⟨h, _⟩ | ⟨g', cap', cur, e, _, h, _⟩
        · cases h
        · cases e; exact ⟨cur, h⟩
      obtain ⟨cur, hgh⟩ := hgh
      have hrv : RV (w.alloc (.cells #[.string ⟨#[]⟩, .int .i64 0] 43)) g (w.heap.size + 1) (rdg k i) 0 wr := by
        refine ⟨hbel, hgs, fun j hj => ⟨by simp [World.frozen?, hgh], ?_⟩⟩
        rw [rdg_len] at hj ⊢
        have hx : (rdg k i)[j]? = some ((rdg k i).getD j 0) := by
          rw [List.getD_eq_getElem?_getD, List.getElem?_eq_getElem (by rw [rdg_len]; exact hj)]; rfl
        have e0 : ¬ (j < 0 ∨ k - 1 - 0 < j) := by omega
        rw [if_neg e0]
        have := World.ownsRow.cells hown (g := g) rfl j _ (u16s_get' _ _ _ hx)
        rw [add_zero_addr] at this
        exact this
      have hR0 := c_Rev (w.alloc (.cells #[.string ⟨#[]⟩, .int .i64 0] 43)) g (w.heap.size + 1) cap (rdg k i) (by rw [rdg_len]; omega) (by rw [rdg_len]; exact hk1) hgB wr hrv
      rw [rdg_len] at hR0
      have hrr : (rdg k i).reverse = dg k i := by simp [rdg]
      rw [hrr] at hR0
      have hR := Lib.hid hR0
      have hk10' : k ≤ 10 := hk10
      clear hR0 hrv hown hnd hrr hgh hi hi0 hz0 hz1 hz2
      replace hNd := Lib.hid hNd
      replace hlt := Lib.hid hlt
      replace hq0 := Lib.hid hq0
      clear h10
      go_wp2_with (go_at_call 35; refine hR.out.mono ?_; rintro e w2 ⟨rfl, hrv2⟩)
      obtain ⟨hb2, hg2, hc2⟩ := hrv2
      have hM0 := c_UMake (dg k i) g cap (fun u hu => by have := dg_dig k i u hu; omega) (by rw [dg_len]; omega) (fun e => by have := dg_len k i; rw [e] at this; simp at this; omega) w2 (fun y hy j u hj => by
        have hjk : j < k := by
          have := (List.getElem?_eq_some_iff.1 hj).1
          rwa [dg_len] at this
        obtain ⟨_, c2⟩ := hc2 j (by rw [dg_len]; exact hjk)
        rw [hy.cell (p := ⟨g, j, none⟩) hg2, c2, dg_len]
        have e0 : ¬ (j < 0 ∨ k - 1 - 0 < j) := by omega
        rw [if_neg e0, List.getD_eq_getElem?_getD, hj]; rfl)
      rw [dg_len] at hM0
      have hM := Lib.hid hM0
      clear hM0 hc2 hR
      go_wp2_with fail
      refine hM.out.mono ?_
      rintro e w3 ⟨rfl, hb3⟩
      have hb3' : Below (w.heap.size + 1) (w.alloc (.cells #[.string ⟨#[]⟩, .int .i64 0] 43)) w3 := hb2.trans (hb3.mono (Nat.le_trans hgB (Nat.le_of_lt hg2)))
      have hh := (hb3'.block w.heap.size (Nat.lt_succ_self _)).trans (heap_alloc_new w _)
      have c0 : w3.cell? ⟨w.heap.size, 0, none⟩ = some (.string ⟨#[]⟩) := by rw [cell_of_row w3 w.heap.size 0 _ _ _ hh]; rfl
      have c1 : w3.cell? ⟨w.heap.size, 1, none⟩ = some (.int .i64 0) := by rw [cell_of_row w3 w.heap.size 1 _ _ _ hh]; rfl
      have f0 : w3.frozen? ⟨w.heap.size, 0, none⟩ = false := by simp [World.frozen?, hh]
      have f1 : w3.frozen? ⟨w.heap.size, 1, none⟩ = false := by simp [World.frozen?, hh]
      have h2 := Lib.hid (heap_setCell_same (w3.setCell ⟨w.heap.size, 0, none⟩ (.string (textU (dg k i)))) w.heap.size 1 _ 43 (.int .i64 0) (heap_setCell_same w3 w.heap.size 0 _ 43 (.string (textU (dg k i))) hh))
      have hbl := Lib.hid (((Below.refl w.heap.size w).alloc (Nat.le_refl _) (.cells #[.string ⟨#[]⟩, .int .i64 0] 43)).trans (hb3'.mono (Nat.le_succ _)))
      clear hb3' hh hb3 hb2 hM
      go_wp2_with fail
      refine bodyPost_ret (results_cell_row rfl _ _ w.heap.size 43 #[.string (textU (dg k i)), .int .i64 0] (0, 0) _ rfl h2.out Tryz.underlying43 rfl infoKeyRow) rfl ?_
      exact ⟨k, rfl, hNd.out, (hbl.out.setCell (Nat.le_refl _) _).setCell (Nat.le_refl _) _⟩
end Go.Proofs.YtkbohoolnpaleaaGreatDoor
namespace Go.Proofs.YtkbohoolnpaleaaGreatDoor
open Go.RowKit
set_option maxHeartbeats 1000000
set_option maxRecDepth 100000

theorem bytesU_get (us : List Nat) (j u : Nat) (h : us[j]? = some u) : (bytesU us)[2 * j]? = some (UInt8.ofNat (u / 256)) ∧ (bytesU us)[2 * j + 1]? = some (UInt8.ofNat (u % 256)) := by
  induction us generalizing j with
  | nil => simp at h
  | cons x us ih =>
    have e : bytesU (x :: us) = UInt8.ofNat (x / 256) :: UInt8.ofNat (x % 256) :: bytesU us := rfl
    rw [e]
    cases j with
    | zero => simp at h; subst h; exact ⟨rfl, rfl⟩
    | succ j =>
      have := ih j (by simpa using h)
      have e1 : 2 * (j + 1) = 2 * j + 1 + 1 := by omega
      rw [e1]
      simpa using this
theorem ub_textU (us : List Nat) (k : Nat) (b : UInt8) (h : (bytesU us)[k]? = some b) : ub (textU us) k = b.toNat := by
  unfold ub textU
  simp [h]
theorem unitAt_textU (us : List Nat) (j u : Nat) (hu : u < 65536) (h : us[j]? = some u) : unitAt (textU us) j = u := by
  obtain ⟨h1, h2⟩ := bytesU_get us j u h
  unfold unitAt
  rw [ub_textU us _ _ h1, ub_textU us _ _ h2]
  simp
  omega
theorem U_textU (us : List Nat) (hus : ∀ u ∈ us, u < 65536) : U (textU us) = us := by
  have hsz : (textU us).size / 2 = us.length := by
    have : (textU us).size = (bytesU us).length := by simp [textU, ByteArray.size]
    rw [this, bytesU_len]; omega
  unfold U
  rw [hsz]
  have : ∀ k, k ≤ us.length → unitsN (textU us) k = us.take k := by
    intro k hk
    induction k with
    | zero => rfl
    | succ k ih =>
      have hx : us[k]? = some us[k] := List.getElem?_eq_getElem (by omega)
      show unitsN (textU us) k ++ [unitAt (textU us) k] = _
      rw [ih (by omega), unitAt_textU us k _ (hus _ (List.getElem_mem (by omega))) hx, List.take_add_one, hx]
      rfl
  rw [this _ (Nat.le_refl _), List.take_length]
theorem numU_dg (k i a : Nat) : numU (dg k i) a = some (a * 10 ^ k + i % 10 ^ k) := by
  induction k generalizing a with
  | zero => simp [dg, fw, numU, Nat.mod_one]
  | succ k ih =>
    rw [dg_succ]
    have hd : i / 10 ^ k % 10 < 10 := Nat.mod_lt _ (by decide)
    simp only [numU]
    rw [if_neg (by omega), ih]
    congr 1
    have e1 : 48 + i / 10 ^ k % 10 - 48 = i / 10 ^ k % 10 := by omega
    have e2 : i % 10 ^ (k + 1) = i % 10 ^ k + 10 ^ k * (i / 10 ^ k % 10) := by rw [Nat.pow_succ]; exact Nat.mod_mul
    rw [e1, e2, Nat.pow_succ, Nat.add_mul, Nat.mul_comm (i / 10 ^ k % 10), Nat.mul_comm 10 a, Nat.mul_assoc, Nat.mul_comm 10]
    omega
theorem idx_dg (n i : Nat) (h : NdOf i n) (hi : i < 4294967296) : idxOf (dg n i) = if i = 4294967295 then none else some i := by
  obtain ⟨h1, h2⟩ := h.le10 hi
  have hlt : i < 10 ^ n := by
    rcases h with ⟨rfl, rfl⟩ | h
    · decide
    · exact h.2.2
  have hfirst : ¬ ((dg n i)[0]? = some 48 ∧ 1 < n) := by
    rintro ⟨e1, e2⟩
    rw [dg_get n i 0 (by omega)] at e1
    rcases h with ⟨_, rfl⟩ | h
    · omega
    · have h3 : n - 1 - 0 = n - 1 := by omega
      rw [h3] at e1
      have h4 : i / 10 ^ (n - 1) < 10 := by
        apply Nat.div_lt_of_lt_mul
        rw [← Nat.pow_succ]
        have : (n - 1).succ = n := by omega
        rw [this]; exact h.2.2
      have h5 : 1 ≤ i / 10 ^ (n - 1) := (Nat.one_le_div_iff (Nat.pow_pos (by decide))).2 h.2.1
      simp at e1
      omega
  unfold idxOf
  rw [dg_len, if_neg (by
    rintro (h' | h' | h')
    · omega
    · omega
    · exact hfirst h'), numU_dg, Nat.zero_mul, Nat.zero_add, Nat.mod_eq_of_lt hlt]
  simp only
  by_cases h : i = 4294967295
  · rw [if_pos h, if_pos (by omega)]
  · rw [if_neg h, if_neg (by omega)]
end Go.Proofs.YtkbohoolnpaleaaGreatDoor
namespace Go.Proofs.YtkbohoolnpaleaaGreatDoor
open Go.RowKit F64 Ieee
set_option maxHeartbeats 1000000
set_option maxRecDepth 100000

theorem codes_u8s (l : List Nat) (h : ∀ x ∈ l, x < 256) : codes (u8s l) = l := by
  unfold codes u8s
  simp only [List.map_map]
  have : ∀ x ∈ l, (UInt8.toNat ∘ UInt8.ofNat) x = x := fun x hx => by
    have := h x hx
    simp; omega
  rw [List.map_congr_left this, List.map_id']
theorem c_Show3 (i : Nat) (hi : i < 4294967296) (w : World) (hT : Pows w) (hP : P10 w) :
    Calls Tryz.prog 25 #[.float .f64 (floatOfInt .f64 (i : Int))] w fun e w' => ∃ n, e = .returned (.string (textU (dg n i))) ∧ NdOf i n ∧ Below w.heap.size w w' := by
  have hPl : Calls Tryz.prog 39 #[.float .f64 (floatOfInt .f64 (i : Int))] w fun e w' => ∃ n, e = .returned (.string (u8s (dg n i))) ∧ NdOf i n ∧ Below w.heap.size w w' := by
    by_cases h0 : i = 0
    · subst h0
      have e : floatOfInt .f64 ((0 : Nat) : Int) = 0 := by decide +kernel
      rw [e]
      refine (c_Plain0 w).mono ?_
      rintro e w' ⟨rfl, rfl⟩
      exact ⟨1, rfl, .inl ⟨rfl, rfl⟩, Below.refl _ _⟩
    · obtain ⟨n, hn⟩ := nd_ex i (by omega)
      have hlog : 2 ^ i.log2 ≤ i ∧ i < 2 ^ (i.log2 + 1) := ⟨Nat.log2_self_le h0, Nat.lt_log2_self⟩
      have hk : i.log2 + 1 ≤ 32 := by
        rcases Nat.lt_or_ge i.log2 32 with h | h
        · exact h
        · have := Nat.pow_le_pow_right (n := 2) (by decide) h
          have e : (2 : Nat) ^ 32 = 4294967296 := by decide
          omega
      rw [float_of i (i.log2 + 1) (by omega) hk hlog.2 (by simpa using hlog.1)]
      refine (c_Plain i (i.log2 + 1) n (by omega) hk hlog.2 (by simpa using hlog.1) hn ((NdOf.le10 (.inr hn) hi).2) w hT hP).mono ?_
      rintro e w' ⟨rfl, hb⟩
      exact ⟨n, rfl, .inr hn, hb⟩
  generalize floatOfInt .f64 (i : Int) = x at *
  have hPl := Lib.hid hPl
  have hA : ∀ n, n ≤ 10 → ∀ W, Hid (Calls Tryz.prog 38 #[.string (u8s (dg n i))] W fun e w' => e = .returned (.string (textU (dg n i))) ∧ Below W.heap.size W w') := fun n hn W => by
    have h := c_AsciiR (u8s (dg n i)) (by rw [u8s_size, dg_len]; omega) (by rw [codes_u8s _ (fun x hx => by have := dg_dig n i x hx; omega)]; intro u hu; have := dg_dig n i u hu; omega) W
    rw [codes_u8s _ (fun x hx => by have := dg_dig n i x hx; omega)] at h
    exact h
  have hle : ∀ n, NdOf i n → n ≤ 10 := fun n h => (h.le10 hi).2
  replace hA := Lib.hid hA
  replace hle := Lib.hid hle
  clear hi hT hP
  go_enter Tryz.func25, Tryz.ntmps25
  go_wp2_with fail
  refine hPl.out.mono ?_
  rintro e w1 ⟨n, rfl, hn, hb1⟩
  have hA2 := hA.out n (hle.out n hn) w1
  replace hn := Lib.hid hn
  go_wp2_with fail
  refine hA2.out.mono ?_
  rintro e w2 ⟨rfl, hb2⟩
  go_wp2_with fail
  go_ret
  exact ⟨n, rfl, hn.out, hb1.trans (hb2.mono hb1.size)⟩
theorem c_Of4 (i : Nat) (hi : i < 4294967296) (w : World) (hT : Pows w) (hP : P10 w) :
    Calls Tryz.prog 10 #[.int .u32 (i : Int)] w fun e w' => ∃ n, e = .returned (.agg #[.string (textU (dg n i)), .int .i64 0]) ∧ NdOf i n ∧ Below w.heap.size w w' := by
  have hb0 := (Below.refl w.heap.size w).alloc (Nat.le_refl _) (.cells #[.string ⟨#[]⟩, .int .i64 0] 43)
  have hS := Lib.hid (c_Show3 i hi (w.alloc (.cells #[.string ⟨#[]⟩, .int .i64 0] 43)) (hT.keep hb0) (hP.keep hb0))
  have hcv := fun w => run_convert_int_float (P := Tryz.prog) (w := w) 35 23 .u32 .f64 (i : Int) (by kernel_rfl) Tryz.underlying23
  generalize floatOfInt .f64 (i : Int) = x at *
  clear hi hT hP hb0
  go_enter Tryz.func10, Tryz.ntmps10
  go_wp2_with fail
  refine hS.out.mono ?_
  rintro e w3 ⟨k, rfl, hn, hb3'⟩
  replace hn := Lib.hid hn
  have hh := (hb3'.block w.heap.size (by simp)).trans (heap_alloc_new w _)
  have c0 : w3.cell? ⟨w.heap.size, 0, none⟩ = some (.string ⟨#[]⟩) := by rw [cell_of_row w3 w.heap.size 0 _ _ _ hh]; rfl
  have c1 : w3.cell? ⟨w.heap.size, 1, none⟩ = some (.int .i64 0) := by rw [cell_of_row w3 w.heap.size 1 _ _ _ hh]; rfl
  have f0 : w3.frozen? ⟨w.heap.size, 0, none⟩ = false := by simp [World.frozen?, hh]
  have f1 : w3.frozen? ⟨w.heap.size, 1, none⟩ = false := by simp [World.frozen?, hh]
  have h2 := Lib.hid (heap_setCell_same (w3.setCell ⟨w.heap.size, 0, none⟩ (.string (textU (dg k i)))) w.heap.size 1 _ 43 (.int .i64 0) (heap_setCell_same w3 w.heap.size 0 _ 43 (.string (textU (dg k i))) hh))
  have hbl := Lib.hid (((Below.refl w.heap.size w).alloc (Nat.le_refl _) (.cells #[.string ⟨#[]⟩, .int .i64 0] 43)).trans (hb3'.mono (by simp)))
  clear hb3' hh
  go_wp2_with fail
  refine bodyPost_ret (results_cell_row rfl _ _ w.heap.size 43 #[.string (textU (dg k i)), .int .i64 0] (0, 0) _ rfl h2.out Tryz.underlying43 rfl infoKeyRow) rfl ?_
  exact ⟨k, rfl, hn.out, (hbl.out.setCell (Nat.le_refl _) _).setCell (Nat.le_refl _) _⟩
end Go.Proofs.YtkbohoolnpaleaaGreatDoor
