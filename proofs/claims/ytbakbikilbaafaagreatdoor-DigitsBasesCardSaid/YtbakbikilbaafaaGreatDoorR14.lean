/-
  Contracts: Contracts of the reference's front, Make (of a slice of a row) and Trim (printed by gen_XTD.py). Contracts of the program's plain and decimal. Contracts of the program's exact, and its float (given what ParseFloat returns). awake's calls: Read of " 0x1F ", Blank(32), Show(0.1), Show(1e21). awake's ParseFloat of "12" and "0.15e4". awake's float of "1.5e3". awake's Literal("1.5e3;") and Whole("12px", 10). awake: the chapter's examples hold. The contract of atof64, and of ParseFloat, at 0.<digits>e<power>: the float nearest to the number, whatever digits there are. The contract of the program's float, at any decimal text. The contract of the program's float, at any decimal text: the walk (printed by gen_XVQ.py).
-/
import Derived.Test.YtbakbikilbaafaaGreatDoorR13
import Derived.Laws.IdiomStrings
import Derived.Laws.BytesArg
import Derived.Test.YtbakbikilbaafaaGreatDoorR11
import Derived.Test.YtbakbikilbaafaaGreatDoorR10
import Derived.Deep.DeepCutAuto
import Derived.Deep.CutBlock
namespace Go.Proofs.YtbakbikilbaafaaGreatDoor
open Go.RowKit Go.Shelf Go.Lib Go.Sort Go.Proofs
set_option linter.unusedVariables false
set_option maxHeartbeats 4000000
set_option maxRecDepth 100000

/-- v reads as units; it may be a slice of a row -/
def RdO (B : Nat) (w : World) (v : Value) (us : List Nat) : Prop :=
  ∃ b c, v = .slice b us.length c ∧ us.length ≤ c ∧ ∀ (j u : Nat), us[j]? = some u → ∃ g o, g < B ∧ b = some ⟨g, o, none⟩ ∧ w.cell? ⟨g, o + j, none⟩ = some (.int .u16 (u : Int))
theorem RdO.keep {B B' : Nat} {w w' : World} {v : Value} {us : List Nat} (h : RdO B w v us) (hb : Below B' w w') (hB : B ≤ B') : RdO B w' v us := by
  obtain ⟨b, c, h1, h0, h2⟩ := h
  refine ⟨b, c, h1, h0, fun j u hu => ?_⟩
  obtain ⟨g, o, k1, k2, k4⟩ := h2 j u hu
  exact ⟨g, o, k1, k2, by rw [hb.cell (p := ⟨g, o + j, none⟩) (by show g < B'; omega)]; exact k4⟩
theorem RdO_own {w : World} {base n : Nat} {e : TypeId} {v : Value} {us : List Nat} (h : w.ownsRow base e 1 v n (u16s us)) : RdO w.heap.size w v us := by
  have hl := h.lt
  have hc := fun g hg => World.ownsRow.cells h (g := g) hg
  have hlen : (u16s us).length = us.length := by simp [u16s]
  rcases h with ⟨hn, ⟨rfl, rfl⟩ | ⟨g, cap, cur, rfl, hb, hh, h1, h2, h3, h4⟩⟩
  · have : us = [] := List.length_eq_zero_iff.1 (by omega)
    subst this
    exact ⟨none, 0, rfl, Nat.le_refl _, fun j u hu => by simp at hu⟩
  · have hn' : n = us.length := by omega
    subst hn'
    refine ⟨_, cap, rfl, h1, ?_⟩
    intro j u hu
    have := hc g rfl j (.int .u16 (u : Int)) (by simp [u16s, hu])
    rw [add_zero_addr] at this
    exact ⟨g, 0, (hl g rfl).2, rfl, by rw [Nat.zero_add]; exact this⟩
theorem sz16 (w : World) : (Go.sizeOf 27).run Tryz.prog w = .ok 1 w := by kernel_rfl
theorem el16 : Tryz.prog.elem 49 = 27 := by kernel_rfl
theorem sl16_from {p : Option Addr} {n c k : Nat} (hk : k ≤ n) (W : World) : (Instr.slice 49 (.slice p n c) (some (.int .i64 (k : Int))) none none).run Tryz.prog W = .ok (.slice (if c = k then p else p.map (fun x => x.add k)) (n - k) (c - k)) W := by
  have h := run_slice_l (P := Tryz.prog) W 49 p n c (by rw [el16]; exact Tryz.underlying49) .i64 (k : Int) (by omega) (by omega)
  rw [h, el16, sz16]
  simp only [Result.andThen, sliced, Int.toNat_natCast, Nat.mul_one]
theorem RdO.drop {B : Nat} {w : World} {p : Option Addr} {n c : Nat} {us : List Nat} (h : RdO B w (.slice p n c) us) (k : Nat) (hk : k ≤ n) : RdO B w (.slice (if c = k then p else p.map (fun x => x.add k)) (n - k) (c - k)) (us.drop k) := by
  obtain ⟨b, d, e1, e2, e3⟩ := h
  injection e1 with e1 e4 e5
  subst e1 e4 e5
  refine ⟨_, _, by rw [List.length_drop], by rw [List.length_drop]; omega, fun j u hu => ?_⟩
  rw [List.getElem?_drop] at hu
  have hj := (List.getElem?_eq_some_iff.1 hu).1
  obtain ⟨g, o, g1, rfl, g2⟩ := e3 (k + j) u hu
  refine ⟨g, o + k, g1, ?_, by rw [show o + k + j = o + (k + j) by omega]; exact g2⟩
  rw [if_neg (by omega)]
  simp [Addr.add]
theorem RdO.take {B : Nat} {w : World} {p : Option Addr} {n c : Nat} {us : List Nat} (h : RdO B w (.slice p n c) us) (k : Nat) (hk : k ≤ n) : RdO B w (.slice p k c) (us.take k) := by
  obtain ⟨b, d, e1, e2, e3⟩ := h
  injection e1 with e1 e4 e5
  subst e1 e4 e5
  have hl : (us.take k).length = k := by rw [List.length_take]; omega
  refine ⟨_, _, by rw [hl], by omega, fun j u hu => ?_⟩
  have hj : j < k := by have := (List.getElem?_eq_some_iff.1 hu).1; omega
  exact e3 j u (by rw [List.getElem?_take, if_pos hj] at hu; exact hu)
theorem RdO.form {B : Nat} {w : World} {v : Value} {us : List Nat} (h : RdO B w v us) : ∃ p c, v = .slice p us.length c := by
  obtain ⟨b, c, h1, _, _⟩ := h
  exact ⟨b, c, h1⟩
theorem c_MakeO (us : List Nat) (v : Value) (hus : ∀ u ∈ us, u < 65536) (hl : us.length ≤ 549755813888) (w : World) (h : RdO w.heap.size w v us) :
    Calls Tryz.prog 35 #[v] w fun e w' => e = .returned (.string (textU us)) ∧ Below w.heap.size w w' := by
  obtain ⟨i0, hi0, hz0, hz1, hz2⟩ := info_parts infoU8
  obtain ⟨p, c, rfl, hlc, hcell⟩ := h
  have hget : ∀ k, k < us.length → ∃ u g o, us[k]? = some u ∧ u < 65536 ∧ p = some ⟨g, o, none⟩ ∧ ∀ y, Below w.heap.size w y → y.cell? ⟨g, o + k, none⟩ = some (.int .u16 (u : Int)) := by
    intro k hk
    have hx : us[k]? = some us[k] := List.getElem?_eq_getElem hk
    obtain ⟨g, o, g1, g2, g4⟩ := hcell k us[k] hx
    refine ⟨us[k], g, o, hx, hus _ (List.getElem_mem hk), g2, fun y hy => ?_⟩
    rw [hy.cell (p := ⟨g, o + k, none⟩) (by exact g1)]
    exact g4
  have hsn := bytesU_snoc us
  have hbl : ∀ k, (bytesU (us.take k)).length = 2 * (us.take k).length := fun k => bytesU_len _
  have hend : bytesU (us.take us.length) = bytesU us := by rw [List.take_length]
  have h0 : bytesU (us.take 0) = [] := rfl
  unfold textU
  generalize bytesU us = E at *
  generalize hF : (fun k => bytesU (us.take k)) = F at *
  have hF' : ∀ k, bytesU (us.take k) = F k := fun k => by rw [← hF]
  simp only [hF'] at hsn hbl hend h0
  have hFl : ∀ k, k ≤ us.length → (F k).length = 2 * k := fun k hk => by rw [hbl, List.length_take]; omega
  clear hcell hus hlc hF hF' hbl
  generalize us.length = n at *
  replace hget := Lib.hid hget
  replace hsn := Lib.hid hsn
  replace hend := Lib.hid hend
  replace h0 := Lib.hid h0
  replace hFl := Lib.hid hFl
  go_enter Tryz.func35, Tryz.ntmps35
  go_wp2
  go_loopw [3, 8] (fun vb vk wr => ∃ k : Nat, k ≤ n ∧ vk = .int .i64 (k : Int) ∧ wr.ownsRow w.heap.size 5 1 vb (2 * k) (cellsB (F k)) ∧ Below w.heap.size w wr) (fun _ vk _ => n - (RowKit.intOf vk).toNat)
  case atStart => exact ⟨0, by omega, rfl, ⟨by rw [h0.out]; rfl, .inl ⟨rfl, rfl⟩⟩, Below.refl _ _⟩
  case round =>
    obtain ⟨k, hk, rfl, hown, hbel⟩ := hrel
    rcases Nat.lt_or_ge k n with hlt | hge
    · obtain ⟨u, g, o, hu, hu2, rfl, hy⟩ := hget.out k hlt
      have d1 := hy wr hbel
      have hs := Lib.hid (hsn.out k u hu)
      clear hu hy
      have hk2 := Lib.hid (hFl.out k hk)
      have hcB : cellsB (F k) ++ [.int .u8 ((u : Int) / 256), .int .u8 ((u : Int) % 256)] = cellsB (F (k + 1)) := by
        rw [hs.out]
        simp only [cellsB, List.map_append, byteU, List.map_cons, List.map_nil]
        congr 2
        · congr 1
          simp; omega
        · congr 2
          simp
      replace hcB := Lib.hid hcB
      go_wp2_with (at_builtin; refine wpList_append_lies _ (by rfl) _ _ _ (by rfl) w.heap.size 5 i0 _ 1 1 Tryz.underlying90 hi0 hz0 hz1 hz2 rfl (by omega) u3 (2 * k) (cellsB (F k)) (by rfl) (hown.alloc _) ⟨wr.heap.size, 0, none⟩ 2 2 [.int .u8 ((u : Int) / 256), .int .u8 ((u : Int) % 256)] (by rfl) (by rfl) (World.news_of_block (cs := #[.int .u8 ((u : Int) / 256), .int .u8 ((u : Int) % 256)]) (t := 5) (fr := (0, 0)) (by exact heap_alloc_new wr _)) (by simp [Value.oneCell']) (by omega) (by unfold maxLen; omega) (by omega) (by have := hbel.size; simp; omega) (wr.heap.size + 1) (by simp) ?_; intro gg cap w2 hown2 hgrow hat hlt2)
      have hown3 : w2.ownsRow w.heap.size 5 1 (.slice (some ⟨gg, 0, none⟩) (2 * k + 2) cap) (2 * (k + 1)) (cellsB (F (k + 1))) := by
        rw [← hcB.out]; exact hown2
      have hbel2 : Below w.heap.size w w2 := (hbel.alloc hbel.size _).grown hgrow (by have := hbel.size; simp; omega) (own_base hown)
      clear hown2 hgrow
      go_roundw
      case rel => exact ⟨k + 1, by omega, by go_num, hown3, hbel2⟩
      case measure => simp [RowKit.intOf]; omega
    · obtain rfl : k = n := by omega
      have hE := hend.out
      have hkl := hFl.out k hk
      have hcv : (convert 90 24 u3).run Tryz.prog wr = .ok (.string ⟨E.toArray⟩) wr := by
        rw [hE] at hown hkl
        rcases Nat.eq_zero_or_pos k with h1 | h1
        · subst h1
          have hE0 : E = [] := List.length_eq_zero_iff.1 (by omega)
          subst hE0
          rcases hown with ⟨_, ⟨rfl, _⟩ | ⟨g, cap, cur, rfl, _⟩⟩
          · exact run_convert_bytes_nil (P := Tryz.prog) wr 90 5 Tryz.underlying90 Tryz.underlying5 0 0 24 Tryz.underlying24
          · exact run_convert_bytes_back (P := Tryz.prog) wr 90 24 5 ⟨g, 0, none⟩ cap [] Tryz.underlying90 Tryz.underlying5 Tryz.underlying24 (fun j hj => by simp at hj)
        · obtain ⟨g, cap, rfl, _, _⟩ := hown.form (by omega)
          have hc := World.ownsRow.cells hown (g := g) rfl
          rw [← hkl]
          refine run_convert_bytes_back (P := Tryz.prog) wr 90 24 5 ⟨g, 0, none⟩ cap E Tryz.underlying90 Tryz.underlying5 Tryz.underlying24 (fun j hj => hc j _ ?_)
          simp [cellsB, hj]
      clear hown hkl hE
      go_wp2
      go_ret
      exact ⟨rfl, hbel⟩
def blkL (us : List Nat) (i : Nat) : Bool := blkN (us.getD i 0)
theorem c_Rfront (us : List Nat) (v : Value) (k : Nat) (hus : ∀ u ∈ us, u < 65536) (hl : us.length ≤ 549755813888) (hF : FrA (blkL us) us.length k) (w : World) (h : RdO w.heap.size w v us) :
    Calls Tryz.prog 34 #[v] w fun e w' => e = .returned (.int .i64 (k : Int)) ∧ Below w.heap.size w w' := by
  obtain ⟨h1, h2, h3⟩ := hF
  obtain ⟨p, c, rfl, hlc, hcell⟩ := h
  have hget : ∀ k, k < us.length → ∃ u g o, us.getD k 0 = u ∧ u < 65536 ∧ p = some ⟨g, o, none⟩ ∧ ∀ y, Below w.heap.size w y → y.cell? ⟨g, o + k, none⟩ = some (.int .u16 (u : Int)) := by
    intro k hk
    have hx : us[k]? = some us[k] := List.getElem?_eq_getElem hk
    obtain ⟨g, o, g1, g2, g4⟩ := hcell k us[k] hx
    refine ⟨us[k], g, o, by rw [List.getD_eq_getElem?_getD, hx]; rfl, hus _ (List.getElem_mem hk), g2, fun y hy => ?_⟩
    rw [hy.cell (p := ⟨g, o + k, none⟩) (by exact g1)]
    exact g4
  have hB := Lib.hid (fun (u : Nat) (hu : u < 65536) W => c_RBlank u hu W)
  unfold blkL at h2 h3
  clear hcell hus
  replace hget := Lib.hid hget
  replace h2 := Lib.hid h2
  replace h3 := Lib.hid h3
  generalize us.length = n at *
  go_enter Tryz.func34, Tryz.ntmps34
  go_wp2
  go_loopw [3] (fun v3 wr => ∃ j : Nat, j ≤ k ∧ v3 = .int .i64 (j : Int) ∧ Below w.heap.size w wr) (fun v3 _ => k - (RowKit.intOf v3).toNat)
  case atStart => exact ⟨0, Nat.zero_le _, rfl, Below.refl _ _⟩
  case round =>
    obtain ⟨j, hj, rfl, hb⟩ := hrel
    rcases Nat.lt_or_ge j n with hjn | hjn
    · obtain ⟨u, g, o, hu, hu2, rfl, hy⟩ := hget.out j hjn
      have d1 := hy wr hb
      have hBj := Lib.hid (fun W => hB.out u hu2 W)
      rcases Nat.eq_or_lt_of_le hj with e | e
      · subst e
        have hf := h3.out hjn
        rw [hu] at hf
        rw [hf] at hBj
        clear hf hu hy
        go_wp2_with fail
        refine (hBj.out _).mono ?_
        rintro e w1 ⟨rfl, hb1⟩
        have hb2 := hb.trans (hb1.mono hb.size)
        go_wp2_with fail
        go_ret
        exact ⟨rfl, hb2⟩
      · have hf := h2.out j e
        rw [hu] at hf
        rw [hf] at hBj
        clear hf hu hy
        go_wp2_with fail
        refine (hBj.out _).mono ?_
        rintro e w1 ⟨rfl, hb1⟩
        have hb2 := hb.trans (hb1.mono hb.size)
        go_wp2_with fail
        exact ⟨⟨j + 1, by omega, by go_num, hb2⟩, by simp [RowKit.intOf]; omega⟩
    · obtain rfl : j = k := by omega
      go_wp2_with fail
      go_ret
      exact ⟨rfl, hb⟩
theorem unitsN_get (s : ByteArray) (n i : Nat) (h : i < n) : (unitsN s n)[i]? = some (unitAt s i) := by
  induction n with
  | zero => omega
  | succ n ih =>
    unfold unitsN
    rcases Nat.lt_or_ge i n with h1 | h1
    · rw [List.getElem?_append_left (by rw [unitsN_len]; exact h1)]; exact ih h1
    · obtain rfl : i = n := by omega
      rw [List.getElem?_append_right (by rw [unitsN_len]; exact Nat.le_refl _), unitsN_len]; simp
theorem unitsN_mem (s : ByteArray) (n : Nat) : ∀ u ∈ unitsN s n, u < 65536 := fun u hu => by
  obtain ⟨i, hi⟩ := List.mem_iff_getElem?.1 hu
  have hl := (List.getElem?_eq_some_iff.1 hi).1
  rw [unitsN_len] at hl
  rw [unitsN_get s n i hl] at hi
  injection hi with hi
  rw [← hi]; exact unitAt_lt s i
theorem byteU_unit (s : ByteArray) (k : Nat) (h : 2 * k + 1 < s.size) : byteU (unitAt s k) = [s.data.toList[2 * k]'(by simpa using (by omega : 2 * k < s.size)), s.data.toList[2 * k + 1]'(by simpa using h)] := by
  have h1 : 2 * k < s.data.toList.length := by simpa using (by omega : 2 * k < s.size)
  have h2 : 2 * k + 1 < s.data.toList.length := by simpa using h
  have e1 : ub s (2 * k) = s.data.toList[2 * k].toNat := by unfold ub; rw [List.getD_eq_getElem?_getD, List.getElem?_eq_getElem h1]; rfl
  have e2 : ub s (2 * k + 1) = s.data.toList[2 * k + 1].toNat := by unfold ub; rw [List.getD_eq_getElem?_getD, List.getElem?_eq_getElem h2]; rfl
  have b1 := s.data.toList[2 * k].toNat_lt
  have b2 := s.data.toList[2 * k + 1].toNat_lt
  unfold byteU unitAt
  rw [e1, e2]
  generalize s.data.toList[2 * k] = x at *
  generalize s.data.toList[2 * k + 1] = y at *
  rw [show (x.toNat * 256 + y.toNat) / 256 = x.toNat by omega, show (x.toNat * 256 + y.toNat) % 256 = y.toNat by omega]
  simp
theorem bytesU_units (s : ByteArray) (k : Nat) (h : k ≤ s.size / 2) : bytesU (unitsN s k) = s.data.toList.take (2 * k) := by
  induction k with
  | zero => rfl
  | succ k ih =>
    have h1 : 2 * k < s.data.toList.length := by simpa using (by omega : 2 * k < s.size)
    have h2 : 2 * k + 1 < s.data.toList.length := by simpa using (by omega : 2 * k + 1 < s.size)
    have e : bytesU (unitsN s (k + 1)) = bytesU (unitsN s k) ++ byteU (unitAt s k) := by rw [show unitsN s (k + 1) = unitsN s k ++ [unitAt s k] from rfl]; unfold bytesU; simp
    rw [e, ih (by omega), byteU_unit s k (by omega), show 2 * (k + 1) = 2 * k + 1 + 1 by omega, List.take_add_one, List.take_add_one, List.getElem?_eq_getElem h1, List.getElem?_eq_getElem h2]
    simp
theorem bytesU_take2 (us : List Nat) (k : Nat) : bytesU (us.take k) = (bytesU us).take (2 * k) := by
  induction us generalizing k with
  | nil => simp [bytesU]
  | cons u us ih =>
    cases k with
    | zero => simp [bytesU]
    | succ k =>
      have e : ∀ l, bytesU (u :: l) = byteU u ++ bytesU l := fun l => by simp [bytesU]
      rw [List.take_succ_cons, e, e, ih]
      unfold byteU
      rw [show 2 * (k + 1) = 2 * k + 1 + 1 by omega]
      simp
theorem bytesU_drop2 (us : List Nat) (k : Nat) : bytesU (us.drop k) = (bytesU us).drop (2 * k) := by
  induction us generalizing k with
  | nil => simp [bytesU]
  | cons u us ih =>
    cases k with
    | zero => simp
    | succ k =>
      have e : ∀ l, bytesU (u :: l) = byteU u ++ bytesU l := fun l => by simp [bytesU]
      rw [List.drop_succ_cons, e, ih]
      unfold byteU
      rw [show 2 * (k + 1) = 2 * k + 1 + 1 by omega]
      simp
theorem text_cut (s : ByteArray) (k t : Nat) (h : t ≤ s.size / 2) : textU (((unitsN s (s.size / 2)).drop k).take (t - k)) = s.extract (2 * k) (2 * t) := by
  unfold textU
  rw [bytesU_take2, bytesU_drop2, bytesU_units s _ (Nat.le_refl _)]
  have : ∀ a b : ByteArray, a.data = b.data → a = b := fun a b h => by cases a; cases b; simp at h; rw [h]
  apply this
  rw [ByteArray.data_extract]
  apply Array.toList_inj.1
  rw [Array.toList_extract, List.toList_toArray, List.extract_eq_take_drop]
  have hl : (s.data.toList).length = s.size := by simp
  rw [List.drop_take, List.take_take]
  congr 1
  omega
end Go.Proofs.YtbakbikilbaafaaGreatDoor
namespace Go.Proofs.YtbakbikilbaafaaGreatDoor
open Go.RowKit F64 Ieee
set_option linter.unusedVariables false
set_option maxHeartbeats 4000000
set_option maxRecDepth 100000

/-- units as bytes -/
def plL (us : List Nat) : List Nat := us.map fun u => min u 127
theorem plL_take (us : List Nat) (k u : Nat) (h : us[k]? = some u) : Lib.byteCells ((plL (us.take (k + 1))).map UInt8.ofNat) = Lib.byteCells ((plL (us.take k)).map UInt8.ofNat) ++ [.int .u8 ((min u 127 : Nat) : Int)] := by
  rw [List.take_add_one, h]
  unfold plL
  simp only [Option.toList, List.map_append, List.map_cons, List.map_nil]
  rw [Lib.byteCells_append]
  congr 1
  unfold Lib.byteCells
  simp
  omega
theorem c_dplain (s : ByteArray) (hs : s.size ≤ 1099511627776) (w : World) :
    Calls Tryz.prog 36 #[.string s] w fun e w' => e = .returned (.string (u8sG (plL (unitsN s (s.size / 2))))) ∧ Below w.heap.size w w' := by
  have hU := Lib.hid (fun W => c_Units s hs W)
  have hm0 := Lib.hid (unitsN_mem s (s.size / 2))
  have hl0 := Lib.hid (unitsN_len s (s.size / 2))
  have hN : s.size / 2 ≤ 549755813888 := by omega
  have hst := Lib.hid (plL_take (unitsN s (s.size / 2)))
  have hend : Hid (u8sG (plL (unitsN s (s.size / 2))) = ⟨((plL ((unitsN s (s.size / 2)).take (s.size / 2))).map UInt8.ofNat).toArray⟩) := by
    show _ = _
    rw [List.take_of_length_le (by rw [hl0.out]; exact Nat.le_refl _)]; rfl
  have hbl : Hid (∀ k, (Lib.byteCells ((plL ((unitsN s (s.size / 2)).take k)).map UInt8.ofNat)).length ≤ 549755813888) := fun k => by
    rw [Lib.byteCells_length]
    unfold plL
    simp
    have := hl0.out
    omega
  generalize u8sG (plL (unitsN s (s.size / 2))) = R at *
  generalize unitsN s (s.size / 2) = us at *
  generalize s.size / 2 = n at *
  have hW := Lib.hid (fun bs c W h hl hB => Any.Builder_WriteByte_k lays167 bextra w.heap.size w.heap.size bs c W h hl hB)
  have hS := Lib.hid (fun l W h hB => Any.Builder_String_any_k lays169 bextra w.heap.size w.heap.size l W h hB)
  have hfr := Lib.hid (Lib.IsBuilderF.of (Lib.fresh_isBuilder 93 5 w))
  have hW0 : Hid (Below w.heap.size w (w.alloc (.cells #[.pointer none, .slice none 0 0] 93))) := (Below.refl _ w).alloc (Nat.le_refl _) _
  have hsz0 : (w.alloc (.cells #[.pointer none, .slice none 0 0] 93)).heap.size = w.heap.size + 1 := by simp
  replace hsz0 := Lib.hid hsz0
  go_enter Tryz.func36, Tryz.ntmps36
  go_wp2_with fail
  refine (hU.out _).mono ?_
  rintro e w2 ⟨v, rfl, hown, hb2⟩
  have hI2 := Lib.hid (builderF_keep hfr.out hb2)
  have hbel2 : Below w.heap.size w w2 := hW0.out.trans (hb2.mono hW0.out.size)
  have hget : ∀ k, k < n → ∃ u g, us[k]? = some u ∧ u < 65536 ∧ (∃ c, v = .slice (some ⟨g, 0, none⟩) n c ∧ n ≤ c) ∧ ∀ y, Lib.OthersKept 5 (some w.heap.size) w2 y → y.cell? ⟨g, k, none⟩ = some (.int .u16 (u : Int)) := by
    intro k hk
    have hku : k < us.length := by rw [hl0.out]; exact hk
    have hx : us[k]? = some us[k] := List.getElem?_eq_getElem hku
    have hc := fun g hg => World.ownsRow.cells hown (g := g) hg
    have hlen : (u16s us).length = us.length := by simp [u16s]
    rcases hown with ⟨hn, ⟨rfl, rfl⟩ | ⟨g, cap, cur, rfl, hbg, hh, h1, h2, h3, h4⟩⟩
    · omega
    · refine ⟨us[k], g, hx, hm0.out _ (List.getElem_mem hku), ⟨cap, rfl, by omega⟩, fun y hy => ?_⟩
      have h6 := hc g rfl k (.int .u16 (us[k] : Int)) (by simp [u16s, hx])
      rw [add_zero_addr] at h6
      have h7 := hy g _ hh (by have := hsz0.out; simp; omega) (fun c fz he => by cases he)
      rw [cell_of_row y _ _ _ _ _ h7, ← cell_of_row w2 _ _ _ _ _ hh]
      exact h6
  obtain ⟨p, c, rfl⟩ : ∃ p c, v = .slice p n c := by
    obtain ⟨p, c, h⟩ := (RdO_own hown).form
    rw [hl0.out] at h
    exact ⟨p, c, h⟩
  replace hget := Lib.hid hget
  have hB2 := hbel2.size
  clear hown hb2
  go_wp2_with fail
  go_loopw [5, 9] (fun v5 v9 wr => ∃ k : Nat, k ≤ n ∧ v9 = .int .i64 (k : Int) ∧ Lib.IsBuilderF 93 5 w.heap.size w.heap.size (Lib.byteCells ((plL (us.take k)).map UInt8.ofNat)) wr ∧ Below w.heap.size w wr ∧ Lib.OthersKept 5 (some w.heap.size) w2 wr) (fun _ v9 _ => n - (intOf v9).toNat)
  case atStart => exact ⟨0, Nat.zero_le _, rfl, hI2.out, hbel2, Lib.OthersKept.refl _ _ _⟩
  case round =>
    obtain ⟨k, hk, rfl, hI, hb, ho⟩ := hrel
    rcases Nat.lt_or_ge k n with hkn | hkn
    · obtain ⟨u, g, hu, hu2, ⟨c1, e1, hc1⟩, hy⟩ := hget.out k hkn
      injection e1 with e1 _ e2
      subst e1 e2
      have d1 := hy wr ho
      have hs2 := Lib.hid (hst.out k u hu)
      have hlb := hbl.out k
      have hWk := Lib.hid (hW.out _ ((min u 127 : Nat) : Int) wr hI (by omega) hb.size)
      have hmin : min (u : Int) 127 = ((min u 127 : Nat) : Int) := by omega
      have hm8 : min u 127 ≤ 127 := Nat.min_le_right _ _
      clear hu hy hlb hI
      generalize hmu : min u 127 = mu at *
      clear hmu
      go_wp2_with fail
      refine hWk.out.mono ?_
      rintro e w3 ⟨rfl, h1, b1, k1⟩
      have hb3 := hb.trans (b1.mono (Nat.le_refl _))
      have ho3 := ho.trans k1
      go_wp2_with fail
      go_roundw
      case rel => exact ⟨k + 1, by omega, by go_num, by rw [hs2.out]; exact .inr h1, hb3, ho3⟩
      case measure => simp [intOf]; omega
    · obtain rfl : k = n := by omega
      have hSk := Lib.hid (hS.out _ wr hI hb.size)
      rw [← hend.out] at hSk
      clear hI
      go_wp2_with fail
      refine hSk.out.mono ?_
      rintro e w3 ⟨rfl, _, b1, _⟩
      go_wp2_with fail
      go_ret
      exact ⟨rfl, hb.trans b1⟩
/-- digits, a point, digits; an exponent -/
def decM (L : List Nat) (n : Nat) : Nat := if L.getD (n + 1) 0 = 43 ∨ L.getD (n + 1) 0 = 45 then n + 2 else n + 1
def decE (L : List Nat) (n : Nat) : Nat := if L.getD n 0 ||| 32 = 101 then (if 0 < runL 10 (L.drop (decM L n)) then decM L n + runL 10 (L.drop (decM L n)) else n) else n
def decN (L : List Nat) : Nat :=
  if L.getD (runL 10 L) 0 = 46 then (if runL 10 L + runL 10 (L.drop (runL 10 L + 1)) = 0 then 0 else decE L (runL 10 L + 1 + runL 10 (L.drop (runL 10 L + 1))))
  else if runL 10 L = 0 then 0 else decE L (runL 10 L)
theorem getD_lt {L : List Nat} {i c : Nat} (h : L.getD i 0 = c) (hi : i < L.length) : L[i]? = some c := by
  rw [List.getD_eq_getElem?_getD, List.getElem?_eq_getElem hi] at h
  rw [List.getElem?_eq_getElem hi]
  simpa using h
theorem getD_ge {L : List Nat} {i : Nat} (hi : L.length ≤ i) : L.getD i 0 = 0 := by
  rw [List.getD_eq_getElem?_getD, List.getElem?_eq_none hi]; rfl
theorem c_ddecimal (L : List Nat) (hL : ∀ c ∈ L, c < 256) (hl : L.length ≤ 10000000) (w : World) :
    Calls Tryz.prog 43 #[.string (u8sG L)] w fun r w' => r = .returned (.int .i64 (decN L : Int)) ∧ Below w.heap.size w w' := by
  have hsz : (u8sG L).size = L.length := uG_size L
  have hD := Lib.hid (c_ddigitsOf 10 w)
  have hRun := Lib.hid (fun at_ (hat : at_ ≤ L.length) W (h : W.cell? ⟨w.heap.size, 0, none⟩ = some (.int .i64 ((10 : Nat) : Int))) => c_drun L hL at_ 10 w.heap.size hat hl W h)
  have hget := Lib.hid (fun i c (h : L.getD i 0 = c) (hi : i < L.length) (h3 : i < (u8sG L).size) => uG_get L i c (getD_lt h hi) (hL _ (List.mem_of_getElem? (getD_lt h hi))) h3)
  have hc256 := Lib.hid (fun i (hi : i < L.length) => hL (L.getD i 0) (List.mem_of_getElem? (getD_lt rfl hi)))
  have hdef : Hid (decN L = if L.getD (runL 10 L) 0 = 46 then (if runL 10 L + runL 10 (L.drop (runL 10 L + 1)) = 0 then 0 else decE L (runL 10 L + 1 + runL 10 (L.drop (runL 10 L + 1)))) else if runL 10 L = 0 then 0 else decE L (runL 10 L)) := rfl
  have hdE : Hid (∀ n, decE L n = if L.getD n 0 ||| 32 = 101 then (if 0 < runL 10 (L.drop (decM L n)) then decM L n + runL 10 (L.drop (decM L n)) else n) else n) := fun n => rfl
  have hdM : Hid (∀ n, decM L n = if L.getD (n + 1) 0 = 43 ∨ L.getD (n + 1) 0 = 45 then n + 2 else n + 1) := fun n => rfl
  have hle := Lib.hid (fun at_ (hat : at_ ≤ L.length) => (show at_ + runL 10 (L.drop at_) ≤ L.length by have := runL_le 10 (L.drop at_); rw [List.length_drop] at this; omega))
  have hge0 := Lib.hid (fun i (hi : L.length ≤ i) => getD_ge (L := L) hi)
  have hdn := Lib.hid (fun i (hi : L.length ≤ i) => (show runL 10 (L.drop i) = 0 by rw [List.drop_eq_nil_of_le hi]; rfl))
  have hal := hle.out 0 (Nat.zero_le _)
  have hR0 := Lib.hid (fun W h => hRun.out 0 (Nat.zero_le _) W h)
  rw [List.drop_zero] at hal hR0
  have hszl : (u8sG L).size ≤ 10000000 := by omega
  replace hsz := Lib.hid hsz
  generalize u8sG L = S at *
  generalize hN : decN L = N at *
  replace hN := Lib.hid hN
  clear hL
  generalize runL 10 L = a at *
  have hR0 : Hid (∀ W, W.cell? ⟨w.heap.size, 0, none⟩ = some (.int .i64 10) → Calls Tryz.prog 38 #[.string S, .int .i64 0, DigF w.heap.size] W fun r w' => r = .returned (.int .i64 (a : Int)) ∧ Below W.heap.size W w') := hR0
  go_enter Tryz.func43, Tryz.ntmps43
  go_wp2_with fail
  refine hD.out.mono ?_
  rintro e w1 ⟨rfl, hcell, hb1⟩
  have hlt1 := lt_ofC hcell
  have hcellK := Lib.hid (fun W (hb : Below w1.heap.size w1 W) => (hb.cell (p := ⟨w.heap.size, 0, none⟩) hlt1).trans hcell)
  have hcell := Lib.hid hcell
  have hlt1 := Lib.hid hlt1
  go_wp2_with fail
  refine (hR0.out _ hcell.out).mono ?_
  rintro e w2 ⟨rfl, hb2⟩
  clear hR0
  have hsN := hsz.out
  have hb12 : Below w.heap.size w w2 := hb1.trans (hb2.mono hb1.size)
  by_cases hdot : L.getD a 0 = 46
  · have hd0 := hdef.out
    rw [if_pos hdot] at hd0
    have hal2 : a < L.length := by
      rcases Nat.lt_or_ge a L.length with h | h
      · exact h
      · rw [hge0.out a h] at hdot; omega
    have hlS0 : a < S.size := by omega
    have hg0 := hget.out a 46 hdot hal2 hlS0
    have hlI0 : (a : Int) < (S.size : Int) := by omega
    have hbl2 := hle.out (a + 1) (by omega)
    have hR1 : Hid (∀ W, W.cell? ⟨w.heap.size, 0, none⟩ = some (.int .i64 10) → Calls Tryz.prog 38 #[.string S, .int .i64 ((a : Int) + 1), DigF w.heap.size] W fun r w' => r = .returned (.int .i64 (runL 10 (L.drop (a + 1)) : Int)) ∧ Below W.heap.size W w') := fun W h => hRun.out (a + 1) (by omega) W h
    generalize runL 10 (L.drop (a + 1)) = b at *
    have hcK1 := Lib.hid (hcellK.out _ hb2)
    obtain ⟨n, hn⟩ : ∃ n, a + 1 + b = n := ⟨_, rfl⟩
    rw [hn] at hd0 hbl2
    have hnI : (a : Int) + (1 + (b : Int)) = (n : Int) := by omega
    clear hdot hn
    replace hsN := Lib.hid hsN
    go_wp2_with fail
    refine (hR1.out _ hcK1.out).mono ?_
    rintro e w3 ⟨rfl, hb3⟩
    have hb23 : Below w1.heap.size w1 w3 := hb2.trans (hb3.mono hb2.size)
    have hb13 : Below w.heap.size w w3 := hb12.trans (hb3.mono hb12.size)
    clear hb1 hb2 hb3 hb12 hR1
    have hsN := hsN.out
    by_cases hz : a + b = 0
    · rw [if_pos hz] at hd0
      have hfin := Lib.hid hd0
      have hq : ((a : Int) + (b : Int) == 0) = true := by simp; omega
      clear hsN hd0 hz
      go_wp2_with fail
      go_ret
      exact ⟨by rw [hfin.out]; rfl, hb13⟩
    · rw [if_neg hz] at hd0
      have hq : ((a : Int) + (b : Int) == 0) = false := beq_eq_false_iff_ne.2 (by omega)
      have hnd := Lib.hid hd0
      clear hd0 hz
      have hsE := hdE.out n
      by_cases hend : n < L.length
      · have hc2 := hc256.out n hend
        have hlS : n < S.size := by omega
        have hg := hget.out n _ rfl hend hlS
        have hor := or8 _ hc2
        have hlI : (n : Int) < (S.size : Int) := by omega
        have hsM := hdM.out n
        by_cases hE : L.getD n 0 ||| 32 = 101
        · rw [if_pos hE] at hsE
          rw [hE] at hor
          generalize L.getD n 0 = c at *
          have hor : bits BinOp.or IntKind.u8 (c : Int) 32 = 101 := hor
          clear hE
          by_cases hend2 : n + 1 < L.length
          · have hc3 := hc256.out (n + 1) hend2
            have hlS2 : n + 1 < S.size := by omega
            have hg2 := hget.out (n + 1) _ rfl hend2 hlS2
            have hlI2 : (n : Int) + 1 < (S.size : Int) := by omega
            have hnI2 : ((n : Int) + 1).toNat = n + 1 := by omega
            by_cases h43 : L.getD (n + 1) 0 = 43
            · rw [if_pos (Or.inl h43)] at hsM
              rw [hsM] at hsE
              rw [h43] at hg2 hc3
              clear h43
              have hkk := hle.out (n + 2) (by omega)
              have hRk : Hid (∀ W, W.cell? ⟨w.heap.size, 0, none⟩ = some (.int .i64 10) → Calls Tryz.prog 38 #[.string S, .int .i64 ((n : Int) + 1 + 1), DigF w.heap.size] W fun r w' => r = .returned (.int .i64 (runL 10 (L.drop (n + 2)) : Int)) ∧ Below W.heap.size W w') := fun W h => hRun.out (n + 2) (by omega) W h
              generalize runL 10 (L.drop (n + 2)) = k at *
              have hcK := Lib.hid (hcellK.out _ hb23)
              by_cases hk : 0 < k
              · rw [if_pos hk] at hsE
                have hfin := Lib.hid (hnd.out.trans hsE)
                clear hsE hsM hc2 hc3 hend hend2 hsN
                go_wp2_with fail
                refine (hRk.out _ hcK.out).mono ?_
                rintro e w9 ⟨rfl, hb9⟩
                have hbz := (hb13).trans (hb9.mono (hb13).size)
                go_wp2_with fail
                go_ret
                exact ⟨by rw [hfin.out]; rfl, hbz⟩
              · rw [if_neg hk] at hsE
                obtain rfl : k = 0 := by omega
                have hfin := Lib.hid (hnd.out.trans hsE)
                clear hsE hsM hc2 hc3 hend hend2 hsN hk
                go_wp2_with fail
                refine (hRk.out _ hcK.out).mono ?_
                rintro e w9 ⟨rfl, hb9⟩
                have hbz := (hb13).trans (hb9.mono (hb13).size)
                go_wp2_with fail
                go_ret
                exact ⟨by rw [hfin.out]; rfl, hbz⟩
            by_cases h45 : L.getD (n + 1) 0 = 45
            · rw [if_pos (Or.inr h45)] at hsM
              rw [hsM] at hsE
              rw [h45] at hg2 hc3
              clear h45 h43
              have hkk := hle.out (n + 2) (by omega)
              have hRk : Hid (∀ W, W.cell? ⟨w.heap.size, 0, none⟩ = some (.int .i64 10) → Calls Tryz.prog 38 #[.string S, .int .i64 ((n : Int) + 1 + 1), DigF w.heap.size] W fun r w' => r = .returned (.int .i64 (runL 10 (L.drop (n + 2)) : Int)) ∧ Below W.heap.size W w') := fun W h => hRun.out (n + 2) (by omega) W h
              generalize runL 10 (L.drop (n + 2)) = k at *
              have hcK := Lib.hid (hcellK.out _ hb23)
              by_cases hk : 0 < k
              · rw [if_pos hk] at hsE
                have hfin := Lib.hid (hnd.out.trans hsE)
                clear hsE hsM hc2 hc3 hend hend2 hsN
                go_wp2_with fail
                refine (hRk.out _ hcK.out).mono ?_
                rintro e w9 ⟨rfl, hb9⟩
                have hbz := (hb13).trans (hb9.mono (hb13).size)
                go_wp2_with fail
                go_ret
                exact ⟨by rw [hfin.out]; rfl, hbz⟩
              · rw [if_neg hk] at hsE
                obtain rfl : k = 0 := by omega
                have hfin := Lib.hid (hnd.out.trans hsE)
                clear hsE hsM hc2 hc3 hend hend2 hsN hk
                go_wp2_with fail
                refine (hRk.out _ hcK.out).mono ?_
                rintro e w9 ⟨rfl, hb9⟩
                have hbz := (hb13).trans (hb9.mono (hb13).size)
                go_wp2_with fail
                go_ret
                exact ⟨by rw [hfin.out]; rfl, hbz⟩
            rw [if_neg (by omega)] at hsM
            rw [hsM] at hsE
            generalize L.getD (n + 1) 0 = d at *
            have n43 : ((d : Int) == 43) = false := beq_eq_false_iff_ne.2 (by omega)
            have n45 : ((d : Int) == 45) = false := beq_eq_false_iff_ne.2 (by omega)
            clear h43 h45
            have hkk := hle.out (n + 1) (by omega)
            have hRk : Hid (∀ W, W.cell? ⟨w.heap.size, 0, none⟩ = some (.int .i64 10) → Calls Tryz.prog 38 #[.string S, .int .i64 ((n : Int) + 1), DigF w.heap.size] W fun r w' => r = .returned (.int .i64 (runL 10 (L.drop (n + 1)) : Int)) ∧ Below W.heap.size W w') := fun W h => hRun.out (n + 1) (by omega) W h
            generalize runL 10 (L.drop (n + 1)) = k at *
            have hcK := Lib.hid (hcellK.out _ hb23)
            by_cases hk : 0 < k
            · rw [if_pos hk] at hsE
              have hfin := Lib.hid (hnd.out.trans hsE)
              clear hsE hsM hc2 hc3 hend hend2 hsN
              go_wp2_with fail
              refine (hRk.out _ hcK.out).mono ?_
              rintro e w9 ⟨rfl, hb9⟩
              have hbz := (hb13).trans (hb9.mono (hb13).size)
              go_wp2_with fail
              go_ret
              exact ⟨by rw [hfin.out]; rfl, hbz⟩
            · rw [if_neg hk] at hsE
              obtain rfl : k = 0 := by omega
              have hfin := Lib.hid (hnd.out.trans hsE)
              clear hsE hsM hc2 hc3 hend hend2 hsN hk
              go_wp2_with fail
              refine (hRk.out _ hcK.out).mono ?_
              rintro e w9 ⟨rfl, hb9⟩
              have hbz := (hb13).trans (hb9.mono (hb13).size)
              go_wp2_with fail
              go_ret
              exact ⟨by rw [hfin.out]; rfl, hbz⟩
          · have hz0 := hge0.out (n + 1) (by omega)
            rw [hz0, if_neg (by decide)] at hsM
            rw [hsM, hdn.out (n + 1) (by omega), if_neg (by decide)] at hsE
            have hlI2 : ¬ (n : Int) + 1 < (S.size : Int) := by omega
            have hfin := Lib.hid (hnd.out.trans hsE)
            have hRk : Hid (∀ W, W.cell? ⟨w.heap.size, 0, none⟩ = some (.int .i64 10) → Calls Tryz.prog 38 #[.string S, .int .i64 ((n : Int) + 1), DigF w.heap.size] W fun r w' => r = .returned (.int .i64 0) ∧ Below W.heap.size W w') := fun W h => by
              have := hRun.out (n + 1) (by omega) W h
              rw [hdn.out (n + 1) (by omega)] at this
              exact this
            have hcK := Lib.hid (hcellK.out _ hb23)
            clear hsE hsM hc2 hend hend2 hz0 hsN
            go_wp2_with fail
            refine (hRk.out _ hcK.out).mono ?_
            rintro e w9 ⟨rfl, hb9⟩
            have hbz := (hb13).trans (hb9.mono (hb13).size)
            go_wp2_with fail
            go_ret
            exact ⟨by rw [hfin.out]; rfl, hbz⟩
        · rw [if_neg hE] at hsE
          have hob : L.getD n 0 ||| 32 < 256 := Nat.or_lt_two_pow (n := 8) hc2 (by decide)
          have hfin := Lib.hid (hnd.out.trans hsE)
          generalize L.getD n 0 = c at *
          generalize c ||| 32 = o at *
          have n101 : ((o : Int) == 101) = false := beq_eq_false_iff_ne.2 (by omega)
          have hbz := hb13
          clear hsE hsM hc2 hend hE hsN
          go_wp2_with fail
          go_ret
          exact ⟨by rw [hfin.out]; rfl, hbz⟩
      · rw [hge0.out n (by omega), if_neg (by decide)] at hsE
        have hlI : ¬ (n : Int) < (S.size : Int) := by omega
        have hfin := Lib.hid (hnd.out.trans hsE)
        have hbz := hb13
        clear hsE hend hsN
        go_wp2_with fail
        go_ret
        exact ⟨by rw [hfin.out]; rfl, hbz⟩
  · have hd0 := hdef.out
    rw [if_neg hdot] at hd0
    by_cases hend : a < L.length
    · have hlS0 : a < S.size := by omega
      have hg0 := hget.out a _ rfl hend hlS0
      have hlI0 : (a : Int) < (S.size : Int) := by omega
      have n46 : ((L.getD a 0 : Int) == 46) = false := beq_eq_false_iff_ne.2 (by omega)
      clear hdot
      by_cases hz : a = 0
      · rw [if_pos hz] at hd0
        have hfin := Lib.hid hd0
        generalize L.getD a 0 = c at *
        subst hz
        clear hsN hd0
        go_wp2_with fail
        go_ret
        exact ⟨by rw [hfin.out]; rfl, hb12⟩
      · rw [if_neg hz] at hd0
        have hq : ((a : Int) == 0) = false := beq_eq_false_iff_ne.2 (by omega)
        have hnd := Lib.hid hd0
        clear hd0 hz
        have hsE := hdE.out a
        have hc2 := hc256.out a hend
        have hlS : a < S.size := by omega
        have hg := hget.out a _ rfl hend hlS
        have hor := or8 _ hc2
        have hlI : (a : Int) < (S.size : Int) := by omega
        have hsM := hdM.out a
        by_cases hE : L.getD a 0 ||| 32 = 101
        · rw [if_pos hE] at hsE
          rw [hE] at hor
          generalize L.getD a 0 = c at *
          have hor : bits BinOp.or IntKind.u8 (c : Int) 32 = 101 := hor
          clear hE
          by_cases hend2 : a + 1 < L.length
          · have hc3 := hc256.out (a + 1) hend2
            have hlS2 : a + 1 < S.size := by omega
            have hg2 := hget.out (a + 1) _ rfl hend2 hlS2
            have hlI2 : (a : Int) + 1 < (S.size : Int) := by omega
            have hnI2 : ((a : Int) + 1).toNat = a + 1 := by omega
            by_cases h43 : L.getD (a + 1) 0 = 43
            · rw [if_pos (Or.inl h43)] at hsM
              rw [hsM] at hsE
              rw [h43] at hg2 hc3
              clear h43
              have hkk := hle.out (a + 2) (by omega)
              have hRk : Hid (∀ W, W.cell? ⟨w.heap.size, 0, none⟩ = some (.int .i64 10) → Calls Tryz.prog 38 #[.string S, .int .i64 ((a : Int) + 1 + 1), DigF w.heap.size] W fun r w' => r = .returned (.int .i64 (runL 10 (L.drop (a + 2)) : Int)) ∧ Below W.heap.size W w') := fun W h => hRun.out (a + 2) (by omega) W h
              generalize runL 10 (L.drop (a + 2)) = k at *
              have hcK := Lib.hid (hcellK.out _ hb2)
              by_cases hk : 0 < k
              · rw [if_pos hk] at hsE
                have hfin := Lib.hid (hnd.out.trans hsE)
                clear hsE hsM hc2 hc3 hend hend2 hsN
                go_wp2_with fail
                refine (hRk.out _ hcK.out).mono ?_
                rintro e w9 ⟨rfl, hb9⟩
                have hbz := (hb12).trans (hb9.mono (hb12).size)
                go_wp2_with fail
                go_ret
                exact ⟨by rw [hfin.out]; rfl, hbz⟩
              · rw [if_neg hk] at hsE
                obtain rfl : k = 0 := by omega
                have hfin := Lib.hid (hnd.out.trans hsE)
                clear hsE hsM hc2 hc3 hend hend2 hsN hk
                go_wp2_with fail
                refine (hRk.out _ hcK.out).mono ?_
                rintro e w9 ⟨rfl, hb9⟩
                have hbz := (hb12).trans (hb9.mono (hb12).size)
                go_wp2_with fail
                go_ret
                exact ⟨by rw [hfin.out]; rfl, hbz⟩
            by_cases h45 : L.getD (a + 1) 0 = 45
            · rw [if_pos (Or.inr h45)] at hsM
              rw [hsM] at hsE
              rw [h45] at hg2 hc3
              clear h45 h43
              have hkk := hle.out (a + 2) (by omega)
              have hRk : Hid (∀ W, W.cell? ⟨w.heap.size, 0, none⟩ = some (.int .i64 10) → Calls Tryz.prog 38 #[.string S, .int .i64 ((a : Int) + 1 + 1), DigF w.heap.size] W fun r w' => r = .returned (.int .i64 (runL 10 (L.drop (a + 2)) : Int)) ∧ Below W.heap.size W w') := fun W h => hRun.out (a + 2) (by omega) W h
              generalize runL 10 (L.drop (a + 2)) = k at *
              have hcK := Lib.hid (hcellK.out _ hb2)
              by_cases hk : 0 < k
              · rw [if_pos hk] at hsE
                have hfin := Lib.hid (hnd.out.trans hsE)
                clear hsE hsM hc2 hc3 hend hend2 hsN
                go_wp2_with fail
                refine (hRk.out _ hcK.out).mono ?_
                rintro e w9 ⟨rfl, hb9⟩
                have hbz := (hb12).trans (hb9.mono (hb12).size)
                go_wp2_with fail
                go_ret
                exact ⟨by rw [hfin.out]; rfl, hbz⟩
              · rw [if_neg hk] at hsE
                obtain rfl : k = 0 := by omega
                have hfin := Lib.hid (hnd.out.trans hsE)
                clear hsE hsM hc2 hc3 hend hend2 hsN hk
                go_wp2_with fail
                refine (hRk.out _ hcK.out).mono ?_
                rintro e w9 ⟨rfl, hb9⟩
                have hbz := (hb12).trans (hb9.mono (hb12).size)
                go_wp2_with fail
                go_ret
                exact ⟨by rw [hfin.out]; rfl, hbz⟩
            rw [if_neg (by omega)] at hsM
            rw [hsM] at hsE
            generalize L.getD (a + 1) 0 = d at *
            have n43 : ((d : Int) == 43) = false := beq_eq_false_iff_ne.2 (by omega)
            have n45 : ((d : Int) == 45) = false := beq_eq_false_iff_ne.2 (by omega)
            clear h43 h45
            have hkk := hle.out (a + 1) (by omega)
            have hRk : Hid (∀ W, W.cell? ⟨w.heap.size, 0, none⟩ = some (.int .i64 10) → Calls Tryz.prog 38 #[.string S, .int .i64 ((a : Int) + 1), DigF w.heap.size] W fun r w' => r = .returned (.int .i64 (runL 10 (L.drop (a + 1)) : Int)) ∧ Below W.heap.size W w') := fun W h => hRun.out (a + 1) (by omega) W h
            generalize runL 10 (L.drop (a + 1)) = k at *
            have hcK := Lib.hid (hcellK.out _ hb2)
            by_cases hk : 0 < k
            · rw [if_pos hk] at hsE
              have hfin := Lib.hid (hnd.out.trans hsE)
              clear hsE hsM hc2 hc3 hend hend2 hsN
              go_wp2_with fail
              refine (hRk.out _ hcK.out).mono ?_
              rintro e w9 ⟨rfl, hb9⟩
              have hbz := (hb12).trans (hb9.mono (hb12).size)
              go_wp2_with fail
              go_ret
              exact ⟨by rw [hfin.out]; rfl, hbz⟩
            · rw [if_neg hk] at hsE
              obtain rfl : k = 0 := by omega
              have hfin := Lib.hid (hnd.out.trans hsE)
              clear hsE hsM hc2 hc3 hend hend2 hsN hk
              go_wp2_with fail
              refine (hRk.out _ hcK.out).mono ?_
              rintro e w9 ⟨rfl, hb9⟩
              have hbz := (hb12).trans (hb9.mono (hb12).size)
              go_wp2_with fail
              go_ret
              exact ⟨by rw [hfin.out]; rfl, hbz⟩
          · have hz0 := hge0.out (a + 1) (by omega)
            rw [hz0, if_neg (by decide)] at hsM
            rw [hsM, hdn.out (a + 1) (by omega), if_neg (by decide)] at hsE
            have hlI2 : ¬ (a : Int) + 1 < (S.size : Int) := by omega
            have hfin := Lib.hid (hnd.out.trans hsE)
            have hRk : Hid (∀ W, W.cell? ⟨w.heap.size, 0, none⟩ = some (.int .i64 10) → Calls Tryz.prog 38 #[.string S, .int .i64 ((a : Int) + 1), DigF w.heap.size] W fun r w' => r = .returned (.int .i64 0) ∧ Below W.heap.size W w') := fun W h => by
              have := hRun.out (a + 1) (by omega) W h
              rw [hdn.out (a + 1) (by omega)] at this
              exact this
            have hcK := Lib.hid (hcellK.out _ hb2)
            clear hsE hsM hc2 hend hend2 hz0 hsN
            go_wp2_with fail
            refine (hRk.out _ hcK.out).mono ?_
            rintro e w9 ⟨rfl, hb9⟩
            have hbz := (hb12).trans (hb9.mono (hb12).size)
            go_wp2_with fail
            go_ret
            exact ⟨by rw [hfin.out]; rfl, hbz⟩
        · rw [if_neg hE] at hsE
          have hob : L.getD a 0 ||| 32 < 256 := Nat.or_lt_two_pow (n := 8) hc2 (by decide)
          have hfin := Lib.hid (hnd.out.trans hsE)
          generalize L.getD a 0 = c at *
          generalize c ||| 32 = o at *
          have n101 : ((o : Int) == 101) = false := beq_eq_false_iff_ne.2 (by omega)
          have hbz := hb12
          clear hsE hsM hc2 hend hE hsN
          go_wp2_with fail
          go_ret
          exact ⟨by rw [hfin.out]; rfl, hbz⟩
    · have hlI0 : ¬ (a : Int) < (S.size : Int) := by omega
      have hz0 := hge0.out a (by omega)
      have hsE := hdE.out a
      rw [hz0, if_neg (by decide)] at hsE
      rw [hsE] at hd0
      have hd1 : N = a := by
        rw [hd0]; split
        · omega
        · rfl
      have hfin := Lib.hid hd1
      clear hd0 hd1 hsE hz0 hdot hend hsN
      by_cases hz : a = 0
      · subst hz
        go_wp2_with fail
        go_ret
        exact ⟨by rw [hfin.out]; rfl, hb12⟩
      · have hq : ((a : Int) == 0) = false := beq_eq_false_iff_ne.2 (by omega)
        clear hz
        go_wp2_with fail
        go_ret
        exact ⟨by rw [hfin.out]; rfl, hb12⟩
end Go.Proofs.YtbakbikilbaafaaGreatDoor
namespace Go.Proofs.YtbakbikilbaafaaGreatDoor
open Go.RowKit F64 Ieee
set_option linter.unusedVariables false
set_option maxHeartbeats 4000000
set_option maxRecDepth 100000

theorem c_dexact10 (S : ByteArray) (v : Nat) (w : World) (hP : Calls Tryz.prog 75 #[.string S, .int .i64 64] w fun r w' => PfR v r ∧ Below w.heap.size w w') :
    Calls Tryz.prog 40 #[.string S, .int .i64 10] w fun r w' => r = .returned (.float .f64 v) ∧ Below w.heap.size w w' := by
  replace hP := Lib.hid hP
  go_enter Tryz.func40, Tryz.ntmps40
  go_wp2_with fail
  refine hP.out.mono ?_
  rintro e w1 ⟨⟨er, rfl⟩, hb⟩
  go_wp2_with fail
  go_ret
  exact ⟨rfl, hb⟩
theorem c_dexactS (S : ByteArray) (base v : Nat) (hb : base ≠ 10) (hb2 : base ≤ 36) (w : World) (hP : Calls Tryz.prog 76 #[.string S, .int .i64 (base : Int)] w fun r w' => r = .returned (.float .f64 v) ∧ Below w.heap.size w w') :
    Calls Tryz.prog 40 #[.string S, .int .i64 (base : Int)] w fun r w' => r = .returned (.float .f64 v) ∧ Below w.heap.size w w' := by
  replace hP := Lib.hid hP
  have n1 : ((base : Int) == 10) = false := beq_eq_false_iff_ne.2 (by omega)
  clear hb
  go_enter Tryz.func40, Tryz.ntmps40
  go_wp2_with fail
  refine hP.out.mono ?_
  rintro e w1 ⟨rfl, hb⟩
  go_wp2_with fail
  go_ret
  exact ⟨rfl, hb⟩
/-- a text of 0x, 0o, 0b and digits is read -/
theorem c_dReadH (s : ByteArray) (k t : Nat) (L : List Nat) (base v : Nat) (hs : s.size ≤ 1099511627776) (hF : FrA (blkS s) (s.size / 2) k) (hT : BkA (blkS s) k (s.size / 2) t)
    (hLe : plL (unitsN (s.extract (2 * k) (2 * t)) ((s.extract (2 * k) (2 * t)).size / 2)) = L) (hL : ∀ c ∈ L, c < 256) (hl : L.length ≤ 10000000) (hpre : preL L = base) (hb : 0 < base) (hb2 : base ≤ 16) (hrun : runL base (L.drop 2) = L.length - 2) (hlen : 2 < L.length) (w : World)
    (hX : ∀ W, Below w.heap.size w W → Calls Tryz.prog 40 #[.string (u8sG (L.drop 2)), .int .i64 (base : Int)] W fun r w' => r = .returned (.float .f64 v) ∧ Below W.heap.size W w') :
    Calls Tryz.prog 16 #[.string s] w fun r w' => r = .returned (.float .f64 v) ∧ Below w.heap.size w w' := by
  have hTr := Lib.hid (fun W => c_dTrim s k t hs hF hT W)
  have hsz2 : (s.extract (2 * k) (2 * t)).size ≤ 1099511627776 := by rw [ByteArray.size_extract]; omega
  have hPl := Lib.hid (fun W => c_dplain (s.extract (2 * k) (2 * t)) hsz2 W)
  rw [hLe] at hPl
  have hPr := Lib.hid (fun W => c_dprefix L hL hl W)
  rw [hpre] at hPr
  have hDo := Lib.hid (fun W => c_ddigitsOf (base : Int) W)
  have hRu := Lib.hid (fun b W h => c_drun L hL 2 base b (by omega) hl W h)
  rw [hrun] at hRu
  have hRu : Hid (∀ b W, W.cell? ⟨b, 0, none⟩ = some (.int .i64 (base : Int)) → Calls Tryz.prog 38 #[.string (u8sG L), .int .i64 2, DigF b] W fun r w' => r = .returned (.int .i64 ((L.length - 2 : Nat) : Int)) ∧ Below W.heap.size W w') := hRu
  have hex : (u8sG L).extract 2 (u8sG L).size = u8sG (L.drop 2) := by
    have h := uG_extract (L.take 2) (L.drop 2) L.length 2 (by rw [List.take_append_drop]) (by rw [List.length_take]; omega)
    rw [List.take_append_drop] at h
    rw [uG_size]; exact h
  have hsz : (u8sG L).size = L.length := uG_size L
  have hem : (u8sG L).toList.isEmpty = false := by
    rw [ByteArray.toList_eq, uG_data]
    cases L with
    | nil => simp at hlen
    | cons a l => rfl
  have hne : ((u8sG L).toList == []) = false := by
    rw [ByteArray.toList_eq, uG_data]
    cases L with
    | nil => simp at hlen
    | cons a l => rfl
  rw [show ((L.length - 2 : Nat) : Int) = (L.length : Int) - 2 by omega, ← hsz] at hRu
  have hs3 : 2 < (u8sG L).size := by omega
  have hs4 : (2 : Int) ≤ ((u8sG L).size : Int) := by omega
  have hs5 : (u8sG L).size ≤ 10000000 := by omega
  have hs6 : (0 : Int) < ((u8sG L).size : Int) - 2 := by omega
  have hbI : (0 : Int) < (base : Int) := by omega
  replace hX := Lib.hid hX
  clear hF hT hLe hL hl hpre hrun hlen hsz hsz2 hb
  generalize u8sG (L.drop 2) = D at *
  generalize u8sG L = S at *
  generalize s.extract (2 * k) (2 * t) = T at *
  go_enter Tryz.func16, Tryz.ntmps16
  go_wp2_with fail
  refine (hTr.out _).mono ?_
  rintro e w1 ⟨rfl, q1, rfl⟩
  go_wp2_with fail
  refine (hPl.out _).mono ?_
  rintro e w2 ⟨rfl, hb2'⟩
  have hbA : Below w.heap.size w w2 := (below_drewN (Below.refl _ w) q1).trans hb2'
  clear hb2'
  go_wp2_with fail
  refine (hPr.out _).mono ?_
  rintro e w3 ⟨rfl, hb3⟩
  have hbB : Below w.heap.size w w3 := hbA.trans (hb3.mono hbA.size)
  clear hb3 hbA
  go_wp2_with fail
  refine (hDo.out _).mono ?_
  rintro e w4 ⟨rfl, hc4, hb4⟩
  have hbC : Below w.heap.size w w4 := hbB.trans (hb4.mono hbB.size)
  have hRu4 := Lib.hid (hRu.out _ _ hc4)
  clear hb4 hbB hc4
  go_wp2_with fail
  refine hRu4.out.mono ?_
  rintro e w5 ⟨rfl, hb5⟩
  have hbD : Below w.heap.size w w5 := hbC.trans (hb5.mono hbC.size)
  clear hb5 hbC
  go_wp2_with fail
  refine (hX.out _ hbD).mono ?_
  rintro e w6 ⟨rfl, hb6⟩
  have hbE : Below w.heap.size w w6 := hbD.trans (hb6.mono hbD.size)
  go_wp2_with fail
  go_ret
  exact ⟨rfl, hbE⟩
end Go.Proofs.YtbakbikilbaafaaGreatDoor
namespace Go.Proofs.YtbakbikilbaafaaGreatDoor
open Go.RowKit F64 Ieee
set_option linter.unusedVariables false
set_option maxHeartbeats 4000000
set_option maxRecDepth 100000

theorem aw_sticky (w : World) : Calls Tryz.prog 76 #[.string (u8sG [49, 70]), .int .i64 16] w fun r w' => r = .returned (.float .f64 4629418941960159232) ∧ Below w.heap.size w w' := by
  have h := c_dsticky1 [49, 70] 16 31 59 (by decide) (by decide) (by decide) (by decide) (by decide +kernel) (by decide) (by decide +kernel) (by decide) (by decide) w
  have e : wEK (1085 - ((59 : Nat) : Int)) (rnd (31 * 2 ^ 59)) = 4629418941960159232 := by decide +kernel
  rw [e] at h
  exact h
theorem aw_read (w : World) : Calls Tryz.prog 16 #[.string (textU [32, 48, 120, 49, 70, 32])] w fun r w' => r = .returned (.float .f64 4629418941960159232) ∧ Below w.heap.size w w' := by
  refine c_dReadH (textU [32, 48, 120, 49, 70, 32]) 1 5 [48, 120, 49, 70] 16 4629418941960159232 (by decide +kernel) ⟨by decide +kernel, ?_, ?_⟩ ⟨by decide +kernel, by decide +kernel, ?_, ?_⟩ (by decide +kernel) (by decide) (by decide) (by decide +kernel) (by decide) (by decide) (by decide +kernel) (by decide) w ?_
  · intro i hi
    obtain rfl : i = 0 := by omega
    decide +kernel
  · intro _; decide +kernel
  · intro i h1 h2
    have h2' : i < 6 := Nat.lt_of_lt_of_eq h2 (by decide +kernel)
    obtain rfl : i = 5 := by omega
    decide +kernel
  · intro _; decide +kernel
  · intro W _
    exact c_dexactS _ 16 _ (by decide) (by decide) W (aw_sticky W)
theorem aw_blank (w : World) : Calls Tryz.prog 12 #[.int .u16 32] w fun r w' => r = .returned (.bool true) ∧ w = w' := c_dBlank 32 (by decide) w
/-- 0.1 and 1e21 as they are shown -/
theorem sci_01 : IsSci 4591870180066957722 1 1 (-1) := ⟨16, ⟨by decide, by decide +kernel, by decide +kernel⟩, by decide, by decide, by decide, by decide +kernel, by decide, by decide +kernel⟩
theorem sci_1e21 : IsSci 4921056587992461136 1 1 21 := ⟨16, ⟨by decide, by decide +kernel, by decide +kernel⟩, by decide, by decide, by decide, by decide +kernel, by decide, by decide +kernel⟩
theorem txt_01 : txtG 1 1 (-1) = [48, 46, 49] := by decide +kernel
theorem txt_1e21 : txtG 1 1 21 = [49, 101, 43, 50, 49] := by decide +kernel
theorem aw_show01 (w : World) (hL : LibW w) : Calls Tryz.prog 10 #[.float .f64 4591870180066957722] w fun r w' => r = .returned (.string (textU [48, 46, 49])) ∧ Below w.heap.size w w' := by
  have h := c_dShow (by decide) (ShowT.pos (by decide) (by decide) sci_01 (by decide) (by decide) (by decide) (by decide)) w hL
  rw [txt_01] at h
  exact h
theorem aw_show1e21 (w : World) (hL : LibW w) : Calls Tryz.prog 10 #[.float .f64 4921056587992461136] w fun r w' => r = .returned (.string (textU [49, 101, 43, 50, 49])) ∧ Below w.heap.size w w' := by
  have h := c_dShow (by decide) (ShowT.pos (by decide) (by decide) sci_1e21 (by decide) (by decide) (by decide) (by decide)) w hL
  rw [txt_1e21] at h
  exact h
end Go.Proofs.YtbakbikilbaafaaGreatDoor
namespace Go.Proofs.YtbakbikilbaafaaGreatDoor
open Go.RowKit F64 Ieee
set_option linter.unusedVariables false
set_option maxHeartbeats 4000000
set_option maxRecDepth 100000

theorem nv_12 : nv 12 0 = 4622945017495814144 := nv_of (a := V 4622945017495814144 * 1) (b := 1) (by decide) (near_V (r := 4622945017495814144) (b := 1) (by decide) (by decide)) (by decide +kernel)
theorem nv_1500 : nv 15 2 = 4654311885213007872 := nv_of (a := V 4654311885213007872 * 1) (b := 1) (by decide) (near_V (r := 4654311885213007872) (b := 1) (by decide) (by decide)) (by decide +kernel)
theorem aw_pf12 (w : World) (hL : LibW w) : Calls Tryz.prog 75 #[.string (u8sG [49, 50]), .int .i64 64] w fun r w' => PfR 4622945017495814144 r ∧ Below w.heap.size w w' := by
  refine c_ParseFloat (u8sG [49, 50]) _ w hL (by decide) ?_
  have h := c_atofN (u8sG [49, 50]) 12 0 49 (by decide) (by decide) (by decide) (by decide) (by decide) (by decide) w hL (fun W => by
    have h := c_readI1 [49, 50] (u8sG [49, 50]) (by decide) (by decide) (by decide) (by decide) (by decide) (fun j c h1 h2 => uG_get [49, 50] j c h1 (by
      have := List.mem_of_getElem? h1; simp at this; omega) h2) W
    have e1 : (rfF [49, 50]).m = 12 := by decide +kernel
    have e2 : expI (rfF [49, 50]) = 0 := by decide +kernel
    have e3 : (rfF [49, 50]).tr = false := by decide +kernel
    rw [e1, e2, e3] at h
    exact h)
  rw [if_neg (by decide), nv_12] at h
  exact h
theorem aw_pf1500 (w : World) (hL : LibW w) : Calls Tryz.prog 75 #[.string (u8sG [48, 46, 49, 53, 101, 52]), .int .i64 64] w fun r w' => PfR 4654311885213007872 r ∧ Below w.heap.size w w' := by
  refine c_ParseFloat (u8sG [48, 46, 49, 53, 101, 52]) _ w hL (by decide) ?_
  have h := c_atofN (u8sG [48, 46, 49, 53, 101, 52]) 15 2 48 (by decide) (by decide) (by decide) (by decide) (by decide) (by decide) w hL (fun W => by
    have h := c_readEp [48, 46, 49, 53] [52] (u8sG [48, 46, 49, 53, 101, 52]) (by decide) (by decide) rfl rfl (fun k hk => by
        have : k < 4 := (List.getElem?_eq_some_iff.1 hk).1
        rcases k with _ | _ | _ | _ | k
        · simp at hk
        · decide +kernel
        · simp at hk
        · simp at hk
        · omega) (by decide) (by decide) (by decide) (by decide +kernel) (by decide +kernel) (by decide) (fun j c h1 h2 => uG_get [48, 46, 49, 53, 101, 52] j c h1 (by
      have := List.mem_of_getElem? h1; simp at this; omega) h2) W
    have e1 : (rfF [48, 46, 49, 53]).m = 15 := by decide +kernel
    have e2 : (rfF [48, 46, 49, 53]).dp + (evF [52] : Int) - ((rfF [48, 46, 49, 53]).nm : Int) = 2 := by decide +kernel
    have e3 : (rfF [48, 46, 49, 53]).tr = false := by decide +kernel
    rw [e1, e2, e3] at h
    exact h)
  rw [if_neg (by decide), nv_1500] at h
  exact h
end Go.Proofs.YtbakbikilbaafaaGreatDoor
namespace Go.Proofs.YtbakbikilbaafaaGreatDoor
open Go.RowKit F64 Ieee
set_option linter.unusedVariables false
set_option maxHeartbeats 4000000
set_option maxRecDepth 100000

theorem aw_float (w : World) (hL : LibW w) : Calls Tryz.prog 45 #[.string (u8sG [49, 46, 53, 101, 51])] w fun r w' => r = .returned (.float .f64 4654311885213007872) ∧ Below w.heap.size w w' := by
  have h1 : ∀ b ∈ (u8sG [49, 46, 53, 101, 51]).data.toList, b.toNat < 128 := by decide +kernel
  have h2 : ∀ b ∈ (⟨#[101, 69]⟩ : ByteArray).data.toList, b.toNat < 128 := by decide +kernel
  have hIA := Lib.hid (fun W => s_IndexAny (u8sG [49, 46, 53, 101, 51]) ⟨#[101, 69]⟩ W (by decide) (by decide) (fun j b h => h1 b (List.mem_of_getElem? h)) (fun j b h => h2 b (List.mem_of_getElem? h)))
  have e1 : Lib.indexAny (u8sG [49, 46, 53, 101, 51]).data.toList (⟨#[101, 69]⟩ : ByteArray).data.toList = 3 := by decide +kernel
  rw [e1] at hIA
  have hLk := Lib.hid (fun W (hb : Below w.heap.size w W) => hL.keep hb)
  have hCut := Lib.hid (fun W (hW : LibW W) => by
    obtain ⟨ml, hml⟩ := hW.ml
    have h := s_Cut (u8sG [49, 46, 53]) ⟨#[46]⟩ ml W (by decide) hml
    have e2 : Lib.cut (u8sG [49, 46, 53]).data.toList (⟨#[46]⟩ : ByteArray).data.toList = ([49], [53], true) := by decide +kernel
    rw [e2] at h
    exact h)
  have hTL := Lib.hid (fun W => s_TrimLeft (u8sG [49, 53]) 48 (by decide) W)
  have e3 : Lib.trimLeftB (u8sG [49, 53]).data.toList 48 = [49, 53] := by decide +kernel
  rw [e3] at hTL
  have hSg := Lib.hid (fun W => c_dsigned [51] (by decide) (by decide) W)
  have hIt := Lib.hid (fun W hW => c_itoa 4 (by decide) W hW)
  have hPF := Lib.hid (fun W hW => aw_pf1500 W hW)
  replace hL := Lib.hid hL
  have hx1 : (u8sG [49, 46, 53, 101, 51]).extract 0 3 = u8sG [49, 46, 53] := by decide +kernel
  have hx2 : (u8sG [49, 46, 53, 101, 51]).extract 4 (u8sG [49, 46, 53, 101, 51]).size = u8sG [51] := by decide +kernel
  have hsz : (u8sG [49, 46, 53, 101, 51]).size = 5 := by decide
  have hx3 : (u8sG [49, 46, 53, 101, 51]).extract 4 5 = u8sG [51] := by decide +kernel
  replace hx2 := Lib.hid hx2
  have hd : u8sG [49] ++ u8sG [53] = u8sG [49, 53] := by decide +kernel
  have ht : (⟨#[48, 46]⟩ : ByteArray) ++ u8sG [49, 53] ++ ⟨#[101]⟩ ++ u8sG (itG 4) = u8sG [48, 46, 49, 53, 101, 52] := by decide +kernel
  clear e1 h1 h2
  generalize u8sG [49, 46, 53, 101, 51] = S at *
  have hCut : Hid (∀ W, LibW W → Calls Tryz.prog 61 #[.string (u8sG [49, 46, 53]), .string ⟨#[46]⟩] W fun e w' => e = .returned (.tuple #[.string (u8sG [49]), .string (u8sG [53]), .bool true]) ∧ ∃ n, w' = W.drewN n) := hCut
  have hTL : Hid (∀ W, Calls Tryz.prog 80 #[.string (u8sG [49, 53]), .string ⟨#[48]⟩] W fun e w' => e = .returned (.string (u8sG [49, 53])) ∧ w' = W) := hTL
  have hSg : Hid (∀ W, Calls Tryz.prog 42 #[.string (u8sG [51])] W fun r w' => r = .returned (.tuple #[.float .f64 4607182418800017408, .string (u8sG [51])]) ∧ ∃ n, w' = W.drewN n) := hSg
  clear e3
  have z1 : (u8sG [49]).size = 1 := by decide
  have z2 : (u8sG [53]).size = 1 := by decide
  have z3 : (u8sG [49, 53]).size = 2 := by decide
  have z4 : (u8sG [51]).size = 1 := by decide
  have z5 : (u8sG (itG 4)).size = 1 := by decide +kernel
  have z6 : (u8sG [49, 53]).toList.isEmpty = false := by decide +kernel
  have z7 : ∀ h : 0 < (u8sG [51]).size, ((u8sG [51])[0]'h).toNat = 51 := fun h => uG_get [51] 0 51 rfl (by decide) h
  replace ht := Lib.hid ht
  replace z7 := Lib.hid z7
  generalize u8sG [49] = A at *
  generalize u8sG [53] = B at *
  generalize u8sG [49, 53] = C at *
  generalize u8sG [49, 46, 53] = M at *
  generalize u8sG (itG 4) = I4 at *
  go_enter Tryz.func45, Tryz.ntmps45
  go_wp2_with fail
  refine (hIA.out _).mono ?_
  rintro e w1 ⟨rfl, hb1⟩
  go_wp2_with fail
  go_quiet (fail)
  go_wp2_with fail
  refine (hCut.out _ (hLk.out _ (below_drewN hb1 _))).mono ?_
  rintro e w2 ⟨rfl, q2, rfl⟩
  have hb2 := below_drewN (below_drewN hb1 nq) q2
  generalize (w1.drewN nq).drewN q2 = w3 at *
  clear hb1
  go_wp2_with fail
  refine (hTL.out _).mono ?_
  rintro e w4 ⟨rfl, rfl⟩
  go_wp2_with fail
  refine (hSg.out _).mono ?_
  rintro e w5 ⟨rfl, q4, rfl⟩
  go_wp2_with fail
  have hb5 : Below w.heap.size w (w4.drewN q4) := below_drewN hb2 q4
  have hs45 : (w4.drewN q4).heap.size = w4.heap.size := rfl
  have hbI : Below w.heap.size w ((w4.drewN q4).iter (u8sG [51]) 0) := hb5.alloc hb5.size _
  have hB5 : w.heap.size ≤ w4.heap.size := hb5.size
  have hit0 : ((w4.drewN q4).iter (u8sG [51]) 0).heap[w4.heap.size]? = some (.stringIter (u8sG [51]) 0) := World.iter_heap (w4.drewN q4) (u8sG [51]) 0
  clear hs45
  generalize hD : u8sG [51] = D at *
  have z8 : D.size = 1 := z4
  have z9 := z7
  clear z7 hsz hx1 hx2 hx3 hCut hIA hTL hSg hD
  go_loopw [10, 13] (fun v10 v13 wr => ∃ pos : Nat, (pos = 0 ∧ v10 = .int .i64 0 ∨ pos = 1 ∧ v10 = .int .i64 3) ∧ wr.heap[w4.heap.size]? = some (.stringIter D pos) ∧ Below w.heap.size w wr) (fun _ _ wr => 2 - wr.iterPos w4.heap.size)
  case atStart => exact ⟨0, .inl ⟨rfl, rfl⟩, hit0, hbI⟩
  case round =>
    obtain ⟨pos, h, hit, hbw⟩ := hrel
    rcases h with ⟨rfl, rfl⟩ | ⟨rfl, rfl⟩
    · have h0 : 0 < D.size := by omega
      have hnx : ∀ ty, (Instr.next (.pointer (some ⟨w4.heap.size, 0, none⟩)) true ty).run Tryz.prog wr = .ok (.tuple #[.bool true, .int .i64 0, .int .i32 51]) (wr.iterAt w4.heap.size D 1) := fun ty => by
        have := Lib.run_next_ascii_at (P := Tryz.prog) wr w4.heap.size D 0 ty hit h0 (by rw [z9.out h0]; decide)
        rw [z9.out h0] at this
        exact this
      have hit2 := Lib.iterAt_heap wr w4.heap.size D 0 1 hit
      have hbw2 := Lib.below_iterAt hbw (k := w4.heap.size) hB5 D 1
      have hm : wr.iterPos w4.heap.size = 0 := by simp [World.iterPos, hit]
      have hm2 : (wr.iterAt w4.heap.size D 1).iterPos w4.heap.size = 1 := by simp [World.iterPos, hit2]
      generalize wr.iterAt w4.heap.size D 1 = w6 at *
      clear hit hbw
      go_wp2_with fail
      go_roundw
      case rel => exact ⟨1, .inr ⟨rfl, rfl⟩, hit2, hbw2⟩
      case measure => rw [hm, hm2]; decide
    · have hnx : ∀ ty, (Instr.next (.pointer (some ⟨w4.heap.size, 0, none⟩)) true ty).run Tryz.prog wr = _ := fun ty => Lib.run_next_end_at wr w4.heap.size D 1 ty hit (by omega)
      have hI1 := Lib.hid (hIt.out wr (hLk.out _ hbw))
      have hcv : ∀ W, (convert 22 3 (.float .f64 4607182418800017408)).run Tryz.prog W = .ok (.int .i64 1) W := fun W => by kernel_rfl
      go_wp2_with fail
      refine hI1.out.mono ?_
      rintro e w7 ⟨rfl, hb7⟩
      have hbA := hbw.trans (hb7.mono hbw.size)
      have hP := Lib.hid (hPF.out w7 (hLk.out _ hbA))
      rw [← ht.out] at hP
      go_wp2_with fail
      refine hP.out.mono ?_
      rintro e w8 ⟨⟨er, rfl⟩, hb8⟩
      go_wp2_with fail
      go_ret
      exact ⟨rfl, hbA.trans (hb8.mono hbA.size)⟩
end Go.Proofs.YtbakbikilbaafaaGreatDoor
namespace Go.Proofs.YtbakbikilbaafaaGreatDoor
open Go.RowKit F64 Ieee
set_option linter.unusedVariables false
set_option maxHeartbeats 4000000
set_option maxRecDepth 100000

theorem aw_lit (w : World) (hL : LibW w) : Calls Tryz.prog 17 #[.string (u8sG [49, 46, 53, 101, 51, 59])] w fun r w' => r = .returned (.tuple #[.float .f64 4654311885213007872, .int .i64 5, .int .i64 0]) ∧ Below w.heap.size w w' := by
  have hPr := Lib.hid (fun W => c_dprefix [49, 46, 53, 101, 51, 59] (by decide) (by decide) W)
  rw [show preL [49, 46, 53, 101, 51, 59] = 0 by decide +kernel] at hPr
  have hDe := Lib.hid (fun W => c_ddecimal [49, 46, 53, 101, 51, 59] (by decide) (by decide) W)
  rw [show decN [49, 46, 53, 101, 51, 59] = 5 by decide +kernel] at hDe
  have hWo := Lib.hid (fun W => c_dworth 59 (by decide) W)
  rw [show wth 59 = 99 by decide +kernel] at hWo
  have hFl := Lib.hid (fun W hW => aw_float W hW)
  have hLk := Lib.hid (fun W (hb : Below w.heap.size w W) => hL.keep hb)
  replace hL := Lib.hid hL
  have hsz : (u8sG [49, 46, 53, 101, 51, 59]).size = 6 := by decide
  have g0 : ∀ h : 0 < (u8sG [49, 46, 53, 101, 51, 59]).size, ((u8sG [49, 46, 53, 101, 51, 59])[0]'h).toNat = 49 := fun h => uG_get _ 0 49 rfl (by decide) h
  have g5 : ∀ h : 5 < (u8sG [49, 46, 53, 101, 51, 59]).size, ((u8sG [49, 46, 53, 101, 51, 59])[5]'h).toNat = 59 := fun h => uG_get _ 5 59 rfl (by decide) h
  have hx : (u8sG [49, 46, 53, 101, 51, 59]).extract 0 5 = u8sG [49, 46, 53, 101, 51] := by decide +kernel
  generalize u8sG [49, 46, 53, 101, 51, 59] = S at *
  generalize u8sG [49, 46, 53, 101, 51] = T at *
  have hPr : Hid (∀ W, Calls Tryz.prog 37 #[.string S] W fun r w' => r = .returned (.int .i64 0) ∧ Below W.heap.size W w') := hPr
  have hDe : Hid (∀ W, Calls Tryz.prog 43 #[.string S] W fun r w' => r = .returned (.int .i64 5) ∧ Below W.heap.size W w') := hDe
  have hWo : Hid (∀ W, Calls Tryz.prog 46 #[.int .u8 59] W fun r w' => r = .returned (.int .i64 99) ∧ W = w') := hWo
  go_enter Tryz.func17, Tryz.ntmps17
  go_wp2_with fail
  refine (hPr.out _).mono ?_
  rintro e w1 ⟨rfl, hb1⟩
  go_wp2_with fail
  refine (hDe.out _).mono ?_
  rintro e w2 ⟨rfl, hb2⟩
  have hbA := hb1.trans (hb2.mono hb1.size)
  clear hb1 hb2
  go_wp2_with fail
  refine (hFl.out _ (hLk.out _ hbA)).mono ?_
  rintro e w3 ⟨rfl, hb3⟩
  have hbB := hbA.trans (hb3.mono hbA.size)
  clear hb3 hbA
  go_wp2_with (go_at_call 46; refine (hWo.out _).mono ?_; rintro e w' ⟨rfl, rfl⟩)
  go_ret3
  exact ⟨rfl, hbB⟩
theorem aw_whole (w : World) (hL : LibW w) : Calls Tryz.prog 24 #[.string (textU [49, 50, 112, 120]), .int .i64 10] w fun r w' => r = .returned (.float .f64 4622945017495814144) ∧ Below w.heap.size w w' := by
  have hs4 : (textU [49, 50, 112, 120]).size / 2 = 4 := by decide +kernel
  have hFr := Lib.hid (fun W => c_dfront (textU [49, 50, 112, 120]) 0 (by decide +kernel) ⟨by omega, fun i hi => by omega, fun _ => by decide +kernel⟩ W)
  have hLn := Lib.hid (fun W => c_ULen (textU [49, 50, 112, 120]) (by decide +kernel) W)
  have hCt := Lib.hid (fun W => c_UCutG (textU [49, 50, 112, 120]) 0 4 (by decide +kernel) (by omega) (by omega) W)
  rw [show (textU [49, 50, 112, 120]).extract (2 * 0) (2 * 4) = textU [49, 50, 112, 120] by decide +kernel] at hCt
  have hPl := Lib.hid (fun W => c_dplain (textU [49, 50, 112, 120]) (by decide +kernel) W)
  rw [show u8sG (plL (unitsN (textU [49, 50, 112, 120]) ((textU [49, 50, 112, 120]).size / 2))) = u8sG [49, 50, 112, 120] by decide +kernel] at hPl
  rw [hs4] at hLn
  have hSg := Lib.hid (fun W => c_dsigned [49, 50, 112, 120] (by decide) (by decide) W)
  have hPr := Lib.hid (fun W => c_dprefix [49, 50, 112, 120] (by decide) (by decide) W)
  rw [show preL [49, 50, 112, 120] = 0 by decide +kernel] at hPr
  have hDo := Lib.hid (fun W => c_ddigitsOf 10 W)
  have hRu := Lib.hid (fun b W h => c_drun [49, 50, 112, 120] (by decide) 0 10 b (by decide) (by decide) W h)
  rw [show runL 10 ([49, 50, 112, 120].drop 0) = 2 by decide +kernel] at hRu
  have hX := Lib.hid (fun W hW => c_dexact10 (u8sG [49, 50]) _ W (aw_pf12 W hW))
  have hLk := Lib.hid (fun W (hb : Below w.heap.size w W) => hL.keep hb)
  have hmul := fun w => run_float_arith (P := Tryz.prog) w .mul 22 .f64 4607182418800017408 4622945017495814144 4622945017495814144 (mul_one (by decide))
  replace hL := Lib.hid hL
  have hx : (u8sG [49, 50, 112, 120]).extract 0 2 = u8sG [49, 50] := by decide +kernel
  have hsz : (u8sG [49, 50, 112, 120]).size = 4 := by decide
  have hSg : Hid (∀ W, Calls Tryz.prog 42 #[.string (u8sG [49, 50, 112, 120])] W fun r w' => r = .returned (.tuple #[.float .f64 4607182418800017408, .string (u8sG [49, 50, 112, 120])]) ∧ ∃ n, w' = W.drewN n) := hSg
  generalize u8sG [49, 50, 112, 120] = S at *
  generalize u8sG [49, 50] = T at *
  generalize textU [49, 50, 112, 120] = X at *
  have hFr : Hid (∀ W, Calls Tryz.prog 29 #[.string X] W fun e w' => e = .returned (.int .i64 0) ∧ ∃ nq, w' = W.drewN nq) := hFr
  have hLn : Hid (∀ W, Calls Tryz.prog 30 #[.string X] W fun e w' => e = .returned (.int .i64 4) ∧ W = w') := hLn
  have hCt : Hid (∀ W, Calls Tryz.prog 32 #[.string X, .int .i64 0, .int .i64 4] W fun e w' => e = .returned (.string X) ∧ w' = W) := hCt
  have hPr : Hid (∀ W, Calls Tryz.prog 37 #[.string S] W fun r w' => r = .returned (.int .i64 0) ∧ Below W.heap.size W w') := hPr
  have hRu : Hid (∀ b W, W.cell? ⟨b, 0, none⟩ = some (.int .i64 10) → Calls Tryz.prog 38 #[.string S, .int .i64 0, DigF b] W fun r w' => r = .returned (.int .i64 2) ∧ Below W.heap.size W w') := hRu
  clear hs4
  go_enter Tryz.func24, Tryz.ntmps24
  go_wp2_with fail
  refine (hFr.out _).mono ?_
  rintro e w1 ⟨rfl, q1, rfl⟩
  go_wp2_with (go_at_call 30; refine (hLn.out _).mono ?_; rintro e w' ⟨rfl, rfl⟩)
  refine (hCt.out _).mono ?_
  rintro e w2 ⟨rfl, rfl⟩
  go_wp2_with fail
  refine (hPl.out _).mono ?_
  rintro e w3 ⟨rfl, hb3⟩
  have hbA : Below w.heap.size w w3 := (below_drewN (Below.refl _ w) q1).trans hb3
  clear hb3
  go_wp2_with fail
  refine (hSg.out _).mono ?_
  rintro e w4 ⟨rfl, q4, rfl⟩
  have hbB := below_drewN hbA q4
  generalize w3.drewN q4 = w5 at *
  go_wp2_with fail
  refine (hPr.out _).mono ?_
  rintro e w6 ⟨rfl, hb6⟩
  have hbC := hbB.trans (hb6.mono hbB.size)
  clear hb6 hbA hbB
  go_wp2_with fail
  refine (hDo.out _).mono ?_
  rintro e w7 ⟨rfl, hc7, hb7⟩
  have hbD := hbC.trans (hb7.mono hbC.size)
  have hR7 := Lib.hid (hRu.out _ _ hc7)
  clear hb7 hbC hc7
  go_wp2_with fail
  refine hR7.out.mono ?_
  rintro e w8 ⟨rfl, hb8⟩
  have hbE := hbD.trans (hb8.mono hbD.size)
  clear hb8 hbD
  go_wp2_with fail
  refine (hX.out _ (hLk.out _ hbE)).mono ?_
  rintro e w9 ⟨rfl, hb9⟩
  have hbF := hbE.trans (hb9.mono hbE.size)
  clear hb9 hbE
  go_wp2_with fail
  go_ret
  exact ⟨rfl, hbF⟩
end Go.Proofs.YtbakbikilbaafaaGreatDoor
namespace Go.Proofs.YtbakbikilbaafaaGreatDoor
open Go.RowKit F64 Ieee
set_option linter.unusedVariables false
set_option maxHeartbeats 4000000
set_option maxRecDepth 100000

theorem aw_ascii (L : List Nat) (hl : L.length ≤ 1000) (h : ∀ c ∈ L, c < 128) (w : World) : Calls Tryz.prog 19 #[.string (u8sG L)] w fun e w' => e = .returned (.string (textU L)) ∧ Below w.heap.size w w' := by
  have h2 := c_AsciiR (u8sG L) (by rw [uG_size]; omega) (by rw [codes_uG L h]; exact h) w
  rw [codes_uG L h] at h2
  exact h2
theorem c_awake3 (w : World) (hL : LibW w) : Calls Tryz.prog 9 #[] w fun e w' => e = .returned (.bool true) ∧ Below w.heap.size w w' := by
  have hLi := Lib.hid (fun W hW => (show Calls Tryz.prog 17 #[.string ⟨#[49, 46, 53, 101, 51, 59]⟩] W _ from aw_lit W hW))
  have hS1 := Lib.hid (fun W hW => aw_show01 W hW)
  have hS2 := Lib.hid (fun W hW => aw_show1e21 W hW)
  have hA1 := Lib.hid (fun W => (show Calls Tryz.prog 19 #[.string ⟨#[48, 46, 49]⟩] W _ from aw_ascii [48, 46, 49] (by decide) (by decide) W))
  have hA2 := Lib.hid (fun W => (show Calls Tryz.prog 19 #[.string ⟨#[49, 101, 43, 50, 49]⟩] W _ from aw_ascii [49, 101, 43, 50, 49] (by decide) (by decide) W))
  have hA3 := Lib.hid (fun W => (show Calls Tryz.prog 19 #[.string ⟨#[32, 48, 120, 49, 70, 32]⟩] W _ from aw_ascii [32, 48, 120, 49, 70, 32] (by decide) (by decide) W))
  have hA4 := Lib.hid (fun W => (show Calls Tryz.prog 19 #[.string ⟨#[49, 50, 112, 120]⟩] W _ from aw_ascii [49, 50, 112, 120] (by decide) (by decide) W))
  have hRd := Lib.hid (fun W => aw_read W)
  have hBl := Lib.hid (fun W => aw_blank W)
  have hWh := Lib.hid (fun W hW => aw_whole W hW)
  have hLk := Lib.hid (fun W (hb : Below w.heap.size w W) => hL.keep hb)
  have o1 : (FloatKind.f64.format.order 4629418941960159232 4629418941960159232 == some Ordering.eq) = true := by decide +kernel
  have o2 : (FloatKind.f64.format.order 4654311885213007872 4654311885213007872 == some Ordering.eq) = true := by decide +kernel
  have o3 : (FloatKind.f64.format.order 4622945017495814144 4622945017495814144 == some Ordering.eq) = true := by decide +kernel
  generalize textU [48, 46, 49] = a1 at *
  generalize textU [49, 101, 43, 50, 49] = a2 at *
  generalize textU [32, 48, 120, 49, 70, 32] = a3 at *
  generalize textU [49, 50, 112, 120] = a4 at *
  go_enter Tryz.func9, Tryz.ntmps9
  go_wp2_with fail
  refine (hLi.out _ hL).mono ?_
  rintro e w1 ⟨rfl, b1⟩
  go_wp2_with fail
  refine (hS1.out _ (hLk.out _ b1)).mono ?_
  rintro e w2 ⟨rfl, b2⟩
  have c2 := b1.trans (b2.mono b1.size)
  clear b1 b2
  go_wp2_with fail
  refine (hA1.out _).mono ?_
  rintro e w3 ⟨rfl, b3⟩
  have c3 := c2.trans (b3.mono c2.size)
  clear c2 b3
  go_wp2_with fail
  refine (hS2.out _ (hLk.out _ c3)).mono ?_
  rintro e w4 ⟨rfl, b4⟩
  have c4 := c3.trans (b4.mono c3.size)
  clear c3 b4
  go_wp2_with fail
  refine (hA2.out _).mono ?_
  rintro e w5 ⟨rfl, b5⟩
  have c5 := c4.trans (b5.mono c4.size)
  clear c4 b5
  go_wp2_with fail
  refine (hA3.out _).mono ?_
  rintro e w6 ⟨rfl, b6⟩
  have c6 := c5.trans (b6.mono c5.size)
  clear c5 b6
  go_wp2_with fail
  refine (hRd.out _).mono ?_
  rintro e w7 ⟨rfl, b7⟩
  have c7 := c6.trans (b7.mono c6.size)
  clear c6 b7
  go_wp2_with (go_at_call 12; refine (hBl.out _).mono ?_; rintro e w' ⟨rfl, rfl⟩)
  refine (hA4.out _).mono ?_
  rintro e w8 ⟨rfl, b8⟩
  have c8 := c7.trans (b8.mono c7.size)
  clear c7 b8
  go_wp2_with fail
  refine (hWh.out _ (hLk.out _ c8)).mono ?_
  rintro e w9 ⟨rfl, b9⟩
  have c9 := c8.trans (b9.mono c8.size)
  go_wp2_with fail
  go_ret
  exact ⟨rfl, c9⟩
end Go.Proofs.YtbakbikilbaafaaGreatDoor
namespace Go.Proofs.YtbakbikilbaafaaGreatDoor
open Go.RowKit F64 Ieee
set_option linter.unusedVariables false
set_option maxHeartbeats 4000000
set_option maxRecDepth 100000

theorem nearV_congr {a b a' b' : Nat} (hb : 0 < b) (hb' : 0 < b') (h : a * b' = a' * b) : nearV a b = nearV a' b' := by
  by_cases hx : ∃ r, Near r a b
  · obtain ⟨r, hr⟩ := hx
    rw [nearV_eq hb hr, nearV_eq hb' (near_eq hr hb hb' h)]
  · have hy : ¬ ∃ r, Near r a' b' := fun ⟨r, hr⟩ => hx ⟨r, near_eq hr hb' hb h.symm⟩
    unfold nearV
    rw [dif_neg hx, dif_neg hy]
theorem nv_shift (m z : Nat) (e : Int) : nv (m * 10 ^ z) e = nv m (e + z) := by
  unfold nv
  refine nearV_congr (frD_pos _ _) (frD_pos _ _) ?_
  rw [frN_U, frN_U, frD_1, frD_1]
  have hs := pow_sh (p := e + (z : Int)) (e := e) (z := z) rfl
  calc m * 10 ^ z * (10 ^ e.toNat * F64.U) * 10 ^ (-(e + (z : Int))).toNat = m * (10 ^ z * (10 ^ e.toNat * 10 ^ (-(e + (z : Int))).toNat)) * F64.U := by ac_rfl
    _ = m * (10 ^ (e + (z : Int)).toNat * 10 ^ (-e).toNat) * F64.U := by rw [hs]
    _ = m * (10 ^ (e + (z : Int)).toNat * F64.U) * 10 ^ (-e).toNat := by ac_rfl
theorem rfF_dig : ∀ (l : List Nat) (σ : RF), (∀ c ∈ l, 48 ≤ c ∧ c ≤ 57) → 0 < σ.nd → σ.nm ≤ 19 → (σ.nm < 19 → σ.nd = σ.nm) →
    l.foldl rfS σ = ⟨σ.dot, σ.nd + l.length, min (σ.nm + l.length) 19, σ.dp, (l.take (19 - σ.nm)).foldl (fun e c => e * 10 + (c - 48)) σ.m, σ.tr || anyNZ (l.drop (19 - σ.nm))⟩
  | [], σ, _, h0, h1, _ => by
    obtain ⟨dot, nd, nm, dp, m, tr⟩ := σ
    simp only at h1
    simp [anyNZ, Nat.min_eq_left h1]
  | c :: l, σ, hl, h0, h1, h2 => by
    obtain ⟨dot, nd, nm, dp, m, tr⟩ := σ
    simp only at h0 h1 h2
    have hc := hl c (List.mem_cons_self ..)
    have hstep : rfS ⟨dot, nd, nm, dp, m, tr⟩ c = if nm < 19 then ⟨dot, nd + 1, nm + 1, dp, m * 10 + (c - 48), tr⟩ else ⟨dot, nd + 1, nm, dp, m, tr || decide (c ≠ 48)⟩ := by
      unfold rfS
      rw [if_neg (by omega), if_neg (by simp only; omega)]
    rw [List.foldl_cons, hstep]
    by_cases hn : nm < 19
    · rw [if_pos hn, rfF_dig l _ (fun x hx => hl x (List.mem_cons_of_mem _ hx)) (by simp only; omega) (by simp only; omega) (by simp only; omega)]
      simp only [List.length_cons]
      obtain ⟨j, hj⟩ : ∃ j, 19 - nm = j + 1 := ⟨18 - nm, by omega⟩
      rw [hj, show 19 - (nm + 1) = j by omega]
      simp only [List.take_succ_cons, List.drop_succ_cons, List.foldl_cons]
      congr 1 <;> omega
    · rw [if_neg hn, rfF_dig l _ (fun x hx => hl x (List.mem_cons_of_mem _ hx)) (by simp only; omega) (by simp only; omega) (by simp only; omega)]
      simp only [List.length_cons]
      rw [show 19 - nm = 0 by omega]
      simp only [List.take_zero, List.drop_zero, List.foldl_nil]
      have e : (tr || decide (c ≠ 48) || anyNZ l) = (tr || anyNZ (c :: l)) := by
        unfold anyNZ
        rw [List.any_cons, Bool.or_assoc]
        congr 2
        by_cases h : c = 48 <;> simp [h]
      rw [e]
      congr 1 <;> omega
theorem dfF_dig : ∀ (l : List Nat) (σ : DF), (∀ c ∈ l, 48 ≤ c ∧ c ≤ 57) → σ.D ≠ [] → l.foldl dfS σ = ⟨σ.dot, σ.D ++ l, σ.dp⟩
  | [], σ, _, _ => by simp
  | c :: l, σ, hl, h0 => by
    have hc := hl c (List.mem_cons_self ..)
    have hstep : dfS σ c = { σ with D := σ.D ++ [c] } := by
      unfold dfS
      rw [if_neg (by omega), if_neg (fun h => h0 h.2)]
    rw [List.foldl_cons, hstep, dfF_dig l _ (fun x hx => hl x (List.mem_cons_of_mem _ hx)) (by simp)]
    simp
theorem numL_pos1 {d : List Nat} (hpos : d ≠ []) (hh : ∀ c, d[0]? = some c → 49 ≤ c) : 0 < numL d := by
  cases d with
  | nil => exact absurd rfl hpos
  | cons x xs =>
    have := hh x rfl
    rw [numL_cons]
    have h2 : 0 < 10 ^ xs.length := Nat.pow_pos (by decide)
    have h3 := Nat.mul_le_mul_right (10 ^ xs.length) (show 1 ≤ x - 48 by omega)
    omega
theorem c_atofG (S : ByteArray) (d : List Nat) (n : Int) (c : Nat) (h0 : 0 < S.size) (hc : (S[0]'h0).toNat = c) (hcd : 48 ≤ c ∧ c ≤ 57) (hd : ∀ c ∈ d, 48 ≤ c ∧ c ≤ 57) (hpos : d ≠ []) (hh : ∀ c, d[0]? = some c → 49 ≤ c) (hn1 : -450 ≤ n) (hn2 : n ≤ 800) (hlen : d.length ≤ 90000) (w : World) (hL : LibW w)
    (hR : ∀ W, Calls Tryz.prog 202 #[.string S] W fun r w' => r = .returned (.tuple #[.int .u64 (numL (d.take 19) : Int), .int .i64 (n - ((min d.length 19 : Nat) : Int)), .bool false, .bool (anyNZ (d.drop 19)), .bool false, .int .i64 (S.size : Int), .bool true]) ∧ W = w')
    (hSet : ∀ b W, SetI b [] 0 W → W.cell? ⟨b, 802, none⟩ = some (.bool false) → Calls Tryz.prog 208 #[.pointer (some ⟨b, 0, none⟩), .string S] W fun r w' => r = .returned (.bool true) ∧ SetI b d n w' ∧ Below b W w') :
    Calls Tryz.prog 175 #[.string S] w fun r w' => AtR (nv (numL d) (n - d.length)) S.size r ∧ Below w.heap.size w w' := by
  have hlen0 : 0 < d.length := List.length_pos_iff.2 hpos
  have hm1 : 0 < numL (d.take 19) := numL_pos1 (by
    cases d with
    | nil => exact absurd rfl hpos
    | cons x xs => simp) (fun c hc => hh c (by
      cases d with
      | nil => simp at hc
      | cons x xs => exact hc))
  by_cases hnz : anyNZ (d.drop 19) = true
  · have hl : 20 ≤ d.length := by
      rcases Nat.lt_or_ge d.length 20 with g | g
      · rw [List.drop_of_length_le (by omega)] at hnz
        cases hnz
      · exact g
    rw [hnz] at hR
    have e19 : ((min d.length 19 : Nat) : Int) = 19 := by omega
    rw [e19] at hR
    exact c_atofT S d (numL (d.take 19)) (n - 19) n c h0 hc hcd hd hh hl rfl rfl hn1 hn2 w hL hR hSet
  · have hnz2 : anyNZ (d.drop 19) = false := by
      cases h : anyNZ (d.drop 19) with
      | false => rfl
      | true => exact absurd h hnz
    rw [hnz2] at hR
    have hm : numL (d.take 19) < 18446744073709551616 := by
      refine Nat.lt_of_lt_of_le (numL_lt (fun c hc => hd c (List.mem_of_mem_take hc))) ?_
      refine Nat.le_trans (Nat.pow_le_pow_right (by decide) (show (d.take 19).length ≤ 19 by rw [List.length_take]; omega)) (by decide)
    have h := c_atofN S (numL (d.take 19)) (n - ((min d.length 19 : Nat) : Int)) c h0 hc hcd hm (by omega) (by omega) w hL hR
    rw [if_neg (by omega)] at h
    have e : nv (numL (d.take 19)) (n - ((min d.length 19 : Nat) : Int)) = nv (numL d) (n - d.length) := by
      have hsp := numL_split d 19
      have hz : numL (d.drop 19) = 0 := by
        have := nz_num (d.drop 19) (fun c hc => hd c (List.mem_of_mem_drop hc))
        rw [hnz2] at this
        have h2 : ¬ 0 < numL (d.drop 19) := fun h => by have := this.2 h; cases this
        omega
      rw [hz, Nat.add_zero] at hsp
      rw [hsp, nv_shift]
      congr 1
      rw [List.length_drop]
      omega
    rw [e] at h
    exact h
end Go.Proofs.YtbakbikilbaafaaGreatDoor
namespace Go.Proofs.YtbakbikilbaafaaGreatDoor
open Go.RowKit F64 Ieee
set_option linter.unusedVariables false
set_option maxHeartbeats 4000000
set_option maxRecDepth 100000

theorem drop_head (l : List Nat) (h : ∀ c ∈ l, 48 ≤ c ∧ c ≤ 57) : ∀ c, (l.dropWhile (· == 48))[0]? = some c → 49 ≤ c := by
  induction l with
  | nil => intro c hc; simp at hc
  | cons x l ih =>
    intro c hc
    rw [List.dropWhile_cons] at hc
    split at hc
    · exact ih (fun y hy => h y (List.mem_cons_of_mem _ hy)) c hc
    · rename_i hx
      simp at hc
      subst hc
      have := h x (List.mem_cons_self ..)
      simp at hx
      omega
theorem drop_dig (l : List Nat) (h : ∀ c ∈ l, 48 ≤ c ∧ c ≤ 57) : ∀ c ∈ l.dropWhile (· == 48), 48 ≤ c ∧ c ≤ 57 := fun c hc => h c ((List.dropWhile_sublist _).subset hc)
/-- an exponent's digits, no more than 2^30 -/
def powF (es : List Nat) : Nat := es.foldl (fun p c => min (10 * p + (c - 48)) 1073741824) 0
/-- the float of a decimal number: whole digits, digits behind the point, the exponent's sign and digits -/
noncomputable def fltV (ws ps : List Nat) (neg : Bool) (es : List Nat) : Nat :=
  let d := (ws ++ ps).dropWhile (· == 48)
  let pw : Int := (if neg then -(powF es : Int) else (powF es : Int)) + (d.length : Int) - (ps.length : Int)
  if d = [] then 0 else if pw < -400 then 0 else if 400 < pw then 9218868437227405312 else nv (numL d) (pw - d.length)
def oneB (neg : Bool) : Nat := if neg then 13830554455654793216 else 4607182418800017408
end Go.Proofs.YtbakbikilbaafaaGreatDoor
namespace Go.Proofs.YtbakbikilbaafaaGreatDoor
open Go.RowKit F64 Ieee
set_option linter.unusedVariables false
set_option maxHeartbeats 4000000
set_option maxRecDepth 100000

/-- the mantissa of a decimal text -/
def mantL (ws ps : List Nat) (pt : Bool) : List Nat := ws ++ if pt then 46 :: ps else []
def sgI (neg : Bool) : Int := if neg then -1 else 1
/-- the power: the exponent, the digits, less those behind the point -/
def pwF (ws ps : List Nat) (neg : Bool) (es : List Nat) : Int := sgI neg * (powF es : Int) + (((ws ++ ps).dropWhile (· == 48)).length : Int) - (ps.length : Int)
theorem fltV_eq (ws ps : List Nat) (neg : Bool) (es : List Nat) : fltV ws ps neg es = if (ws ++ ps).dropWhile (· == 48) = [] then 0 else if pwF ws ps neg es < -400 then 0 else if 400 < pwF ws ps neg es then 9218868437227405312 else nv (numL ((ws ++ ps).dropWhile (· == 48))) (pwF ws ps neg es - (((ws ++ ps).dropWhile (· == 48)).length : Int)) := by
  unfold fltV pwF sgI
  cases neg <;> simp
end Go.Proofs.YtbakbikilbaafaaGreatDoor
