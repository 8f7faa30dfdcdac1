/-
  Contracts: Contract of the program's Units. Condition: the text is shorter than 2^40 bytes. Contract of the reference Compare: how two lists of units compare. Condition: the texts are shorter than 2^40 bytes. The contract of the reference's Make: the text of units. The contracts of the reference's Of, Ascii and Name, of texts of bytes below 128. Contracts of the program's Point, Of (of texts of bytes below 128), ascii, Show. The contracts of the reference's Plain and Show (printed by gen_XSF.py). Plain facts: a positive float by its leading 53 digits. Conditions: as each theorem says. Plain facts: the bit fields of float words. Conditions: as each theorem says. Plain facts: scaling a float by a power of two, exactly. Conditions: as each theorem says. Contracts of math.Ldexp (of normal numbers) and of the program's rounded. Contracts of Ldexp by exponent and digits, and of the program's rounded. Contracts of the program's small functions on digits and blanks: worth, digitsOf, run, Blank, At. Contracts of both Blanks (printed by gen_XTB.py).
-/
import Derived.Test.YtbakbikilbaafaaGreatDoorS12
import Derived.Test.YtbakbikilbaafaaGreatDoorS2
import Derived.Shelf.Strings.Cut
import Derived.Laws.IdiomStrings
import Derived.Laws.BytesArg
import Derived.Shelf.Strings.BuilderK
import Derived.Lib.OthersKept
import Derived.Test.YtbakbikilbaafaaGreatDoorS5
namespace Go.Proofs.YtbakbikilbaafaaGreatDoor
open Go.RowKit
set_option maxHeartbeats 400000
set_option maxRecDepth 100000

theorem bel_drewN {B : Nat} {a w : World} (h : Below B a w) (n : Nat) : Below B a (w.drewN n) := h.trans ⟨rfl, rfl, rfl, Nat.le_refl _, fun _ _ => rfl⟩
theorem own_drewN {w : World} {B e size n : Nat} {v : Value} {xs : List Value} (h : w.ownsRow B e size v n xs) (q : Nat) : (w.drewN q).ownsRow B e size v n xs := h
theorem u16s_snoc (s : ByteArray) (k : Nat) : u16s (unitsN s (k + 1)) = u16s (unitsN s k) ++ [Value.int IntKind.u16 (unitAt s k)] := by simp [u16s, unitsN]
theorem unitAt_even (s : ByteArray) (k : Nat) (h : k < s.size / 2) : unitAt (evenB s) k = unitAt s k := by
  have hs := evenB_size s
  have key : ∀ i, i < s.size / 2 * 2 → ub (evenB s) i = ub s i := by
    intro i hi
    rw [ub_get _ _ (by omega), ub_get _ _ (by omega)]
    unfold evenB
    rw [ByteArray.getElem_extract]
    congr 2; omega
  unfold unitAt
  rw [key _ (by omega), key _ (by omega)]
theorem unitsN_even (s : ByteArray) (k : Nat) (h : k ≤ s.size / 2) : unitsN (evenB s) k = unitsN s k := by
  induction k with
  | zero => rfl
  | succ k ih => simp only [unitsN]; rw [ih (by omega), unitAt_even s k (by omega)]
theorem c_Units (s : ByteArray) (hs : s.size ≤ 1099511627776) (w : World) :
    Calls Tryz.prog 69 #[.string s] w fun e w' => ∃ v, e = .returned v ∧ w'.ownsRow w.heap.size 27 1 v (s.size / 2) (u16s (unitsN s (s.size / 2))) ∧ Below w.heap.size w w' := by
  obtain ⟨i0, hi0, hz0, hz1, hz2⟩ := info_parts infoU16
  have hE := evenB_size s
  have hU := unitsN_even s (s.size / 2) (Nat.le_refl _)
  rw [← hU]
  have H := Lib.hid (c_even s hs)
  have hm : s.size / 2 ≤ 549755813888 := by omega
  generalize evenB s = E at *
  generalize s.size / 2 = m at *
  have hE1 : E.size ≤ m * 2 := by omega
  have hE2 : m * 2 ≤ E.size := by omega
  clear hE hU
  go_enter Tryz.func69, Tryz.ntmps69
  go_wp2_with (first | (go_at_call 103; refine (H.out _).mono ?_; rintro e w' ⟨rfl, rfl⟩) | (at_make; refine wpList_make_own _ rfl _ _ 49 rfl w.heap.size 27 i0 (.int .u16 0) 1 Tryz.underlying49 hi0 hz0 hz1 _ _ _ m rfl rfl (by omega) (by rw [hz2]; omega) (by unfold maxLen; omega) (Nat.le_refl _) ?_; intro w1 hown1 hgrow1))
  have hbel1 : Below w.heap.size w w1 := (Below.refl _ _).grown hgrow1 (Nat.le_refl _) (fun _ h => by cases h)
  have eE : (E.size : Int) / 2 = (m : Int) := by omega
  rw [eE]
  clear eE hgrow1
  generalize hv0 : Value.slice (some ⟨w.heap.size, 0, none⟩) 0 m = v0 at *
  clear hv0
  go_loopw [4, 5, 15] (fun v _ i wr => ∃ k : Nat, k ≤ m ∧ i = .int .i64 (k : Int) ∧ wr.ownsRow w.heap.size 27 1 v k (u16s (unitsN E k)) ∧ Below w.heap.size w wr) (fun _ _ i _ => m - (intOf i).toNat)
  case atStart => exact ⟨0, by omega, rfl, hown1, hbel1⟩
  case round =>
    obtain ⟨k, hk, rfl, hown, hbel⟩ := hrel
    rcases Nat.lt_or_ge k m with hlt | hge
    · have hsz := hbel.size
      go_wp2_with (first | (go_at_call 68; refine (c_unit E k (by omega) (by omega) _).mono ?_; rintro e w' ⟨rfl, nq, rfl⟩) | (at_builtin; go_loud (refine wpList_append_lies _ (by rfl) _ _ _ (by rfl) w.heap.size 27 i0 _ 1 2 Tryz.underlying49 hi0 hz0 hz1 hz2 rfl (by omega) u4 k (u16s (unitsN E k)) (by rfl) ((own_drewN hown nq).alloc _) ⟨wr.heap.size, 0, none⟩ 1 1 [.int .u16 (unitAt E k)] (by rfl) (by rfl) (World.news_of_block (cs := #[.int .u16 (unitAt E k)]) (t := 27) (fr := (0, 0)) (by exact heap_alloc_new (wr.drewN nq) _)) (by simp [Value.oneCell']) (by omega) (by unfold maxLen; omega) (by omega) (by simp; omega) (wr.heap.size + 1) (by simp) ?_); intro gg cap w2 hown2 hgrow hat hlt2))
      have hown3 : w2.ownsRow w.heap.size 27 1 (Value.slice (some ⟨gg, 0, none⟩) (k + 1) cap) (k + 1) (u16s (unitsN E (k + 1))) := by
        rw [u16s_snoc]; exact hown2
      have hbel2 : Below w.heap.size w w2 := ((bel_drewN hbel nq).alloc hsz _).grown hgrow (by simp; omega) (own_base hown)
      clear hown2 hgrow
      go_roundw
      case rel => exact ⟨k + 1, by omega, by go_num, hown3, hbel2⟩
      case measure => simp [intOf]; omega
    · have hk2 : k = m := by omega
      subst hk2
      go_wp2
      go_ret
      exact ⟨_, rfl, hown, hbel⟩
end Go.Proofs.YtbakbikilbaafaaGreatDoor
namespace Go.Proofs.YtbakbikilbaafaaGreatDoor
open Go.RowKit
set_option maxHeartbeats 400000
set_option maxRecDepth 100000

/-- v reads as the row xs; its block is below B -/
def Rd (B : Nat) (w : World) (v : Value) (xs : List Value) : Prop :=
  ∃ b c, v = .slice b xs.length c ∧ ∀ j u, xs[j]? = some u → ∃ g, g < B ∧ b = some ⟨g, 0, none⟩ ∧ xs.length ≤ c ∧ w.cell? ⟨g, j, none⟩ = some u
theorem add_zero_addr (g j : Nat) : (⟨g, 0, none⟩ : Addr).add j = ⟨g, j, none⟩ := by
  unfold Addr.add
  simp
  omega
theorem Rd_own {w : World} {base : Nat} {e : TypeId} {v : Value} {n : Nat} {xs : List Value} (h : w.ownsRow base e 1 v n xs) : Rd w.heap.size w v xs := by
  have hl := h.lt
  have hc := fun g hg => World.ownsRow.cells h (g := g) hg
  rcases h with ⟨hn, ⟨rfl, rfl⟩ | ⟨g, cap, cur, rfl, hb, hh, h1, h2, h3, h4⟩⟩
  · have : xs = [] := List.length_eq_zero_iff.1 (by omega)
    subst this
    exact ⟨none, 0, rfl, fun j u hu => by simp at hu⟩
  · have hn' : n = xs.length := by omega
    subst hn'
    refine ⟨_, cap, rfl, ?_⟩
    intro j u hu
    have := hc g rfl j u hu
    rw [add_zero_addr] at this
    exact ⟨g, (hl g rfl).2, rfl, h1, this⟩
theorem Rd.keep {B B' : Nat} {w w' : World} {v : Value} {xs : List Value} (h : Rd B w v xs) (hb : Below B' w w') (hB : B ≤ B') : Rd B w' v xs := by
  obtain ⟨b, c, h1, h2⟩ := h
  refine ⟨b, c, h1, fun j u hu => ?_⟩
  obtain ⟨g, k1, k2, k3, k4⟩ := h2 j u hu
  exact ⟨g, k1, k2, k3, by rw [hb.cell (p := ⟨g, j, none⟩) (by show g < B'; omega)]; exact k4⟩

/-- the units of a text -/
def U (s : ByteArray) : List Nat := unitsN s (s.size / 2)
theorem unitsN_len (s : ByteArray) (k : Nat) : (unitsN s k).length = k := by induction k with
  | zero => rfl
  | succ k ih => simp [unitsN, ih]
end Go.Proofs.YtbakbikilbaafaaGreatDoor
namespace Go.Proofs.YtbakbikilbaafaaGreatDoor
open Go.RowKit Go.Proofs
set_option maxHeartbeats 400000
set_option maxRecDepth 100000

def byteU (u : Nat) : List UInt8 := [UInt8.ofNat (u / 256), UInt8.ofNat (u % 256)]
def bytesU (us : List Nat) : List UInt8 := us.flatMap byteU
def textU (us : List Nat) : ByteArray := ⟨(bytesU us).toArray⟩
def cellsB (l : List UInt8) : List Value := l.map fun b => .int .u8 (b.toNat : Int)
theorem bytesU_len (us : List Nat) : (bytesU us).length = 2 * us.length := by
  induction us with
  | nil => rfl
  | cons u us ih => simp only [bytesU, List.flatMap_cons, List.length_append, List.length_cons] at ih ⊢; rw [ih]; simp [byteU]; omega
theorem bytesU_snoc (us : List Nat) (k u : Nat) (h : us[k]? = some u) : bytesU (us.take (k + 1)) = bytesU (us.take k) ++ byteU u := by
  unfold bytesU
  rw [List.take_add_one, h]; simp
theorem infoU8 : (Tryz.prog.info? 5).map (fun i => (i.zero, i.size, i.bytes)) = some (some (.int .u8 0), 1, 1) := by kernel_rfl
theorem c_MakeR (us : List Nat) (v : Value) (hus : ∀ u ∈ us, u < 65536) (hl : us.length ≤ 549755813888) (w : World) (h : Rd w.heap.size w v (u16s us)) :
    Calls Tryz.prog 35 #[v] w fun e w' => e = .returned (.string (textU us)) ∧ Below w.heap.size w w' := by
  obtain ⟨i0, hi0, hz0, hz1, hz2⟩ := info_parts infoU8
  obtain ⟨p, c, rfl, hcell⟩ := h
  have hlen : (u16s us).length = us.length := by simp [u16s]
  rw [hlen] at hcell ⊢
  have hget : ∀ k, k < us.length → ∃ u g, us[k]? = some u ∧ u < 65536 ∧ p = some ⟨g, 0, none⟩ ∧ ∀ y, Below w.heap.size w y → y.cell? ⟨g, k, none⟩ = some (.int .u16 (u : Int)) := by
    intro k hk
    have hx : us[k]? = some us[k] := List.getElem?_eq_getElem hk
    obtain ⟨g, g1, g2, g3, g4⟩ := hcell k (.int .u16 (us[k] : Int)) (by simp [u16s, hk])
    refine ⟨us[k], g, hx, hus _ (List.getElem_mem hk), g2, fun y hy => ?_⟩
    rw [hy.cell (p := ⟨g, k, none⟩) (by exact g1)]
    exact g4
  have hsn := bytesU_snoc us
  have hbl : ∀ k, (bytesU (us.take k)).length = 2 * (us.take k).length := fun k => bytesU_len _
  have hend : bytesU (us.take us.length) = bytesU us := by rw [List.take_length]
  have h0 : bytesU (us.take 0) = [] := rfl
  unfold textU
  generalize bytesU us = E at *
  generalize hF : (fun k => bytesU (us.take k)) = F at *
  have hF' : ∀ k, bytesU (us.take k) = F k := fun k => by rw [← hF]
  simp only [hF'] at hsn hbl hend h0
  have hFl : ∀ k, k ≤ us.length → (F k).length = 2 * k := fun k hk => by rw [hbl, List.length_take]; omega
  clear hcell hlen hus hF hF' hbl
  generalize us.length = n at *
  replace hget := Lib.hid hget
  replace hsn := Lib.hid hsn
  replace hend := Lib.hid hend
  replace h0 := Lib.hid h0
  replace hFl := Lib.hid hFl
  go_enter Tryz.func35, Tryz.ntmps35
  go_wp2
  go_loopw [3, 8] (fun vb vk wr => ∃ k : Nat, k ≤ n ∧ vk = .int .i64 (k : Int) ∧ wr.ownsRow w.heap.size 5 1 vb (2 * k) (cellsB (F k)) ∧ Below w.heap.size w wr) (fun _ vk _ => n - (intOf vk).toNat)
  case atStart => exact ⟨0, by omega, rfl, ⟨by rw [h0.out]; rfl, .inl ⟨rfl, rfl⟩⟩, Below.refl _ _⟩
  case round =>
    obtain ⟨k, hk, rfl, hown, hbel⟩ := hrel
    rcases Nat.lt_or_ge k n with hlt | hge
    · obtain ⟨u, g, hu, hu2, rfl, hy⟩ := hget.out k hlt
      have d1 := hy wr hbel
      have hs := Lib.hid (hsn.out k u hu)
      clear hu hy
      have hk2 := Lib.hid (hFl.out k hk)
      have hcB : cellsB (F k) ++ [.int .u8 ((u : Int) / 256), .int .u8 ((u : Int) % 256)] = cellsB (F (k + 1)) := by
        rw [hs.out]
        simp only [cellsB, List.map_append, byteU, List.map_cons, List.map_nil]
        congr 2
        · congr 1
          simp; omega
        · congr 2
          simp
      replace hcB := Lib.hid hcB
      go_wp2_with (at_builtin; refine wpList_append_lies _ (by rfl) _ _ _ (by rfl) w.heap.size 5 i0 _ 1 1 Tryz.underlying90 hi0 hz0 hz1 hz2 rfl (by omega) u3 (2 * k) (cellsB (F k)) (by rfl) (hown.alloc _) ⟨wr.heap.size, 0, none⟩ 2 2 [.int .u8 ((u : Int) / 256), .int .u8 ((u : Int) % 256)] (by rfl) (by rfl) (World.news_of_block (cs := #[.int .u8 ((u : Int) / 256), .int .u8 ((u : Int) % 256)]) (t := 5) (fr := (0, 0)) (by exact heap_alloc_new wr _)) (by simp [Value.oneCell']) (by omega) (by unfold maxLen; omega) (by omega) (by have := hbel.size; simp; omega) (wr.heap.size + 1) (by simp) ?_; intro gg cap w2 hown2 hgrow hat hlt2)
      have hown3 : w2.ownsRow w.heap.size 5 1 (.slice (some ⟨gg, 0, none⟩) (2 * k + 2) cap) (2 * (k + 1)) (cellsB (F (k + 1))) := by
        rw [← hcB.out]; exact hown2
      have hbel2 : Below w.heap.size w w2 := (hbel.alloc hbel.size _).grown hgrow (by have := hbel.size; simp; omega) (own_base hown)
      clear hown2 hgrow
      go_roundw
      case rel => exact ⟨k + 1, by omega, by go_num, hown3, hbel2⟩
      case measure => simp [intOf]; omega
    · obtain rfl : k = n := by omega
      have hE := hend.out
      have hkl := hFl.out k hk
      have hcv : (convert 90 24 u3).run Tryz.prog wr = .ok (.string ⟨E.toArray⟩) wr := by
        rw [hE] at hown hkl
        rcases Nat.eq_zero_or_pos k with h1 | h1
        · subst h1
          have hE0 : E = [] := List.length_eq_zero_iff.1 (by omega)
          subst hE0
          rcases hown with ⟨_, ⟨rfl, _⟩ | ⟨g, cap, cur, rfl, _⟩⟩
          · exact run_convert_bytes_nil (P := Tryz.prog) wr 90 5 Tryz.underlying90 Tryz.underlying5 0 0 24 Tryz.underlying24
          · exact run_convert_bytes_back (P := Tryz.prog) wr 90 24 5 ⟨g, 0, none⟩ cap [] Tryz.underlying90 Tryz.underlying5 Tryz.underlying24 (fun j hj => by simp at hj)
        · obtain ⟨g, cap, rfl, _, _⟩ := hown.form (by omega)
          have hc := World.ownsRow.cells hown (g := g) rfl
          rw [← hkl]
          refine run_convert_bytes_back (P := Tryz.prog) wr 90 24 5 ⟨g, 0, none⟩ cap E Tryz.underlying90 Tryz.underlying5 Tryz.underlying24 (fun j hj => hc j _ ?_)
          simp [cellsB, hj]
      clear hown hkl hE
      go_wp2
      go_ret
      exact ⟨rfl, hbel⟩
end Go.Proofs.YtbakbikilbaafaaGreatDoor
namespace Go.Proofs.YtbakbikilbaafaaGreatDoor
open Go.RowKit Go.Proofs
set_option maxHeartbeats 400000
set_option maxRecDepth 100000

theorem below_after {w w1 w' : World} (h1 : Below w.heap.size w w1) (h : Below w1.heap.size w1 w') : Below w.heap.size w w' := h1.trans (h.mono h1.size)
theorem c_point (s : ByteArray) (b : Nat) (h0 : 0 < s.size) (he : ub s 0 = b) (hb : b < 128) (w : World) :
    Calls Tryz.prog 82 #[.string s] w fun e w' => e = .returned (.tuple #[.int .i32 (b : Int), .int .i64 1]) ∧ w' = w := by
  have e0 : (s[0]'h0).toNat = b := by rw [← he, ub_get s 0 h0]
  have hb' : (b : Int) < 128 := by omega
  clear he
  go_enter Tryz.func82, Tryz.ntmps82
  go_wp2
  go_ret2
  exact ⟨rfl, rfl⟩
theorem c_Point (r : Nat) (hr : r < 65536) (w : World) :
    Calls Tryz.prog 83 #[.int .i32 (r : Int)] w fun e w' => e = .returned (.slice (some ⟨w.heap.size, 0, none⟩) 1 1) ∧ w' = w.alloc (.cells #[.int .u16 (r : Int)] 27) := by
  have k1 : ¬ (r : Int) < 0 := by omega
  have k2 : ¬ (1114111 : Int) < (r : Int) := by omega
  have k3 : (r : Int) < 65536 := by omega
  have k4 : IntKind.u16.wrap (r : Int) = (r : Int) := by simp [IntKind.wrap, IntKind.bits, IntKind.signed]; omega
  clear hr
  go_enter Tryz.func83, Tryz.ntmps83
  go_wp2
  go_ret
  exact ⟨rfl, rfl⟩
def codes (s : ByteArray) : List Nat := s.data.toList.map UInt8.toNat
theorem codes_len (s : ByteArray) : (codes s).length = s.size := by simp [codes]
theorem codes_get (s : ByteArray) (i : Nat) (h : i < s.size) : (codes s)[i]? = some (ub s i) := by
  have : i < s.data.toList.length := by simpa using h
  unfold codes ub
  rw [List.getElem?_map, List.getElem?_eq_getElem this, List.getD_eq_getElem?_getD, List.getElem?_eq_getElem this]
  rfl
theorem ub_extract (s : ByteArray) (i : Nat) (h : i < s.size) : ub (s.extract i s.size) 0 = ub s i := by
  rw [ub_get _ _ (by simp; omega), ub_get _ _ h, ByteArray.getElem_extract]
  simp
theorem c_OfR (s : ByteArray) (hs : s.size ≤ 549755813888) (ha : ∀ u ∈ codes s, u < 128) (w : World) :
    Calls Tryz.prog 48 #[.string s] w fun e w' => e = .returned (.tuple #[.string (textU (codes s)), .int .i64 0, .int .i64 0]) ∧ Below w.heap.size w w' := by
  obtain ⟨i0, hi0, hz0, hz1, hz2⟩ := info_parts infoU16
  have hget : ∀ k, k < s.size → ∃ u, u < 128 ∧ 0 < (s.extract k s.size).size ∧ ub (s.extract k s.size) 0 = u ∧ u16s ((codes s).take (k + 1)) = u16s ((codes s).take k) ++ [.int .u16 (u : Int)] := by
    intro k hk
    refine ⟨ub s k, ha _ (List.mem_of_getElem? (codes_get s k hk)), by simp; omega, ub_extract s k hk, ?_⟩
    rw [List.take_add_one, codes_get s k hk]
    simp [u16s]
  have hend : (codes s).take s.size = codes s := by rw [← codes_len s, List.take_length]
  have h0 : u16s ((codes s).take 0) = [] := rfl
  have hM := fun v w h => Lib.hid (c_MakeR (codes s) v (fun u hu => by have := ha u hu; omega) (by rw [codes_len]; exact hs) w h)
  have hcl := codes_len s
  generalize codes s = C at *
  replace hget := Lib.hid hget
  replace hend := Lib.hid hend
  replace h0 := Lib.hid h0
  replace hcl := Lib.hid hcl
  clear ha
  go_enter Tryz.func48, Tryz.ntmps48
  go_wp2
  go_loopw [5, 6] (fun vb vk wr => ∃ k : Nat, k ≤ s.size ∧ vk = .int .i64 (k : Int) ∧ wr.ownsRow w.heap.size 27 1 vb k (u16s (C.take k)) ∧ Below w.heap.size w wr) (fun _ vk _ => s.size - (intOf vk).toNat)
  case atStart => exact ⟨0, by omega, rfl, ⟨by rw [h0.out]; rfl, .inl ⟨rfl, rfl⟩⟩, Below.refl _ _⟩
  case round =>
    obtain ⟨k, hk, rfl, hown, hbel⟩ := hrel
    rcases Nat.lt_or_ge k s.size with hlt | hge
    · obtain ⟨u, hu, hx0, hx1, hx2⟩ := hget.out k hlt
      have hP := fun y => Lib.hid (c_point (s.extract k s.size) u hx0 hx1 hu y)
      have hx2 := Lib.hid hx2
      have hQ := fun y => Lib.hid (c_Point u (by omega) y)
      clear hx0 hx1
      have hsz := hbel.size
      go_wp2_with (first | (go_at_call 82; refine (hP _).out.mono ?_; rintro e w1 ⟨rfl, rfl⟩) | (go_at_call 83; refine (hQ _).out.mono ?_; rintro e w1 ⟨rfl, rfl⟩) | (at_builtin; refine wpList_append_lies _ (by rfl) _ _ _ (by rfl) w.heap.size 27 i0 _ 1 2 Tryz.underlying49 hi0 hz0 hz1 hz2 rfl (by omega) u5 k (u16s (C.take k)) (by rfl) (hown.alloc _) ⟨_, 0, none⟩ 1 1 [.int .u16 (u : Int)] (by rfl) (by rfl) (World.news_of_block (cs := #[.int .u16 (u : Int)]) (t := 27) (fr := (0, 0)) (by exact heap_alloc_new _ _)) (by simp [Value.oneCell']) (by omega) (by unfold maxLen; omega) (by omega) (by simp; omega) _ rfl ?_; intro gg cap w2 hown2 hgrow hat hlt2))
      have hown3 : w2.ownsRow w.heap.size 27 1 (.slice (some ⟨gg, 0, none⟩) (k + 1) cap) (k + 1) (u16s (C.take (k + 1))) := by
        rw [hx2.out]; exact hown2
      have hbel2 : Below w.heap.size w w2 := (hbel.alloc hsz _).grown hgrow (by simp; omega) (own_base hown)
      clear hown2 hgrow
      go_roundw
      case rel => exact ⟨k + 1, by omega, by go_num, hown3, hbel2⟩
      case measure => simp [intOf]; omega
    · obtain rfl : k = s.size := by omega
      rw [hend.out] at hown
      have hM2 := Lib.hid ((hM u5 wr (Rd_own hown)).out)
      clear hown
      go_wp2_with (go_at_call 35; refine hM2.out.mono ?_; rintro e w1 ⟨rfl, hb⟩)
      go_ret3
      exact ⟨rfl, below_after hbel hb⟩
theorem c_AsciiR (s : ByteArray) (hs : s.size ≤ 549755813888) (ha : ∀ u ∈ codes s, u < 128) (w : World) :
    Calls Tryz.prog 19 #[.string s] w fun e w' => e = .returned (.string (textU (codes s))) ∧ Below w.heap.size w w' := by
  have hO := Lib.hid (c_OfR s hs ha w)
  clear ha
  go_enter Tryz.func19, Tryz.ntmps19
  go_wp2_with (go_at_call 48; refine hO.out.mono ?_; rintro e w1 ⟨rfl, hb⟩)
  go_ret
  exact ⟨rfl, hb⟩
end Go.Proofs.YtbakbikilbaafaaGreatDoor
namespace Go.Proofs.YtbakbikilbaafaaGreatDoor
open Go.RowKit F64 Ieee
set_option linter.unusedVariables false
set_option maxHeartbeats 4000000
set_option maxRecDepth 100000

theorem byteUG_cells (u : Nat) (hu : u < 65536) : Lib.byteCells (byteU u) = [.int .u8 ((u : Int) / 256), .int .u8 ((u : Int) % 256)] := by
  simp only [Lib.byteCells, byteU, List.map_cons, List.map_nil]
  congr 2
  · simp; omega
  · congr 1
    simp
theorem c_putG (B b u : Nat) (bs : List Value) (hu : u < 65536) (w : World) (h : Lib.IsBuilder 93 5 B b bs w) (hl : bs.length ≤ 1000000) (hB : B ≤ w.heap.size) :
    Calls Tryz.prog 129 #[.pointer (some ⟨b, 0, none⟩), .int .u16 (u : Int)] w fun e w' => e = .returned (.tuple #[]) ∧ Lib.IsBuilder 93 5 B b (bs ++ [.int .u8 ((u : Int) / 256), .int .u8 ((u : Int) % 256)]) w' ∧ Below B w w' := by
  have h1 := Lib.hid (s_WriteByte B b bs ((u : Int) / 256) w h (by omega) hB)
  have h2 := Lib.hid (fun W h hB => s_WriteByte B b (bs ++ [.int .u8 ((u : Int) / 256)]) ((u : Int) % 256) W h (by simp; omega) hB)
  have hcat := Lib.hid (List.append_assoc bs [.int .u8 ((u : Int) / 256)] [.int .u8 ((u : Int) % 256)])
  have hu' : (u : Int) < 65536 := by omega
  replace h := Lib.hid h
  go_enter Tryz.func129, Tryz.ntmps129
  go_wp2_with fail
  refine h1.out.mono ?_
  rintro e w1 ⟨rfl, hb1, hbel1⟩
  replace hb1 := Lib.hid hb1
  go_wp2_with fail
  refine (h2.out w1 (.inr hb1.out) (Nat.le_trans hB hbel1.size)).mono ?_
  rintro e w2 ⟨rfl, hb2, hbel2⟩
  replace hb2 := Lib.hid hb2
  go_wp2_with fail
  go_end0
  refine ⟨rfl, ?_, hbel1.trans hbel2⟩
  have := hb2.out
  rw [hcat.out] at this
  exact .inr this
theorem textU_one (u : Nat) : textU [u] = ⟨(byteU u).toArray⟩ := by unfold textU bytesU; simp
theorem c_UPointP (r : Nat) (hr : r < 65536) (w : World) :
    Calls Tryz.prog 91 #[.int .i32 (r : Int)] w fun e w' => e = .returned (.string (textU [r])) ∧ Below w.heap.size w w' := by
  have hP := Lib.hid (c_putG w.heap.size w.heap.size r [] hr (w.alloc (.cells #[.pointer none, .slice none 0 0] 93)) (Lib.fresh_isBuilder 93 5 w) (by simp) (by simp))
  have hS := Lib.hid (fun W h hB => s_String w.heap.size w.heap.size (byteU r) W h hB)
  have r1 : (r : Int) < 65536 := by omega
  have r2 : (0 : Int) ≤ (r : Int) := by omega
  have r3 : ¬ (r : Int) < 0 := by omega
  have r4 : decide ((r : Int) < 0) = false := decide_eq_false (by omega)
  have r5 : decide ((1114111 : Int) < (r : Int)) = false := decide_eq_false (by omega)
  have r6 : ¬ (1114111 : Int) < (r : Int) := by omega
  have hcells := Lib.hid (byteUG_cells r hr)
  have htx := Lib.hid (textU_one r)
  go_enter Tryz.func91, Tryz.ntmps91
  go_wp2_with fail
  refine hP.out.mono ?_
  rintro e w1 ⟨rfl, hb1, hbel1⟩
  rw [List.nil_append] at hb1
  have hbel : Below w.heap.size w w1 := ((Below.refl _ w).alloc (Nat.le_refl _) _).trans hbel1
  have hS2 := Lib.hid (hS.out w1 (by rw [hcells.out]; exact hb1) (by have := hbel1.size; simp at this; omega))
  clear hb1 hbel1 hS hP
  go_wp2_with fail
  refine hS2.out.mono ?_
  rintro e w2 ⟨rfl, hbel2⟩
  go_wp2_with fail
  go_ret
  exact ⟨by rw [htx.out]; rfl, hbel.trans hbel2⟩
theorem builderF_keep {T e : TypeId} {B b : Nat} {bs : List Value} {w w' : World} (h : Lib.IsBuilderF T e B b bs w) (hb : Below w.heap.size w w') : Lib.IsBuilderF T e B b bs w' := by
  have key : ∀ p, Lib.BuilderAtF T e B b p bs w → Lib.BuilderAtF T e B b p bs w' := by
    rintro p ⟨h1, v, h2, h3, h4⟩
    refine ⟨h1, v, ?_, ?_, h4⟩
    · rw [hb.block b (Array.getElem?_eq_some_iff.1 h2).1]; exact h2
    · exact h3.kept (row := none) ⟨hb.os, hb.tape, hb.output, hb.size, fun k hk _ => hb.block k hk⟩ (by cases h : v.ownBlock with | none => exact .inl rfl | some q => exact .inr (by simp))
  rcases h with h | h
  · exact .inl (key _ h)
  · exact .inr (key _ h)
theorem bytesU_take {us : List Nat} {k u : Nat} (h : us[k]? = some u) : Lib.byteCells (bytesU (us.take (k + 1))) = Lib.byteCells (bytesU (us.take k)) ++ Lib.strCells (textU [u]) := by
  rw [bytesU_snoc us k u h, Lib.byteCells_append, textU_one]
  rfl
theorem c_UOf (L : List Nat) (hl : L.length ≤ 10000000) (hL : ∀ c ∈ L, c < 128) (w : World) :
    Calls Tryz.prog 60 #[.string (u8sG L)] w fun e w' => e = .returned (.tuple #[.string (textU L), .int .i64 0, .int .i64 0]) ∧ Below w.heap.size w w' := by
  have hP := Lib.hid (fun c (hc : c < 65536) W => c_UPointP c hc W)
  have hW := Lib.hid (fun bs s W h hlen hB => Any.Builder_WriteString_k lays166 bextra w.heap.size w.heap.size bs s W h hlen hB)
  have hS := Lib.hid (fun l W h hB => Any.Builder_String_any_k lays169 bextra w.heap.size w.heap.size l W h hB)
  have hsz : (u8sG L).size = L.length := uG_size L
  have hget := Lib.hid (fun j c hc h256 h => uG_get L j c hc h256 h)
  have hLb := Lib.hid hL
  have hst := Lib.hid (fun k u (h : L[k]? = some u) => bytesU_take h)
  have hbl := Lib.hid (fun k => bytesU_len (L.take k))
  generalize hSS : u8sG L = S at *
  replace hsz := Lib.hid hsz
  clear hL hSS
  go_enter Tryz.func60, Tryz.ntmps60
  go_wp2_with fail
  go_loopw [] (fun wr => ∃ pos : Nat, pos ≤ L.length ∧ Lib.IsBuilderF 93 5 w.heap.size w.heap.size (Lib.byteCells (bytesU (L.take pos))) wr ∧ wr.heap[w.heap.size + 1]? = some (.stringIter S pos) ∧ Below w.heap.size w wr) (fun wr => S.size - wr.iterPos (w.heap.size + 1))
  case atStart =>
    refine ⟨0, Nat.zero_le _, (Lib.IsBuilderF.of (Lib.fresh_isBuilder 93 5 w)).alloc _, ?_, ((Below.refl _ w).alloc (Nat.le_refl _) _).alloc (by simp) _⟩
    have := World.iter_heap (w.alloc (.cells #[.pointer none, .slice none 0 0] 93)) S 0
    simpa using this
  case round =>
    obtain ⟨pos, hpl, hI, hit, hbw⟩ := hrel
    have hszr : w.heap.size + 1 < wr.heap.size := (Array.getElem?_eq_some_iff.1 hit).1
    have hszS := hsz.out
    by_cases hp : pos < S.size
    · obtain ⟨c, hc⟩ : ∃ c, L[pos]? = some c := ⟨L[pos]'(by omega), List.getElem?_eq_getElem _⟩
      have hc128 := hLb.out c (List.mem_of_getElem? hc)
      have hg := hget.out pos c hc (by omega) hp
      have hnx : ∀ ty, (Instr.next (.pointer (some ⟨w.heap.size + 1, 0, none⟩)) true ty).run Tryz.prog wr = .ok (.tuple #[.bool true, .int .i64 (pos : Int), .int .i32 (c : Int)]) (wr.iterAt (w.heap.size + 1) S (pos + 1)) := fun ty => by
        have := Lib.run_next_ascii_at (P := Tryz.prog) wr (w.heap.size + 1) S pos ty hit hp (by rw [hg]; exact hc128)
        rw [hg] at this
        exact this
      have hI2 := hI.iterAt hit (pos + 1)
      have hit2 := Lib.iterAt_heap wr (w.heap.size + 1) S pos (pos + 1) hit
      have hbw2 := Lib.below_iterAt hbw (k := w.heap.size + 1) (by omega) S (pos + 1)
      have hsz2 : w.heap.size + 1 < (wr.iterAt (w.heap.size + 1) S (pos + 1)).heap.size := by rw [Lib.iterAt_size]; omega
      have hp1 : pos + 1 ≤ L.length := by omega
      have hstep := Lib.hid (hst.out pos c hc)
      have hblen := hbl.out pos
      have htk : (L.take pos).length ≤ pos := List.length_take_le _ _
      have q1 : ((c : Int) == 65533) = false := by simp; omega
      have hcell : (Lib.byteCells (bytesU (L.take pos))).length ≤ 20000000 := by rw [Lib.byteCells_length]; omega
      have hPc := Lib.hid (hP.out c (by omega))
      have hits := Lib.hid hit
      have hmeas : S.size - (pos + 1) < S.size - pos := by omega
      generalize wr.iterAt (w.heap.size + 1) S (pos + 1) = w1 at *
      clear hc hblen htk hp hit hI hbw hg hszS
      have hcs : (textU [c]).size = 2 := by rw [textU_one]; rfl
      generalize textU [c] = tc at *
      go_wp2_with fail
      refine (hPc.out _).mono ?_
      rintro e w2 ⟨rfl, hb2⟩
      have hI3 := builderF_keep hI2 hb2
      have hit3 : w2.heap[w.heap.size + 1]? = some (.stringIter S (pos + 1)) := (hb2.block _ hsz2).trans hit2
      have hbw3 : Below w.heap.size w w2 := hbw2.trans (hb2.mono (by omega))
      clear hI2 hit2 hb2 hbw2
      go_wp2_with fail
      refine (hW.out _ _ _ hI3 (by rw [hcs]; omega) hbw3.size).mono ?_
      rintro e w3 ⟨rfl, h1, b1, k1⟩
      go_wp2_with fail
      go_roundw
      case rel => exact ⟨pos + 1, hp1, by rw [hstep.out]; exact .inr h1, k1.iter hit3 (by omega), hbw3.trans b1⟩
      case measure =>
        simp only [World.iterPos, k1.iter hit3 (by omega), hits.out]
        exact hmeas
    · obtain rfl : pos = L.length := by omega
      have hnx : ∀ ty, (Instr.next (.pointer (some ⟨w.heap.size + 1, 0, none⟩)) true ty).run Tryz.prog wr = _ := fun ty => Lib.run_next_end_at wr (w.heap.size + 1) S L.length ty hit hp
      clear hszS
      go_wp2_with fail
      refine (hS.out _ _ hI (by omega)).mono ?_
      rintro e w2 ⟨rfl, _, b1, _⟩
      go_wp2_with fail
      go_ret3
      exact ⟨rfl, hbw.trans b1⟩
theorem c_dascii (L : List Nat) (hl : L.length ≤ 10000000) (hL : ∀ c ∈ L, c < 128) (w : World) :
    Calls Tryz.prog 26 #[.string (u8sG L)] w fun e w' => e = .returned (.string (textU L)) ∧ Below w.heap.size w w' := by
  have hO := Lib.hid (c_UOf L hl hL w)
  clear hL
  go_enter Tryz.func26, Tryz.ntmps26
  go_wp2_with fail
  refine hO.out.mono ?_
  rintro e w1 ⟨rfl, hb⟩
  go_wp2_with fail
  go_ret
  exact ⟨rfl, hb⟩
/-- a number's text -/
inductive ShowT : Nat → List Nat → Prop
  | nan {x : Nat} (h : F64.isNaN x = true) : ShowT x [78, 97, 78]
  | zero {x : Nat} (h : rung x = 0) : ShowT x [48]
  | inf : ShowT 9218868437227405312 [73, 110, 102, 105, 110, 105, 116, 121]
  | pos {x m v : Nat} {E : Int} (hx0 : 0 < x) (hx : x < 9218868437227405312) (hS : IsSci x m v E) (hE1 : -400 < E) (hE2 : E < 400) (hm1 : 1 ≤ m) (hm2 : m ≤ 18) : ShowT x (txtG m v E)
  | neg {x : Nat} {L : List Nat} (hs : sgn x = true) (h1 : 0 < rung x) (h2 : rung x ≤ 9218868437227405312) (h : ShowT (rung x) L) : ShowT x (45 :: L)
theorem showT_pos (x : Nat) (h0 : 0 < x) (h : x ≤ 9218868437227405312) : ∃ L, ShowT x L := by
  by_cases hi : x = 9218868437227405312
  · rw [hi]; exact ⟨_, .inf⟩
  · obtain ⟨m, v, E, h1, h2, h3, h4, h5⟩ := sci_ex h0 (show x < 9218868437227405312 by omega)
    exact ⟨_, .pos h0 (by omega) h1 h2 h3 h4 h5⟩
theorem showT_ex (x : Nat) (hx : x < 18446744073709551616) : ∃ L, ShowT x L := by
  by_cases hn : F64.isNaN x = true
  · exact ⟨_, .nan hn⟩
  · have hn' : ¬ 9218868437227405312 < rung x := by unfold F64.isNaN at hn; simpa using hn
    by_cases h0 : rung x = 0
    · exact ⟨_, .zero h0⟩
    · obtain ⟨L, hL⟩ := showT_pos (rung x) (by omega) (by omega)
      cases hs : sgn x
      · have hp := wd_parts x hx
        rw [hs] at hp
        have : rung x = x := hp
        rw [this] at hL
        exact ⟨L, hL⟩
      · exact ⟨_, .neg hs (by omega) (by omega) hL⟩
theorem txtG_mem (m v : Nat) (E : Int) : ∀ c ∈ txtG m v E, c < 128 := by
  have hd : ∀ c ∈ dg m v, c < 128 := fun c hc => by have := dgG_dig m v c hc; omega
  have hr : ∀ k, ∀ c ∈ List.replicate k 48, c < 128 := fun k c hc => by have := (List.mem_replicate.1 hc).2; omega
  have hi : ∀ n, ∀ c ∈ itG n, c < 128 := by
    intro n
    induction n using Nat.strongRecOn with
    | ind n ih =>
      intro c hc
      unfold itG Lib.decDigits at hc
      split at hc
      · simp at hc; omega
      · rw [List.map_append, List.mem_append] at hc
        rcases hc with h | h
        · exact ih (n / 10) (by omega) c h
        · simp at h; omega
  intro c hc
  unfold txtG at hc
  split at hc
  · rcases List.mem_append.1 hc with h | h
    · exact hd c h
    · exact hr _ c h
  · split at hc
    · simp only [List.mem_append, List.mem_singleton] at hc
      rcases hc with (h | h) | h
      · exact hd c (List.mem_of_mem_take h)
      · omega
      · exact hd c (List.mem_of_mem_drop h)
    · split at hc
      · simp only [List.mem_append, List.mem_cons, List.not_mem_nil, or_false] at hc
        rcases hc with (h | h) | h
        · omega
        · exact hr _ c h
        · exact hd c h
      · simp only [List.mem_append, List.mem_singleton] at hc
        rcases hc with ((h | h) | h) | h
        · have := sciP_mem m v c h; omega
        · omega
        · unfold exS at h; split at h <;> omega
        · exact hi _ c h
theorem txtG_len (m v : Nat) (E : Int) (hm : m ≤ 18) (h1 : -400 < E) (h2 : E < 400) : (txtG m v E).length ≤ 100 := by
  have hp : (sciP m v).length ≤ m + 1 := by
    unfold sciP
    split
    · rw [dg_len]; omega
    · simp [dg_len]; omega
  have hi := itG_len E.natAbs 2 (by omega)
  unfold txtG
  split
  · simp [dg_len]; omega
  · split
    · simp [dg_len]; omega
    · split
      · simp [dg_len]; omega
      · simp; omega
theorem ShowT.b0 {x : Nat} {L : List Nat} (h : ShowT x L) (hs : sgn x = false) : L.length ≤ 100 ∧ ∀ c ∈ L, c < 128 := by
  cases h with
  | nan h => exact ⟨by decide, by decide⟩
  | zero h => exact ⟨by decide, by decide⟩
  | inf => exact ⟨by decide, by decide⟩
  | pos hx0 hx hS hE1 hE2 hm1 hm2 => exact ⟨txtG_len _ _ _ hm2 hE1 hE2, txtG_mem _ _ _⟩
  | neg hs' h1 h2 h => rw [hs] at hs'; cases hs'
theorem ShowT.b {x : Nat} {L : List Nat} (h : ShowT x L) : L.length ≤ 101 ∧ ∀ c ∈ L, c < 128 := by
  by_cases hs : sgn x = true
  · cases h with
    | nan h => exact ⟨by decide, by decide⟩
    | zero h => exact ⟨by decide, by decide⟩
    | inf => exact ⟨by decide, by decide⟩
    | pos hx0 hx hS hE1 hE2 hm1 hm2 => rw [sgn_small (by omega)] at hs; cases hs
    | neg hs' h1 h2 h =>
      obtain ⟨b1, b2⟩ := h.b0 (sgn_small (rung_lt x))
      refine ⟨by simp; omega, fun c hc => ?_⟩
      rcases List.mem_cons.1 hc with h | h
      · omega
      · exact b2 c h
  · obtain ⟨b1, b2⟩ := h.b0 (by simpa using hs)
    exact ⟨by omega, b2⟩
theorem neg_runG (x : Nat) (w : World) : (Op.unary .neg (.float .f64 x)).run Tryz.prog w = .ok (.float .f64 (x ^^^ 9223372036854775808)) w := by kernel_rfl
theorem c_showPos {x m v : Nat} {E : Int} (hx0 : 0 < x) (hx : x < 9218868437227405312) (hS : IsSci x m v E) (hE1 : -400 < E) (hE2 : E < 400) (hm1 : 1 ≤ m) (hm2 : m ≤ 18) (w : World) (hL : LibW w) :
    Calls Tryz.prog 27 #[.float .f64 x] w fun r w' => r = .returned (.string (u8sG (txtG m v E))) ∧ Below w.heap.size w w' := by
  by_cases h1 : E + 1 ≤ 21
  · by_cases h2 : (m : Int) ≤ E + 1
    · exact c_showPA hx0 hx hS hE1 hE2 hm1 hm2 h2 h1 w hL
    · by_cases h3 : 0 < E + 1
      · exact c_showPB hx0 hx hS hE1 hE2 hm1 hm2 h2 h3 h1 w hL
      · by_cases h4 : -6 < E + 1
        · exact c_showPC hx0 hx hS hE1 hE2 hm1 hm2 h4 (by omega) w hL
        · exact c_showPDn hx0 hx hS hE1 hE2 hm1 hm2 (by omega) w hL
  · exact c_showPDp hx0 hx hS hE1 hE2 hm1 hm2 (by omega) w hL
theorem c_show0 {x : Nat} {L : List Nat} (hx : x < 18446744073709551616) (h : ShowT x L) (hs : sgn x = false ∨ F64.isNaN x = true ∨ rung x = 0) (w : World) (hL : LibW w) :
    Calls Tryz.prog 27 #[.float .f64 x] w fun r w' => r = .returned (.string (u8sG L)) ∧ Below w.heap.size w w' := by
  cases h with
  | nan h =>
    have o1 := ord_self x
    rw [h] at o1
    clear h hs
    go_enter Tryz.func27, Tryz.ntmps27
    go_wp2
    go_ret
    exact ⟨rfl, Below.refl _ _⟩
  | zero h =>
    have o1 := ord_self x
    have o1' : F64.isNaN x = false := by unfold F64.isNaN; rw [h]; decide
    rw [o1'] at o1
    have o2 : (FloatKind.f64.format.order x 0 == some Ordering.eq) = true := by
      have hp := wd_parts x hx
      rw [h] at hp
      cases hsx : sgn x
      · rw [hsx] at hp
        have : x = 0 := hp.symm
        subst this
        decide +kernel
      · rw [hsx] at hp
        have : x = 9223372036854775808 := hp.symm
        subst this
        decide +kernel
    clear h hs o1' hx
    go_enter Tryz.func27, Tryz.ntmps27
    go_wp2
    go_ret
    exact ⟨rfl, Below.refl _ _⟩
  | inf =>
    have o1 : (FloatKind.f64.format.order 9218868437227405312 9218868437227405312 != some Ordering.eq) = false := by decide +kernel
    have o2 : (FloatKind.f64.format.order 9218868437227405312 0 == some Ordering.eq) = false := by decide +kernel
    have o3 : (FloatKind.f64.format.order 9218868437227405312 0 == some Ordering.lt) = false := by decide +kernel
    have hI := Lib.hid (fun W => c_IsInfG 9218868437227405312 (by decide) W)
    have hd : decide (rung 9218868437227405312 = 9218868437227405312) = true := by decide
    rw [hd] at hI
    clear hs hx hd
    go_enter Tryz.func27, Tryz.ntmps27
    go_wp2_with (go_at_call 56; refine (hI.out _).mono ?_; rintro e w1 ⟨rfl, rfl⟩)
    go_ret
    exact ⟨rfl, Below.refl _ _⟩
  | pos hx0 hx hS hE1 hE2 hm1 hm2 => exact c_showPos hx0 hx hS hE1 hE2 hm1 hm2 w hL
  | neg hs' h1 h2 h =>
    exfalso
    rcases hs with h3 | h3 | h3
    · rw [h3] at hs'; cases hs'
    · unfold F64.isNaN at h3; simp at h3; omega
    · omega
theorem c_dshow {x : Nat} {L : List Nat} (hx : x < 18446744073709551616) (h : ShowT x L) (w : World) (hL : LibW w) :
    Calls Tryz.prog 27 #[.float .f64 x] w fun r w' => r = .returned (.string (u8sG L)) ∧ Below w.heap.size w w' := by
  by_cases hc : sgn x = false ∨ F64.isNaN x = true ∨ rung x = 0
  · exact c_show0 hx h hc w hL
  · cases h with
    | nan h => exact absurd (.inr (.inl h)) hc
    | zero h => exact absurd (.inr (.inr h)) hc
    | inf => exact absurd (.inl (by decide)) hc
    | pos hx0 hx hS hE1 hE2 hm1 hm2 => exact absurd (.inl (sgn_small (by omega))) hc
    | @neg x L hs h1 h2 h =>
      have hb := (h.b0 (sgn_small (rung_lt x))).1
      have hI := Lib.hid (fun W hW => c_show0 (by have := rung_lt x; omega) h (.inl (sgn_small (rung_lt x))) W hW)
      have o1 := ord_self x
      have o1' : F64.isNaN x = false := by unfold F64.isNaN; simp; omega
      rw [o1'] at o1
      have hord : ∀ y, FloatKind.f64.format.order x y = double.order x y := fun y => rfl
      have hnum : (FloatKind.f64.format.order x 0 == some Ordering.eq) = false ∧ (FloatKind.f64.format.order x 0 == some Ordering.lt) = true := by
        rcases Nat.lt_or_ge (rung x) 9218868437227405312 with hr | hr
        · have fx : fin x = true := by unfold fin; simp; exact hr
          have f0 : fin 0 = true := by decide
          have hc : compare (SV x) (SV 0) = .lt := by
            have s0 : SV 0 = 0 := by decide +kernel
            have sx : SV x < 0 := by
              unfold SV
              rw [hs]
              have := V_pos h1
              simp
              exact this
            rw [s0]
            simp [compare, compareOfLessAndEq, sx]
          rw [hord, order_fin fx f0, hc]
          exact ⟨rfl, rfl⟩
        · have hx3 : x = 18442240474082181120 := by
            have hp := wd_parts x hx
            rw [hs, show rung x = 9218868437227405312 by omega] at hp
            exact hp.symm
          subst hx3
          exact ⟨by decide +kernel, by decide +kernel⟩
      obtain ⟨o2, o3⟩ := hnum
      have hn := neg_runG x
      have hx2 : x ^^^ 9223372036854775808 = rung x := by rw [b_neg hx, hs]; rfl
      rw [hx2] at hn
      have hcons : (⟨#[45]⟩ : ByteArray) ++ u8sG L = u8sG (45 :: L) := by rw [show (⟨#[45]⟩ : ByteArray) = u8sG [45] from rfl, uG_app]; rfl
      have hsz : (u8sG L).size ≤ 100 := by rw [uG_size]; exact hb
      rw [← hcons]
      have hx1 : ¬ 9223372036854775807 < 1 + (u8sG L).size := by omega
      clear o1' hord hx2 hs h1 h2 hb h hc hsz
      replace hcons := Lib.hid hcons
      generalize u8sG L = T at *
      generalize rung x = y at *
      go_enter Tryz.func27, Tryz.ntmps27
      go_wp2_with fail
      refine (hI.out _ hL).mono ?_
      rintro e w1 ⟨rfl, hb1⟩
      go_wp2_with fail
      go_ret
      exact ⟨rfl, hb1⟩
theorem c_dShow {x : Nat} {L : List Nat} (hx : x < 18446744073709551616) (h : ShowT x L) (w : World) (hL : LibW w) :
    Calls Tryz.prog 10 #[.float .f64 x] w fun r w' => r = .returned (.string (textU L)) ∧ Below w.heap.size w w' := by
  have h1 := Lib.hid (c_dshow hx h w hL)
  obtain ⟨b1, b2⟩ := h.b
  have h2 := Lib.hid (fun W => c_dascii L (by omega) b2 W)
  clear h b1 b2
  go_enter Tryz.func10, Tryz.ntmps10
  go_wp2_with fail
  refine h1.out.mono ?_
  rintro e w1 ⟨rfl, hb⟩
  go_wp2_with fail
  refine (h2.out _).mono ?_
  rintro e w2 ⟨rfl, hb2⟩
  go_wp2_with fail
  go_ret
  exact ⟨rfl, hb.trans (hb2.mono hb.size)⟩
end Go.Proofs.YtbakbikilbaafaaGreatDoor
namespace Go.Proofs.YtbakbikilbaafaaGreatDoor
open Go.RowKit F64 Ieee
set_option linter.unusedVariables false
set_option maxHeartbeats 4000000
set_option maxRecDepth 100000

theorem codes_uG (L : List Nat) (h : ∀ c ∈ L, c < 128) : codes (u8sG L) = L := by
  unfold codes u8sG
  simp only [List.map_map]
  conv => rhs; rw [← List.map_id L]
  refine List.map_congr_left fun c hc => ?_
  have := h c hc
  simp
  omega
end Go.Proofs.YtbakbikilbaafaaGreatDoor
namespace F64
open Ieee Go Go.RowKit

/-- a positive number by its leading 53 digits: V r * 2^52 = nm r * 2^ne r -/
def nm (r : Nat) : Nat := if r < 4503599627370496 then r * 2 ^ (52 - r.log2) else man r
def ne (r : Nat) : Nat := if r < 4503599627370496 then r.log2 else ex r + 52
def nz (r : Nat) : Nat := if r < 4503599627370496 then (r.log2 + 1) * 4503599627370496 + (nm r - 4503599627370496) else r

theorem log2_lt52 {r : Nat} (h0 : 0 < r) (h : r < 4503599627370496) : r.log2 < 52 :=
  (Nat.log2_lt (by omega)).2 (by omega)

theorem nm_bounds {r : Nat} (h0 : 0 < r) : 4503599627370496 ≤ nm r ∧ nm r < 9007199254740992 := by
  unfold nm
  by_cases h : r < 4503599627370496
  · rw [if_pos h]
    have hl := log2_lt52 h0 h
    have h1 := Nat.log2_self_le (n := r) (by omega)
    have h2 := @Nat.lt_log2_self r
    have e1 : (4503599627370496 : Nat) = 2 ^ r.log2 * 2 ^ (52 - r.log2) := by
      rw [← Nat.pow_add, show r.log2 + (52 - r.log2) = 52 by omega]
    have e2 : (9007199254740992 : Nat) = 2 ^ (r.log2 + 1) * 2 ^ (52 - r.log2) := by
      rw [← Nat.pow_add, show r.log2 + 1 + (52 - r.log2) = 53 by omega]
    constructor
    · rw [e1]; exact Nat.mul_le_mul_right _ h1
    · rw [e2]; exact Nat.mul_lt_mul_of_pos_right h2 (Nat.two_pow_pos _)
  · rw [if_neg h]
    unfold man
    rw [if_neg h]
    omega

theorem ex_lt {r : Nat} (h : r < 9218868437227405312) : ex r ≤ 2045 := by unfold ex; split <;> omega
theorem ne_le {r : Nat} (h0 : 0 < r) (h : r < 9218868437227405312) : ne r ≤ 2097 := by
  unfold ne
  split
  · rename_i h1; have := log2_lt52 h0 h1; omega
  · have := ex_lt h; omega

theorem nz_div {r : Nat} (h0 : 0 < r) : nz r / 4503599627370496 = (if r < 4503599627370496 then r.log2 + 1 else ex r + 1) := by
  have hb := nm_bounds h0
  unfold nz
  by_cases h : r < 4503599627370496
  · rw [if_pos h, if_pos h]; omega
  · rw [if_neg h, if_neg h]; unfold ex; rw [if_neg h]; omega
theorem nz_mod {r : Nat} (h0 : 0 < r) : nz r % 4503599627370496 = nm r - 4503599627370496 := by
  have hb := nm_bounds h0
  by_cases h : r < 4503599627370496
  · unfold nz; rw [if_pos h]; omega
  · unfold nz nm; rw [if_neg h, if_neg h]; unfold man; rw [if_neg h]; omega
theorem nz_lt {r : Nat} (h0 : 0 < r) (h : r < 9218868437227405312) : nz r < 9218868437227405312 := by
  have hb := nm_bounds h0
  unfold nz; split
  · rename_i h1; have := log2_lt52 h0 h1; omega
  · exact h
end F64
namespace F64
open Ieee Go Go.RowKit

theorem i64_and_nat (a b : Nat) (ha : a < 9223372036854775808) (hb : b < 9223372036854775808) : bits .and .i64 (a : Int) (b : Int) = ((a &&& b : Nat) : Int) := by
  have key : (BitVec.ofInt 64 (a : Int) &&& BitVec.ofInt 64 (b : Int)).toNat = a &&& b := by
    rw [BitVec.toNat_and, ofInt_u64 a (by omega), ofInt_u64 b (by omega)]
  show IntKind.i64.wrap ((BitVec.ofInt 64 (a : Int) &&& BitVec.ofInt 64 (b : Int)).toNat : Nat) = ((a &&& b : Nat) : Int)
  rw [key, IntKind.wrap_i64]
  have : a &&& b ≤ a := Nat.and_le_left
  omega
theorem b_exp_i {z : Nat} (hz : z < 9223372036854775808) : bits BinOp.and IntKind.i64 (wrap64 ((z : Int) / 4503599627370496)) 2047 = ((z / 4503599627370496 : Nat) : Int) := by
  have e : wrap64 ((z : Int) / 4503599627370496) = ((z / 4503599627370496 : Nat) : Int) := by unfold wrap64; omega
  rw [e, show (2047 : Int) = ((2047 : Nat) : Int) from rfl, i64_and_nat _ _ (by omega) (by decide), nat_mask11, Nat.mod_eq_of_lt (by omega)]
theorem b_frac {z : Nat} (hz : z < 9223372036854775808) : bits BinOp.andNot IntKind.u64 (z : Int) 9218868437227405312 = ((z % 4503599627370496 : Nat) : Int) := by
  rw [show (9218868437227405312 : Int) = ((9218868437227405312 : Nat) : Int) from rfl, u64_andNot_nat _ _ (by omega) (by decide)]
  congr 1
  rw [show 18446744073709551615 - 9218868437227405312 = 9223372036854775808 ||| (2 ^ 52 - 1) from rfl, Nat.and_or_distrib_left, Nat.and_two_pow_sub_one_eq_mod]
  rw [show (9223372036854775808 : Nat) = 2 ^ 63 from rfl, nat_bit, Nat.div_eq_of_lt (by omega)]
  simp
theorem b_or52 {t f : Nat} (ht : t < 4503599627370496) (hf : f < 2048) : bits BinOp.or IntKind.u64 (t : Int) ((f * 4503599627370496 : Nat) : Int) = ((f * 4503599627370496 + t : Nat) : Int) := by
  rw [u64_or_nat _ _ (by omega) (by omega), Nat.or_comm, nat_join 52 _ _ (by simp) (by omega)]
theorem word_V {f t : Nat} (hf : 1 ≤ f) (ht : t < 4503599627370496) : V (f * 4503599627370496 + t) = (4503599627370496 + t) * 2 ^ (f - 1) := by
  unfold V man ex
  rw [if_neg (by omega), if_neg (by omega)]
  have h1 : (f * 4503599627370496 + t) % 4503599627370496 = t := by omega
  have h2 : (f * 4503599627370496 + t) / 4503599627370496 = f := by omega
  rw [h1, h2]

theorem nz_field {x : Nat} (h0 : 0 < x) : nz x / 4503599627370496 = if x < 4503599627370496 then ne x + 1 else ne x - 51 := by
  rw [nz_div h0]; unfold ne
  split
  · rfl
  · omega
theorem ne_ge {x : Nat} (h : 4503599627370496 ≤ x) : 52 ≤ ne x := by unfold ne; rw [if_neg (by omega)]; omega
end F64
namespace F64
open Ieee Go Go.RowKit

theorem U_parts (a b : Nat) (h : a + b = 1074) : 2 ^ a * 2 ^ b = U := by
  unfold U; rw [← Nat.pow_add, h, ← PL_eq]
theorem V_of {r m e : Nat} (hm : man r = 2 ^ m) (he : ex r = e) (h : m + e = 1074) : V r = U := by
  unfold V; rw [hm, he]; exact U_parts m e h
theorem V_one : V 4607182418800017408 = U := V_of (m := 52) (e := 1022) (by decide) (by decide) rfl
theorem mul_one {d : Nat} (h : d < 9218868437227405312) : double.mul 4607182418800017408 d = some d := by
  have := mul_exact (x := 4607182418800017408) (y := d) (r := d) (fin_small (by decide)) (fin_small h) h (by
    rw [rung_small (by decide), rung_small (by omega), V_one, Nat.mul_comm])
  rw [this, sgn_small (by decide), sgn_small (by omega)]; rfl
theorem ld_hi {x d : Nat} {k : Int} (h0 : 0 < x) (h1 : 52 ≤ k + ne x)
    (hv : V d * 2 ^ 53 = nm x * 2 ^ (k + ne x + 1).toNat) : d = (k + ne x - 51).toNat * 4503599627370496 + (nm x - 4503599627370496) := by
  have hb := nm_bounds h0
  apply V_inj
  rw [word_V (by omega) (by omega), show 4503599627370496 + (nm x - 4503599627370496) = nm x by omega]
  apply Nat.eq_of_mul_eq_mul_right (Nat.two_pow_pos 53)
  rw [hv, Nat.mul_assoc, ← Nat.pow_add]
  congr 2; omega
theorem b_or_field {t : Nat} {E : Int} (ht : t < 4503599627370496) (h0 : 0 ≤ E) (h1 : E < 2048) : bits BinOp.or IntKind.u64 (t : Int) (E * 4503599627370496) = ((E.toNat * 4503599627370496 + t : Nat) : Int) := by
  have := b_or52 (t := t) (f := E.toNat) ht (by omega)
  rw [← this]
  congr 1
  omega
theorem b_exp_j {z : Nat} (hz : z < 9223372036854775808) : bits BinOp.and IntKind.i64 ((z : Int) / 4503599627370496) 2047 = ((z / 4503599627370496 : Nat) : Int) := by
  have h := b_exp_i hz
  have e : wrap64 ((z : Int) / 4503599627370496) = (z : Int) / 4503599627370496 := by unfold wrap64; omega
  rw [e] at h
  exact h
end F64
namespace Go.Proofs.YtbakbikilbaafaaGreatDoor
open Go.RowKit F64 Ieee
set_option linter.unusedVariables false
set_option maxHeartbeats 4000000
set_option maxRecDepth 100000

theorem r56G (x : Nat) (w : World) : (callFunc 87 #[.float .f64 x]).run Tryz.prog w = .ok (.value (.int .u64 x)) w := by kernel_rfl
theorem r55G (x : Int) (w : World) : (callFunc 77 #[.int .u64 x]).run Tryz.prog w = .ok (.value (.float .f64 x.toNat)) w := by kernel_rfl
theorem c_IsNaNG (x : Nat) (hx : x < 9218868437227405312) (w : World) :
    Calls Tryz.prog 176 #[.float .f64 x] w fun r w' => r = .returned (.bool false) ∧ w = w' := by
  have o1 := ord_self x
  have o1' : F64.isNaN x = false := by unfold F64.isNaN; rw [rung_small (by omega)]; simp; omega
  rw [o1'] at o1
  clear o1'
  go_enter Tryz.func176, Tryz.ntmps176
  go_wp2
  go_ret
  exact ⟨rfl, rfl⟩
theorem c_normN (x : Nat) (h : 4503599627370496 ≤ x) (hx : x < 9218868437227405312) (w : World) :
    Calls Tryz.prog 177 #[.float .f64 x] w fun r w' => r = .returned (.tuple #[.float .f64 x, .int .i64 0]) ∧ w = w' := by
  have hA := Lib.hid (fun W => c_AbsG x (by omega) W)
  rw [rung_small (by omega)] at hA
  have o1 : (FloatKind.f64.format.order x 4503599627370496 == some Ordering.lt) = false := by
    rw [ord_lt hx (by decide)]; exact decide_eq_false (by omega)
  go_enter Tryz.func177, Tryz.ntmps177
  go_wp2_with (go_at_call 58; refine (hA.out _).mono ?_; rintro e w' ⟨rfl, rfl⟩)
  go_ret2
  exact ⟨rfl, rfl⟩
theorem c_ldexpN (x d : Nat) (k : Int) (h : 4503599627370496 ≤ x) (hx : x < 9218868437227405312) (hd : d < 9218868437227405312) (hk1 : 52 ≤ k + ne x) (hk2 : k + ne x ≤ 2097)
    (hv : V d * 2 ^ 53 = nm x * 2 ^ (k + ne x + 1).toNat) (w : World) :
    Calls Tryz.prog 148 #[.float .f64 x, .int .i64 k] w fun e w' => e = .returned (.float .f64 d) ∧ w = w' := by
  have r56 := r56G
  have r55 := r55G
  have hz := nz_lt (by omega) hx
  have hg := ne_ge h
  have hl := ne_le (by omega) hx
  have hn := nm_bounds (r := x) (by omega)
  have hF := nz_field (x := x) (by omega)
  rw [if_neg (by omega)] at hF
  have hb := b_exp_j (z := nz x) (by omega)
  rw [hF] at hb
  have hf := b_frac (z := nz x) (by omega)
  rw [nz_mod (by omega)] at hf
  have ht : (FloatKind.f64.format.order x 0 == some Ordering.eq) = false := by
    rw [ord_eq hx (by decide)]; exact decide_eq_false (by omega)
  have hb' : bits BinOp.and IntKind.i64 ((nz x : Int) / 4503599627370496) 2047 = (ne x : Int) - 51 := by
    rw [hb]; omega
  have ho : bits BinOp.or IntKind.u64 ((nm x - 4503599627370496 : Nat) : Int) ((k + ((ne x : Int) - 51 - 1023) + 1023) * 4503599627370496) = (d : Int) := by
    rw [b_or_field (by omega) (by omega) (by omega), ld_hi (by omega) hk1 hv]
    exact congrArg (fun n : Nat => ((n * 4503599627370496 + (nm x - 4503599627370496) : Nat) : Int)) (by omega)
  have hm := fun w => run_float_arith (P := Tryz.prog) w .mul 22 .f64 4607182418800017408 d d (mul_one hd)
  have hnz : nz x = x := by unfold nz; rw [if_neg (by omega)]
  rw [hnz] at hb' hf
  clear hb hF hv hn hd hnz hz
  go_enter Tryz.func148, Tryz.ntmps148
  go_wp2_with (first | (go_at_call 56; refine (c_IsInfP _ hx _).mono ?_; rintro e w' ⟨rfl, rfl⟩) | (go_at_call 176; refine (c_IsNaNG _ hx _).mono ?_; rintro e w' ⟨rfl, rfl⟩) | (go_at_call 177; refine (c_normN _ h hx _).mono ?_; rintro e w' ⟨rfl, rfl⟩))
  go_ret
  exact ⟨rfl, rfl⟩
theorem c_mInf (w : World) :
    Calls Tryz.prog 44 #[.int .i64 1] w fun r w' => r = .returned (.float .f64 9218868437227405312) ∧ w = w' := by
  have r55 := r55G
  go_enter Tryz.func44, Tryz.ntmps44
  go_wp2
  go_ret
  exact ⟨rfl, rfl⟩
theorem c_mNaN (w : World) :
    Calls Tryz.prog 41 #[] w fun r w' => r = .returned (.float .f64 9221120237041090561) ∧ w = w' := by
  have r55 := r55G
  go_enter Tryz.func41, Tryz.ntmps41
  go_wp2
  go_ret
  exact ⟨rfl, rfl⟩
theorem c_ldexpI (x : Nat) (k : Int) (h : 4503599627370496 ≤ x) (hx : x < 9218868437227405312) (hk1 : 2097 < k + ne x) (hk2 : k ≤ 1000000) (w : World) :
    Calls Tryz.prog 148 #[.float .f64 x, .int .i64 k] w fun e w' => e = .returned (.float .f64 9218868437227405312) ∧ w = w' := by
  have r56 := r56G
  have r55 := r55G
  have hz := nz_lt (by omega) hx
  have hg := ne_ge h
  have hl := ne_le (by omega) hx
  have hF := nz_field (x := x) (by omega)
  rw [if_neg (by omega)] at hF
  have hb := b_exp_j (z := nz x) (by omega)
  rw [hF] at hb
  have hnz : nz x = x := by unfold nz; rw [if_neg (by omega)]
  rw [hnz] at hb
  have ht : (FloatKind.f64.format.order x 0 == some Ordering.eq) = false := by
    rw [ord_eq hx (by decide)]; exact decide_eq_false (by omega)
  have ht2 : (FloatKind.f64.format.order x 0 == some Ordering.lt) = false := by
    rw [ord_lt hx (by decide)]; exact decide_eq_false (by omega)
  have hb' : bits BinOp.and IntKind.i64 ((x : Int) / 4503599627370496) 2047 = (ne x : Int) - 51 := by
    rw [hb]; omega
  have g1 : ¬ k + ((ne x : Int) - 51 - 1023) < -1075 := by omega
  have g2 : 1023 < k + ((ne x : Int) - 51 - 1023) := by omega
  clear hb hF hnz hz
  generalize ne x = q at *
  go_enter Tryz.func148, Tryz.ntmps148
  go_wp2_with (first | (go_at_call 56; refine (c_IsInfP _ hx _).mono ?_; rintro e w' ⟨rfl, rfl⟩) | (go_at_call 176; refine (c_IsNaNG _ hx _).mono ?_; rintro e w' ⟨rfl, rfl⟩) | (go_at_call 177; refine (c_normN _ h hx _).mono ?_; rintro e w' ⟨rfl, rfl⟩) | (go_at_call 44; refine (c_mInf _).mono ?_; rintro e w' ⟨rfl, rfl⟩))
  go_ret
  exact ⟨rfl, rfl⟩
/-- Ldexp of a normal number, as an integer's multiple -/
theorem c_LdexpN (x d : Nat) (k : Int) (h : 4503599627370496 ≤ x) (hx : x < 9218868437227405312) (hd : d < 9218868437227405312) (hk1 : 52 ≤ k + ne x) (hk2 : k + ne x ≤ 2097)
    (hv : V d * 2 ^ 53 = nm x * 2 ^ (k + ne x + 1).toNat) (w : World) :
    Calls Tryz.prog 110 #[.float .f64 x, .int .i64 k] w fun e w' => e = .returned (.float .f64 d) ∧ w = w' := by
  have hC := Lib.hid (fun W => c_ldexpN x d k h hx hd hk1 hk2 hv W)
  clear hv
  go_enter Tryz.func110, Tryz.ntmps110
  go_wp2_with (go_at_call 148; refine (hC.out _).mono ?_; rintro e w' ⟨rfl, rfl⟩)
  go_ret
  exact ⟨rfl, rfl⟩
theorem c_LdexpI (x : Nat) (k : Int) (h : 4503599627370496 ≤ x) (hx : x < 9218868437227405312) (hk1 : 2097 < k + ne x) (hk2 : k ≤ 1000000) (w : World) :
    Calls Tryz.prog 110 #[.float .f64 x, .int .i64 k] w fun e w' => e = .returned (.float .f64 9218868437227405312) ∧ w = w' := by
  have hC := Lib.hid (fun W => c_ldexpI x k h hx hk1 hk2 W)
  go_enter Tryz.func110, Tryz.ntmps110
  go_wp2_with (go_at_call 148; refine (hC.out _).mono ?_; rintro e w' ⟨rfl, rfl⟩)
  go_ret
  exact ⟨rfl, rfl⟩
end Go.Proofs.YtbakbikilbaafaaGreatDoor
namespace Go.Proofs.YtbakbikilbaafaaGreatDoor
open Go.RowKit F64 Ieee
set_option linter.unusedVariables false
set_option maxHeartbeats 4000000
set_option maxRecDepth 100000

theorem nm_EK {E K : Nat} (h1 : 4503599627370496 ≤ K) (h2 : K < 9007199254740992) : nm (E * 4503599627370496 + K) = K ∧ ne (E * 4503599627370496 + K) = E + 52 := by
  have a1 : (E * 4503599627370496 + K) / 4503599627370496 = E + 1 := by omega
  have a2 : (E * 4503599627370496 + K) % 4503599627370496 = K - 4503599627370496 := by omega
  unfold nm ne
  rw [if_neg (by omega), if_neg (by omega)]
  unfold man ex
  constructor
  · rw [a2]; rw [if_neg (by omega)]; omega
  · simp only [a1]; first | omega | (split <;> omega)
theorem c_LdexpEK (E K : Nat) (k : Int) (h1 : 4503599627370496 ≤ K) (h2 : K < 9007199254740992) (h3 : 0 ≤ k + E) (h4 : k + E ≤ 2045) (hE : E ≤ 2045) (w : World) :
    Calls Tryz.prog 110 #[.float .f64 (E * 4503599627370496 + K), .int .i64 k] w fun e w' => e = .returned (.float .f64 ((k + E).toNat * 4503599627370496 + K)) ∧ w = w' := by
  obtain ⟨n1, n2⟩ := nm_EK (E := E) h1 h2
  refine c_LdexpN _ _ k (by omega) (by omega) (by omega) (by rw [n2]; omega) (by rw [n2]; omega) ?_ w
  rw [n1, n2, V_EK (by omega) (.inr h1), Nat.mul_assoc, ← Nat.pow_add]
  congr 2
  omega
theorem c_LdexpEKI (E K : Nat) (k : Int) (h1 : 4503599627370496 ≤ K) (h2 : K < 9007199254740992) (h3 : 2045 < k + E) (h4 : k ≤ 1000000) (hE : E ≤ 2045) (w : World) :
    Calls Tryz.prog 110 #[.float .f64 (E * 4503599627370496 + K), .int .i64 k] w fun e w' => e = .returned (.float .f64 9218868437227405312) ∧ w = w' := by
  obtain ⟨n1, n2⟩ := nm_EK (E := E) h1 h2
  exact c_LdexpI _ k (by omega) (by omega) (by rw [n2]; omega) h4 w
/-- the word of K * 2^(E - 1074), or infinity -/
def wEK (e : Int) (K : Nat) : Nat := if e.toNat * 4503599627370496 + K < 9218868437227405312 then e.toNat * 4503599627370496 + K else 9218868437227405312
theorem c_LdexpG (E K : Nat) (k : Int) (h1 : 4503599627370496 ≤ K) (h2 : K ≤ 9007199254740992) (h3 : 0 ≤ k + E) (h4 : k ≤ 1000000) (hE : E ≤ 2000) (w : World) :
    Calls Tryz.prog 110 #[.float .f64 (E * 4503599627370496 + K), .int .i64 k] w fun e w' => e = .returned (.float .f64 (wEK (k + E) K)) ∧ w = w' := by
  unfold wEK
  rcases Nat.eq_or_lt_of_le h2 with h | h
  · subst h
    have e1 : E * 4503599627370496 + 9007199254740992 = (E + 1) * 4503599627370496 + 4503599627370496 := by omega
    rw [e1]
    by_cases hb : k + E + 1 ≤ 2045
    · rw [if_pos (by omega)]
      have := c_LdexpEK (E + 1) 4503599627370496 k (by decide) (by decide) (by omega) (by omega) (by omega) w
      have t : (k + ((E + 1 : Nat) : Int)).toNat = (k + E).toNat + 1 := by omega
      rw [t] at this
      have t2 : ∀ n : Nat, (n + 1) * 4503599627370496 + 4503599627370496 = n * 4503599627370496 + 9007199254740992 := fun n => by omega
      rw [t2 (k + (E : Int)).toNat] at this
      exact this
    · rw [if_neg (by omega)]
      exact c_LdexpEKI (E + 1) 4503599627370496 k (by decide) (by decide) (by omega) h4 (by omega) w
  · by_cases hb : k + E ≤ 2045
    · rw [if_pos (by omega)]
      exact c_LdexpEK E K k h1 h h3 hb (by omega) w
    · rw [if_neg (by omega)]
      exact c_LdexpEKI E K k h1 h (by omega) h4 (by omega) w
/-- 64 bits rounded to 53, to the nearest, ties to even -/
def rnd (m : Nat) : Nat := m / 2048 + if 1024 < m % 2048 ∨ m % 2048 = 1024 ∧ m / 2048 % 2 = 1 then 1 else 0
theorem and2047 (m : Nat) (h : m < 18446744073709551616) : bits BinOp.and IntKind.u64 (m : Int) 2047 = ((m % 2048 : Nat) : Int) := by
  have := bits_and_u64_nat m 2047 (by omega) (by omega)
  have e : m &&& 2047 = m % 2048 := Nat.and_two_pow_sub_one_eq_mod m 11
  rw [e] at this
  exact this
theorem rnd_le {m : Nat} (h1 : 9223372036854775808 ≤ m) (h2 : m < 18446744073709551616) : 4503599627370496 ≤ rnd m ∧ rnd m ≤ 9007199254740992 := by
  unfold rnd
  split <;> omega
theorem float_EK {K : Nat} (h1 : 4503599627370496 ≤ K) (h2 : K ≤ 9007199254740992) : floatOfInt .f64 (K : Int) = 1074 * 4503599627370496 + K := by
  rcases Nat.eq_or_lt_of_le h2 with h | h
  · subst h; decide +kernel
  · obtain ⟨r, r0, r1, r2, r3⟩ := whole_word (by omega) h
    rw [r3]
    apply V_inj
    rw [r2, ← PL_eq, V_EK (by omega) (.inr h1)]
    rfl
theorem c_drounded (m : Nat) (h1 : 9223372036854775808 ≤ m) (h2 : m < 18446744073709551616) (w : World) :
    Calls Tryz.prog 111 #[.int .u64 (m : Int)] w fun e w' => e = .returned (.float .f64 (wEK 1085 (rnd m))) ∧ w = w' := by
  obtain ⟨k1, k2⟩ := rnd_le h1 h2
  have hL := Lib.hid (fun W => c_LdexpG 1074 (rnd m) 11 k1 k2 (by decide) (by decide) (by decide) W)
  have hcv := fun w => run_convert_int_float (P := Tryz.prog) (w := w) 102 22 .u64 .f64 (rnd m : Int) (by kernel_rfl) Tryz.underlying22
  rw [← float_EK k1 k2] at hL
  have hL : Hid (∀ W, Calls Tryz.prog 110 #[.float .f64 (floatOfInt .f64 (rnd m : Int)), .int .i64 11] W fun e w' => e = .returned (.float .f64 (wEK 1085 (rnd m))) ∧ W = w') := hL
  have hand := and2047 m h2
  have hand2 := and_u64_one (m / 2048) (by omega)
  have hsh : (m : Int) / 2048 = ((m / 2048 : Nat) : Int) := by omega
  have hrd : rnd m = m / 2048 + if 1024 < m % 2048 ∨ m % 2048 = 1024 ∧ m / 2048 % 2 = 1 then 1 else 0 := rfl
  generalize wEK 1085 (rnd m) = D at *
  have hxl : m / 2048 < 9007199254740992 := by omega
  generalize hx : m / 2048 = x at *
  generalize hl : m % 2048 = l at *
  clear hx hl h1 h2 k1 k2
  by_cases c1 : 1024 < l
  · rw [if_pos (.inl c1)] at hrd
    rw [hrd, Int.natCast_add] at hL hcv
    clear hrd
    go_enter Tryz.func111, Tryz.ntmps111
    go_wp2_with (go_at_call 110; refine (hL.out _).mono ?_; rintro e w' ⟨rfl, rfl⟩)
    go_ret
    exact ⟨rfl, rfl⟩
  · by_cases c2 : l = 1024
    · have hq : ((l : Int) == 1024) = true := by simp; omega
      have c3 : ¬ 1024 < l := c1
      by_cases c4 : x % 2 = 1
      · rw [if_pos (.inr ⟨c2, c4⟩)] at hrd
        rw [hrd, Int.natCast_add] at hL hcv
        rw [c4] at hand2
        clear hrd c2 c4
        go_enter Tryz.func111, Tryz.ntmps111
        go_wp2_with (go_at_call 110; refine (hL.out _).mono ?_; rintro e w' ⟨rfl, rfl⟩)
        go_ret
        exact ⟨rfl, rfl⟩
      · rw [if_neg (by omega)] at hrd
        rw [hrd, Nat.add_zero] at hL hcv
        rw [show x % 2 = 0 by omega] at hand2
        clear hrd c2 c4
        go_enter Tryz.func111, Tryz.ntmps111
        go_wp2_with (go_at_call 110; refine (hL.out _).mono ?_; rintro e w' ⟨rfl, rfl⟩)
        go_ret
        exact ⟨rfl, rfl⟩
    · have hq : ((l : Int) == 1024) = false := beq_eq_false_iff_ne.2 (by omega)
      rw [if_neg (by omega)] at hrd
      rw [hrd, Nat.add_zero] at hL hcv
      clear hrd c2
      go_enter Tryz.func111, Tryz.ntmps111
      go_wp2_with (go_at_call 110; refine (hL.out _).mono ?_; rintro e w' ⟨rfl, rfl⟩)
      go_ret
      exact ⟨rfl, rfl⟩
end Go.Proofs.YtbakbikilbaafaaGreatDoor
namespace Go.Proofs.YtbakbikilbaafaaGreatDoor
open Go.RowKit F64 Ieee
set_option linter.unusedVariables false
set_option maxHeartbeats 4000000
set_option maxRecDepth 100000

/-- what a digit is worth -/
def wth (c : Nat) : Nat := if 48 ≤ c ∧ c ≤ 57 then c - 48 else if 97 ≤ c ||| 32 ∧ c ||| 32 ≤ 122 then (c ||| 32) - 97 + 10 else 99
theorem c_dworth (c : Nat) (hc : c < 256) (w : World) : Calls Tryz.prog 46 #[.int .u8 (c : Int)] w fun r w' => r = .returned (.int .i64 (wth c : Int)) ∧ w = w' := by
  have h := or8 c hc
  have hx : c ||| 32 < 256 := Nat.or_lt_two_pow (n := 8) hc (by decide)
  unfold wth
  generalize c ||| 32 = x at *
  by_cases h1 : 48 ≤ c ∧ c ≤ 57
  · rw [if_pos h1]
    obtain ⟨a1, a2⟩ := h1
    have e1 : ((c - 48 : Nat) : Int) = (c : Int) - 48 := by omega
    rw [e1]
    clear e1
    go_enter Tryz.func46, Tryz.ntmps46
    go_wp2
    go_ret
    exact ⟨rfl, rfl⟩
  · rw [if_neg h1]
    by_cases h2 : 97 ≤ x ∧ x ≤ 122
    · rw [if_pos h2]
      obtain ⟨a1, a2⟩ := h2
      have e1 : ((x - 97 + 10 : Nat) : Int) = (x : Int) - 97 + 10 := by omega
      rw [e1]
      clear e1
      by_cases h3 : 48 ≤ c
      · have h4 : ¬ c ≤ 57 := fun h => h1 ⟨h3, h⟩
        clear h1
        go_enter Tryz.func46, Tryz.ntmps46
        go_wp2
        go_ret
        exact ⟨rfl, rfl⟩
      · clear h1
        go_enter Tryz.func46, Tryz.ntmps46
        go_wp2
        go_ret
        exact ⟨rfl, rfl⟩
    · rw [if_neg h2]
      by_cases h3 : 48 ≤ c
      · have h4 : ¬ c ≤ 57 := fun h => h1 ⟨h3, h⟩
        clear h1
        by_cases h5 : 97 ≤ x
        · have h6 : ¬ x ≤ 122 := fun h => h2 ⟨h5, h⟩
          clear h2
          go_enter Tryz.func46, Tryz.ntmps46
          go_wp2
          go_ret
          exact ⟨rfl, rfl⟩
        · clear h2
          go_enter Tryz.func46, Tryz.ntmps46
          go_wp2
          go_ret
          exact ⟨rfl, rfl⟩
      · clear h1
        by_cases h5 : 97 ≤ x
        · have h6 : ¬ x ≤ 122 := fun h => h2 ⟨h5, h⟩
          clear h2
          go_enter Tryz.func46, Tryz.ntmps46
          go_wp2
          go_ret
          exact ⟨rfl, rfl⟩
        · clear h2
          go_enter Tryz.func46, Tryz.ntmps46
          go_wp2
          go_ret
          exact ⟨rfl, rfl⟩
/-- a tester of digits to a base that lies in a cell -/
def DigF (b : Nat) : Value := .func (.func 74) #[] #[.pointer (some ⟨b, 0, none⟩)]
theorem c_ddigitsOf (n : Int) (w : World) : Calls Tryz.prog 39 #[.int .i64 n] w fun r w' => r = .returned (DigF w.heap.size) ∧ w'.cell? ⟨w.heap.size, 0, none⟩ = some (.int .i64 n) ∧ Below w.heap.size w w' := by
  have hc : (w.alloc (.cells #[.int .i64 n] 3)).cell? ⟨w.heap.size, 0, none⟩ = some (.int .i64 n) := by rw [cell_of_row _ _ _ _ _ _ (heap_alloc_new w _)]; rfl
  replace hc := Lib.hid hc
  go_enter Tryz.func39, Tryz.ntmps39
  go_wp2
  go_ret
  exact ⟨rfl, hc.out, (Below.refl _ w).alloc (Nat.le_refl _) _⟩
theorem c_isdig (b : Nat) (n : Int) (c : Nat) (hc : c < 256) (w : World) (h : w.cell? ⟨b, 0, none⟩ = some (.int .i64 n)) :
    Calls Tryz.prog 74 #[.int .u8 (c : Int), .pointer (some ⟨b, 0, none⟩)] w fun r w' => r = .returned (.bool (decide ((wth c : Int) < n))) ∧ Below w.heap.size w w' := by
  have hw := Lib.hid (fun W => c_dworth c hc W)
  generalize wth c = x at *
  go_enter Tryz.func74, Tryz.ntmps74
  go_wp2
  go_quiet ((go_at_call 46; exact Calls.quiet_of_same ((hw.out _).mono fun _ _ ⟨h1, h2⟩ => ⟨h1, h2.symm⟩)))
  go_wp2
  go_ret
  exact ⟨rfl, below_drewN (Below.refl _ _) _⟩
/-- how many digits to a base stand at a place -/
def runL (n : Nat) (l : List Nat) : Nat := (l.takeWhile fun c => decide (wth c < n)).length
theorem runL_le (n : Nat) (l : List Nat) : runL n l ≤ l.length := by
  unfold runL
  exact (List.takeWhile_sublist _).length_le
theorem runL_lt (n : Nat) (l : List Nat) : ∀ (i c : Nat), l[i]? = some c → i < runL n l → wth c < n := by
  unfold runL
  induction l with
  | nil => simp
  | cons x l ih =>
    intro i c hc hi
    rw [List.takeWhile_cons] at hi
    split at hi
    · rename_i hx
      cases i with
      | zero => simp at hc; subst hc; simpa using hx
      | succ i => exact ih i c (by simpa using hc) (by simpa using hi)
    · simp at hi
theorem runL_end (n : Nat) (l : List Nat) : ∀ c, l[runL n l]? = some c → ¬ wth c < n := by
  unfold runL
  induction l with
  | nil => simp
  | cons x l ih =>
    intro c hc
    rw [List.takeWhile_cons] at hc
    split at hc
    · rename_i hx
      exact ih c (by simpa using hc)
    · rename_i hx
      simp at hc
      subst hc
      simpa using hx
theorem c_drun (L : List Nat) (hL : ∀ c ∈ L, c < 256) (at_ n b : Nat) (hat : at_ ≤ L.length) (hl : L.length ≤ 10000000) (w : World) (h : w.cell? ⟨b, 0, none⟩ = some (.int .i64 (n : Int))) :
    Calls Tryz.prog 38 #[.string (u8sG L), .int .i64 (at_ : Int), DigF b] w fun r w' => r = .returned (.int .i64 (runL n (L.drop at_) : Int)) ∧ Below w.heap.size w w' := by
  have hsz : (u8sG L).size = L.length := uG_size L
  have hle := runL_le n (L.drop at_)
  have hlt := Lib.hid (runL_lt n (L.drop at_))
  have hen := Lib.hid (runL_end n (L.drop at_))
  rw [List.length_drop] at hle
  have hget := Lib.hid (fun j c (h1 : L[j]? = some c) (h2 : c < 256) h3 => uG_get L j c h1 h2 h3)
  have hdr : ∀ i, (L.drop at_)[i]? = L[at_ + i]? := fun i => by rw [List.getElem?_drop]
  replace hdr := Lib.hid hdr
  have hbl : b < w.heap.size := lt_ofC h
  have hI := Lib.hid (fun (c : Nat) (hc : c < 256) W (hb : Below w.heap.size w W) => c_isdig b n c hc W ((hb.cell (p := ⟨b, 0, none⟩) hbl).trans h))
  replace hL := Lib.hid hL
  generalize runL n (L.drop at_) = R at *
  generalize u8sG L = S at *
  unfold DigF
  have hszle : S.size ≤ 10000000 := by omega
  replace hsz := Lib.hid hsz
  clear h hbl
  go_enter Tryz.func38, Tryz.ntmps38
  go_wp2
  go_loopw [7] (fun v7 wr => ∃ k : Nat, k ≤ R ∧ v7 = .int .i64 (k : Int) ∧ Below w.heap.size w wr) (fun v7 _ => R - (intOf v7).toNat)
  case atStart => exact ⟨0, Nat.zero_le _, rfl, Below.refl _ _⟩
  case round =>
    obtain ⟨k, hk, rfl, hb⟩ := hrel
    by_cases hd : at_ + k < L.length
    · obtain ⟨c, hc⟩ : ∃ c, L[at_ + k]? = some c := ⟨L[at_ + k], List.getElem?_eq_getElem hd⟩
      have hc256 := hL.out c (List.mem_of_getElem? hc)
      have hjs : at_ + k < S.size := by have := hsz.out; omega
      have hg := hget.out (at_ + k) c hc hc256 hjs
      have hIc := Lib.hid (hI.out c hc256 wr hb)
      have hjs2 : (at_ : Int) + (k : Int) < (S.size : Int) := by omega
      have e1 : ((at_ : Int) + (k : Int)).toNat = at_ + k := by omega
      by_cases hkR : k < R
      · have hw := hlt.out k c (by rw [hdr.out]; exact hc) hkR
        have hdd : decide ((wth c : Int) < (n : Int)) = true := by simp; omega
        rw [hdd] at hIc
        clear hdd hw hc hc256 hI
        go_wp2_with fail
        refine hIc.out.mono ?_
        rintro e w1 ⟨rfl, hb1⟩
        have hb2 := hb.trans (hb1.mono hb.size)
        clear hb1
        go_wp2_with fail
        exact ⟨⟨k + 1, by omega, by go_num, hb2⟩, by simp [intOf]; omega⟩
      · obtain rfl : k = R := by omega
        have hw := hen.out c (by rw [hdr.out]; exact hc)
        have hdd : decide ((wth c : Int) < (n : Int)) = false := by simp; omega
        rw [hdd] at hIc
        clear hdd hw hc hc256 hI
        go_wp2_with fail
        refine hIc.out.mono ?_
        rintro e w1 ⟨rfl, hb1⟩
        have hb2 := hb.trans (hb1.mono hb.size)
        clear hb1
        go_wp2_with fail
        go_ret
        exact ⟨rfl, hb2⟩
    · obtain rfl : k = R := by omega
      have hjs2 : ¬ (at_ : Int) + (k : Int) < (S.size : Int) := by have := hsz.out; omega
      clear hI
      go_wp2_with fail
      go_ret
      exact ⟨rfl, hb⟩
end Go.Proofs.YtbakbikilbaafaaGreatDoor
namespace Go.Proofs.YtbakbikilbaafaaGreatDoor
open Go.RowKit F64 Ieee
set_option linter.unusedVariables false
set_option maxHeartbeats 4000000
set_option maxRecDepth 100000

def BT : List Nat := [32, 160, 5760, 8232, 8233, 8239, 8287, 12288, 65279]
/-- a blank -/
def blkN (u : Nat) : Bool := decide (9 ≤ u ∧ u ≤ 13) || decide (8192 ≤ u ∧ u ≤ 8202) || BT.contains u
theorem c_dBlank (u : Nat) (hu : u < 65536) (w : World) : Calls Tryz.prog 12 #[.int .u16 (u : Int)] w fun r w' => r = .returned (.bool (blkN u)) ∧ w = w' := by
  by_cases h1 : 9 ≤ u ∧ u ≤ 13
  · rw [show blkN u = true by unfold blkN; simp [h1]]
    obtain ⟨a1, a2⟩ := h1
    go_enter Tryz.func12, Tryz.ntmps12
    go_wp2
    go_ret
    exact ⟨rfl, rfl⟩
  by_cases h2 : 8192 ≤ u ∧ u ≤ 8202
  · rw [show blkN u = true by unfold blkN; simp [h2]]
    obtain ⟨a1, a2⟩ := h2
    have a3 : 13 < u := by omega
    have a4 : ¬ u ≤ 13 := by omega
    have a5 : 9 ≤ u := by omega
    have n0 : ((u : Int) == 32) = false := beq_eq_false_iff_ne.2 (by omega)
    have n1 : ((u : Int) == 160) = false := beq_eq_false_iff_ne.2 (by omega)
    have n2 : ((u : Int) == 5760) = false := beq_eq_false_iff_ne.2 (by omega)
    have n3 : ((u : Int) == 8232) = false := beq_eq_false_iff_ne.2 (by omega)
    have n4 : ((u : Int) == 8233) = false := beq_eq_false_iff_ne.2 (by omega)
    have n5 : ((u : Int) == 8239) = false := beq_eq_false_iff_ne.2 (by omega)
    have n6 : ((u : Int) == 8287) = false := beq_eq_false_iff_ne.2 (by omega)
    have n7 : ((u : Int) == 12288) = false := beq_eq_false_iff_ne.2 (by omega)
    have n8 : ((u : Int) == 65279) = false := beq_eq_false_iff_ne.2 (by omega)
    clear h1
    go_enter Tryz.func12, Tryz.ntmps12
    go_wp2
    go_ret
    exact ⟨rfl, rfl⟩
  by_cases e0 : u = 32
  · subst e0
    clear h1 h2
    rw [show blkN 32 = true by decide]
    go_enter Tryz.func12, Tryz.ntmps12
    go_wp2
    go_ret
    exact ⟨rfl, rfl⟩
  by_cases e1 : u = 160
  · subst e1
    clear h1 h2
    rw [show blkN 160 = true by decide]
    go_enter Tryz.func12, Tryz.ntmps12
    go_wp2
    go_ret
    exact ⟨rfl, rfl⟩
  by_cases e2 : u = 5760
  · subst e2
    clear h1 h2
    rw [show blkN 5760 = true by decide]
    go_enter Tryz.func12, Tryz.ntmps12
    go_wp2
    go_ret
    exact ⟨rfl, rfl⟩
  by_cases e3 : u = 8232
  · subst e3
    clear h1 h2
    rw [show blkN 8232 = true by decide]
    go_enter Tryz.func12, Tryz.ntmps12
    go_wp2
    go_ret
    exact ⟨rfl, rfl⟩
  by_cases e4 : u = 8233
  · subst e4
    clear h1 h2
    rw [show blkN 8233 = true by decide]
    go_enter Tryz.func12, Tryz.ntmps12
    go_wp2
    go_ret
    exact ⟨rfl, rfl⟩
  by_cases e5 : u = 8239
  · subst e5
    clear h1 h2
    rw [show blkN 8239 = true by decide]
    go_enter Tryz.func12, Tryz.ntmps12
    go_wp2
    go_ret
    exact ⟨rfl, rfl⟩
  by_cases e6 : u = 8287
  · subst e6
    clear h1 h2
    rw [show blkN 8287 = true by decide]
    go_enter Tryz.func12, Tryz.ntmps12
    go_wp2
    go_ret
    exact ⟨rfl, rfl⟩
  by_cases e7 : u = 12288
  · subst e7
    clear h1 h2
    rw [show blkN 12288 = true by decide]
    go_enter Tryz.func12, Tryz.ntmps12
    go_wp2
    go_ret
    exact ⟨rfl, rfl⟩
  by_cases e8 : u = 65279
  · subst e8
    clear h1 h2
    rw [show blkN 65279 = true by decide]
    go_enter Tryz.func12, Tryz.ntmps12
    go_wp2
    go_ret
    exact ⟨rfl, rfl⟩
  have hf : blkN u = false := by
    unfold blkN BT
    simp [h1, h2, e0, e1, e2, e3, e4, e5, e6, e7, e8]
  rw [hf]
  have n0 : ((u : Int) == 32) = false := beq_eq_false_iff_ne.2 (by omega)
  have n1 : ((u : Int) == 160) = false := beq_eq_false_iff_ne.2 (by omega)
  have n2 : ((u : Int) == 5760) = false := beq_eq_false_iff_ne.2 (by omega)
  have n3 : ((u : Int) == 8232) = false := beq_eq_false_iff_ne.2 (by omega)
  have n4 : ((u : Int) == 8233) = false := beq_eq_false_iff_ne.2 (by omega)
  have n5 : ((u : Int) == 8239) = false := beq_eq_false_iff_ne.2 (by omega)
  have n6 : ((u : Int) == 8287) = false := beq_eq_false_iff_ne.2 (by omega)
  have n7 : ((u : Int) == 12288) = false := beq_eq_false_iff_ne.2 (by omega)
  have n8 : ((u : Int) == 65279) = false := beq_eq_false_iff_ne.2 (by omega)
  have q1 : u < 9 ∨ 13 < u := by omega
  have q2 : u < 8192 ∨ 8202 < u := by omega
  clear h1 h2 hf e0 e1 e2 e3 e4 e5 e6 e7 e8
  rcases q1 with q1 | q1
  · have q3 : u < 8192 := by omega
    clear q2
    go_enter Tryz.func12, Tryz.ntmps12
    go_wp2
    go_ret
    exact ⟨rfl, rfl⟩
  · have q3 : 9 ≤ u := by omega
    have q4 : ¬ u ≤ 13 := by omega
    rcases q2 with q2 | q2
    · go_enter Tryz.func12, Tryz.ntmps12
      go_wp2
      go_ret
      exact ⟨rfl, rfl⟩
    · have q5 : 8192 ≤ u := by omega
      have q6 : ¬ u ≤ 8202 := by omega
      go_enter Tryz.func12, Tryz.ntmps12
      go_wp2
      go_ret
      exact ⟨rfl, rfl⟩
end Go.Proofs.YtbakbikilbaafaaGreatDoor
