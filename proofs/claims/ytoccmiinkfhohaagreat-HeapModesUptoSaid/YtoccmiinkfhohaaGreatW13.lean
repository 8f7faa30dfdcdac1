/-
  Contracts: The reference's heap: where a key stands; its keys. The reference's heap: Used, New, Own, Kept. The reference's heap: Own. The reference's heap: Keys, Make. The reference's heap: Make. The reference's heap: lists of slots that are copied and put behind one another; Put of a key that is there. The reference's heap: Put.
-/
import Derived.Test.YtoccmiinkfhohaaGreatW12
import Derived.Deep.RegionLawGrows
import Derived.Laws.OwnMore
namespace Go.Proofs.YtoccmiinkfhohaaGreat
open Go.RowKit Go.Shelf Go.Lib Go.Sort Go.Proofs Go.Maps
set_option maxHeartbeats 2000000
set_option maxRecDepth 100000

theorem infoSlotL : (Tryz.prog.info? 106).map (·.size) = some 15 := by kernel_rfl
/-- a slot of nothing -/
def zeroL : Array Value := #[.string ⟨#[]⟩, .int .i64 0, .int .i64 0, .float .f64 0, .string ⟨#[]⟩, .int .i64 0, .int .i64 0, .float .f64 0, .string ⟨#[]⟩, .int .i64 0, .int .i64 0, .float .f64 0, .string ⟨#[]⟩, .int .i64 0, .int .i64 0]
theorem zeroL_there (w : World) : (w.alloc (.cells zeroL 106)).there w.heap.size 0 15 := there_of (heap_alloc_new w _) (Nat.le_refl 15)
theorem rangeL {w : World} {g n cap B : Nat} {r : List (KK × PV)} (h : w.ownsRow B 106 15 (.slice (some ⟨g, 0, none⟩) n cap) n (flatL r)) {i : Nat} {x : KK × PV} (hi : r[i]? = some x) : w.rangeAt g (i * 15) (encL x) := fun j v hv => by
  have := h.cells (g := g) rfl _ _ (flatL_get hi hv)
  rwa [Addr.add_lit, Nat.zero_add] at this
theorem fresh_cellsL {w : World} (x : KK × PV) : Below w.heap.size w ((w.alloc (.cells zeroL 106)).setCells w.heap.size 0 (encL x)) ∧ ((w.alloc (.cells zeroL 106)).setCells w.heap.size 0 (encL x)).cell? ⟨w.heap.size, 0, none⟩ = some (.string x.1.1) ∧ ((w.alloc (.cells zeroL 106)).setCells w.heap.size 0 (encL x)).cell? ⟨w.heap.size, 1, none⟩ = some (.int .i64 x.1.2) := by
  obtain ⟨h1, h2, _⟩ := fresh_set (w := w) (o := zeroL) (t := 106) (vs := encL x) rfl
  generalize (w.alloc (.cells zeroL 106)).setCells w.heap.size 0 (encL x) = W at *
  refine ⟨h1, ?_, ?_⟩
  · rw [cell_of_row _ _ 0 _ _ _ h2]; rfl
  · rw [cell_of_row _ _ 1 _ _ _ h2]; rfl
theorem SlotsO.form {w : World} {f : Nat → Nat} {sv : Value} {r : List (KK × PV)} (h : RowO w f 9 106 15 sv r.length (flatL r)) : ∃ q cp, sv = .slice q r.length cp ∧ (0 < r.length → ∃ g, q = some ⟨g, 0, none⟩ ∧ g < w.heap.size) := by
  rcases h.1.2 with ⟨e, h⟩ | ⟨g, cap, cur, e, _, hg, _⟩
  · rw [h]; exact ⟨_, _, e, fun h => by omega⟩
  · exact ⟨_, _, e, fun _ => ⟨g, rfl, heapH_lt hg⟩⟩
theorem idx_first {l : List KK} {x : KK} : ∀ {i : Nat}, idx (l.take i) x = none → l[i]? = some x → idx l x = some i := by
  induction l with
  | nil => intro i _ h; simp at h
  | cons a l ih =>
    intro i h hi
    cases i with
    | zero => simp at hi; simp [idx, hi]
    | succ i =>
      rw [List.take_succ_cons] at h
      by_cases e : a = x
      · simp [idx, e] at h
      · simp [idx, e] at h ⊢
        exact ih h (by simpa using hi)
theorem idx_next {l : List KK} {x y : KK} {i : Nat} (h : idx (l.take i) x = none) (hi : l[i]? = some y) (hne : y ≠ x) : idx (l.take (i + 1)) x = none := by
  rw [take_get hi, idx_snoc, h]
  simp [hne]
def placeV (x : Option Nat) : Int := match x with | some i => (i : Int) | none => -1
/-- where a key stands in an object -/
def placeH (R : List OB) (o : Int) (K : KK) : Option Nat := (objH R o).bind fun a => idx (gk a.l) K
theorem c_Rplace0 {w : World} {f : Nat → Nat} {rb : Nat} {lim : Int} {R : List OB} (hN : Norm f w) (h : RefO w f rb lim R) (o : Int) (ho : hasH R o = false) (k : KK) :
    Calls Tryz.prog 47 #[ptrV rb, .int .i64 o, keyV k.1 k.2] w fun e w' => e = .returned (.int .i64 (-1)) ∧ Below w.heap.size w w' := by
  have hH := fun y hy => c_RHas (h.below (w' := y) hN hy) o
  rw [ho] at hH
  have hbk : Below w.heap.size w (w.alloc (.cells #[.string k.1, .int .i64 k.2] 31)) := (Below.refl _ w).alloc (Nat.le_refl _) _
  replace hH := Lib.hid (hH _ hbk)
  replace hbk := Lib.hid hbk
  unfold keyV
  clear h ho hN
  go_enter Tryz.func47, Tryz.ntmps47
  go_wp2_with (go_at_call 32; refine hH.out.mono ?_; rintro e w1 ⟨rfl, e1⟩; cases e1)
  go_ret
  exact ⟨rfl, hbk.out⟩
theorem c_Rplace1 {w : World} {f : Nat → Nat} {rb : Nat} {lim : Int} {R : List OB} (hN : Norm f w) (h : RefO w f rb lim R) (o : Nat) (a : OB) (h0 : 0 < o) (ho : R[o - 1]? = some a) (hal : a.l.length ≤ 100000) (k : KK) (hk : okK k) :
    Calls Tryz.prog 47 #[ptrV rb, .int .i64 (o : Int), keyV k.1 k.2] w fun e w' => e = .returned (.int .i64 (placeV (idx (gk a.l) (pk k)))) ∧ Below w.heap.size w w' := by
  obtain ⟨W1, hW1⟩ : ∃ W1, w.alloc (.cells #[.string k.1, .int .i64 k.2] 31) = W1 := ⟨_, rfl⟩
  have hb1 : Below w.heap.size w W1 := by rw [← hW1]; exact (Below.refl _ w).alloc (Nat.le_refl _) _
  have hs1 : W1.heap.size = w.heap.size + 1 := by rw [← hW1]; simp
  have hH := c_RHas (h.below hN hb1) (o : Int)
  rw [hasH_of h0 ho] at hH
  obtain ⟨g, c, sv, ⟨_, c1⟩, ⟨l1, l2, _⟩, _, hs, ⟨p1, p2⟩, ⟨_, _, _, d3⟩, _, _⟩ := h.upd h0 ho
  obtain ⟨r, r1, r2, r3⟩ := hs
  obtain ⟨q, cp, rfl, hq⟩ := SlotsO.form r1
  have hrl : r.length ≤ 100000 := by rw [← List.length_map (f := fun x : KK × PV => (pk x.1, x.2)), r2]; exact hal
  have hgk : gk a.l = r.map (fun x => pk x.1) := by rw [← r2]; unfold gk; rw [List.map_map]; rfl
  rw [hgk]
  have d0 : W1.heap[w.heap.size]? = some (.cells #[.string k.1, .int .i64 k.2] 31 (0, 0)) := by rw [← hW1]; exact heap_alloc_new w _
  have kc0 : W1.cell? ⟨w.heap.size, 0, none⟩ = some (.string k.1) := by rw [cell_of_row _ _ 0 _ _ _ d0]; rfl
  have kc1 : W1.cell? ⟨w.heap.size, 1, none⟩ = some (.int .i64 k.2) := by rw [cell_of_row _ _ 1 _ _ _ d0]; rfl
  rw [← hb1.cell (p := ⟨rb, 1, none⟩) l1] at c1
  rw [← hb1.cell (p := ⟨g, o * 4 + 3, none⟩) l2] at d3
  have rr : ∀ (i : Nat) x, r[i]? = some x → ∃ g2, q = some ⟨g2, 0, none⟩ ∧ g2 < w.heap.size ∧ w.rangeAt g2 (i * 15) (encL x) ∧ okK x.1 := by
    intro i x hx
    obtain ⟨g2, e1, e2⟩ := hq (by have := (List.getElem?_eq_some_iff.1 hx).1; omega)
    subst e1
    obtain ⟨g3, cap, e3, _, _⟩ := r1.1.form (by have := (List.getElem?_eq_some_iff.1 hx).1; omega)
    injection e3 with e3 e4 e5
    injection e3 with e3
    injection e3 with e3
    subst e3
    subst e5
    exact ⟨_, rfl, e2, rangeL r1.1 hx, r3 x (List.mem_of_getElem? hx)⟩
  have hS4 := fun (x : KK) (hx : okK x) (y : World) => c_Same4 x.1 k.1 x.2 k.2 hx.1 hk.1 y
  unfold ptrV keyV at *
  obtain ⟨k0, kn⟩ := k
  dsimp only at *
  obtain ⟨K, hK⟩ : ∃ K, pk (k0, kn) = K := ⟨_, rfl⟩
  rw [hK]
  have hsp := fun (x : KK) => sameK_pk x (k0, kn)
  rw [hK] at hsp
  have hi0 : idx ((r.map (fun x => pk x.1)).take 0) K = none := by simp [idx]
  replace hH := Lib.hid hH
  replace rr := Lib.hid rr
  replace hS4 := Lib.hid hS4
  replace hsp := Lib.hid hsp
  replace hi0 := Lib.hid hi0
  replace hb1 := Lib.hid hb1
  have lt1 : w.heap.size < W1.heap.size := by omega
  clear h ho hN r1 r2 r3 hgk hq hal d0 hk hK
  go_enter Tryz.func47, Tryz.ntmps47
  go_wp2_with (go_at_call 32; refine hH.out.mono ?_; rintro e w1 ⟨rfl, e1⟩; cases e1)
  go_loopw [22] (fun vi wr => ∃ i : Nat, i ≤ r.length ∧ vi = .int .i64 (i : Int) ∧ idx ((r.map (fun x => pk x.1)).take i) K = none ∧ Below W1.heap.size W1 wr) (fun vi _ => r.length - (intOf vi).toNat)
  case atStart => exact ⟨0, by omega, rfl, hi0.out, Below.refl _ _⟩
  case round =>
    obtain ⟨i, hi, rfl, hno, hbel⟩ := hrel
    rcases Nat.lt_or_ge i r.length with hlt | hge
    · obtain ⟨x, hx⟩ : ∃ x, r[i]? = some x := ⟨_, List.getElem?_eq_getElem hlt⟩
      obtain ⟨g2, rfl, lg2, hrg, hok⟩ := rr.out i x hx
      replace hrg := range_at hrg ((hbel.block g2 (Nat.lt_of_lt_of_le lg2 hb1.out.size)).trans (hb1.out.block g2 lg2))
      have hi15 : (Tryz.prog.info? 106).map (·.size) = some (encL x).length := infoSlotL
      have hj15 : (Tryz.prog.info? 106).map (·.size) = some (encL x).toArray.size := infoSlotL
      have ho15 := all_oneCell_toArray (encL_one x)
      have q1 : (0 : Int) ≤ (i : Int) := by omega
      have q2 : (i : Int) < (r.length : Int) := by omega
      have hfs := fresh_cellsL (w := wr) x
      have hth : (wr.alloc (.cells zeroL 106)).there wr.heap.size 0 (encL x).toArray.size := zeroL_there wr
      have hsz := hbel.size
      have hmx : (r.map (fun x => pk x.1))[i]? = some (pk x.1) := by simp [hx]
      have hsx := hsp.out x.1
      have hcall := hS4.out x.1 hok
      rw [← hbel.cell (p := ⟨w.heap.size, 0, none⟩) lt1] at kc0
      rw [← hbel.cell (p := ⟨w.heap.size, 1, none⟩) lt1] at kc1
      have ltr : w.heap.size < wr.heap.size := Nat.lt_of_lt_of_le lt1 hsz
      obtain ⟨⟨x0, xn⟩, px⟩ := x
      dsimp only at *
      generalize encL ((x0, xn), px) = E at *
      replace hfs := Lib.hid hfs
      replace hno := Lib.hid hno
      replace hmx := Lib.hid hmx
      replace hcall := Lib.hid hcall
      replace hbel := Lib.hid hbel
      replace hsx := Lib.hid hsx
      clear hx hok hsp hH hi0
      have tokA : True := trivial
      have tokB : True := trivial
      cases hb : sameK x0 k0 xn kn with
      | true =>
        rw [hb] at hcall
        go_wp2_with (first | (clear tokA; refine wpList_load_mid rfl 106 (.tmp 25) rfl g2 (i * 15) rfl E _ hrg Tryz.underlying106 rfl hi15 ?_) | (clear tokB; refine wpList_store_mid rfl 106 (.tmp 8) (.tmp 26) rfl wr.heap.size 0 E.toArray rfl rfl hth hj15 ho15 ?_; obtain ⟨hb4, e0, e1⟩ := hfs.out; generalize hW4 : World.setCells _ _ _ _ = W4; rw [show (wr.alloc (.cells zeroL 106)).setCells wr.heap.size 0 E = W4 from hW4] at hb4 e0 e1; clear hW4 hth hrg; rw [← hb4.cell (p := ⟨w.heap.size, 0, none⟩) ltr] at kc0; rw [← hb4.cell (p := ⟨w.heap.size, 1, none⟩) ltr] at kc1; replace hb4 := Lib.hid hb4) | (go_at_call 20; refine (hcall.out _).mono ?_; rintro e w5 ⟨rfl, hb5⟩))
        go_ret
        have : pk (x0, xn) = K := of_decide_eq_true (hsx.out.symm.trans hb)
        rw [idx_first hno.out (by rw [← this]; exact hmx.out)]
        exact ⟨rfl, (hb1.out.trans (hbel.out.mono hb1.out.size)).trans ((hb4.out.mono (Nat.le_trans hb1.out.size hsz)).trans (hb5.mono (Nat.le_trans (Nat.le_trans hb1.out.size hsz) hb4.out.size)))⟩
      | false =>
        rw [hb] at hcall
        go_wp2_with (first | (clear tokA; refine wpList_load_mid rfl 106 (.tmp 25) rfl g2 (i * 15) rfl E _ hrg Tryz.underlying106 rfl hi15 ?_) | (clear tokB; refine wpList_store_mid rfl 106 (.tmp 8) (.tmp 26) rfl wr.heap.size 0 E.toArray rfl rfl hth hj15 ho15 ?_; obtain ⟨hb4, e0, e1⟩ := hfs.out; generalize hW4 : World.setCells _ _ _ _ = W4; rw [show (wr.alloc (.cells zeroL 106)).setCells wr.heap.size 0 E = W4 from hW4] at hb4 e0 e1; clear hW4 hth hrg; rw [← hb4.cell (p := ⟨w.heap.size, 0, none⟩) ltr] at kc0; rw [← hb4.cell (p := ⟨w.heap.size, 1, none⟩) ltr] at kc1; replace hb4 := Lib.hid hb4) | (go_at_call 20; refine (hcall.out _).mono ?_; rintro e w5 ⟨rfl, hb5⟩))
        have hne : pk (x0, xn) ≠ K := of_decide_eq_false (hsx.out.symm.trans hb)
        go_roundw
        case rel =>
          exact ⟨i + 1, by omega, by go_num, idx_next hno.out hmx.out hne, hbel.out.trans ((hb4.out.mono hsz).trans (hb5.mono (Nat.le_trans hsz hb4.out.size)))⟩
        case measure => simp [intOf]; omega
    · obtain rfl : i = r.length := by omega
      rw [List.take_of_length_le (by simp)] at hno
      replace hno := Lib.hid hno
      replace hbel := Lib.hid hbel
      go_wp2
      go_ret
      rw [hno.out]
      exact ⟨rfl, hb1.out.trans (hbel.out.mono hb1.out.size)⟩
theorem c_Rplace {w : World} {f : Nat → Nat} {rb : Nat} {lim : Int} {R : List OB} (hN : Norm f w) (h : RefO w f rb lim R) (hR : ∀ a ∈ R, a.l.length ≤ 100000) (o : Int) (k : KK) (hk : okK k) :
    Calls Tryz.prog 47 #[ptrV rb, .int .i64 o, keyV k.1 k.2] w fun e w' => e = .returned (.int .i64 (placeV (placeH R o (pk k)))) ∧ Below w.heap.size w w' := by
  rcases objH_cases R o with ⟨h1, h2⟩ | ⟨n, a, rfl, h1, h2, h3, h4⟩
  · have : placeH R o (pk k) = none := by unfold placeH; rw [h2]; rfl
    rw [this]
    exact c_Rplace0 hN h o h1 k
  · have : placeH R (n : Int) (pk k) = idx (gk a.l) (pk k) := by unfold placeH; rw [h3]; rfl
    rw [this]
    exact c_Rplace1 hN h n a h1 h2 (hR a (List.mem_of_getElem? h2)) k hk
end Go.Proofs.YtoccmiinkfhohaaGreat
namespace Go.Proofs.YtoccmiinkfhohaaGreat
open Go.RowKit Go.Shelf Go.Lib Go.Sort Go.Proofs Go.Maps
set_option maxHeartbeats 4000000
set_option maxRecDepth 100000

def sumX (xs : List RO) : Nat := (xs.map fun x => x.1.l.length).sum
theorem sumX_le (xs : List RO) (i : Nat) : sumX (xs.take i) ≤ sumX xs := by
  have : sumX xs = sumX (xs.take i) + sumX (xs.drop i) := by
    unfold sumX
    rw [← List.sum_append, ← List.map_append, List.take_append_drop]
  omega
theorem sumX_next {xs : List RO} {i : Nat} {x : RO} (h : xs[i]? = some x) : sumX (xs.take (i + 1)) = sumX (xs.take i) + x.1.l.length := by
  unfold sumX
  rw [take_get h, List.map_append, List.sum_append]
  simp
theorem SlotsO.len {w : World} {f : Nat → Nat} {sv : Value} {l : List (KK × PV)} (h : SlotsO w f sv l) : ∃ q cp, sv = .slice q l.length cp := by
  obtain ⟨r, r1, r2, r3⟩ := h
  obtain ⟨q, cp, rfl, _⟩ := SlotsO.form r1
  rw [← r2, List.length_map]
  exact ⟨q, cp, rfl⟩
theorem c_RUsed {w : World} {f : Nat → Nat} {rb : Nat} {lim : Int} {R : List OB} (h : RefO w f rb lim R) (hu : usedH R ≤ 100000) :
    Calls Tryz.prog 33 #[ptrV rb] w fun e w' => e = .returned (.int .i64 (usedH R : Int)) ∧ Below w.heap.size w w' := by
  obtain ⟨rv, xs, h1, h2, h3, h4⟩ := h
  have hl : xs.length = R.length + 1 := by have := congrArg List.length h3; simpa using this
  obtain ⟨g, c, rfl, _, hlt⟩ := h2.1.form (by omega)
  have hc := h2.1.cells (g := g) rfl
  have c1 : w.cell? ⟨rb, 1, none⟩ = some (.slice (some ⟨g, 0, none⟩) xs.length c) := by rw [cell_of_row _ _ 1 _ _ _ h1.1]; rfl
  have hs : usedH R = R.length + sumX xs := by
    unfold usedH sumX
    have : (xs.map fun x => x.1.l.length) = (xs.map Prod.fst).map fun a => a.l.length := by rw [List.map_map]; rfl
    rw [this, h3]
    simp [zeroOB]
  have rr : ∀ (i : Nat) x, xs[i]? = some x → (w.cell? ⟨g, i * 4, none⟩ = some (.int .i64 x.1.cls) ∧ w.cell? ⟨g, i * 4 + 1, none⟩ = some (.int .i64 x.1.pro) ∧ w.cell? ⟨g, i * 4 + 2, none⟩ = some (.bool x.1.shut)) ∧ ∃ q cp, w.cell? ⟨g, i * 4 + 3, none⟩ = some (.slice q x.1.l.length cp) := fun i x hx => by
    have e := fun j v (hj : (encR x)[j]? = some v) => hc (i * 4 + j) v (flatR_get hx hj)
    simp only [Addr.add_lit, Nat.zero_add] at e
    obtain ⟨q, cp, hq⟩ := (h4 x (List.mem_of_getElem? hx)).len
    refine ⟨⟨e 0 _ rfl, e 1 _ rfl, e 2 _ rfl⟩, q, cp, ?_⟩
    have := e 3 _ rfl
    rw [hq] at this
    exact this
  have hle := sumX_le xs
  have hr1 : (xs.length : Int) - 1 = (R.length : Int) := by omega
  have hx0 : (0 : Int) ≤ (xs.length : Int) := by omega
  have hx1 : (xs.length : Int) ≤ 100001 := by omega
  rw [hs] at hu ⊢
  unfold ptrV
  replace rr := Lib.hid rr
  replace hle := Lib.hid hle
  replace hu := Lib.hid hu
  replace hl := Lib.hid hl
  clear h1 h2 h3 h4 hc hs
  go_enter Tryz.func33, Tryz.ntmps33
  go_wp2
  go_loopw [3, 17] (fun vn vi wr => ∃ i : Nat, i ≤ xs.length ∧ vi = .int .i64 (i : Int) ∧ vn = .int .i64 ((R.length + sumX (xs.take i) : Nat) : Int) ∧ Below w.heap.size w wr) (fun _ vi _ => xs.length - (intOf vi).toNat)
  case atStart => exact ⟨0, by omega, rfl, by simp [sumX], Below.refl _ _⟩
  case round =>
    obtain ⟨i, hi, rfl, rfl, hbel⟩ := hrel
    rcases Nat.lt_or_ge i xs.length with hlti | hge
    · obtain ⟨x, hx⟩ : ∃ x, xs[i]? = some x := ⟨_, List.getElem?_eq_getElem hlti⟩
      obtain ⟨⟨d0, d1, d2⟩, q, cp, d3⟩ := rr.out i x hx
      have hn := sumX_next hx
      have hb1 := hle.out (i + 1)
      rw [hn] at hb1
      rw [← hbel.cell (p := ⟨g, i * 4, none⟩) hlt] at d0
      rw [← hbel.cell (p := ⟨g, i * 4 + 1, none⟩) hlt] at d1
      rw [← hbel.cell (p := ⟨g, i * 4 + 2, none⟩) hlt] at d2
      rw [← hbel.cell (p := ⟨g, i * 4 + 3, none⟩) hlt] at d3
      have q1 : (0 : Int) ≤ (i : Int) := by omega
      have q2 : (i : Int) < (xs.length : Int) := by omega
      have hu' := hu.out
      have hz : (R.length + sumX (xs.take i) : Nat) + x.1.l.length ≤ 100000 := by omega
      have b0 : (0 : Int) ≤ ((R.length + sumX (xs.take i) : Nat) : Int) := by omega
      have b1 : (0 : Int) ≤ (x.1.l.length : Int) := by omega
      have b2 : ((R.length + sumX (xs.take i) : Nat) : Int) + (x.1.l.length : Int) ≤ 100000 := by omega
      have hbn : Below w.heap.size w (wr.alloc (.cells #[.int .i64 x.1.cls, .int .i64 x.1.pro, .bool x.1.shut, .slice q x.1.l.length cp] 109)) := hbel.alloc hbel.size _
      obtain ⟨⟨a1, a2, a3, a4, a5⟩, sv⟩ := x
      dsimp only at *
      generalize a5.length = m at *
      generalize hsx : R.length + sumX (xs.take i) = sn at *
      have hfin : ((sn : Int) + (m : Int)) = ((R.length + sumX (xs.take (i + 1)) : Nat) : Int) := by rw [hn]; omega
      replace hfin := Lib.hid hfin
      replace hbn := Lib.hid hbn
      clear hbel hn hb1 hu' hx hsx hz hi
      go_wp2
      exact ⟨⟨i + 1, by omega, by go_num, by rw [hfin.out], hbn.out⟩, by simp [intOf]; omega⟩
    · obtain rfl : i = xs.length := by omega
      rw [List.take_length]
      replace hbel := Lib.hid hbel
      go_wp2
      go_ret
      exact ⟨rfl, hbel.out⟩
theorem info4R : (Tryz.prog.info? 109).map (fun i => (i.zero, i.size, i.bytes)) = some (some (.agg #[.int .i64 0, .int .i64 0, .bool false, .slice none 0 0]), 4, 48) := by kernel_rfl
theorem c_Rnew {w : World} {f : Nat → Nat} (hN : Norm f w) (lim : Int) : Calls Tryz.prog 8 #[.int .i64 lim] w fun e w' => ∃ rb f', e = .returned (ptrV rb) ∧ Turn (fun _ => False) f f' w w' ∧ RefO w' f' rb lim [] := by
  obtain ⟨i0, hi0, hz0, hz1, hz2⟩ := info_parts info4R
  have hms := run_makeSlice (P := Tryz.prog) w 67 109 i0 _ Tryz.underlying67 hi0 hz0 .i64 .i64 1 1 (by omega) (by omega) (by rw [hz1]; decide) (by rw [hz2]; decide) (by omega)
  rw [hz1] at hms
  have hmc : madeCells (Value.agg #[.int .i64 0, .int .i64 0, .bool false, .slice none 0 0]).cells ((1 : Int).toNat * 4) = #[.int .i64 0, .int .i64 0, .bool false, .slice none 0 0] := by kernel_rfl
  rw [hmc] at hms
  change _ = Result.ok (Value.slice (some ⟨w.heap.size, 0, none⟩) 1 1) _ at hms
  unfold ptrV
  replace hN := Lib.hid hN
  clear hmc hz0 hz1 hz2 hi0
  go_enter Tryz.func8, Tryz.ntmps8
  go_wp2
  go_ret
  obtain ⟨w2, e2⟩ : ∃ w2, w.alloc (.cells #[.int .i64 0, .int .i64 0, .bool false, .slice none 0 0] 109) = w2 := ⟨_, rfl⟩
  obtain ⟨w3, e3⟩ : ∃ w3, w2.alloc (.cells #[.int .i64 lim, .slice (some ⟨w.heap.size, 0, none⟩) 1 1] 69) = w3 := ⟨_, rfl⟩
  have s2 : w2.heap.size = w.heap.size + 1 := by rw [← e2]; simp
  have b2 : Below w.heap.size w w3 := by rw [← e3, ← e2]; exact ((Below.refl _ w).alloc (Nat.le_refl _) _).alloc (by simp) _
  have d1 : w3.heap[w.heap.size]? = some (.cells #[.int .i64 0, .int .i64 0, .bool false, .slice none 0 0] 109 (0, 0)) := by rw [← e3, Below.heap_alloc _ _ _ (by omega), ← e2]; exact heap_alloc_new w _
  have d2 : w3.heap[w.heap.size + 1]? = some (.cells #[.int .i64 lim, .slice (some ⟨w.heap.size, 0, none⟩) 1 1] 69 (0, 0)) := by rw [← e3, ← s2]; exact heap_alloc_new w2 _
  have t3 : Turn (fun _ => False) f (give f w w3 (fun r => if r = w.heap.size then 7 else 6)) w w3 := (Turn.refl _ hN.out).give _ b2.os b2.tape b2.output b2.size (fun r hr _ => b2.block r hr)
  show ∃ rb f', _ ∧ Turn (fun _ => False) f f' w ((w.alloc _).alloc _) ∧ RefO ((w.alloc _).alloc _) f' rb lim []
  rw [e2, e3]
  refine ⟨w.heap.size + 1, _, rfl, t3, .slice (some ⟨w.heap.size, 0, none⟩) 1 1, [(zeroOB, .slice none 0 0)], ⟨d2, ?_⟩, ⟨⟨rfl, .inr ⟨w.heap.size, 1, _, rfl, Nat.zero_le _, d1, Nat.le_refl _, by unfold maxLen; omega, rfl, rfl⟩⟩, ?_⟩, rfl, fun x hx => ?_⟩
  · rw [give_new (by omega) (heapH_lt d2)]; simp
  · intro r hr
    simp [Value.ownBlock] at hr
    subst hr
    rw [give_new (Nat.le_refl _) (heapH_lt d1)]; simp
  · obtain rfl : x = (zeroOB, .slice none 0 0) := by simpa using hx
    exact SlotsO.nil _ _
theorem c_Rkept (p : PV) (h0 : 0 ≤ p.fl) (h15 : p.fl ≤ 15) (w : World) :
    Calls Tryz.prog 54 #[propV p] w fun e w' => e = .returned (propV (keptP p)) ∧ Below w.heap.size w w' := by
  have ha := and8 p.fl h0 h15
  have rsf := fun (w : World) (a : Addr) (x : Nat) => run_store Tryz.prog w a (.float .f64 x) .plain rfl
  have hb := two_belowH w
  by_cases h8 : 8 ≤ p.fl
  · rw [if_pos h8] at ha
    have hk : keptP p = { p with v := zeroVV } := by unfold keptP; rw [if_pos h8]
    rw [hk]
    obtain ⟨⟨a1, a2, a3, a4⟩, ⟨b1, b2, b3, b4⟩, ⟨d1, d2, d3, d4⟩, fl⟩ := p
    have hne : (bits BinOp.and IntKind.i64 fl 8 != 0) = true := by rw [ha]; rfl
    unfold propV encP zeroVV
    dsimp only at *
    replace hb := Lib.hid hb
    clear hk h8 h0 h15 ha
    go_enter Tryz.func54, Tryz.ntmps54
    go_wp2
    refine bodyPost_ret (results_cell_row rfl _ _ (w.heap.size + 1) 36 _ (0, 0) _ rfl (heap_alloc2_new w _ _) Tryz.underlying36 rfl infoProp) rfl ?_
    exact ⟨rfl, hb.out _ _⟩
  · rw [if_neg h8] at ha
    have hk : keptP p = { p with g := zeroVV, t := zeroVV } := by unfold keptP; rw [if_neg h8]
    rw [hk]
    obtain ⟨⟨a1, a2, a3, a4⟩, ⟨b1, b2, b3, b4⟩, ⟨d1, d2, d3, d4⟩, fl⟩ := p
    have hne : (bits BinOp.and IntKind.i64 fl 8 != 0) = false := by rw [ha]; rfl
    unfold propV encP zeroVV
    dsimp only at *
    replace hb := Lib.hid hb
    clear hk h8 h0 h15 ha
    go_enter Tryz.func54, Tryz.ntmps54
    go_wp2
    refine bodyPost_ret (results_cell_row rfl _ _ (w.heap.size + 1) 36 _ (0, 0) _ rfl (heap_alloc2_new w _ _) Tryz.underlying36 rfl infoProp) rfl ?_
    exact ⟨rfl, hb.out _ _⟩
end Go.Proofs.YtoccmiinkfhohaaGreat
namespace Go.Proofs.YtoccmiinkfhohaaGreat
open Go.RowKit Go.Shelf Go.Lib Go.Sort Go.Proofs Go.Maps
set_option maxHeartbeats 4000000
set_option maxRecDepth 100000

theorem place_own (R : List OB) (o : Int) (K : KK) : (placeH R o K).isSome = (ownH R o K).isSome := by
  unfold placeH ownH
  cases objH R o with
  | none => rfl
  | some a => exact (getL_idx (l := a.l)).symm
theorem c_ROwnN {w : World} {f : Nat → Nat} {rb : Nat} {lim : Int} {R : List OB} (hN : Norm f w) (h : RefO w f rb lim R) (hR : ∀ a ∈ R, a.l.length ≤ 100000) (o : Int) (k : KK) (hk : okK k) (hp : placeH R o (pk k) = none) :
    Calls Tryz.prog 14 #[ptrV rb, .int .i64 o, keyV k.1 k.2] w fun e w' => Below w.heap.size w w' ∧ e = .returned (tellV none) := by
  have hBy := fun (y : World) (hy : Below w.heap.size w y) => c_Rplace (w := y) (fun r hr => hN r (Nat.le_trans hy.size hr)) (h.below hN hy) hR o k hk
  rw [hp] at hBy
  unfold keyV tellV placeV at *
  dsimp only [Option.getD, Option.isSome] at *
  obtain ⟨k0, kn⟩ := k
  dsimp only at *
  obtain ⟨W2, hW2⟩ : ∃ W2, (w.alloc (.cells #[.string k0, .int .i64 kn] 31)).alloc (.cells (encP zeroPV).toArray 36) = W2 := ⟨_, rfl⟩
  have hb2 : Below w.heap.size w W2 := by rw [← hW2]; exact ((Below.refl _ w).alloc (Nat.le_refl _) _).alloc (by simp) _
  have z0 : W2.heap[w.heap.size + 1]? = some (.cells (encP zeroPV).toArray 36 (0, 0)) := by rw [← hW2]; exact heap_alloc2_new w _ _
  have d0 : W2.heap[w.heap.size]? = some (.cells #[.string k0, .int .i64 kn] 31 (0, 0)) := by rw [← hW2, Below.heap_alloc _ _ _ (by simp)]; exact heap_alloc_new w _
  have kc0 : W2.cell? ⟨w.heap.size, 0, none⟩ = some (.string k0) := by rw [cell_of_row _ _ 0 _ _ _ d0]; rfl
  have kc1 : W2.cell? ⟨w.heap.size, 1, none⟩ = some (.int .i64 kn) := by rw [cell_of_row _ _ 1 _ _ _ d0]; rfl
  have hi13 : (Tryz.prog.info? 36).map (·.size) = some (encP zeroPV).toArray.size := infoProp
  have ho13 := all_oneCell_toArray (encP_one zeroPV)
  have hBy2 := Lib.hid (hBy W2 hb2)
  unfold ptrV propV at *
  replace hb2 := Lib.hid hb2
  replace z0 := Lib.hid z0
  replace d0 := Lib.hid d0
  simp only [encP, zeroPV, zeroVV] at hW2
  clear h hN hBy hp hk
  go_enter Tryz.func14, Tryz.ntmps14
  go_wp2_with (first | (go_at_call 47; refine hBy2.out.mono ?_; rintro e y2 ⟨rfl, hb5⟩; have hth := there_of (n := 13) (o := 0) ((hb5.block _ (heapH_lt z0.out)).trans z0.out) (by simp [encP]); clear kc0 kc1; replace hb5 := Lib.hid hb5) | (refine wpList_store_mid (by rfl) 36 _ _ (by rfl) (w.heap.size + 1) 0 (encP zeroPV).toArray (by rfl) (by rfl) hth hi13 ho13 ?_))
  have z2 : y2.heap[w.heap.size + 1]? = some (.cells (encP zeroPV).toArray 36 (0, 0)) := (hb5.out.block _ (heapH_lt z0.out)).trans z0.out
  have hz := heap_setCells_all (t := 36) (vs := encP zeroPV) z2 rfl
  refine bodyPost_ret (results_cell_tmp_row rfl _ _ (w.heap.size + 1) 36 (encP zeroPV).toArray (0, 0) _ rfl rfl hz infoProp) rfl ?_
  exact ⟨below_setC (hb2.out.trans (hb5.out.mono hb2.out.size)) (by omega) _ _, rfl⟩
theorem c_ROwnT {w : World} {f : Nat → Nat} {rb : Nat} {lim : Int} {R : List OB} (hN : Norm f w) (h : RefO w f rb lim R) (hR : ∀ a ∈ R, a.l.length ≤ 100000) (o : Nat) (a : OB) (h0 : 0 < o) (ho : R[o - 1]? = some a) (k : KK) (hk : okK k) (i : Nat) (hi : idx (gk a.l) (pk k) = some i) :
    Calls Tryz.prog 14 #[ptrV rb, .int .i64 (o : Int), keyV k.1 k.2] w fun e w' => Below w.heap.size w w' ∧ e = .returned (tellV (getL a.l (pk k))) := by
  have hBy := fun (y : World) (hy : Below w.heap.size w y) => c_Rplace1 (w := y) (fun r hr => hN r (Nat.le_trans hy.size hr)) (h.below hN hy) o a h0 ho (hR a (List.mem_of_getElem? ho)) k hk
  rw [hi] at hBy
  obtain ⟨g, c, sv, ⟨_, c1⟩, ⟨l1, l2, _⟩, _, hs, ⟨p1, p2⟩, ⟨_, _, _, d3⟩, _, _⟩ := h.upd h0 ho
  obtain ⟨r, r1, r2, r3⟩ := hs
  have hil : i < r.length := by have := idx_lt hi; rw [← r2] at this; simpa [gk] using this
  obtain ⟨x, hx⟩ : ∃ x, r[i]? = some x := ⟨_, List.getElem?_eq_getElem hil⟩
  have hget : getL a.l (pk k) = some x.2 := by
    have h1 : a.l[i]? = some (pk x.1, x.2) := by rw [← r2]; simp [hx]
    unfold getL
    rw [hi]
    simp [h1]
  rw [hget]
  obtain ⟨g2, cp, rfl, _, lg2⟩ := r1.1.form (by omega)
  have hrg : w.rangeAt g2 (i * 15 + 2) (encP x.2) := fun j v hv => by
    have := rangeL r1.1 hx (2 + j) v (by simpa [encL, List.getElem?_cons, Nat.add_comm] using hv)
    rwa [← Nat.add_assoc] at this
  obtain ⟨x1, P⟩ := x
  dsimp only at *
  unfold keyV tellV placeV at *
  dsimp only [Option.getD, Option.isSome] at *
  obtain ⟨k0, kn⟩ := k
  dsimp only at *
  obtain ⟨W2, hW2⟩ : ∃ W2, (w.alloc (.cells #[.string k0, .int .i64 kn] 31)).alloc (.cells (encP zeroPV).toArray 36) = W2 := ⟨_, rfl⟩
  have hb2 : Below w.heap.size w W2 := by rw [← hW2]; exact ((Below.refl _ w).alloc (Nat.le_refl _) _).alloc (by simp) _
  have z0 : W2.heap[w.heap.size + 1]? = some (.cells (encP zeroPV).toArray 36 (0, 0)) := by rw [← hW2]; exact heap_alloc2_new w _ _
  have d0 : W2.heap[w.heap.size]? = some (.cells #[.string k0, .int .i64 kn] 31 (0, 0)) := by rw [← hW2, Below.heap_alloc _ _ _ (by simp)]; exact heap_alloc_new w _
  have kc0 : W2.cell? ⟨w.heap.size, 0, none⟩ = some (.string k0) := by rw [cell_of_row _ _ 0 _ _ _ d0]; rfl
  have kc1 : W2.cell? ⟨w.heap.size, 1, none⟩ = some (.int .i64 kn) := by rw [cell_of_row _ _ 1 _ _ _ d0]; rfl
  have hi13 : (Tryz.prog.info? 36).map (·.size) = some (encP P).length := infoProp
  have hj13 : (Tryz.prog.info? 36).map (·.size) = some (encP P).toArray.size := infoProp
  have ho13 := all_oneCell_toArray (encP_one P)
  have hBy2 := Lib.hid (hBy W2 hb2)
  have q1 : (0 : Int) ≤ (i : Int) := by omega
  have q2 : (i : Int) < (r.length : Int) := by omega
  have q3 : ¬ (i : Int) < 0 := by omega
  unfold ptrV propV at *
  replace hb2 := Lib.hid hb2
  replace z0 := Lib.hid z0
  replace d0 := Lib.hid d0
  replace hrg := Lib.hid hrg
  simp only [encP, zeroPV, zeroVV] at hW2
  have tokA : True := trivial
  clear h hN hBy hk hget hx r1 r2 r3 hi ho
  go_enter Tryz.func14, Tryz.ntmps14
  go_wp2_with (first | (go_at_call 47; refine hBy2.out.mono ?_; rintro e y2 ⟨rfl, hb5⟩; have hB5 := hb2.out.trans (hb5.mono hb2.out.size); have hth : y2.there (w.heap.size + 1) 0 (encP P).toArray.size := there_of (n := 13) (o := 0) ((hb5.block _ (heapH_lt z0.out)).trans z0.out) (by simp [encP]); clear kc0 kc1; rw [← hB5.cell (p := ⟨rb, 1, none⟩) l1] at c1; rw [← hB5.cell (p := ⟨g, o * 4 + 3, none⟩) l2] at d3; have hrg5 := range_at hrg.out (hB5.block g2 lg2); replace hb5 := Lib.hid hb5) | (clear tokA; refine wpList_load_mid rfl 36 (.tmp 26) rfl g2 (i * 15 + 2) rfl (encP P) _ hrg5 Tryz.underlying36 rfl hi13 ?_) | (refine wpList_store_mid (by rfl) 36 _ _ (by rfl) (w.heap.size + 1) 0 (encP P).toArray (by rfl) (by rfl) hth hj13 ho13 ?_))
  have z2 : y2.heap[w.heap.size + 1]? = some (.cells (encP zeroPV).toArray 36 (0, 0)) := (hb5.out.block _ (heapH_lt z0.out)).trans z0.out
  have hz := heap_setCells_all (t := 36) (vs := encP P) z2 rfl
  refine bodyPost_ret (results_cell_tmp_row rfl _ _ (w.heap.size + 1) 36 (encP P).toArray (0, 0) _ rfl rfl hz infoProp) rfl ?_
  exact ⟨below_setC (hb2.out.trans (hb5.out.mono hb2.out.size)) (by omega) _ _, rfl⟩
theorem c_ROwn {w : World} {f : Nat → Nat} {rb : Nat} {lim : Int} {R : List OB} (hN : Norm f w) (h : RefO w f rb lim R) (hR : ∀ a ∈ R, a.l.length ≤ 100000) (o : Int) (k : KK) (hk : okK k) :
    Calls Tryz.prog 14 #[ptrV rb, .int .i64 o, keyV k.1 k.2] w fun e w' => Below w.heap.size w w' ∧ e = .returned (tellV (ownH R o (pk k))) := by
  cases hp : placeH R o (pk k) with
  | none =>
    have : ownH R o (pk k) = none := by
      have := place_own R o (pk k)
      rw [hp] at this
      cases ho : ownH R o (pk k) with
      | none => rfl
      | some p => rw [ho] at this; cases this
    rw [this]
    exact c_ROwnN hN h hR o k hk hp
  | some i =>
    rcases objH_cases R o with ⟨h1, h2⟩ | ⟨n, a, rfl, h0, ha, h3, h4⟩
    · unfold placeH at hp; rw [h2] at hp; cases hp
    · have e1 : ownH R (n : Int) (pk k) = getL a.l (pk k) := by unfold ownH; rw [h3]; rfl
      have e2 : idx (gk a.l) (pk k) = some i := by unfold placeH at hp; rw [h3] at hp; exact hp
      rw [e1]
      exact c_ROwnT hN h hR n a h0 ha k hk i e2
end Go.Proofs.YtoccmiinkfhohaaGreat
namespace Go.Proofs.YtoccmiinkfhohaaGreat
open Go.RowKit Go.Shelf Go.Lib Go.Sort Go.Proofs Go.Maps
set_option maxHeartbeats 4000000
set_option maxRecDepth 100000

def rawK (r : List (KK × PV)) : List KK := r.map Prod.fst
theorem rawK_next {r : List (KK × PV)} {i : Nat} {x : KK × PV} (h : r[i]? = some x) : rawK (r.take (i + 1)) = rawK (r.take i) ++ [x.1] := by
  unfold rawK
  rw [take_get h, List.map_append]; rfl
theorem c_RKeys0F {w : World} {f : Nat → Nat} {rb : Nat} {lim : Int} {R : List OB} (h : RefO w f rb lim R) (o : Int) (ho : hasH R o = false) :
    Calls Tryz.prog 43 #[ptrV rb, .int .i64 o] w fun e w' => ∃ v Z, e = .returned v ∧ RdK w' v Z ∧ KeysOf [] Z ∧ Below w.heap.size w w' ∧ ∀ p n c, v = .slice (some p) (n + 1) c → w.heap.size ≤ p.block := by
  have hH := c_RHas h o
  rw [ho] at hH
  have hO := c_Order4F (.slice none 0 0) [] (by simp) (fun x hx => by cases hx) w (.inl ⟨rfl, rfl⟩)
  replace hH := Lib.hid hH
  replace hO := Lib.hid hO
  clear h ho
  go_enter Tryz.func43, Tryz.ntmps43
  go_wp2_with (first | (go_at_call 32; refine hH.out.mono ?_; rintro e w1 ⟨rfl, e1⟩; cases e1) | (go_at_call 55; refine hO.out.mono ?_; rintro e w2 ⟨v', Z, rfl, z1, z2, z3, z4, z5⟩; replace z1 := Lib.hid z1; replace z2 := Lib.hid z2; replace z3 := Lib.hid z3; replace z4 := Lib.hid z4; replace z5 := Lib.hid z5))
  go_ret
  exact ⟨v', Z, rfl, z1.out, ⟨[], rfl, z2.out, z3.out, fun x hx => by have := eqv_mem z3.out hx; cases this⟩, z4.out, z5.out⟩
theorem c_RKeys1F {w : World} {f : Nat → Nat} {rb : Nat} {lim : Int} {R : List OB} (h : RefO w f rb lim R) (o : Nat) (a : OB) (h0 : 0 < o) (ho : R[o - 1]? = some a) (hal : a.l.length ≤ 100000) :
    Calls Tryz.prog 43 #[ptrV rb, .int .i64 (o : Int)] w fun e w' => ∃ v Z, e = .returned v ∧ RdK w' v Z ∧ KeysOf (gk a.l) Z ∧ Below w.heap.size w w' ∧ ∀ p n c, v = .slice (some p) (n + 1) c → w.heap.size ≤ p.block := by
  have hH := c_RHas h (o : Int)
  rw [hasH_of h0 ho] at hH
  obtain ⟨g, c, sv, ⟨_, c1⟩, ⟨l1, l2, _⟩, _, hs, ⟨p1, p2⟩, ⟨_, _, _, d3⟩, _, _⟩ := h.upd h0 ho
  obtain ⟨r, r1, r2, r3⟩ := hs
  obtain ⟨q, cp, rfl, hq⟩ := SlotsO.form r1
  have hel : r.length ≤ 100000 := by rw [← List.length_map (f := fun x : KK × PV => (pk x.1, x.2)), r2]; exact hal
  have hgk : (rawK r).map pk = gk a.l := by rw [← r2]; unfold gk rawK; rw [List.map_map, List.map_map]; rfl
  have rr : ∀ (i : Nat) x, r[i]? = some x → ∃ g2, q = some ⟨g2, 0, none⟩ ∧ g2 < w.heap.size ∧ w.rangeAt g2 (i * 15) (encL x) := by
    intro i x hx
    obtain ⟨g2, e1, e2⟩ := hq (by have := (List.getElem?_eq_some_iff.1 hx).1; omega)
    subst e1
    obtain ⟨g3, cap, e3, _, _⟩ := r1.1.form (by have := (List.getElem?_eq_some_iff.1 hx).1; omega)
    injection e3 with e3 e4 e5
    injection e3 with e3
    injection e3 with e3
    subst e3
    subst e5
    exact ⟨_, rfl, e2, rangeL r1.1 hx⟩
  have hokR : ∀ x ∈ rawK r, okK x := fun x hx => by
    obtain ⟨y, hy, rfl⟩ := List.mem_map.1 hx
    exact r3 y hy
  obtain ⟨i0, hi0, hz0, hz1, hz2⟩ := info_parts infoKey
  have hkO : ∀ (y : World) (v : Value), RdK y v (rawK r) → Calls Tryz.prog 55 #[v] y fun e w' => ∃ v' Z, e = .returned v' ∧ RdK w' v' Z ∧ KeysOf (gk a.l) Z ∧ Below y.heap.size y w' ∧ ∀ p n c, v' = .slice (some p) (n + 1) c → y.heap.size ≤ p.block := by
    intro y v k1
    refine (c_Order4F v (rawK r) (by unfold rawK; rw [List.length_map]; omega) (fun x hx => (hokR x hx).1) y k1).mono ?_
    rintro e w' ⟨v', Z, rfl, z1, z2, z3, z4, z5⟩
    exact ⟨v', Z, rfl, z1, ⟨rawK r, hgk, z2, z3, fun x hx => hokR x (eqv_mem z3 hx)⟩, z4, z5⟩
  unfold ptrV
  replace hH := Lib.hid hH
  replace rr := Lib.hid rr
  replace hkO := Lib.hid hkO
  clear h ho r1 r2 r3 hq hal hgk hokR
  go_enter Tryz.func43, Tryz.ntmps43
  go_wp2_with (first | (go_at_call 32; refine hH.out.mono ?_; rintro e w1 ⟨rfl, e1⟩; cases e1))
  go_loopw [5, 20] (fun v vi wr => ∃ i : Nat, i ≤ r.length ∧ vi = .int .i64 (i : Int) ∧ wr.ownsRow w.heap.size 31 2 v (rawK (r.take i)).length (flatK (rawK (r.take i))) ∧ Below w.heap.size w wr) (fun _ vi _ => r.length - (intOf vi).toNat)
  case atStart => exact ⟨0, by omega, rfl, ⟨rfl, .inl ⟨rfl, rfl⟩⟩, Below.refl _ _⟩
  case round =>
    obtain ⟨i, hi, rfl, hown, hbel⟩ := hrel
    rcases Nat.lt_or_ge i r.length with hlt | hge
    · obtain ⟨x, hx⟩ : ∃ x, r[i]? = some x := ⟨_, List.getElem?_eq_getElem hlt⟩
      obtain ⟨g2, rfl, lg2, hrg⟩ := rr.out i x hx
      replace hrg := range_at hrg (hbel.block g2 lg2)
      have hi15 : (Tryz.prog.info? 106).map (·.size) = some (encL x).length := infoSlotL
      have hj15 : (Tryz.prog.info? 106).map (·.size) = some (encL x).toArray.size := infoSlotL
      have ho15 := all_oneCell_toArray (encL_one x)
      have q1 : (0 : Int) ≤ (i : Int) := by omega
      have q2 : (i : Int) < (r.length : Int) := by omega
      have hfs := fresh_cellsL (w := wr) x
      have hth : (wr.alloc (.cells zeroL 106)).there wr.heap.size 0 (encL x).toArray.size := zeroL_there wr
      have htk := rawK_next hx
      have hlk : (rawK (r.take i)).length ≤ i := by unfold rawK; rw [List.length_map]; exact List.length_take_le _ _
      have hsz := hbel.size
      obtain ⟨⟨k0, kn⟩, px⟩ := x
      dsimp only at *
      generalize encL ((k0, kn), px) = E at *
      replace hfs := Lib.hid hfs
      replace htk := Lib.hid htk
      replace hlk := Lib.hid hlk
      replace hown := Lib.hid hown
      replace hbel := Lib.hid hbel
      clear hx hH
      have tokA : True := trivial
      have tokB : True := trivial
      go_wp2_with (first | (clear tokA; refine wpList_load_mid rfl 106 (.tmp 22) rfl g2 (i * 15) rfl E _ hrg Tryz.underlying106 rfl hi15 ?_) | (clear tokB; refine wpList_store_mid rfl 106 (.tmp 7) (.tmp 23) rfl wr.heap.size 0 E.toArray rfl rfl hth hj15 ho15 ?_; obtain ⟨hb4, d0, d1⟩ := hfs.out; generalize hW4 : World.setCells _ _ _ _ = W4; rw [show (wr.alloc (.cells zeroL 106)).setCells wr.heap.size 0 E = W4 from hW4] at hb4 d0 d1; clear hW4 hth hrg; have hown4 := own_at hown.out fun r hr => hb4.block r (hown.out.lt r hr).2; have hs4 := Nat.le_trans hsz hb4.size; replace hb4 := Lib.hid hb4) | (at_builtin; refine wpList_append_lies _ (by rfl) _ _ _ (by rfl) w.heap.size 31 i0 _ 2 24 Tryz.underlying56 hi0 hz0 hz1 hz2 rfl (by omega) u5 (rawK (r.take i)).length (flatK (rawK (r.take i))) (by rfl) (hown4.alloc _) ⟨_, 0, none⟩ 1 1 [.string k0, .int .i64 kn] (by rfl) (by rfl) (World.news_of_block (cs := #[.string k0, .int .i64 kn]) (t := 31) (fr := (0, 0)) (by exact heap_alloc_new _ _)) (by simp [Value.oneCell']) (by omega) (by have := hlk.out; unfold maxLen; omega) (by have := hlk.out; omega) (by simp; omega) _ rfl ?_; intro gg cap w5 hown5 hgrow hat hlt5; have hbel5 := Lib.hid (((hbel.out.trans (hb4.out.mono hsz)).alloc hs4 _).grown hgrow (by simp; omega) (own_base hown.out)); clear hgrow hat hlt5))
      go_roundw
      case rel =>
        refine ⟨i + 1, by omega, by go_num, ?_, hbel5.out⟩
        rw [htk.out]
        simpa [flatK_app, flatK, encK] using hown5
      case measure => simp [intOf]; omega
    · obtain rfl : i = r.length := by omega
      rw [List.take_length] at hown
      have hrd := own_rdk hown
      replace hrd := Lib.hid hrd
      replace hbel := Lib.hid hbel
      clear hown hH
      go_wp2_with (first | (go_at_call 55; refine (hkO.out _ _ hrd.out).mono ?_; rintro e w2 ⟨v', Z, rfl, z1, z2, z4, z5⟩; replace z1 := Lib.hid z1; replace z2 := Lib.hid z2; replace z4 := Lib.hid z4; replace z5 := Lib.hid z5))
      go_ret
      exact ⟨_, Z, rfl, z1.out, z2.out, hbel.out.trans (z4.out.mono hbel.out.size), fun p n c h => Nat.le_trans hbel.out.size (z5.out p n c h)⟩
theorem c_RKeysF {w : World} {f : Nat → Nat} {rb : Nat} {lim : Int} {R : List OB} (h : RefO w f rb lim R) (hR : ∀ a ∈ R, a.l.length ≤ 100000) (o : Int) :
    Calls Tryz.prog 43 #[ptrV rb, .int .i64 o] w fun e w' => ∃ v Z, e = .returned v ∧ RdK w' v Z ∧ KeysOf (gk (listH R o)) Z ∧ Below w.heap.size w w' ∧ ∀ p n c, v = .slice (some p) (n + 1) c → w.heap.size ≤ p.block := by
  unfold listH
  rcases objH_cases R o with ⟨h1, h2⟩ | ⟨n, a, rfl, h0, ha, h3, h4⟩
  · rw [h2]
    exact c_RKeys0F h o h1
  · rw [h3]
    exact c_RKeys1F h n a h0 ha (hR a (List.mem_of_getElem? ha))
theorem c_RKeys {w : World} {f : Nat → Nat} {rb : Nat} {lim : Int} {R : List OB} (h : RefO w f rb lim R) (hR : ∀ a ∈ R, a.l.length ≤ 100000) (o : Int) :
    Calls Tryz.prog 43 #[ptrV rb, .int .i64 o] w fun e w' => ∃ v Z, e = .returned v ∧ RdK w' v Z ∧ KeysOf (gk (listH R o)) Z ∧ Below w.heap.size w w' :=
  (c_RKeysF h hR o).mono fun _ _ ⟨v, Z, h1, h2, h3, h4, _⟩ => ⟨v, Z, h1, h2, h3, h4⟩
end Go.Proofs.YtoccmiinkfhohaaGreat
namespace Go.Proofs.YtoccmiinkfhohaaGreat
open Go.RowKit Go.Shelf Go.Lib Go.Sort Go.Proofs Go.Maps
set_option maxHeartbeats 4000000
set_option maxRecDepth 100000

theorem rmake_done {w w5 : World} {f : Nat → Nat} {rb gg cap n : Nat} {lim cls pro : Int} {R : List OB} {rv : Value} {xs : List RO} {sb : Obj} (hN : Norm f w) (h1 : w.heap[rb]? = some (.cells #[.int .i64 lim, rv] 69 (0, 0)) ∧ f rb = 6) (h2 : RowO w f 7 109 4 rv xs.length (flatR xs)) (h3 : xs.map Prod.fst = zeroOB :: R) (h4 : ∀ x ∈ xs, SlotsO w f x.2 x.1.l)
    {Y : World} (hY : Below w.heap.size w Y) (hg : (Y.alloc sb).grownBy w5 rv.ownBlock) (hat : rv.ownBlock = some gg ∨ Y.heap.size ≤ gg) (hn : n = xs.length)
    (hown : w5.ownsRow 0 109 4 (.slice (some ⟨gg, 0, none⟩) (n + 1) cap) (n + 1) (flatR xs ++ [.int .i64 cls, .int .i64 pro, .bool false, .slice none 0 0])) :
    RefT w f rb lim (R ++ [⟨cls, pro, false, false, []⟩]) (w5.setCell ⟨rb, 1, none⟩ (.slice (some ⟨gg, 0, none⟩) (n + 1) cap)) := by
  subst hn
  have s1 : (Y.alloc sb).heap.size = Y.heap.size + 1 := by simp
  have k5 : ∀ r, r < w.heap.size → (∀ k, rv.ownBlock = some k → r ≠ k) → w5.heap[r]? = w.heap[r]? := fun r hr hk => by
    have h' := hY.size
    rw [hg.block r (by omega) (fun e => hk r e.symm rfl), Below.heap_alloc _ _ _ (by omega)]
    exact hY.block r hr
  have t1 : Turn (fun c => c = 7) f (give f w w5 (fun r => if r = gg then 7 else 0)) w w5 := (Turn.refl _ hN).give _ (hg.os.trans hY.os) (hg.tape.trans hY.tape) (hg.output.trans hY.output) (Nat.le_trans hY.size (by have := hg.size; omega)) (fun r hr hc => k5 r hr (fun k hk e => hc (by rw [e]; exact h2.2 k hk)))
  have lr := heapH_lt h1.1
  have f1 : give f w w5 (fun r => if r = gg then 7 else 0) rb = 6 := by rw [give_old lr]; exact h1.2
  have f3 : give f w w5 (fun r => if r = gg then 7 else 0) gg = 7 := by
    rcases hat with h | h
    · rw [give_old (h2.1.lt gg h).2]; exact h2.2 gg h
    · rw [give_new (Nat.le_trans hY.size h) ((hown.lt gg rfl).2)]; simp
  have nf := row_not h2.1 h1.1 (by decide)
  have ng : gg ≠ rb := fun e => by have h := f1; rw [← e, f3] at h; omega
  have b5 : w5.heap[rb]? = some (.cells #[.int .i64 lim, rv] 69 (0, 0)) := (k5 rb lr (fun k hk e => nf (by rw [hk, e]))).trans h1.1
  generalize give f w w5 (fun r => if r = gg then 7 else 0) = f' at *
  have t2 : Turn (fun c => c = 6) f' f' w5 (w5.setCell ⟨rb, 1, none⟩ (.slice (some ⟨gg, 0, none⟩) (xs.length + 1) cap)) := (Turn.refl _ t1.norm).set rb 1 _ f1
  have tt : Turn (fun c => c = 6 ∨ c = 7) f f' w (w5.setCell ⟨rb, 1, none⟩ (.slice (some ⟨gg, 0, none⟩) (xs.length + 1) cap)) := (t1.mono fun _ h => .inr h).trans (t2.mono fun _ h => .inl h)
  refine ⟨f', tt, .slice (some ⟨gg, 0, none⟩) (xs.length + 1) cap, xs ++ [(⟨cls, pro, false, false, []⟩, .slice none 0 0)], ⟨?_, f1⟩, ⟨?_, ?_⟩, ?_, ?_⟩
  · rw [heap_setCell_same w5 rb 1 _ _ _ b5]; rfl
  · have ee : flatR (xs ++ [(⟨cls, pro, false, false, []⟩, .slice none 0 0)]) = flatR xs ++ [.int .i64 cls, .int .i64 pro, .bool false, .slice none 0 0] := by simp [flatR, encR]
    rw [ee, List.length_append]
    exact own_at hown fun r hr => by
      injection hr with hr; subst hr
      exact Below.heap_setCell _ _ _ _ ng
  · intro r hr
    injection hr with hr
    change gg = r at hr
    subst hr
    exact f3
  · rw [List.map_append, h3]; rfl
  · intro x hx
    rcases List.mem_append.1 hx with h | h
    · exact (h4 x h).turn tt (by omega)
    · obtain rfl : x = (⟨cls, pro, false, false, []⟩, .slice none 0 0) := by simpa using h
      exact SlotsO.nil _ _
theorem c_RMakeR {w : World} {f : Nat → Nat} {rb : Nat} {lim : Int} {R : List OB} (_ : RefO w f rb lim R) (cls pro : Int) (hc : cls < 0 ∨ 6 < cls) :
    Calls Tryz.prog 25 #[ptrV rb, .int .i64 cls, .int .i64 pro] w fun e w' => e = .returned (.tuple #[.int .i64 0, .int .i64 1]) ∧ w' = w := by
  unfold ptrV at *
  rcases hc with hc | hc
  · go_enter Tryz.func25, Tryz.ntmps25
    go_wp2
    go_ret2
    exact ⟨rfl, rfl⟩
  · have h1 : ¬ cls < 0 := by omega
    go_enter Tryz.func25, Tryz.ntmps25
    go_wp2
    go_ret2
    exact ⟨rfl, rfl⟩
theorem c_RMakeP {w : World} {f : Nat → Nat} {rb : Nat} {lim : Int} {R : List OB} (h : RefO w f rb lim R) (cls pro : Int) (hc0 : 0 ≤ cls) (hc6 : cls ≤ 6) (hp : pro ≠ 0) (hp2 : hasH R pro = false) :
    Calls Tryz.prog 25 #[ptrV rb, .int .i64 cls, .int .i64 pro] w fun e w' => e = .returned (.tuple #[.int .i64 0, .int .i64 151]) ∧ w' = w := by
  have hH := c_RHas h pro
  rw [hp2] at hH
  have hpe : (pro == 0) = false := by simpa using hp
  have hpn : (pro != 0) = true := by simpa using hp
  have h1 : ¬ cls < 0 := by omega
  have h2 : ¬ 6 < cls := by omega
  unfold ptrV at *
  replace hH := Lib.hid hH
  clear h hp hp2
  go_enter Tryz.func25, Tryz.ntmps25
  go_wp2_with (go_at_call 32; refine hH.out.mono ?_; rintro e w1 ⟨rfl, rfl⟩)
  go_ret2
  exact ⟨rfl, rfl⟩
theorem c_RMakeLT {w : World} {f : Nat → Nat} {rb : Nat} {lim : Int} {R : List OB} (hN : Norm f w) (h : RefO w f rb lim R) (hu : usedH R ≤ 100000) (cls pro : Int) (hc0 : 0 ≤ cls) (hc6 : cls ≤ 6) (hp : pro = 0 ∨ hasH R pro = true) :
    Calls Tryz.prog 25 #[ptrV rb, .int .i64 cls, .int .i64 pro] w fun e w' => (lim ≤ (usedH R : Int) → e = .returned (.tuple #[.int .i64 0, .int .i64 150]) ∧ Below w.heap.size w w') ∧
      ((usedH R : Int) < lim → e = .returned (.tuple #[.int .i64 ((R.length + 1 : Nat) : Int), .int .i64 0]) ∧ RefT w f rb lim (R ++ [⟨cls, pro, false, false, []⟩]) w') := by
  have hH := c_RHas h pro
  have hU := fun y (hy : Below w.heap.size w y) => c_RUsed (h.below hN hy) hu
  obtain ⟨rv, xs, x1, x2, x3, x4⟩ := h
  have hxl : xs.length = R.length + 1 := by have := congrArg List.length x3; simpa using this
  obtain ⟨g, cp, rfl, _, lg⟩ := x2.1.form (by omega)
  have h1 : ¬ cls < 0 := by omega
  have h2 : ¬ 6 < cls := by omega
  have c0 : w.cell? ⟨rb, 0, none⟩ = some (.int .i64 lim) := by rw [cell_of_row _ _ 0 _ _ _ x1.1]; rfl
  obtain ⟨i0, hi0, hz0, hz1, hz2⟩ := info_parts info4R
  have lr := heapH_lt x1.1
  have hnb := row_not x2.1 x1.1 (by decide)
  have hul : R.length ≤ 100000 := by unfold usedH at hu; omega
  have hm1 : xs.length + 1 ≤ maxLen ∧ (xs.length + 1) * 48 ≤ 140737488355328 := by unfold maxLen; omega
  have hdone := fun (w5 Y : World) (gg cap : Nat) (sb : Obj) (hY : Below w.heap.size w Y) hg hat hown => rmake_done (w5 := w5) (gg := gg) (cap := cap) (cls := cls) (pro := pro) (sb := sb) (n := xs.length) (Y := Y) hN x1 x2 x3 x4 hY hg hat rfl hown
  have hl1 : ((xs.length + 1 : Nat) : Int) - 1 = ((R.length + 1 : Nat) : Int) := by omega
  have p0u : (0 : Int) ≤ (xs.length : Int) := by omega
  have p1u : (xs.length : Int) ≤ 100001 := by omega
  have hst := onto_drew w
  unfold ptrV at *
  replace hU := Lib.hid hU
  replace hdone := Lib.hid hdone
  replace x1 := Lib.hid x1
  replace x2 := Lib.hid x2
  replace hnb := Lib.hid hnb
  replace hm1 := Lib.hid hm1
  replace hxl := Lib.hid hxl
  clear x3 x4 hN hu hul
  by_cases hpz : pro = 0
  · subst hpz
    clear hH hp
    go_enter Tryz.func25, Tryz.ntmps25
    go_wp2_with fail
    go_region_held3 (fun y => (∀ a : Addr, a.block < w.heap.size → y.cell? a = w.cell? a) ∧ (∀ b : Nat, b < w.heap.size → y.heap[b]? = w.heap[b]?) ∧ Below w.heap.size w y) (first | with_reducible assumption | with_reducible exact hst | with_reducible exact onto_below (by assumption) (by assumption)) (first | (go_at_call 33; refine (hU.out _ (And.right (And.right (by assumption)))).mono ?_; rintro e y2 ⟨rfl, hb5⟩))
    have hbw : Below w.heap.size w y2 := (Below.refl w.heap.size w).drew.trans (hb5.mono (Nat.le_refl _))
    have b2 : y2.heap[rb]? = _ := (hbw.block rb lr).trans x1.out.1
    have c1 : y2.cell? ⟨rb, 1, none⟩ = some (.slice (some ⟨g, 0, none⟩) xs.length cp) := by rw [cell_of_row _ _ 1 _ _ _ b2]; rfl
    have f1 : y2.frozen? ⟨rb, 1, none⟩ = false := by simp [World.frozen?, b2]
    have l2 := heapH_lt b2
    have hrow := own_at x2.out.1 fun r hr => hbw.block r (x2.out.1.lt r hr).2
    replace b2 := Lib.hid b2
    replace hrow := Lib.hid hrow
    replace hbw := Lib.hid hbw
    clear hb5 hst lr
    cases hdl : decide (lim ≤ (usedH R : Int)) with
    | true =>
      have hlim : lim ≤ (usedH R : Int) := of_decide_eq_true hdl
      replace hlim := Lib.hid hlim
      go_wp2_with fail
      go_ret2
      exact ⟨fun _ => ⟨rfl, hbw.out⟩, fun h => by have := hlim.out; omega⟩
    | false =>
      have hlim : ¬ lim ≤ (usedH R : Int) := of_decide_eq_false hdl
      replace hlim := Lib.hid hlim
      go_wp2_with (first | (at_builtin; go_loud (refine wpList_append_lies _ (by rfl) _ _ _ (by rfl) 0 109 i0 _ 4 48 Tryz.underlying67 hi0 hz0 hz1 hz2 rfl (by omega) (.slice (some ⟨g, 0, none⟩) xs.length cp) xs.length (flatR xs) (by rfl) (hrow.out.alloc _) ⟨_, 0, none⟩ 1 1 [.int .i64 cls, .int .i64 0, .bool false, .slice none 0 0] (by simp [Act.eval]; rfl) (by rfl) (World.news_of_block (cs := #[.int .i64 cls, .int .i64 0, .bool false, .slice none 0 0]) (t := 109) (fr := (0, 0)) (by exact heap_alloc_new y2 _)) (by simp [Value.oneCell']) (by omega) hm1.out.1 hm1.out.2 (by simp) _ rfl ?_; intro gg cap w5 hown5 hgrow hat hlt5; obtain ⟨hc5, hf5⟩ := tb_after2 c1 f1 l2 hnb.out hgrow; replace hat := Lib.hid hat; replace hown5 := Lib.hid hown5; replace hgrow := Lib.hid hgrow)))
      go_ret2
      have hat2 : (Value.slice (some ⟨g, 0, none⟩) xs.length cp).ownBlock = some gg ∨ y2.heap.size ≤ gg := by
        rcases hat.out with h | h
        · exact .inl h
        · exact .inr (by simp at h; omega)
      exact ⟨fun h => by have := hlim.out; omega, fun _ => ⟨by have e := hxl.out; show Ending.returned (.tuple #[.int .i64 (xs.length : Int), .int .i64 0]) = _; rw [e]; first | rfl | simp | (push_cast; rfl), hdone.out _ _ _ _ _ hbw.out hgrow.out hat2 hown5.out⟩⟩
  · have hp' : hasH R pro = true := by rcases hp with h | h; exact absurd h hpz; exact h
    rw [hp'] at hH
    have hpe : (pro == 0) = false := by simpa using hpz
    have hpn : (pro != 0) = true := by simpa using hpz
    replace hH := Lib.hid hH
    clear hp hp' hpz
    go_enter Tryz.func25, Tryz.ntmps25
    go_wp2_with (go_at_call 32; refine hH.out.mono ?_; rintro e w1 ⟨rfl, e1⟩; cases e1)
    go_region_held3 (fun y => (∀ a : Addr, a.block < w.heap.size → y.cell? a = w.cell? a) ∧ (∀ b : Nat, b < w.heap.size → y.heap[b]? = w.heap[b]?) ∧ Below w.heap.size w y) (first | with_reducible assumption | with_reducible exact hst | with_reducible exact onto_below (by assumption) (by assumption)) (first | (go_at_call 33; refine (hU.out _ (And.right (And.right (by assumption)))).mono ?_; rintro e y2 ⟨rfl, hb5⟩))
    have hbw : Below w.heap.size w y2 := (Below.refl w.heap.size w).drew.trans (hb5.mono (Nat.le_refl _))
    have b2 : y2.heap[rb]? = _ := (hbw.block rb lr).trans x1.out.1
    have c1 : y2.cell? ⟨rb, 1, none⟩ = some (.slice (some ⟨g, 0, none⟩) xs.length cp) := by rw [cell_of_row _ _ 1 _ _ _ b2]; rfl
    have f1 : y2.frozen? ⟨rb, 1, none⟩ = false := by simp [World.frozen?, b2]
    have l2 := heapH_lt b2
    have hrow := own_at x2.out.1 fun r hr => hbw.block r (x2.out.1.lt r hr).2
    replace b2 := Lib.hid b2
    replace hrow := Lib.hid hrow
    replace hbw := Lib.hid hbw
    clear hb5 hst lr
    cases hdl : decide (lim ≤ (usedH R : Int)) with
    | true =>
      have hlim : lim ≤ (usedH R : Int) := of_decide_eq_true hdl
      replace hlim := Lib.hid hlim
      go_wp2_with fail
      go_ret2
      exact ⟨fun _ => ⟨rfl, hbw.out⟩, fun h => by have := hlim.out; omega⟩
    | false =>
      have hlim : ¬ lim ≤ (usedH R : Int) := of_decide_eq_false hdl
      replace hlim := Lib.hid hlim
      go_wp2_with (first | (at_builtin; go_loud (refine wpList_append_lies _ (by rfl) _ _ _ (by rfl) 0 109 i0 _ 4 48 Tryz.underlying67 hi0 hz0 hz1 hz2 rfl (by omega) (.slice (some ⟨g, 0, none⟩) xs.length cp) xs.length (flatR xs) (by rfl) (hrow.out.alloc _) ⟨_, 0, none⟩ 1 1 [.int .i64 cls, .int .i64 pro, .bool false, .slice none 0 0] (by simp [Act.eval]; rfl) (by rfl) (World.news_of_block (cs := #[.int .i64 cls, .int .i64 pro, .bool false, .slice none 0 0]) (t := 109) (fr := (0, 0)) (by exact heap_alloc_new y2 _)) (by simp [Value.oneCell']) (by omega) hm1.out.1 hm1.out.2 (by simp) _ rfl ?_; intro gg cap w5 hown5 hgrow hat hlt5; obtain ⟨hc5, hf5⟩ := tb_after2 c1 f1 l2 hnb.out hgrow; replace hat := Lib.hid hat; replace hown5 := Lib.hid hown5; replace hgrow := Lib.hid hgrow)))
      go_ret2
      have hat2 : (Value.slice (some ⟨g, 0, none⟩) xs.length cp).ownBlock = some gg ∨ y2.heap.size ≤ gg := by
        rcases hat.out with h | h
        · exact .inl h
        · exact .inr (by simp at h; omega)
      exact ⟨fun h => by have := hlim.out; omega, fun _ => ⟨by have e := hxl.out; show Ending.returned (.tuple #[.int .i64 (xs.length : Int), .int .i64 0]) = _; rw [e]; first | rfl | simp | (push_cast; rfl), hdone.out _ _ _ _ _ hbw.out hgrow.out hat2 hown5.out⟩⟩
theorem c_RMake {w : World} {f : Nat → Nat} {rb : Nat} {lim : Int} {R : List OB} (hN : Norm f w) (h : RefO w f rb lim R) (hu : usedH R ≤ 100000) (cls pro : Int) :
    Calls Tryz.prog 25 #[ptrV rb, .int .i64 cls, .int .i64 pro] w fun e w' => e = .returned (.tuple #[.int .i64 (makeN R lim cls pro), .int .i64 (makeE R lim cls pro)]) ∧ RefT w f rb lim (makeH false R lim cls pro) w' := by
  by_cases h1 : cls < 0 ∨ 6 < cls
  · have e1 : makeE R lim cls pro = 1 := by unfold makeE; rw [if_pos h1]
    unfold makeN makeH
    rw [e1]
    refine (c_RMakeR h cls pro h1).mono ?_
    rintro e w' ⟨rfl, rfl⟩
    exact ⟨rfl, RefT.same hN h (Below.refl _ _)⟩
  · by_cases h2 : pro ≠ 0 ∧ hasH R pro = false
    · have e1 : makeE R lim cls pro = 151 := by unfold makeE; rw [if_neg h1, if_pos h2]
      unfold makeN makeH
      rw [e1]
      refine (c_RMakeP h cls pro (by omega) (by omega) h2.1 h2.2).mono ?_
      rintro e w' ⟨rfl, rfl⟩
      exact ⟨rfl, RefT.same hN h (Below.refl _ _)⟩
    · have hp : pro = 0 ∨ hasH R pro = true := by
        by_cases e : pro = 0
        · exact .inl e
        · exact .inr (by cases hh : hasH R pro; exact absurd ⟨e, hh⟩ h2; rfl)
      refine (c_RMakeLT hN h hu cls pro (by omega) (by omega) hp).mono ?_
      rintro e w' ⟨k1, k2⟩
      by_cases h3 : lim ≤ (usedH R : Int)
      · have e1 : makeE R lim cls pro = 150 := by unfold makeE; rw [if_neg h1, if_neg h2, if_pos h3]
        unfold makeN makeH
        rw [e1]
        obtain ⟨rfl, hb⟩ := k1 h3
        exact ⟨rfl, RefT.same hN h hb⟩
      · have e1 : makeE R lim cls pro = 0 := by unfold makeE; rw [if_neg h1, if_neg h2, if_neg h3]
        unfold makeN makeH
        rw [e1]
        obtain ⟨rfl, ht⟩ := k2 (by omega)
        exact ⟨rfl, ht⟩
end Go.Proofs.YtoccmiinkfhohaaGreat
namespace Go.Proofs.YtoccmiinkfhohaaGreat
open Go.RowKit Go.Shelf Go.Lib Go.Sort Go.Proofs Go.Maps
set_option maxHeartbeats 4000000
set_option maxRecDepth 100000

theorem infoSlot15 : (Tryz.prog.info? 106).map (fun i => (i.zero, i.size, i.bytes)) = some (some (.agg #[.string ⟨#[]⟩, .int .i64 0, .int .i64 0, .float .f64 0, .string ⟨#[]⟩, .int .i64 0, .int .i64 0, .float .f64 0, .string ⟨#[]⟩, .int .i64 0, .int .i64 0, .float .f64 0, .string ⟨#[]⟩, .int .i64 0, .int .i64 0]), 15, 152) := by kernel_rfl
theorem slots_run {y : World} {B n m c : Nat} {v : Value} {xs news : List Value} {q : Option Addr} (ty : TypeId) (hr : y.ownsRow B 106 15 v n xs) (hB : B ≤ y.heap.size) (hq : q = none → m = 0 ∧ c = 0) (hsrc : ∀ ad, q = some ad → ∀ j u, news[j]? = some u → y.cell? (ad.add j) = some u) (hl : news.length = m * 15) (h1 : ∀ u ∈ news, u.oneCell' = true) (hm : n + m ≤ 200000) :
    ∃ v' w', (Builtin.append_ #[107, 107] ty #[v, .slice q m c]).run Tryz.prog y = .ok v' w' ∧ w'.ownsRow B 106 15 v' (n + m) (xs ++ news) ∧ Below B y w' := by
  obtain ⟨i0, hi0, hz0, hz1, hz2⟩ := info_parts infoSlot15
  cases q with
  | none =>
    obtain ⟨rfl, rfl⟩ := hq rfl
    obtain rfl : news = [] := List.eq_nil_of_length_eq_zero (by simpa using hl)
    refine ⟨v, y, run_append_owned_none (P := Tryz.prog) y B 107 ty 106 i0 15 Tryz.underlying107 hi0 v n xs hr, by simpa using hr, Below.refl _ _⟩
  | some ad =>
    obtain ⟨v', w', e1, e2, e3, _⟩ := run_append_own (P := Tryz.prog) y B 107 ty 106 i0 _ 15 152 Tryz.underlying107 hi0 hz0 hz1 hz2 rfl (by omega) v n xs hr ad m c news hl (hsrc ad rfl) h1 (by unfold maxLen; omega) (by omega) hB
    refine ⟨v', w', e1, e2, e3.os, e3.tape, e3.output, e3.size, fun r hr' => e3.block r (by omega) (fun e => ?_)⟩
    have := (hr.lt r e.symm).1
    omega
/-- the append of a list of slots, in a plain region -/
theorem slots_list {ops : Array Oper} {rest : List Oper} {o : Oper} {a : Act} {y : World} {Q : Exit → Act → World → Prop} (hgd : o.guard = none) (s x : Operand) (hop : o.op = .call { callee := .builtin .append, args := #[s, x], argTypes := #[107, 107] })
    {B n m c : Nat} {v : Value} {xs news : List Value} {q : Option Addr} (hs : a.eval s = v) (hx : a.eval x = .slice q m c) (hr : y.ownsRow B 106 15 v n xs) (hB : B ≤ y.heap.size) (hq : q = none → m = 0 ∧ c = 0) (hsrc : ∀ ad, q = some ad → ∀ j u, news[j]? = some u → y.cell? (ad.add j) = some u) (hl : news.length = m * 15) (h1 : ∀ u ∈ news, u.oneCell' = true) (hm : n + m ≤ 200000)
    (h : ∀ v' w', w'.ownsRow B 106 15 v' (n + m) (xs ++ news) → Below B y w' → wpList Tryz.prog ops Q rest (a.put o.dst v') w') : wpList Tryz.prog ops Q (o :: rest) a y := by
  refine wpList_plain hgd fun K hK => ?_
  obtain ⟨v', w', hrun, e2, e3⟩ := slots_run o.type hr hB hq hsrc hl h1 hm
  unfold Oper.wp
  simp [execOp, hop, resolve, invoke, builtin, hs, hx, hrun, Result.andThen]
  exact hK _ _ (h v' w' e2 e3)
/-- .. at a step of a region that draws its order -/
theorem slots_step {ops : Array Oper} {o : Oper} {a : Act} {y : World} {K : Act → World → Prop} {Q : Exit → Act → World → Prop} {E : Prop} (hgd : o.guard = none) (s x : Operand) (hop : o.op = .call { callee := .builtin .append, args := #[s, x], argTypes := #[107, 107] })
    {B n m c : Nat} {v : Value} {xs news : List Value} {q : Option Addr} (hs : a.eval s = v) (hx : a.eval x = .slice q m c) (hr : y.ownsRow B 106 15 v n xs) (hB : B ≤ y.heap.size) (hq : q = none → m = 0 ∧ c = 0) (hsrc : ∀ ad, q = some ad → ∀ j u, news[j]? = some u → y.cell? (ad.add j) = some u) (hl : news.length = m * 15) (h1 : ∀ u ∈ news, u.oneCell' = true) (hm : n + m ≤ 200000)
    (h : ∀ v' w', w'.ownsRow B 106 15 v' (n + m) (xs ++ news) → Below B y w' → K (a.put o.dst v') w') : if Region.wanted o (yielded ops a.tmps) = true then Oper.wp Tryz.prog o a y K Q else E := by
  have hw : Region.wanted o (yielded ops a.tmps) = true := by simp [Region.wanted, hgd]
  rw [if_pos hw]
  obtain ⟨v', w', hrun, e2, e3⟩ := slots_run o.type hr hB hq hsrc hl h1 hm
  unfold Oper.wp
  simp [execOp, hop, resolve, invoke, builtin, hs, hx, hrun, Result.andThen]
  exact h v' w' e2 e3
theorem flatL_put {r : List (KK × PV)} {i : Nat} {x : KK × PV} (hi : r[i]? = some x) (p : PV) : setL (flatL r) (i * 15 + 2) (encP p) = flatL (r.set i (x.1, p)) :=
  setL_mid (enc := encL) (k := 15) (fun _ => rfl) (a := [.string x.1.1, .int .i64 x.1.2]) (x := encP x.2) hi ⟨[], by simp [encL], by simp [encL]⟩ rfl
/-- what a row tells, to an append -/
theorem rowSrc {w y : World} {f : Nat → Nat} {q : Option Addr} {c : Nat} {r : List (KK × PV)} (h : RowO w f 9 106 15 (.slice q r.length c) r.length (flatL r)) (hb : Below w.heap.size w y) :
    (q = none → r.length = 0 ∧ c = 0) ∧ ∀ ad, q = some ad → ∀ j u, (flatL r)[j]? = some u → y.cell? (ad.add j) = some u := by
  rcases h.1.2 with ⟨e, _⟩ | ⟨g, cap, cur, e, _, hg, _⟩
  · injection e with e1 e2 e3
    subst e1
    refine ⟨fun _ => ⟨e2, e3⟩, fun ad h => by cases h⟩
  · injection e with e1 e2 e3
    subst e1
    refine ⟨fun h => (by cases h), fun ad had j u hu => ?_⟩
    injection had with had
    subst had
    have hc := h.1.cells (g := g) (by rfl) j u hu
    rw [Addr.add_lit] at hc ⊢
    rw [World.cell?_of_block (w := w) (a := ⟨g, 0 + j, none⟩) (hb.block g (heapH_lt hg))]
    exact hc
theorem cells_ge {w : World} {g o i : Nat} {u : Value} {vs : List Value} (hc : w.cell? ⟨g, i, none⟩ = some u) {b : Nat} (hne : g ≠ b) : (w.setCells b o vs).cell? ⟨g, i, none⟩ = some u :=
  (World.cell?_of_block (w := w) (heap_setCells_ne vs o w hne)).trans hc
theorem row_lower {w : World} {B B' : Nat} {e : TypeId} {size n : Nat} {v : Value} {xs : List Value} (h : w.ownsRow B e size v n xs) (hB : B' ≤ B) : w.ownsRow B' e size v n xs := by
  refine ⟨h.1, ?_⟩
  rcases h.2 with h | ⟨g, cap, cur, e, hb, r⟩
  · exact .inl h
  · exact .inr ⟨g, cap, cur, e, Nat.le_trans hB hb, r⟩
theorem rowL_there {y : World} {B g n cap : Nat} {xs : List Value} (h : y.ownsRow B 106 15 (.slice (some ⟨g, 0, none⟩) n cap) n xs) {i : Nat} (hi : i < n) : y.there g (i * 15 + 2) 13 := by
  rcases h.2 with ⟨e, _⟩ | ⟨g', cap', cur, e, _, hg, h1, _, h3, _⟩
  · cases e
  · injection e with e1 e2 e3
    injection e1 with e1
    injection e1 with e1
    subst e1
    exact there_of hg (by rw [h3]; omega)
theorem range_of_block {y : World} {b : Nat} {t : TypeId} {cs : List Value} (h : y.heap[b]? = some (.cells cs.toArray t (0, 0))) : y.rangeAt b 0 cs := fun j v hv => by rw [cell_of_row _ _ (0 + j) _ _ _ h]; simpa using hv
theorem info13 (p : PV) : (Tryz.prog.info? 36).map (·.size) = some (encP p).length := infoProp
end Go.Proofs.YtoccmiinkfhohaaGreat
namespace Go.Proofs.YtoccmiinkfhohaaGreat
open Go.RowKit Go.Shelf Go.Lib Go.Sort Go.Proofs Go.Maps
set_option maxHeartbeats 4000000
set_option maxRecDepth 100000

theorem c_RPut0 {w : World} {f : Nat → Nat} {rb : Nat} {lim : Int} {R : List OB} (hN : Norm f w) (h : RefO w f rb lim R) (o : Int) (k : KK) (p : PV) (ho : hasH R o = false) :
    Calls Tryz.prog 26 #[ptrV rb, .int .i64 o, keyV k.1 k.2, propV p] w fun e w' => e = .returned (.int .i64 151) ∧ Below w.heap.size w w' := by
  obtain ⟨W2, hW2⟩ : ∃ W2, (w.alloc (.cells #[.string k.1, .int .i64 k.2] 31)).alloc (.cells (encP p).toArray 36) = W2 := ⟨_, rfl⟩
  have hb2 : Below w.heap.size w W2 := by rw [← hW2]; exact ((Below.refl _ w).alloc (Nat.le_refl _) _).alloc (by simp) _
  have hH := c_RHas (h.below hN hb2) o
  rw [ho] at hH
  unfold ptrV keyV propV at *
  obtain ⟨k0, kn⟩ := k
  dsimp only at *
  replace hH := Lib.hid hH
  replace hb2 := Lib.hid hb2
  clear h hN ho
  go_enter Tryz.func26, Tryz.ntmps26
  go_wp2_with (first | (go_at_call 32; refine hH.out.mono ?_; rintro e w1 ⟨rfl, e1⟩; cases e1))
  go_ret
  exact ⟨rfl, hb2.out⟩
theorem c_RPutR {w : World} {f : Nat → Nat} {rb : Nat} {lim : Int} {R : List OB} (hN : Norm f w) (h : RefO w f rb lim R) (o : Int) (k : KK) (p : PV) (ho : hasH R o = true) (hp : p.fl < 0 ∨ 15 < p.fl) :
    Calls Tryz.prog 26 #[ptrV rb, .int .i64 o, keyV k.1 k.2, propV p] w fun e w' => e = .returned (.int .i64 1) ∧ Below w.heap.size w w' := by
  obtain ⟨W2, hW2⟩ : ∃ W2, (w.alloc (.cells #[.string k.1, .int .i64 k.2] 31)).alloc (.cells (encP p).toArray 36) = W2 := ⟨_, rfl⟩
  have hb2 : Below w.heap.size w W2 := by rw [← hW2]; exact ((Below.refl _ w).alloc (Nat.le_refl _) _).alloc (by simp) _
  have z0 : W2.heap[w.heap.size + 1]? = some (.cells (encP p).toArray 36 (0, 0)) := by rw [← hW2]; exact heap_alloc2_new w _ _
  have zc : W2.cell? ⟨w.heap.size + 1, 12, none⟩ = some (.int .i64 p.fl) := by rw [cell_of_row _ _ 12 _ _ _ z0]; rfl
  have hH := c_RHas (h.below hN hb2) o
  rw [ho] at hH
  unfold ptrV keyV propV at *
  obtain ⟨k0, kn⟩ := k
  dsimp only at *
  replace hH := Lib.hid hH
  replace hb2 := Lib.hid hb2
  clear h hN ho z0
  rcases hp with hp | hp
  all_goals
  · try (have nf1 : ¬ p.fl < 0 := by omega)
    go_enter Tryz.func26, Tryz.ntmps26
    go_wp2_with (first | (go_at_call 32; refine hH.out.mono ?_; rintro e w1 ⟨rfl, e1⟩; cases e1))
    go_ret
    exact ⟨rfl, hb2.out⟩
/-- the reference's heap, when a list of slots has been laid -/
theorem rput_done {w y : World} {f : Nat → Nat} {rb gg cap n o : Nat} {lim : Int} {R : List OB} {a : OB} {sv : Value} {r' : List (KK × PV)} {g : Nat} (hN : Norm f w) (hu : ∀ (f1 : Nat → Nat) (w1 : World) (j : Nat) (v : Value) (a' : OB) (sv' : Value), Turn (fun _ => False) f f1 w w1 → j < 4 → (encR (a, sv)).set j v = encR (a', sv') → SlotsO w1 f1 sv' a'.l → RefT w f rb lim (R.set (o - 1) a') (w1.setCell ⟨g, o * 4 + j, none⟩ v))
    (hb : Below w.heap.size w y) (hr : y.ownsRow w.heap.size 106 15 (.slice (some ⟨gg, 0, none⟩) n cap) r'.length (flatL r')) (hn : n = r'.length) (hok : ∀ x ∈ r', okK x.1) :
    RefT w f rb lim (R.set (o - 1) { a with l := r'.map (fun x => (pk x.1, x.2)) }) (y.setCell ⟨g, o * 4 + 3, none⟩ (.slice (some ⟨gg, 0, none⟩) n cap)) := by
  subst hn
  obtain ⟨h1, h2⟩ := hr.lt gg rfl
  have t : Turn (fun _ => False) f (give f w y (fun r => if r = gg then 9 else 0)) w y := (Turn.refl _ hN).give _ hb.os hb.tape hb.output hb.size (fun r hr _ => hb.block r hr)
  refine hu _ y 3 _ { a with l := r'.map (fun x => (pk x.1, x.2)) } (.slice (some ⟨gg, 0, none⟩) r'.length cap) t (by omega) rfl ⟨r', ⟨row_base hr, fun k hk => ?_⟩, rfl, hok⟩
  injection hk with hk
  change gg = k at hk
  subst hk
  rw [give_new h1 h2]
  simp
theorem putL_raw {r : List (KK × PV)} {l : List (KK × PV)} (hl : r.map (fun x => (pk x.1, x.2)) = l) {k : KK} {i : Nat} {x : KK × PV} (hi : idx (gk l) (pk k) = some i) (hx : r[i]? = some x) (p : PV) : (r.set i (x.1, p)).map (fun x => (pk x.1, x.2)) = putL l (pk k) p := by
  unfold putL
  rw [hi, List.map_set, hl]
  have h1 := idx_some hi
  have h2 : (gk l)[i]? = some (pk x.1) := by rw [← hl]; simp [gk, hx]
  rw [h1] at h2
  rw [Option.some.inj h2]
theorem putL_rawN {r : List (KK × PV)} {l : List (KK × PV)} (hl : r.map (fun x => (pk x.1, x.2)) = l) {k : KK} (hi : idx (gk l) (pk k) = none) (p : PV) : (r ++ [(k, p)]).map (fun x => (pk x.1, x.2)) = putL l (pk k) p := by
  unfold putL
  rw [hi, List.map_append, hl]
  rfl
theorem c_RPutS {w : World} {f : Nat → Nat} {rb : Nat} {lim : Int} {R : List OB} (hN : Norm f w) (h : RefO w f rb lim R) (hR : ∀ a ∈ R, a.l.length ≤ 100000) (o : Nat) (a : OB) (h0 : 0 < o) (ho : R[o - 1]? = some a) (k : KK) (hk : okK k) (p : PV) (p0 : 0 ≤ p.fl) (p15 : p.fl ≤ 15) (i : Nat) (hi : idx (gk a.l) (pk k) = some i) :
    Calls Tryz.prog 26 #[ptrV rb, .int .i64 (o : Int), keyV k.1 k.2, propV p] w fun e w' => e = .returned (.int .i64 0) ∧ RefT w f rb lim (R.set (o - 1) { a with l := putL a.l (pk k) (keptP p) }) w' := by
  obtain ⟨W2, hW2⟩ : ∃ W2, (w.alloc (.cells #[.string k.1, .int .i64 k.2] 31)).alloc (.cells (encP p).toArray 36) = W2 := ⟨_, rfl⟩
  have hb2 : Below w.heap.size w W2 := by rw [← hW2]; exact ((Below.refl _ w).alloc (Nat.le_refl _) _).alloc (by simp) _
  have hs2 : W2.heap.size = w.heap.size + 2 := by rw [← hW2]; simp
  have d0 : W2.heap[w.heap.size]? = some (.cells #[.string k.1, .int .i64 k.2] 31 (0, 0)) := by rw [← hW2, Below.heap_alloc _ _ _ (by simp)]; exact heap_alloc_new w _
  have z0 : W2.heap[w.heap.size + 1]? = some (.cells (encP p).toArray 36 (0, 0)) := by rw [← hW2]; exact heap_alloc2_new w _ _
  have kc0 : W2.cell? ⟨w.heap.size, 0, none⟩ = some (.string k.1) := by rw [cell_of_row _ _ 0 _ _ _ d0]; rfl
  have kc1 : W2.cell? ⟨w.heap.size, 1, none⟩ = some (.int .i64 k.2) := by rw [cell_of_row _ _ 1 _ _ _ d0]; rfl
  have zc : W2.cell? ⟨w.heap.size + 1, 12, none⟩ = some (.int .i64 p.fl) := by rw [cell_of_row _ _ 12 _ _ _ z0]; rfl
  have hN2 : Norm f W2 := fun r hr => hN r (Nat.le_trans hb2.size hr)
  have hH := c_RHas (h.below hN hb2) (o : Int)
  rw [hasH_of h0 ho] at hH
  have hBy := c_Rplace1 hN2 (h.below hN hb2) o a h0 ho (hR a (List.mem_of_getElem? ho)) k hk
  rw [hi] at hBy
  obtain ⟨g, c, sv, ⟨_, c1⟩, ⟨l1, l2, _⟩, _, hs, ⟨p1, p2⟩, ⟨_, _, _, d3⟩, fz, hu⟩ := h.upd h0 ho
  obtain ⟨r, r1, r2, r3⟩ := hs
  have hrl : r.length ≤ 100000 := by rw [← List.length_map (f := fun x : KK × PV => (pk x.1, x.2)), r2]; exact hR a (List.mem_of_getElem? ho)
  have hil : i < r.length := by have := idx_lt hi; rw [← r2] at this; simpa [gk] using this
  obtain ⟨x, hx⟩ : ∃ x, r[i]? = some x := ⟨_, List.getElem?_eq_getElem hil⟩
  obtain ⟨q, cp, rfl, _⟩ := SlotsO.form r1
  have hsrc := fun y (hb : Below w.heap.size w y) => rowSrc r1 hb
  have hKe := c_Rkept p p0 p15
  have hput := putL_raw r2 hi hx (keptP p)
  have hset := flatL_put hx (keptP p)
  have hokS : ∀ z ∈ r.set i (x.1, keptP p), okK z.1 := fun z hz => by
    rcases List.mem_or_eq_of_mem_set hz with h | h
    · exact r3 z h
    · subst h; exact r3 x (List.mem_of_getElem? hx)
  have hlen' : (r.set i (x.1, keptP p)).length = r.length := by simp
  generalize r.set i (x.1, keptP p) = r' at *
  have hdone := fun (y : World) (gg cap : Nat) hb hr hn => rput_done (y := y) (gg := gg) (cap := cap) (n := r.length) (r' := r') hN hu hb hr hn hokS
  rw [hput] at hdone
  unfold placeV at hBy
  dsimp only at hBy
  have q1 : (0 : Int) ≤ (i : Int) := by omega
  have q2 : (i : Int) < (r.length : Int) := by omega
  have nf1 : ¬ p.fl < 0 := by omega
  have nf2 : ¬ 15 < p.fl := by omega
  have hi13 : (Tryz.prog.info? 36).map (·.size) = some (encP p).length := infoProp
  have hj13 : (Tryz.prog.info? 36).map (·.size) = some (encP (keptP p)).toArray.size := infoProp
  have ho13 := all_oneCell_toArray (encP_one (keptP p))
  have hfl := flatL_len r
  have hone := flatL_one r
  have fz3 := fz (o * 4 + 3)
  unfold ptrV keyV propV at *
  obtain ⟨k0, kn⟩ := k
  dsimp only at *
  generalize keptP p = P2 at *
  replace hH := Lib.hid hH
  replace hBy := Lib.hid hBy
  replace hb2 := Lib.hid hb2
  replace hs2 := Lib.hid hs2
  replace z0 := Lib.hid z0
  replace hsrc := Lib.hid hsrc
  replace hKe := Lib.hid hKe
  replace hdone := Lib.hid hdone
  replace hset := Lib.hid hset
  replace hlen' := Lib.hid hlen'
  replace hfl := Lib.hid hfl
  replace hone := Lib.hid hone
  replace hrl := Lib.hid hrl
  have c1w := Lib.hid c1
  have d3w := Lib.hid d3
  have fz3w := Lib.hid fz3
  have tokA : True := trivial
  clear fz3
  clear h hN hN2 hk hR ho hi hx r1 r2 r3 hput hokS hu d0 fz
  go_enter Tryz.func26, Tryz.ntmps26
  go_wp2_with (first | (go_at_call 32; refine hH.out.mono ?_; rintro e w1 ⟨rfl, e1⟩; cases e1) | (go_at_call 47; refine hBy.out.mono ?_; rintro e y2 ⟨rfl, hb5⟩; have hB5 := hb2.out.trans (hb5.mono hb2.out.size); have z5 := (hb5.block _ (heapH_lt z0.out)).trans z0.out; rw [← hB5.cell (p := ⟨rb, 1, none⟩) l1] at c1; rw [← hB5.cell (p := ⟨g, o * 4 + 3, none⟩) l2] at d3; obtain ⟨hs1, hs2'⟩ := hsrc.out y2 hB5; clear kc0 kc1 zc; replace hB5 := Lib.hid hB5; replace z5 := Lib.hid z5; replace hs1 := Lib.hid hs1; replace hs2' := Lib.hid hs2'; clear hb5) | (at_builtin; refine slots_list rfl _ _ rfl (B := y2.heap.size) (n := 0) (m := r.length) (xs := []) (news := flatL r) rfl rfl ⟨rfl, .inl ⟨rfl, rfl⟩⟩ (Nat.le_refl _) hs1.out hs2'.out hfl.out hone.out (by have := hrl.out; omega) ?_; intro v' w' hown hbe; rw [Nat.zero_add, List.nil_append] at hown; obtain ⟨gg, cap, rfl, hBg, hltg⟩ := hown.form (by omega); have hB7 := hB5.out.trans (hbe.mono hB5.out.size); have z7 := (hbe.block _ (heapH_lt z5.out)).trans z5.out; rw [← hbe.cell (p := ⟨rb, 1, none⟩) (Nat.lt_of_lt_of_le l1 hB5.out.size)] at c1; rw [← hbe.cell (p := ⟨g, o * 4 + 3, none⟩) (Nat.lt_of_lt_of_le l2 hB5.out.size)] at d3; have hrg := range_of_block (cs := encP p) z7; have hown7 := row_lower hown hB5.out.size; replace hB7 := Lib.hid hB7; replace z7 := Lib.hid z7; replace hown7 := Lib.hid hown7; clear hown hbe hBg hs1 hs2') | (clear tokA; refine wpList_load_mid rfl 36 (.tmp 7) rfl (w.heap.size + 1) 0 rfl (encP p) _ hrg Tryz.underlying36 rfl hi13 ?_; clear hrg) | (go_at_call 54; refine (hKe.out _).mono ?_; rintro e y8 ⟨rfl, hb8⟩; have hown8 := own_at hown7.out (fun r hr => hb8.block r (hown7.out.lt r hr).2); have hB8 := hB7.out.trans (hb8.mono hB7.out.size); have hth : y8.there gg (i * 15 + 2) (encP P2).toArray.size := rowL_there hown8 hil; have hown9 := row_setL (encP P2) (i * 15 + 2) y8 _ hown8; rw [hset.out] at hown9; have hB9 := below_setC hB8 (hown8.lt gg rfl).1 (encP P2) (i * 15 + 2); obtain ⟨W9, hW9⟩ : ∃ W9, y8.setCells gg (i * 15 + 2) (encP P2) = W9 := ⟨_, rfl⟩; rw [hW9] at hown9 hB9; clear c1 d3; replace hown9 := Lib.hid hown9; replace hB9 := Lib.hid hB9; clear hb8 hown8 hB8) | (refine wpList_store_mid rfl 36 (.tmp 43) (.tmp 41) rfl gg (i * 15 + 2) (encP P2).toArray rfl rfl hth hj13 ho13 ?_; have c9 := (hB9.out.cell (p := ⟨rb, 1, none⟩) l1).trans c1w.out; have d9 := (hB9.out.cell (p := ⟨g, o * 4 + 3, none⟩) l2).trans d3w.out; have f9 := (World.frozen?_of_block (w := w) (a := ⟨g, o * 4 + 3, none⟩) (hB9.out.block g l2)).trans fz3w.out))
  go_ret
  exact ⟨rfl, hdone.out W9 gg cap hB9.out (by rw [hlen'.out]; exact hown9.out) hlen'.out.symm⟩
end Go.Proofs.YtoccmiinkfhohaaGreat
