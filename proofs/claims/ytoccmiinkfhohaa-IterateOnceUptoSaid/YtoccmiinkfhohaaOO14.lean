/-
  Contracts: The reference's heap: Put, all ways; Drop. The reference's heap: its contracts joined. An operation of the laws; a list of them in memory. The model of a law's operations: the implementation's heap and the reference's, side by side. The contract of the law's do: an operation of both heaps. A list of operations as an argument; the contract of the law's few.
-/
import Derived.Test.YtoccmiinkfhohaaOO13
import Derived.Test.YtoccmiinkfhohaaOO8
namespace Go.Proofs.Ytoccmiinkfhohaa
open Go.RowKit Go.Shelf Go.Lib Go.Sort Go.Proofs Go.Maps
set_option maxHeartbeats 4000000
set_option maxRecDepth 100000

def rputA (K : KK) (p : PV) (a : OB) : OB := { a with l := putL a.l K (keptP p) }
def rputH (R : List OB) (lim o : Int) (K : KK) (p : PV) : List OB := if putE R lim o K p = 0 then updH R o (rputA K p) else R
def rdropA (K : KK) (a : OB) : OB := match idx (gk a.l) K with | some j => { a with l := a.l.eraseIdx j } | none => a
theorem c_RPut {w : World} {f : Nat → Nat} {rb : Nat} {lim : Int} {R : List OB} (hN : Norm f w) (h : RefO w f rb lim R) (hR : ∀ a ∈ R, a.l.length ≤ 100000) (hu : usedH R ≤ 100000) (o : Int) (k : KK) (hk : okK k) (p : PV) :
    Calls Try.prog 46 #[ptrV rb, .int .i64 o, keyV k.1 k.2, propV p] w fun e w' => e = .returned (.int .i64 (putE R lim o (pk k) p)) ∧ RefT w f rb lim (rputH R lim o (pk k) p) w' := by
  unfold rputH
  rcases objH_cases R o with ⟨h1, h2⟩ | ⟨n, a, rfl, h0, ha, h3, h4⟩
  · have e1 : putE R lim o (pk k) p = 151 := by unfold putE; rw [if_pos h1]
    rw [e1]
    refine (c_RPut0 hN h o k p h1).mono ?_
    rintro e w' ⟨rfl, hb⟩
    exact ⟨rfl, RefT.same hN h hb⟩
  · by_cases hf : p.fl < 0 ∨ 15 < p.fl
    · have e1 : putE R lim (n : Int) (pk k) p = 1 := by unfold putE; rw [if_neg (by rw [h4]; decide), if_pos hf]
      rw [e1]
      refine (c_RPutR hN h n k p h4 hf).mono ?_
      rintro e w' ⟨rfl, hb⟩
      exact ⟨rfl, RefT.same hN h hb⟩
    · have e0 : putE R lim (n : Int) (pk k) p = if (getL a.l (pk k)).isSome = false ∧ lim ≤ (usedH R : Int) then 150 else 0 := by
        unfold putE
        rw [if_neg (by rw [h4]; decide), if_neg hf, own_some h0 ha]
      rw [e0, getL_idx]
      cases hi : idx (gk a.l) (pk k) with
      | some i =>
        rw [if_neg (fun h => by cases h.1), if_pos rfl, updH_at h0 ha]
        exact c_RPutS hN h hR n a h0 ha k hk p (by omega) (by omega) i hi
      | none =>
        by_cases hl : lim ≤ (usedH R : Int)
        · rw [if_pos ⟨rfl, hl⟩]
          refine (c_RPutN hN h hR hu n a h0 ha k hk p (by omega) (by omega) hi).mono ?_
          rintro e w' ⟨q1, q2⟩
          obtain ⟨rfl, hb⟩ := q1 hl
          exact ⟨rfl, RefT.same hN h hb⟩
        · rw [if_neg (fun h => hl h.2), if_pos rfl, updH_at h0 ha]
          refine (c_RPutN hN h hR hu n a h0 ha k hk p (by omega) (by omega) hi).mono ?_
          rintro e w' ⟨q1, q2⟩
          exact q2 (by omega)
theorem c_RDropN {w : World} {f : Nat → Nat} {rb : Nat} {lim : Int} {R : List OB} (hN : Norm f w) (h : RefO w f rb lim R) (hR : ∀ a ∈ R, a.l.length ≤ 100000) (o : Int) (k : KK) (hk : okK k) (hp : placeH R o (pk k) = none) :
    Calls Try.prog 47 #[ptrV rb, .int .i64 o, keyV k.1 k.2] w fun e w' => e = .returned (.bool false) ∧ Below w.heap.size w w' := by
  obtain ⟨W1, hW1⟩ : ∃ W1, w.alloc (.cells #[.string k.1, .int .i64 k.2] 32) = W1 := ⟨_, rfl⟩
  have hb1 : Below w.heap.size w W1 := by rw [← hW1]; exact (Below.refl _ w).alloc (Nat.le_refl _) _
  have d0 : W1.heap[w.heap.size]? = some (.cells #[.string k.1, .int .i64 k.2] 32 (0, 0)) := by rw [← hW1]; exact heap_alloc_new w _
  have kc0 : W1.cell? ⟨w.heap.size, 0, none⟩ = some (.string k.1) := by rw [cell_of_row _ _ 0 _ _ _ d0]; rfl
  have kc1 : W1.cell? ⟨w.heap.size, 1, none⟩ = some (.int .i64 k.2) := by rw [cell_of_row _ _ 1 _ _ _ d0]; rfl
  have hBy := c_Rplace (fun r hr => hN r (Nat.le_trans hb1.size hr)) (h.below hN hb1) hR o k hk
  rw [hp] at hBy
  unfold placeV at hBy
  dsimp only at hBy
  obtain ⟨k0, kn⟩ := k
  unfold ptrV keyV at *
  dsimp only at *
  replace hBy := Lib.hid hBy
  replace hb1 := Lib.hid hb1
  replace d0 := Lib.hid d0
  clear hk hN h hR hp
  go_enter Try.func47, Try.ntmps47
  go_wp2_with (first | (go_at_call 44; refine hBy.out.mono ?_; rintro e w2 ⟨rfl, hb2⟩; clear kc0 kc1; replace hb2 := Lib.hid hb2))
  go_ret
  exact ⟨rfl, hb1.out.trans (hb2.out.mono hb1.out.size)⟩
/-- the two parts of a list round a slot -/
theorem eraseIdx_parts {α : Type} (l : List α) (i : Nat) : l.eraseIdx i = l.take i ++ l.drop (i + 1) := List.eraseIdx_eq_take_drop_succ ..
theorem flatL_take (r : List (KK × PV)) (i : Nat) : flatL (r.take i) ++ flatL (r.drop (i + 1)) = flatL (r.eraseIdx i) := by
  rw [eraseIdx_parts]; unfold flatL; rw [List.flatMap_append]
theorem flatL_split (r : List (KK × PV)) (i : Nat) : flatL r = flatL (r.take i) ++ flatL (r.drop i) := by
  unfold flatL
  rw [← List.flatMap_append, List.take_append_drop]
theorem flatL_takeAt {r : List (KK × PV)} {i j : Nat} {u : Value} (h : (flatL (r.take i))[j]? = some u) : (flatL r)[j]? = some u := by
  rw [flatL_split r i, List.getElem?_append_left (List.getElem?_eq_some_iff.1 h).1]; exact h
theorem flatL_dropAt {r : List (KK × PV)} {i j : Nat} {u : Value} (hi : i ≤ r.length) (h : (flatL (r.drop i))[j]? = some u) : (flatL r)[i * 15 + j]? = some u := by
  have hl : (flatL (r.take i)).length = i * 15 := by rw [flatL_len, List.length_take, Nat.min_eq_left hi]
  rw [flatL_split r i, List.getElem?_append_right (by omega), hl, Nat.add_sub_cancel_left]; exact h
theorem eraseIdx_map {r : List (KK × PV)} (i : Nat) : (r.eraseIdx i).map (fun x => (pk x.1, x.2)) = (r.map (fun x => (pk x.1, x.2))).eraseIdx i := by
  rw [eraseIdx_parts, eraseIdx_parts, List.map_append, List.map_take, List.map_drop]
theorem rput_any {w y : World} {f : Nat → Nat} {rb o : Nat} {lim : Int} {R : List OB} {a : OB} {sv v : Value} {r' : List (KK × PV)} {g : Nat} (hN : Norm f w) (hu : ∀ (f1 : Nat → Nat) (w1 : World) (j : Nat) (v : Value) (a' : OB) (sv' : Value), Turn (fun _ => False) f f1 w w1 → j < 4 → (encR (a, sv)).set j v = encR (a', sv') → SlotsO w1 f1 sv' a'.l → RefT w f rb lim (R.set (o - 1) a') (w1.setCell ⟨g, o * 4 + j, none⟩ v))
    (hb : Below w.heap.size w y) (hr : y.ownsRow w.heap.size 89 15 v r'.length (flatL r')) (hok : ∀ x ∈ r', okK x.1) :
    RefT w f rb lim (R.set (o - 1) { a with l := r'.map (fun x => (pk x.1, x.2)) }) (y.setCell ⟨g, o * 4 + 3, none⟩ v) := by
  have t : Turn (fun _ => False) f (give f w y (fun r => if v.ownBlock = some r then 9 else 0)) w y := (Turn.refl _ hN).give _ hb.os hb.tape hb.output hb.size (fun r hr _ => hb.block r hr)
  refine hu _ y 3 _ { a with l := r'.map (fun x => (pk x.1, x.2)) } v t (by omega) rfl ⟨r', ⟨row_base hr, fun k hk => ?_⟩, rfl, hok⟩
  obtain ⟨h1, h2⟩ := hr.lt k hk
  rw [give_new h1 h2, if_pos hk]
theorem rowL_form {y : World} {B n : Nat} {v : Value} {xs : List Value} (h : y.ownsRow B 89 15 v n xs) : ∃ q c, v = .slice q n c := by
  rcases h.2 with ⟨e, h⟩ | ⟨g, cap, cur, e, _⟩
  · rw [h]; exact ⟨_, _, e⟩
  · exact ⟨_, _, e⟩
theorem c_RDropT {w : World} {f : Nat → Nat} {rb : Nat} {lim : Int} {R : List OB} (hN : Norm f w) (h : RefO w f rb lim R) (hR : ∀ a ∈ R, a.l.length ≤ 100000) (o : Nat) (a : OB) (h0 : 0 < o) (ho : R[o - 1]? = some a) (k : KK) (hk : okK k) (i : Nat) (hi : idx (gk a.l) (pk k) = some i) :
    Calls Try.prog 47 #[ptrV rb, .int .i64 (o : Int), keyV k.1 k.2] w fun e w' => e = .returned (.bool true) ∧ RefT w f rb lim (R.set (o - 1) { a with l := a.l.eraseIdx i }) w' := by
  obtain ⟨W1, hW1⟩ : ∃ W1, w.alloc (.cells #[.string k.1, .int .i64 k.2] 32) = W1 := ⟨_, rfl⟩
  have hb1 : Below w.heap.size w W1 := by rw [← hW1]; exact (Below.refl _ w).alloc (Nat.le_refl _) _
  have d0 : W1.heap[w.heap.size]? = some (.cells #[.string k.1, .int .i64 k.2] 32 (0, 0)) := by rw [← hW1]; exact heap_alloc_new w _
  have kc0 : W1.cell? ⟨w.heap.size, 0, none⟩ = some (.string k.1) := by rw [cell_of_row _ _ 0 _ _ _ d0]; rfl
  have kc1 : W1.cell? ⟨w.heap.size, 1, none⟩ = some (.int .i64 k.2) := by rw [cell_of_row _ _ 1 _ _ _ d0]; rfl
  have hBy := c_Rplace1 (fun r hr => hN r (Nat.le_trans hb1.size hr)) (h.below hN hb1) o a h0 ho (hR a (List.mem_of_getElem? ho)) k hk
  rw [hi] at hBy
  obtain ⟨g, c, sv, ⟨c0, c1⟩, ⟨l1, l2, ne0⟩, ⟨_, fg⟩, hs, ⟨p1, p2⟩, ⟨_, _, _, d3⟩, fz, hud⟩ := h.upd h0 ho
  obtain ⟨r, r1, r2, r3⟩ := hs
  have hrl : r.length ≤ 100000 := by rw [← List.length_map (f := fun x : KK × PV => (pk x.1, x.2)), r2]; exact hR a (List.mem_of_getElem? ho)
  have hil : i < r.length := by rw [← List.length_map (f := fun x : KK × PV => (pk x.1, x.2)), r2]; have := idx_lt hi; simpa [gk] using this
  obtain ⟨gq, cp, rfl, hlt, hcap⟩ := r1.1.form (by omega)
  have hn : r.length ≤ cp := by
    rcases r1.1.2 with ⟨e, _⟩ | ⟨g2, cap, cur, e, _, hg, q1, q2, _⟩
    · cases e
    · injection e with e1 e2 e3; omega
  have hsrc := fun (y : World) (hy : Below w.heap.size w y) => (rowSrc r1 hy).2 _ rfl
  have e1 : (r.eraseIdx i).map (fun x => (pk x.1, x.2)) = a.l.eraseIdx i := by rw [eraseIdx_map, r2]
  have hok : ∀ z ∈ r.eraseIdx i, okK z.1 := fun z hz => r3 z (List.mem_of_mem_eraseIdx hz)
  have hlen : (r.eraseIdx i).length = i + (r.length - (i + 1)) := by rw [List.length_eraseIdx, if_pos hil]; omega
  have hdone := fun (y : World) (v : Value) hb hr => rput_any (y := y) (v := v) (r' := r.eraseIdx i) hN hud hb hr hok
  rw [e1, ← flatL_take, hlen] at hdone
  have hf1 : (flatL (r.take i)).length = i * 15 := by rw [flatL_len, List.length_take, Nat.min_eq_left (by omega)]
  have hf2 : (flatL (r.drop (i + 1))).length = (r.length - (i + 1)) * 15 := by rw [flatL_len, List.length_drop]
  have hone1 := flatL_one (r.take i)
  have hone2 := flatL_one (r.drop (i + 1))
  have hs1 : ∀ y : World, Below w.heap.size w y → ∀ ad, some (⟨gq, 0, none⟩ : Addr) = some ad → ∀ j u, (flatL (r.take i))[j]? = some u → y.cell? (ad.add j) = some u := fun y hy ad had j u hu => by
    injection had with had; subst had
    exact hsrc y hy j u (flatL_takeAt hu)
  have hs2 : ∀ y : World, Below w.heap.size w y → ∀ ad, some (⟨gq, (i + 1) * 15, none⟩ : Addr) = some ad → ∀ j u, (flatL (r.drop (i + 1)))[j]? = some u → y.cell? (ad.add j) = some u := fun y hy ad had j u hu => by
    injection had with had; subst had
    have h1 := hsrc y hy _ u (flatL_dropAt (by omega) hu)
    rw [Addr.add_lit] at h1 ⊢
    rw [Nat.zero_add] at h1
    exact h1
  have hs3 : cp = i + 1 → ∀ y : World, ∀ ad, some (⟨gq, 0, none⟩ : Addr) = some ad → ∀ j u, (flatL (r.drop (i + 1)))[j]? = some u → y.cell? (ad.add j) = some u := fun he y ad had j u hu => by
    rw [List.drop_eq_nil_of_le (by omega)] at hu
    cases hu
  unfold placeV at hBy
  dsimp only at hBy
  have q1 : (0 : Int) ≤ (i : Int) := by omega
  have q2 : (i : Int) ≤ (cp : Int) := by omega
  have q3 : (0 : Int) ≤ (i : Int) + 1 := by omega
  have q7 : (i : Int) ≤ (i : Int) + 1 := by omega
  have q4 : (i : Int) + 1 ≤ (r.length : Int) := by omega
  have q5 : ((i : Int) + 1).toNat = i + 1 := by omega
  have q6 : IntKind.i64.wrap ((i : Int) + 1) = (i : Int) + 1 := by rw [IntKind.wrap_i64]; omega
  have nneg : ¬ ((i : Int) < 0) := by omega
  have fz3 := fz (o * 4 + 3)
  unfold ptrV keyV at *
  obtain ⟨k0, kn⟩ := k
  dsimp only at *
  generalize R.length + 1 = nR at *
  replace hBy := Lib.hid hBy
  replace hb1 := Lib.hid hb1
  replace hdone := Lib.hid hdone
  replace hf1 := Lib.hid hf1
  replace hf2 := Lib.hid hf2
  replace hone1 := Lib.hid hone1
  replace hone2 := Lib.hid hone2
  replace hs1 := Lib.hid hs1
  replace hs2 := Lib.hid hs2
  replace hs3 := Lib.hid hs3
  replace hrl := Lib.hid hrl
  have c1w := Lib.hid c1
  have d3w := Lib.hid d3
  have fz3w := Lib.hid fz3
  have l1w := Lib.hid l1
  have l2w := Lib.hid l2
  have hcpB : cp = i + 1 ∨ ¬ cp = i + 1 := by omega
  clear h hN hk hR ho hi r1 r2 r3 hok hud fz fz3 c0 c1 d3 l1 l2 hsrc e1 hlen hlt hcap d0 hn
  go_enter Try.func47, Try.ntmps47
  go_wp2_with (first | (go_at_call 44; refine hBy.out.mono ?_; rintro e y2 ⟨rfl, hb2⟩; clear kc0 kc1))
  have hB6 := hb1.out.trans (hb2.mono hb1.out.size)
  have c1 := (hB6.cell (p := ⟨rb, 1, none⟩) l1w.out).trans c1w.out
  have d3 := (hB6.cell (p := ⟨g, o * 4 + 3, none⟩) l2w.out).trans d3w.out
  have l1 := Nat.lt_of_lt_of_le l1w.out hB6.size
  have l2 := Nat.lt_of_lt_of_le l2w.out hB6.size
  have hst := onto_drew y2
  have hB6d := Lib.hid hB6.drew
  replace hB6 := Lib.hid hB6
  clear hb2
  rcases hcpB with rfl | hcp
  · skip
    refine regionK 30 (fun y => (∀ a : Addr, a.block < y2.heap.size → y.cell? a = y2.cell? a) ∧ (∀ b : Nat, b < y2.heap.size → y.heap[b]? = y2.heap[b]?) ∧ Below y2.heap.size y2 y) (by kernel_rfl) hst (fun hHeld => ?_)
    simp only [List.size_toArray, List.length_cons, List.length_nil, Nat.reduceAdd, Array.replicate_succ]
    refine AnyK.take 0 (v := ?_) rfl (by kernel_rfl) (by kernel_rfl) (by kernel_rfl) (by kernel_rfl) (fun _ _ _ h => h) (by rfl) ?_ (by assumption) ?_
    rotate_left
    · intro y hSy; (try dsimp only at hSy); go_simp; (try with_reducible rfl)
    try simp only [Act.put, List.setIfInBounds_toArray, List.set_cons_zero, List.set_cons_succ]
    refine AnyK.take 1 (v := ?_) rfl (by kernel_rfl) (by kernel_rfl) (by kernel_rfl) (by kernel_rfl) (fun _ _ _ h => h) (by rfl) ?_ (by assumption) ?_
    rotate_left
    · intro y hSy; (try dsimp only at hSy); go_simp; (try with_reducible rfl)
    try simp only [Act.put, List.setIfInBounds_toArray, List.set_cons_zero, List.set_cons_succ]
    refine AnyK.take 2 (v := ?_) rfl (by kernel_rfl) (by kernel_rfl) (by kernel_rfl) (by kernel_rfl) (fun _ _ _ h => h) (by rfl) ?_ (by assumption) ?_
    rotate_left
    · intro y hSy; (try dsimp only at hSy); go_simp; (try with_reducible rfl)
    try simp only [Act.put, List.setIfInBounds_toArray, List.set_cons_zero, List.set_cons_succ]
    refine AnyK.take 3 (v := ?_) rfl (by kernel_rfl) (by kernel_rfl) (by kernel_rfl) (by kernel_rfl) (fun _ _ _ h => h) (by rfl) ?_ (by assumption) ?_
    rotate_left
    · intro y hSy; (try dsimp only at hSy); go_simp; (try with_reducible rfl)
    try simp only [Act.put, List.setIfInBounds_toArray, List.set_cons_zero, List.set_cons_succ]
    refine AnyK.take 4 (v := ?_) rfl (by kernel_rfl) (by kernel_rfl) (by kernel_rfl) (by kernel_rfl) (fun _ _ _ h => h) (by rfl) ?_ (by assumption) ?_
    rotate_left
    · intro y hSy; (try dsimp only at hSy); go_simp; (try with_reducible rfl)
    try simp only [Act.put, List.setIfInBounds_toArray, List.set_cons_zero, List.set_cons_succ]
    refine AnyK.take 5 (v := ?_) rfl (by kernel_rfl) (by kernel_rfl) (by kernel_rfl) (by kernel_rfl) (fun _ _ _ h => h) (by rfl) ?_ (by assumption) ?_
    rotate_left
    · intro y hSy; (try dsimp only at hSy); go_simp; (try with_reducible rfl)
    try simp only [Act.put, List.setIfInBounds_toArray, List.set_cons_zero, List.set_cons_succ]
    refine AnyK.take 6 (v := ?_) rfl (by kernel_rfl) (by kernel_rfl) (by kernel_rfl) (by kernel_rfl) (fun _ _ _ h => h) (by rfl) ?_ (by assumption) ?_
    rotate_left
    · intro y hSy; (try dsimp only at hSy); go_simp; (try with_reducible rfl)
    try simp only [Act.put, List.setIfInBounds_toArray, List.set_cons_zero, List.set_cons_succ]
    refine AnyK.take 7 (v := ?_) rfl (by kernel_rfl) (by kernel_rfl) (by kernel_rfl) (by kernel_rfl) (fun _ _ _ h => h) (by rfl) ?_ (by assumption) ?_
    rotate_left
    · intro y hSy; (try dsimp only at hSy); go_simp; (try with_reducible rfl)
    try simp only [Act.put, List.setIfInBounds_toArray, List.set_cons_zero, List.set_cons_succ]
    refine AnyK.take 8 (v := ?_) rfl (by kernel_rfl) (by kernel_rfl) (by kernel_rfl) (by kernel_rfl) (fun _ _ _ h => h) (by rfl) ?_ (by assumption) ?_
    rotate_left
    · intro y hSy; (try dsimp only at hSy); go_simp; (try with_reducible rfl)
    try simp only [Act.put, List.setIfInBounds_toArray, List.set_cons_zero, List.set_cons_succ]
    refine AnyK.take 9 (v := ?_) rfl (by kernel_rfl) (by kernel_rfl) (by kernel_rfl) (by kernel_rfl) (fun _ _ _ h => h) (by rfl) ?_ (by assumption) ?_
    rotate_left
    · intro y hSy; (try dsimp only at hSy); go_simp; (try with_reducible rfl)
    try simp only [Act.put, List.setIfInBounds_toArray, List.set_cons_zero, List.set_cons_succ]
    refine AnyK.take 10 (v := ?_) rfl (by kernel_rfl) (by kernel_rfl) (by kernel_rfl) (by kernel_rfl) (fun _ _ _ h => h) (by rfl) ?_ (by assumption) ?_
    rotate_left
    · intro y hSy; (try dsimp only at hSy); go_simp; (try with_reducible rfl)
    try simp only [Act.put, List.setIfInBounds_toArray, List.set_cons_zero, List.set_cons_succ]
    refine AnyK.take 11 (v := ?_) rfl (by kernel_rfl) (by kernel_rfl) (by kernel_rfl) (by kernel_rfl) (fun _ _ _ h => h) (by rfl) ?_ (by assumption) ?_
    rotate_left
    · intro y hSy; (try dsimp only at hSy); go_simp; (try with_reducible rfl)
    try simp only [Act.put, List.setIfInBounds_toArray, List.set_cons_zero, List.set_cons_succ]
    refine AnyK.take 12 (v := ?_) rfl (by kernel_rfl) (by kernel_rfl) (by kernel_rfl) (by kernel_rfl) (fun _ _ _ h => h) (by rfl) ?_ (by assumption) ?_
    rotate_left
    · intro y hSy; (try dsimp only at hSy); go_simp; (try with_reducible rfl)
    try simp only [Act.put, List.setIfInBounds_toArray, List.set_cons_zero, List.set_cons_succ]
    refine AnyK.take 13 (v := ?_) rfl (by kernel_rfl) (by kernel_rfl) (by kernel_rfl) (by kernel_rfl) (fun _ _ _ h => h) (by rfl) ?_ (by assumption) ?_
    rotate_left
    · intro y hSy; (try dsimp only at hSy); go_simp; (try with_reducible rfl)
    try simp only [Act.put, List.setIfInBounds_toArray, List.set_cons_zero, List.set_cons_succ]
    refine AnyK.take 14 (v := ?_) rfl (by kernel_rfl) (by kernel_rfl) (by kernel_rfl) (by kernel_rfl) (fun _ _ _ h => h) (by rfl) ?_ (by assumption) ?_
    rotate_left
    · intro y hSy; (try dsimp only at hSy); go_simp; (try with_reducible rfl)
    try simp only [Act.put, List.setIfInBounds_toArray, List.set_cons_zero, List.set_cons_succ]
    refine AnyK.take 16 (v := ?_) rfl (by kernel_rfl) (by kernel_rfl) (by kernel_rfl) (by kernel_rfl) (fun _ _ _ h => h) (by rfl) ?_ (by assumption) ?_
    rotate_left
    · intro y hSy; (try dsimp only at hSy); go_simp; (try with_reducible rfl)
    try simp only [Act.put, List.setIfInBounds_toArray, List.set_cons_zero, List.set_cons_succ]
    refine AnyK.take 17 (v := ?_) rfl (by kernel_rfl) (by kernel_rfl) (by kernel_rfl) (by kernel_rfl) (fun _ _ _ h => h) (by rfl) ?_ (by assumption) ?_
    rotate_left
    · intro y hSy; (try dsimp only at hSy); go_simp; (try with_reducible rfl)
    try simp only [Act.put, List.setIfInBounds_toArray, List.set_cons_zero, List.set_cons_succ]
    refine AnyK.take 18 (v := ?_) rfl (by kernel_rfl) (by kernel_rfl) (by kernel_rfl) (by kernel_rfl) (fun _ _ _ h => h) (by rfl) ?_ (by assumption) ?_
    rotate_left
    · intro y hSy; (try dsimp only at hSy); go_simp; (try with_reducible rfl)
    try simp only [Act.put, List.setIfInBounds_toArray, List.set_cons_zero, List.set_cons_succ]
    refine AnyK.take 19 (v := ?_) rfl (by kernel_rfl) (by kernel_rfl) (by kernel_rfl) (by kernel_rfl) (fun _ _ _ h => h) (by rfl) ?_ (by assumption) ?_
    rotate_left
    · intro y hSy; (try dsimp only at hSy); go_simp; (try with_reducible rfl)
    try simp only [Act.put, List.setIfInBounds_toArray, List.set_cons_zero, List.set_cons_succ]
    refine AnyK.take 20 (v := ?_) rfl (by kernel_rfl) (by kernel_rfl) (by kernel_rfl) (by kernel_rfl) (fun _ _ _ h => h) (by rfl) ?_ (by assumption) ?_
    rotate_left
    · intro y hSy; (try dsimp only at hSy); go_simp; (try with_reducible rfl)
    try simp only [Act.put, List.setIfInBounds_toArray, List.set_cons_zero, List.set_cons_succ]
    refine AnyK.take 21 (v := ?_) rfl (by kernel_rfl) (by kernel_rfl) (by kernel_rfl) (by kernel_rfl) (fun _ _ _ h => h) (by rfl) ?_ (by assumption) ?_
    rotate_left
    · intro y hSy; (try dsimp only at hSy); go_simp; (try with_reducible rfl)
    try simp only [Act.put, List.setIfInBounds_toArray, List.set_cons_zero, List.set_cons_succ]
    refine AnyK.take 22 (v := ?_) rfl (by kernel_rfl) (by kernel_rfl) (by kernel_rfl) (by kernel_rfl) (fun _ _ _ h => h) (by rfl) ?_ (by assumption) ?_
    rotate_left
    · intro y hSy; (try dsimp only at hSy); go_simp; (try with_reducible rfl)
    try simp only [Act.put, List.setIfInBounds_toArray, List.set_cons_zero, List.set_cons_succ]
    refine AnyK.take 23 (v := ?_) rfl (by kernel_rfl) (by kernel_rfl) (by kernel_rfl) (by kernel_rfl) (fun _ _ _ h => h) (by rfl) ?_ (by assumption) ?_
    rotate_left
    · intro y hSy; (try dsimp only at hSy); go_simp; (try with_reducible rfl)
    try simp only [Act.put, List.setIfInBounds_toArray, List.set_cons_zero, List.set_cons_succ]
    refine AnyK.take 24 (v := ?_) rfl (by kernel_rfl) (by kernel_rfl) (by kernel_rfl) (by kernel_rfl) (fun _ _ _ h => h) (by rfl) ?_ (by assumption) ?_
    rotate_left
    · intro y hSy; (try dsimp only at hSy); go_simp; (try with_reducible rfl)
    try simp only [Act.put, List.setIfInBounds_toArray, List.set_cons_zero, List.set_cons_succ]
    refine AnyK.take 25 (v := ?_) rfl (by kernel_rfl) (by kernel_rfl) (by kernel_rfl) (by kernel_rfl) (fun _ _ _ h => h) (by rfl) ?_ (by assumption) ?_
    rotate_left
    · intro y hSy; (try dsimp only at hSy); go_simp; (try with_reducible rfl)
    try simp only [Act.put, List.setIfInBounds_toArray, List.set_cons_zero, List.set_cons_succ]
    refine AnyK.take 26 (v := ?_) rfl (by kernel_rfl) (by kernel_rfl) (by kernel_rfl) (by kernel_rfl) (fun _ _ _ h => h) (by rfl) ?_ (by assumption) ?_
    rotate_left
    · intro y hSy; (try dsimp only at hSy); go_simp; (try with_reducible rfl)
    try simp only [Act.put, List.setIfInBounds_toArray, List.set_cons_zero, List.set_cons_succ]
    refine AnyK.one 15 rfl (by kernel_rfl) (fun K' hK => ?_)
    refine slots_step rfl _ _ rfl (v := .slice none 0 0) (n := 0) (m := i) (xs := []) (news := flatL (r.take i)) rfl rfl (World.ownsRow_nil y2.drew y2.heap.size _ _) (Nat.le_refl _) (fun h => by cases h) (hs1.out _ hB6d.out) hf1.out hone1.out (by have := hrl.out; omega) ?_
    intro u1 w7 hown7 hbe7
    rw [Nat.zero_add, List.nil_append] at hown7
    refine hK.out _ _ (onto_belowB hHeld hbe7) (fun hHeld7 => ?_)
    clear hK K'
    try simp only [Act.put, List.setIfInBounds_toArray, List.set_cons_zero, List.set_cons_succ]
    have hB7 := hB6.out.trans (hHeld7.2.2.mono hB6.out.size)
    refine AnyK.one 27 rfl (by kernel_rfl) (fun K' hK => ?_)
    refine slots_step rfl _ _ rfl (v := u1) (n := i) (m := r.length - (i + 1)) (xs := flatL (r.take i)) (news := flatL (r.drop (i + 1))) rfl rfl hown7 hHeld7.2.2.size (fun h => by cases h) (hs3.out rfl _) hf2.out hone2.out (by have := hrl.out; omega) ?_
    intro u2 w8 hown8 hbe8
    obtain ⟨qq, cc, rfl⟩ := rowL_form hown8
    refine hK.out _ _ (onto_belowB hHeld7 hbe8) (fun hHeld8 => ?_)
    clear hK K'
    try simp only [Act.put, List.setIfInBounds_toArray, List.set_cons_zero, List.set_cons_succ]
    refine AnyK.one 28 rfl (by kernel_rfl) (fun K' hK => ?_)
    go_simp
    refine hK.out _ _ hHeld8 (fun hHeld9 => ?_)
    clear hK K'
    try simp only [Act.put, List.setIfInBounds_toArray, List.set_cons_zero, List.set_cons_succ]
    refine AnyK.one 29 rfl (by kernel_rfl) (fun K' hK => ?_)
    go_simp
    refine hK.out _ _ hHeld8 (fun hHeld10 => ?_)
    clear hK K'
    try simp only [Act.put, List.setIfInBounds_toArray, List.set_cons_zero, List.set_cons_succ]
    have hB8 := hB6.out.trans (hHeld8.2.2.mono hB6.out.size)
    have d8 := (hB8.cell (p := ⟨g, o * 4 + 3, none⟩) l2w.out).trans d3w.out
    have f8 := (World.frozen?_of_block (w := w) (a := ⟨g, o * 4 + 3, none⟩) (hB8.block g l2w.out)).trans fz3w.out
    refine AnyK.last rfl (by kernel_rfl) (fun K' hK => ?_)
    go_simp
    refine hK.out _ _ ?_
    clear hK K'
    try simp only [Act.put, List.setIfInBounds_toArray, List.set_cons_zero, List.set_cons_succ]
    refine AnyK.done (by kernel_rfl) ?_ _
    go_wp2
    go_ret
    exact ⟨rfl, hdone.out w8 _ hB8 (row_lower hown8 hB6.out.size)⟩
  · skip
    refine regionK 30 (fun y => (∀ a : Addr, a.block < y2.heap.size → y.cell? a = y2.cell? a) ∧ (∀ b : Nat, b < y2.heap.size → y.heap[b]? = y2.heap[b]?) ∧ Below y2.heap.size y2 y) (by kernel_rfl) hst (fun hHeld => ?_)
    simp only [List.size_toArray, List.length_cons, List.length_nil, Nat.reduceAdd, Array.replicate_succ]
    refine AnyK.take 0 (v := ?_) rfl (by kernel_rfl) (by kernel_rfl) (by kernel_rfl) (by kernel_rfl) (fun _ _ _ h => h) (by rfl) ?_ (by assumption) ?_
    rotate_left
    · intro y hSy; (try dsimp only at hSy); go_simp; (try with_reducible rfl)
    try simp only [Act.put, List.setIfInBounds_toArray, List.set_cons_zero, List.set_cons_succ]
    refine AnyK.take 1 (v := ?_) rfl (by kernel_rfl) (by kernel_rfl) (by kernel_rfl) (by kernel_rfl) (fun _ _ _ h => h) (by rfl) ?_ (by assumption) ?_
    rotate_left
    · intro y hSy; (try dsimp only at hSy); go_simp; (try with_reducible rfl)
    try simp only [Act.put, List.setIfInBounds_toArray, List.set_cons_zero, List.set_cons_succ]
    refine AnyK.take 2 (v := ?_) rfl (by kernel_rfl) (by kernel_rfl) (by kernel_rfl) (by kernel_rfl) (fun _ _ _ h => h) (by rfl) ?_ (by assumption) ?_
    rotate_left
    · intro y hSy; (try dsimp only at hSy); go_simp; (try with_reducible rfl)
    try simp only [Act.put, List.setIfInBounds_toArray, List.set_cons_zero, List.set_cons_succ]
    refine AnyK.take 3 (v := ?_) rfl (by kernel_rfl) (by kernel_rfl) (by kernel_rfl) (by kernel_rfl) (fun _ _ _ h => h) (by rfl) ?_ (by assumption) ?_
    rotate_left
    · intro y hSy; (try dsimp only at hSy); go_simp; (try with_reducible rfl)
    try simp only [Act.put, List.setIfInBounds_toArray, List.set_cons_zero, List.set_cons_succ]
    refine AnyK.take 4 (v := ?_) rfl (by kernel_rfl) (by kernel_rfl) (by kernel_rfl) (by kernel_rfl) (fun _ _ _ h => h) (by rfl) ?_ (by assumption) ?_
    rotate_left
    · intro y hSy; (try dsimp only at hSy); go_simp; (try with_reducible rfl)
    try simp only [Act.put, List.setIfInBounds_toArray, List.set_cons_zero, List.set_cons_succ]
    refine AnyK.take 5 (v := ?_) rfl (by kernel_rfl) (by kernel_rfl) (by kernel_rfl) (by kernel_rfl) (fun _ _ _ h => h) (by rfl) ?_ (by assumption) ?_
    rotate_left
    · intro y hSy; (try dsimp only at hSy); go_simp; (try with_reducible rfl)
    try simp only [Act.put, List.setIfInBounds_toArray, List.set_cons_zero, List.set_cons_succ]
    refine AnyK.take 6 (v := ?_) rfl (by kernel_rfl) (by kernel_rfl) (by kernel_rfl) (by kernel_rfl) (fun _ _ _ h => h) (by rfl) ?_ (by assumption) ?_
    rotate_left
    · intro y hSy; (try dsimp only at hSy); go_simp; (try with_reducible rfl)
    try simp only [Act.put, List.setIfInBounds_toArray, List.set_cons_zero, List.set_cons_succ]
    refine AnyK.take 7 (v := ?_) rfl (by kernel_rfl) (by kernel_rfl) (by kernel_rfl) (by kernel_rfl) (fun _ _ _ h => h) (by rfl) ?_ (by assumption) ?_
    rotate_left
    · intro y hSy; (try dsimp only at hSy); go_simp; (try with_reducible rfl)
    try simp only [Act.put, List.setIfInBounds_toArray, List.set_cons_zero, List.set_cons_succ]
    refine AnyK.take 8 (v := ?_) rfl (by kernel_rfl) (by kernel_rfl) (by kernel_rfl) (by kernel_rfl) (fun _ _ _ h => h) (by rfl) ?_ (by assumption) ?_
    rotate_left
    · intro y hSy; (try dsimp only at hSy); go_simp; (try with_reducible rfl)
    try simp only [Act.put, List.setIfInBounds_toArray, List.set_cons_zero, List.set_cons_succ]
    refine AnyK.take 9 (v := ?_) rfl (by kernel_rfl) (by kernel_rfl) (by kernel_rfl) (by kernel_rfl) (fun _ _ _ h => h) (by rfl) ?_ (by assumption) ?_
    rotate_left
    · intro y hSy; (try dsimp only at hSy); go_simp; (try with_reducible rfl)
    try simp only [Act.put, List.setIfInBounds_toArray, List.set_cons_zero, List.set_cons_succ]
    refine AnyK.take 10 (v := ?_) rfl (by kernel_rfl) (by kernel_rfl) (by kernel_rfl) (by kernel_rfl) (fun _ _ _ h => h) (by rfl) ?_ (by assumption) ?_
    rotate_left
    · intro y hSy; (try dsimp only at hSy); go_simp; (try with_reducible rfl)
    try simp only [Act.put, List.setIfInBounds_toArray, List.set_cons_zero, List.set_cons_succ]
    refine AnyK.take 11 (v := ?_) rfl (by kernel_rfl) (by kernel_rfl) (by kernel_rfl) (by kernel_rfl) (fun _ _ _ h => h) (by rfl) ?_ (by assumption) ?_
    rotate_left
    · intro y hSy; (try dsimp only at hSy); go_simp; (try with_reducible rfl)
    try simp only [Act.put, List.setIfInBounds_toArray, List.set_cons_zero, List.set_cons_succ]
    refine AnyK.take 12 (v := ?_) rfl (by kernel_rfl) (by kernel_rfl) (by kernel_rfl) (by kernel_rfl) (fun _ _ _ h => h) (by rfl) ?_ (by assumption) ?_
    rotate_left
    · intro y hSy; (try dsimp only at hSy); go_simp; (try with_reducible rfl)
    try simp only [Act.put, List.setIfInBounds_toArray, List.set_cons_zero, List.set_cons_succ]
    refine AnyK.take 13 (v := ?_) rfl (by kernel_rfl) (by kernel_rfl) (by kernel_rfl) (by kernel_rfl) (fun _ _ _ h => h) (by rfl) ?_ (by assumption) ?_
    rotate_left
    · intro y hSy; (try dsimp only at hSy); go_simp; (try with_reducible rfl)
    try simp only [Act.put, List.setIfInBounds_toArray, List.set_cons_zero, List.set_cons_succ]
    refine AnyK.take 14 (v := ?_) rfl (by kernel_rfl) (by kernel_rfl) (by kernel_rfl) (by kernel_rfl) (fun _ _ _ h => h) (by rfl) ?_ (by assumption) ?_
    rotate_left
    · intro y hSy; (try dsimp only at hSy); go_simp; (try with_reducible rfl)
    try simp only [Act.put, List.setIfInBounds_toArray, List.set_cons_zero, List.set_cons_succ]
    refine AnyK.take 16 (v := ?_) rfl (by kernel_rfl) (by kernel_rfl) (by kernel_rfl) (by kernel_rfl) (fun _ _ _ h => h) (by rfl) ?_ (by assumption) ?_
    rotate_left
    · intro y hSy; (try dsimp only at hSy); go_simp; (try with_reducible rfl)
    try simp only [Act.put, List.setIfInBounds_toArray, List.set_cons_zero, List.set_cons_succ]
    refine AnyK.take 17 (v := ?_) rfl (by kernel_rfl) (by kernel_rfl) (by kernel_rfl) (by kernel_rfl) (fun _ _ _ h => h) (by rfl) ?_ (by assumption) ?_
    rotate_left
    · intro y hSy; (try dsimp only at hSy); go_simp; (try with_reducible rfl)
    try simp only [Act.put, List.setIfInBounds_toArray, List.set_cons_zero, List.set_cons_succ]
    refine AnyK.take 18 (v := ?_) rfl (by kernel_rfl) (by kernel_rfl) (by kernel_rfl) (by kernel_rfl) (fun _ _ _ h => h) (by rfl) ?_ (by assumption) ?_
    rotate_left
    · intro y hSy; (try dsimp only at hSy); go_simp; (try with_reducible rfl)
    try simp only [Act.put, List.setIfInBounds_toArray, List.set_cons_zero, List.set_cons_succ]
    refine AnyK.take 19 (v := ?_) rfl (by kernel_rfl) (by kernel_rfl) (by kernel_rfl) (by kernel_rfl) (fun _ _ _ h => h) (by rfl) ?_ (by assumption) ?_
    rotate_left
    · intro y hSy; (try dsimp only at hSy); go_simp; (try with_reducible rfl)
    try simp only [Act.put, List.setIfInBounds_toArray, List.set_cons_zero, List.set_cons_succ]
    refine AnyK.take 20 (v := ?_) rfl (by kernel_rfl) (by kernel_rfl) (by kernel_rfl) (by kernel_rfl) (fun _ _ _ h => h) (by rfl) ?_ (by assumption) ?_
    rotate_left
    · intro y hSy; (try dsimp only at hSy); go_simp; (try with_reducible rfl)
    try simp only [Act.put, List.setIfInBounds_toArray, List.set_cons_zero, List.set_cons_succ]
    refine AnyK.take 21 (v := ?_) rfl (by kernel_rfl) (by kernel_rfl) (by kernel_rfl) (by kernel_rfl) (fun _ _ _ h => h) (by rfl) ?_ (by assumption) ?_
    rotate_left
    · intro y hSy; (try dsimp only at hSy); go_simp; (try with_reducible rfl)
    try simp only [Act.put, List.setIfInBounds_toArray, List.set_cons_zero, List.set_cons_succ]
    refine AnyK.take 22 (v := ?_) rfl (by kernel_rfl) (by kernel_rfl) (by kernel_rfl) (by kernel_rfl) (fun _ _ _ h => h) (by rfl) ?_ (by assumption) ?_
    rotate_left
    · intro y hSy; (try dsimp only at hSy); go_simp; (try with_reducible rfl)
    try simp only [Act.put, List.setIfInBounds_toArray, List.set_cons_zero, List.set_cons_succ]
    refine AnyK.take 23 (v := ?_) rfl (by kernel_rfl) (by kernel_rfl) (by kernel_rfl) (by kernel_rfl) (fun _ _ _ h => h) (by rfl) ?_ (by assumption) ?_
    rotate_left
    · intro y hSy; (try dsimp only at hSy); go_simp; (try with_reducible rfl)
    try simp only [Act.put, List.setIfInBounds_toArray, List.set_cons_zero, List.set_cons_succ]
    refine AnyK.take 24 (v := ?_) rfl (by kernel_rfl) (by kernel_rfl) (by kernel_rfl) (by kernel_rfl) (fun _ _ _ h => h) (by rfl) ?_ (by assumption) ?_
    rotate_left
    · intro y hSy; (try dsimp only at hSy); go_simp; (try with_reducible rfl)
    try simp only [Act.put, List.setIfInBounds_toArray, List.set_cons_zero, List.set_cons_succ]
    refine AnyK.take 25 (v := ?_) rfl (by kernel_rfl) (by kernel_rfl) (by kernel_rfl) (by kernel_rfl) (fun _ _ _ h => h) (by rfl) ?_ (by assumption) ?_
    rotate_left
    · intro y hSy; (try dsimp only at hSy); go_simp; (try with_reducible rfl)
    try simp only [Act.put, List.setIfInBounds_toArray, List.set_cons_zero, List.set_cons_succ]
    refine AnyK.take 26 (v := ?_) rfl (by kernel_rfl) (by kernel_rfl) (by kernel_rfl) (by kernel_rfl) (fun _ _ _ h => h) (by rfl) ?_ (by assumption) ?_
    rotate_left
    · intro y hSy; (try dsimp only at hSy); go_simp; (try with_reducible rfl)
    try simp only [Act.put, List.setIfInBounds_toArray, List.set_cons_zero, List.set_cons_succ]
    refine AnyK.one 15 rfl (by kernel_rfl) (fun K' hK => ?_)
    refine slots_step rfl _ _ rfl (v := .slice none 0 0) (n := 0) (m := i) (xs := []) (news := flatL (r.take i)) rfl rfl (World.ownsRow_nil y2.drew y2.heap.size _ _) (Nat.le_refl _) (fun h => by cases h) (hs1.out _ hB6d.out) hf1.out hone1.out (by have := hrl.out; omega) ?_
    intro u1 w7 hown7 hbe7
    rw [Nat.zero_add, List.nil_append] at hown7
    refine hK.out _ _ (onto_belowB hHeld hbe7) (fun hHeld7 => ?_)
    clear hK K'
    try simp only [Act.put, List.setIfInBounds_toArray, List.set_cons_zero, List.set_cons_succ]
    have hB7 := hB6.out.trans (hHeld7.2.2.mono hB6.out.size)
    refine AnyK.one 27 rfl (by kernel_rfl) (fun K' hK => ?_)
    refine slots_step rfl _ _ rfl (v := u1) (n := i) (m := r.length - (i + 1)) (xs := flatL (r.take i)) (news := flatL (r.drop (i + 1))) rfl rfl hown7 hHeld7.2.2.size (fun h => by cases h) (hs2.out _ hB7) hf2.out hone2.out (by have := hrl.out; omega) ?_
    intro u2 w8 hown8 hbe8
    obtain ⟨qq, cc, rfl⟩ := rowL_form hown8
    refine hK.out _ _ (onto_belowB hHeld7 hbe8) (fun hHeld8 => ?_)
    clear hK K'
    try simp only [Act.put, List.setIfInBounds_toArray, List.set_cons_zero, List.set_cons_succ]
    refine AnyK.one 28 rfl (by kernel_rfl) (fun K' hK => ?_)
    go_simp
    refine hK.out _ _ hHeld8 (fun hHeld9 => ?_)
    clear hK K'
    try simp only [Act.put, List.setIfInBounds_toArray, List.set_cons_zero, List.set_cons_succ]
    refine AnyK.one 29 rfl (by kernel_rfl) (fun K' hK => ?_)
    go_simp
    refine hK.out _ _ hHeld8 (fun hHeld10 => ?_)
    clear hK K'
    try simp only [Act.put, List.setIfInBounds_toArray, List.set_cons_zero, List.set_cons_succ]
    have hB8 := hB6.out.trans (hHeld8.2.2.mono hB6.out.size)
    have d8 := (hB8.cell (p := ⟨g, o * 4 + 3, none⟩) l2w.out).trans d3w.out
    have f8 := (World.frozen?_of_block (w := w) (a := ⟨g, o * 4 + 3, none⟩) (hB8.block g l2w.out)).trans fz3w.out
    refine AnyK.last rfl (by kernel_rfl) (fun K' hK => ?_)
    go_simp
    refine hK.out _ _ ?_
    clear hK K'
    try simp only [Act.put, List.setIfInBounds_toArray, List.set_cons_zero, List.set_cons_succ]
    refine AnyK.done (by kernel_rfl) ?_ _
    go_wp2
    go_ret
    exact ⟨rfl, hdone.out w8 _ hB8 (row_lower hown8 hB6.out.size)⟩
end Go.Proofs.Ytoccmiinkfhohaa
namespace Go.Proofs.Ytoccmiinkfhohaa
open Go.RowKit Go.Shelf Go.Lib Go.Sort Go.Proofs Go.Maps
set_option maxHeartbeats 400000
set_option maxRecDepth 8000

theorem updH_id (H : List OB) (o : Int) (g : OB → OB) (hg : ∀ a, objH H o = some a → g a = a) : updH H o g = H := by
  unfold updH
  rcases objH_cases H o with ⟨_, h2⟩ | ⟨n, a, rfl, h0, ha, h3, _⟩
  · rw [h2]
  · rw [h3]
    show H.set _ (g a) = H
    rw [hg a h3]
    exact set_same ha
theorem c_RDrop {w : World} {f : Nat → Nat} {rb : Nat} {lim : Int} {R : List OB} (hN : Norm f w) (h : RefO w f rb lim R) (hR : ∀ a ∈ R, a.l.length ≤ 100000) (o : Int) (k : KK) (hk : okK k) :
    Calls Try.prog 47 #[ptrV rb, .int .i64 o, keyV k.1 k.2] w fun e w' => e = .returned (.bool (dropB R o (pk k))) ∧ RefT w f rb lim (updH R o (rdropA (pk k))) w' := by
  have hB : dropB R o (pk k) = (placeH R o (pk k)).isSome := (place_own R o (pk k)).symm
  rw [hB]
  cases hp : placeH R o (pk k) with
  | none =>
    have e1 : updH R o (rdropA (pk k)) = R := updH_id _ _ _ fun a ha => by
      unfold rdropA
      unfold placeH at hp
      rw [ha] at hp
      have hp' : idx (gk a.l) (pk k) = none := hp
      rw [hp']
    rw [e1]
    refine (c_RDropN hN h hR o k hk hp).mono ?_
    rintro e w' ⟨rfl, hb⟩
    exact ⟨rfl, RefT.same hN h hb⟩
  | some i =>
    rcases objH_cases R o with ⟨h1, h2⟩ | ⟨n, a, rfl, h0, ha, h3, h4⟩
    · unfold placeH at hp; rw [h2] at hp; cases hp
    · unfold placeH at hp
      rw [h3] at hp
      have hp' : idx (gk a.l) (pk k) = some i := hp
      have e1 : rdropA (pk k) a = { a with l := a.l.eraseIdx i } := by unfold rdropA; rw [hp']
      rw [updH_at h0 ha, e1]
      exact c_RDropT hN h hR n a h0 ha k hk i hp'
theorem c_RSetProto {w : World} {f : Nat → Nat} {rb : Nat} {lim : Int} {R : List OB} (hN : Norm f w) (h : RefO w f rb lim R) (o pro : Int) :
    Calls Try.prog 48 #[ptrV rb, .int .i64 o, .int .i64 pro] w fun e w' => e = .returned (.int .i64 (setE R o pro)) ∧ RefT w f rb lim (setH R o pro) w' := by
  rcases objH_cases R o with ⟨h1, h2⟩ | ⟨n, a, rfl, h0, ha, h3, h4⟩
  · have e1 : setE R o pro = 151 := by unfold setE; rw [if_pos (.inl h1)]
    unfold setH
    rw [e1]
    refine (c_RSetProto0 h o pro h1).mono ?_
    rintro e w' ⟨rfl, rfl⟩
    exact ⟨rfl, RefT.same hN h (Below.refl _ _)⟩
  · by_cases h5 : pro ≠ 0 ∧ hasH R pro = false
    · have e1 : setE R (n : Int) pro = 151 := by unfold setE; rw [if_pos (.inr h5)]
      unfold setH
      rw [e1]
      refine (c_RSetProtoN h n pro h4 h5.1 h5.2).mono ?_
      rintro e w' ⟨rfl, rfl⟩
      exact ⟨rfl, RefT.same hN h (Below.refl _ _)⟩
    · have e1 : setE R (n : Int) pro = 0 := by
        unfold setE
        rw [if_neg]
        rintro (h | h)
        · rw [h4] at h; cases h
        · exact h5 h
      have hp : pro = 0 ∨ hasH R pro = true := by
        by_cases e : pro = 0
        · exact .inl e
        · exact .inr (by cases hh : hasH R pro; exact absurd ⟨e, hh⟩ h5; rfl)
      unfold setH
      rw [e1, if_pos rfl, updH_at h0 ha]
      exact c_RSetProto1 hN h n a h0 ha pro hp
theorem c_RShut {w : World} {f : Nat → Nat} {rb : Nat} {lim : Int} {R : List OB} (hN : Norm f w) (h : RefO w f rb lim R) (o : Int) :
    Calls Try.prog 49 #[ptrV rb, .int .i64 o] w fun e w' => e = .returned (.int .i64 (hasE R o)) ∧ RefT w f rb lim (updH R o (fun a => { a with shut := true })) w' := by
  unfold hasE
  rcases objH_cases R o with ⟨h1, h2⟩ | ⟨n, a, rfl, h0, ha, h3, h4⟩
  · unfold updH
    rw [h1, h2]
    refine (c_RShut0 h o h1).mono ?_
    rintro e w' ⟨rfl, rfl⟩
    exact ⟨rfl, RefT.same hN h (Below.refl _ _)⟩
  · rw [h4, updH_at h0 ha]
    exact c_RShut1 hN h n a h0 ha
theorem c_RProto {w : World} {f : Nat → Nat} {rb : Nat} {lim : Int} {R : List OB} (h : RefO w f rb lim R) (o : Int) :
    Calls Try.prog 77 #[ptrV rb, .int .i64 o] w fun e w' => e = .returned (.int .i64 (match objH R o with | some a => a.pro | none => 0)) ∧ w' = w := by
  rcases objH_cases R o with ⟨h1, h2⟩ | ⟨n, a, rfl, h0, ha, h3, h4⟩
  · rw [h2]; exact c_RProto0 h o h1
  · rw [h3]; exact c_RProto1 h n a h0 ha
end Go.Proofs.Ytoccmiinkfhohaa
namespace Go.Proofs.Ytoccmiinkfhohaa
open Go.RowKit Go.Shelf Go.Lib Go.Sort Go.Proofs Go.Maps
set_option maxHeartbeats 400000
set_option maxRecDepth 8000

theorem mem_le_sum {l : List Nat} {x : Nat} (h : x ∈ l) : x ≤ l.sum := by
  induction l with
  | nil => cases h
  | cons a l ih =>
    rw [List.sum_cons]
    rcases List.mem_cons.1 h with rfl | h
    · omega
    · have := ih h; omega
/-- an operation -/
structure OP where
  kd : Int
  o : Int
  n : Int
  k : KK
  p : PV
instance : Inhabited OP := ⟨⟨0, 0, 0, (⟨#[]⟩, 0), zeroPV⟩⟩
def encO (x : OP) : List Value := [.int .i64 x.kd, .int .i64 x.o, .int .i64 x.n, .string x.k.1, .int .i64 x.k.2] ++ encP x.p
def opV (x : OP) : Value := .agg (encO x).toArray
theorem encO_one (x : OP) : ∀ u ∈ encO x, u.oneCell' = true := by simp [encO, encP, Value.oneCell']
theorem infoOp : (Try.prog.info? 39).map (·.size) = some 18 := by kernel_rfl
/-- v reads as the list l -/
def RdO (w : World) (v : Value) (l : List OP) : Prop :=
  (v = .slice none 0 0 ∧ l = []) ∨ ∃ p c, v = .slice (some p) l.length c ∧ l.length ≤ c ∧ ∀ k x, l[k]? = some x → p.spot = none ∧ w.rangeAt p.block (p.off + k * 18) (encO x)
theorem RdO.form {w : World} {v : Value} {l : List OP} (h : RdO w v l) : ∃ p c, v = .slice p l.length c ∧ l.length ≤ c ∧
    ∀ k x, l[k]? = some x → ∃ b o, p = some ⟨b, o, none⟩ ∧ b < w.heap.size ∧ ∀ y, Below w.heap.size w y → y.rangeAt b (o + k * 18) (encO x) := by
  rcases h with ⟨rfl, rfl⟩ | ⟨p, c, rfl, hl, hc⟩
  · exact ⟨none, 0, rfl, Nat.le_refl _, fun k x hx => by simp at hx⟩
  · refine ⟨some p, c, rfl, hl, fun k x hx => ?_⟩
    obtain ⟨h1, h2⟩ := hc k x hx
    obtain ⟨b, o, sp⟩ := p
    dsimp only at *
    subst h1
    have hlt : b < w.heap.size := cell_lt (h2 0 _ rfl)
    exact ⟨b, o, rfl, hlt, fun y hy => range_at h2 (hy.block b hlt)⟩
def fewS (x : OP) : Nat := (x.k.1.size + x.p.v.s.size) / 20
def fewO (l : List OP) (k : Nat) : Nat := l.length + ((l.take k).map fewS).sum
theorem fewO_next {l : List OP} {k : Nat} {x : OP} (h : l[k]? = some x) : fewO l (k + 1) = fewO l k + fewS x := by
  unfold fewO
  have hlt : k < l.length := (List.getElem?_eq_some_iff.1 h).1
  rw [List.take_succ_eq_append_getElem hlt, List.map_append, List.sum_append]
  have : l[k] = x := (List.getElem?_eq_some_iff.1 h).2
  simp [this]
  omega
theorem fewO_mono (l : List OP) {j k : Nat} (h : j ≤ k) : fewO l j ≤ fewO l k := by
  unfold fewO
  obtain ⟨d, rfl⟩ := Nat.exists_eq_add_of_le h
  rw [List.take_add, List.map_append, List.sum_append]
  omega
end Go.Proofs.Ytoccmiinkfhohaa
namespace Go.Proofs.Ytoccmiinkfhohaa
open Go.RowKit Go.Shelf Go.Lib Go.Sort Go.Proofs Go.Maps
set_option linter.unusedVariables false
set_option maxHeartbeats 400000
set_option maxRecDepth 8000

/-- an object without its mode -/
def strip (a : OB) : OB := { a with fast := false }
def stp (H : List OB) : List OB := H.map strip
theorem stp_len (H : List OB) : (stp H).length = H.length := by simp [stp]
theorem stp_has (H : List OB) (o : Int) : hasH (stp H) o = hasH H o := by simp [hasH, stp]
theorem stp_used (H : List OB) : usedH (stp H) = usedH H := by
  unfold usedH stp
  rw [List.length_map, List.map_map]
  rfl
theorem stp_get (H : List OB) (i : Nat) : (stp H)[i]? = H[i]?.map strip := by simp [stp]
theorem stp_obj (H : List OB) (o : Int) : objH (stp H) o = (objH H o).map strip := by
  unfold objH
  rw [stp_has, stp_get]
  split <;> rfl
theorem stp_own (H : List OB) (o : Int) (K : KK) : ownH (stp H) o K = ownH H o K := by
  unfold ownH
  rw [stp_obj]
  cases objH H o <;> rfl
theorem stp_list (H : List OB) (o : Int) : listH (stp H) o = listH H o := by
  unfold listH
  rw [stp_obj]
  cases objH H o <;> rfl
theorem stp_makeE (H : List OB) (lim c p : Int) : makeE (stp H) lim c p = makeE H lim c p := by
  unfold makeE
  rw [stp_has, stp_used]
theorem stp_makeN (H : List OB) (lim c p : Int) : makeN (stp H) lim c p = makeN H lim c p := by
  unfold makeN
  rw [stp_makeE, stp_len]
theorem stp_make (H : List OB) (lim c p : Int) : makeH false (stp H) lim c p = stp (makeH true H lim c p) := by
  unfold makeH
  rw [stp_makeE]
  split
  · simp [stp, strip]
  · rfl
theorem stp_upd (H : List OB) (o : Int) (g g' : OB → OB) (hg : ∀ a, strip (g a) = g' (strip a)) : updH (stp H) o g' = stp (updH H o g) := by
  unfold updH
  rw [stp_obj]
  cases objH H o with
  | none => rfl
  | some a =>
    show (stp H).set _ (g' (strip a)) = stp (H.set _ (g a))
    unfold stp
    rw [List.map_set, hg]
theorem stp_putE (H : List OB) (lim o : Int) (K : KK) (p : PV) : putE (stp H) lim o K p = putE H lim o K p := by
  unfold putE
  rw [stp_has, stp_own, stp_used]
theorem stp_put (H : List OB) (lim o : Int) (K : KK) (p : PV) : rputH (stp H) lim o K p = stp (putH H lim o K p) := by
  unfold rputH putH
  rw [stp_putE]
  split
  · exact stp_upd H o (putA K p) (rputA K p) (fun a => rfl)
  · rfl
theorem strip_drop (K : KK) (a : OB) : strip (dropA K a) = rdropA K (strip a) := by
  unfold dropA rdropA
  show _ = match idx (gk a.l) K with | some j => _ | none => _
  cases idx (gk a.l) K <;> rfl
theorem stp_drop (H : List OB) (o : Int) (K : KK) : updH (stp H) o (rdropA K) = stp (updH H o (dropA K)) := stp_upd H o _ _ (strip_drop K)
theorem stp_dropB (H : List OB) (o : Int) (K : KK) : dropB (stp H) o K = dropB H o K := by
  unfold dropB
  rw [stp_own]
theorem stp_setE (H : List OB) (o p : Int) : setE (stp H) o p = setE H o p := by
  unfold setE
  rw [stp_has, stp_has]
theorem stp_set (H : List OB) (o p : Int) : setH (stp H) o p = stp (setH H o p) := by
  unfold setH
  rw [stp_setE]
  split
  · exact stp_upd H o (fun a => { a with pro := p }) (fun a => { a with pro := p }) (fun a => rfl)
  · rfl
def shutA (a : OB) : OB := { a with shut := true }
def forceA (a : OB) : OB := { a with fast := false }
theorem stp_shut (H : List OB) (o : Int) : updH (stp H) o shutA = stp (updH H o shutA) := stp_upd H o _ _ (fun a => rfl)
theorem stp_force (H : List OB) (o : Int) : stp (updH H o forceA) = stp H := by
  have h1 := stp_upd H o forceA forceA (fun a => rfl)
  rw [← h1]
  refine updH_id _ _ _ fun a h => ?_
  rw [stp_obj] at h
  cases hb : objH H o with
  | none => rw [hb] at h; cases h
  | some b => rw [hb] at h; cases h; rfl
theorem stp_hasE (H : List OB) (o : Int) : hasE (stp H) o = hasE H o := by
  unfold hasE
  rw [stp_has]
/-- what it makes of a heap -/
def opH (lim : Int) (H : List OB) (x : OP) : List OB :=
  if x.kd = 0 then makeH true H lim x.n x.o else if x.kd = 1 then putH H lim x.o (pk x.k) x.p else if x.kd = 2 then updH H x.o (dropA (pk x.k)) else if x.kd = 3 then setH H x.o x.n else if x.kd = 4 then updH H x.o shutA else updH H x.o forceA
theorem upd_len (H : List OB) (o : Int) (g : OB → OB) : (updH H o g).length = H.length := by
  unfold updH
  split
  · simp
  · rfl
theorem upd_mem {H : List OB} {o : Int} {g : OB → OB} {a : OB} (h : a ∈ updH H o g) : a ∈ H ∨ ∃ b ∈ H, a = g b := by
  unfold updH at h
  rcases objH_cases H o with ⟨_, h2⟩ | ⟨n, b, rfl, h0, hb, h3, _⟩
  · rw [h2] at h; exact .inl h
  · rw [h3] at h
    rcases List.mem_or_eq_of_mem_set h with h | h
    · exact .inl h
    · exact .inr ⟨b, List.mem_of_getElem? hb, h⟩
theorem used_upd (H : List OB) (o : Int) (g : OB → OB) (d : Nat) (hg : ∀ a, (g a).l.length ≤ a.l.length + d) : usedH (updH H o g) ≤ usedH H + d := by
  unfold updH
  rcases objH_cases H o with ⟨_, h2⟩ | ⟨n, b, rfl, h0, hb, h3, _⟩
  · rw [h2]; exact Nat.le_add_right _ _
  · rw [h3]
    have h4 : ((n : Int).toNat - 1) = n - 1 := by simp
    have e := usedH_set (a' := g b) hb
    have := hg b
    show usedH (H.set ((n : Int).toNat - 1) (g b)) ≤ _
    rw [h4]
    omega
theorem drop_len (K : KK) (a : OB) : (dropA K a).l.length ≤ a.l.length + 0 := by
  unfold dropA
  cases idx (gk a.l) K with
  | none => exact Nat.le_refl _
  | some j =>
    show (a.l.eraseIdx j).length ≤ _
    rw [List.length_eraseIdx]
    split <;> omega
theorem op_used (lim : Int) (H : List OB) (x : OP) : usedH (opH lim H x) ≤ usedH H + 1 := by
  unfold opH
  split
  · unfold makeH
    split
    · simp [usedH]; omega
    · omega
  · split
    · unfold putH
      split
      · exact used_upd H _ _ 1 (fun a => by
          show (putL a.l _ _).length ≤ _
          rw [putL_len]
          split <;> omega)
      · omega
    · split
      · have := used_upd H x.o (dropA (pk x.k)) 0 (drop_len _); omega
      · split
        · unfold setH
          split
          · have := used_upd H x.o (fun a => { a with pro := x.n }) 0 (fun a => Nat.le_refl _); omega
          · omega
        · split
          · have := used_upd H x.o shutA 0 (fun a => Nat.le_refl _); omega
          · have := used_upd H x.o forceA 0 (fun a => Nat.le_refl _); omega
theorem len_used {H : List OB} {a : OB} (h : a ∈ H) : a.l.length ≤ usedH H := by
  unfold usedH
  have : a.l.length ∈ H.map fun a => a.l.length := List.mem_map_of_mem h
  have := mem_le_sum this
  omega
theorem used_len (H : List OB) : H.length ≤ usedH H := by unfold usedH; omega
/-- two worlds: what neither heap owns is as it was -/
structure TwoK (w w' : World) (f f2 f' f2' : Nat → Nat) : Prop where
  os : w'.os = w.os
  tape : w'.tape = w.tape
  output : w'.output = w.output
  size : w.heap.size ≤ w'.heap.size
  own : ∀ r, r < w.heap.size → f' r = f r ∧ f2' r = f2 r
  block : ∀ r, r < w.heap.size → f r = 0 → f2 r = 0 → w'.heap[r]? = w.heap[r]?
theorem TwoK.refl (w : World) (f f2 : Nat → Nat) : TwoK w w f f2 f f2 := ⟨rfl, rfl, rfl, Nat.le_refl _, fun _ _ => ⟨rfl, rfl⟩, fun _ _ _ _ => rfl⟩
theorem TwoK.trans {w w' w'' : World} {f f2 f' f2' f'' f2'' : Nat → Nat} (h : TwoK w w' f f2 f' f2') (h' : TwoK w' w'' f' f2' f'' f2'') : TwoK w w'' f f2 f'' f2'' :=
  ⟨h'.os.trans h.os, h'.tape.trans h.tape, h'.output.trans h.output, Nat.le_trans h.size h'.size,
   fun r hr => by
    obtain ⟨a, b⟩ := h.own r hr
    obtain ⟨c, d⟩ := h'.own r (Nat.lt_of_lt_of_le hr h.size)
    exact ⟨c.trans a, d.trans b⟩,
   fun r hr h1 h2 => by
    obtain ⟨a, b⟩ := h.own r hr
    exact (h'.block r (Nat.lt_of_lt_of_le hr h.size) (a.trans h1) (b.trans h2)).trans (h.block r hr h1 h2)⟩
theorem TwoK.of_below {w w' : World} (f f2 : Nat → Nat) (h : Below w.heap.size w w') : TwoK w w' f f2 f f2 := ⟨h.os, h.tape, h.output, h.size, fun _ _ => ⟨rfl, rfl⟩, fun r hr _ _ => h.block r hr⟩
theorem TwoK.below {w w' : World} {f f2 f' f2' : Nat → Nat} (h : TwoK w w' f f2 f' f2') {N : Nat} (hN : N ≤ w.heap.size) (hf : ∀ r, r < N → f r = 0 ∧ f2 r = 0) : Below N w w' :=
  ⟨h.os, h.tape, h.output, h.size, fun r hr => h.block r (Nat.lt_of_lt_of_le hr hN) (hf r hr).1 (hf r hr).2⟩
/-- the two heaps, side by side -/
def Two (w : World) (hb rb : Nat) (lim : Int) (B : Nat) (H : List OB) (f f2 : Nat → Nat) : Prop :=
  Norm f w ∧ Norm f2 w ∧ HeapO w f hb lim (usedH H) B H ∧ RefO w f2 rb lim (stp H) ∧ ∀ r, f2 r ≠ 0 → f r = 0
theorem Norm.below {f : Nat → Nat} {w w' : World} (h : Norm f w) (hs : w.heap.size ≤ w'.heap.size) : Norm f w' := fun r hr => h r (Nat.le_trans hs hr)
theorem Two.below {w w' : World} {hb rb B : Nat} {lim : Int} {H : List OB} {f f2 : Nat → Nat} (h : Two w hb rb lim B H f f2) (hb' : Below w.heap.size w w') : Two w' hb rb lim B H f f2 := by
  obtain ⟨h1, h2, h3, h4, h5⟩ := h
  exact ⟨h1.below hb'.size, h2.below hb'.size, h3.below h1 hb', h4.below h2 hb', h5⟩
theorem Two.mono {w : World} {hb rb B B' : Nat} {lim : Int} {H : List OB} {f f2 : Nat → Nat} (h : Two w hb rb lim B H f f2) (hB : B ≤ B') : Two w hb rb lim B' H f f2 := by
  obtain ⟨h1, h2, h3, h4, h5⟩ := h
  exact ⟨h1, h2, h3.mono h1 hB, h4, h5⟩
/-- behind a call on the implementation's heap -/
theorem two_impl {w w' : World} {hb rb B B' : Nat} {lim : Int} {H H' : List OB} {f f2 : Nat → Nat} (h : Two w hb rb lim B H f f2) (ht : HeapT w f hb lim (usedH H') B' H' w') :
    ∃ f', Norm f' w' ∧ Norm f2 w' ∧ HeapO w' f' hb lim (usedH H') B' H' ∧ RefO w' f2 rb lim (stp H) ∧ (∀ r, f2 r ≠ 0 → f' r = 0) ∧ TwoK w w' f f2 f' f2 := by
  obtain ⟨h1, h2, h3, h4, h5⟩ := h
  obtain ⟨f', t1, t2⟩ := ht
  have hk : ∀ r, r < w.heap.size → f r = 0 → w'.heap[r]? = w.heap[r]? := fun r hr h0 => t1.block r hr (fun hc => hc.2 h0)
  have tr : Turn (fun c => c = 0) f2 f2 w w' := ⟨t1.os, t1.tape, t1.output, t1.size, fun _ _ => rfl, h2.below t1.size, fun r hr hn => hk r hr (h5 r hn)⟩
  refine ⟨f', t1.norm, h2.below t1.size, t2, h4.turn tr (fun _ h => h), fun r hr => ?_, ⟨t1.os, t1.tape, t1.output, t1.size, fun r hr => ⟨t1.agree r hr, rfl⟩, fun r hr h0 _ => hk r hr h0⟩⟩
  have hlt : r < w.heap.size := Nat.lt_of_not_le fun hle => hr (h2 r hle)
  rw [t1.agree r hlt]
  exact h5 r hr
/-- behind a call on the reference's heap -/
theorem two_ref {w w' : World} {hb rb B : Nat} {lim : Int} {H : List OB} {R' : List OB} {f f2 : Nat → Nat} (h1 : Norm f w) (h2 : Norm f2 w) (h3 : HeapO w f hb lim (usedH H) B H) (h5 : ∀ r, f2 r ≠ 0 → f r = 0) (ht : RefT w f2 rb lim R' w') (hR : R' = stp H) :
    ∃ f2', Two w' hb rb lim B H f f2' ∧ TwoK w w' f f2 f f2' := by
  obtain ⟨f2', t1, t2⟩ := ht
  subst hR
  have hk : ∀ r, r < w.heap.size → f2 r = 0 → w'.heap[r]? = w.heap[r]? := fun r hr h0 => t1.block r hr (fun hc => by omega)
  have tr : Turn (fun c => c = 0) f f w w' := ⟨t1.os, t1.tape, t1.output, t1.size, fun _ _ => rfl, h1.below t1.size, fun r hr hn => hk r hr (by
    by_cases h : f2 r = 0
    · exact h
    · exact absurd (h5 r h) hn)⟩
  refine ⟨f2', ⟨h1.below t1.size, t1.norm, h3.turn tr (fun _ h => h), t2, fun r hr => ?_⟩, ⟨t1.os, t1.tape, t1.output, t1.size, fun r hr => ⟨rfl, t1.agree r hr⟩, fun r hr _ h0 => hk r hr h0⟩⟩
  by_cases hlt : r < w.heap.size
  · rw [t1.agree r hlt] at hr; exact h5 r hr
  · exact h1 r (by omega)
/-- the implementation has done its part -/
def Half (w0 w : World) (hb rb : Nat) (lim : Int) (B : Nat) (H H' : List OB) (f f2 : Nat → Nat) : Prop :=
  ∃ f', Norm f' w ∧ Norm f2 w ∧ HeapO w f' hb lim (usedH H') B H' ∧ RefO w f2 rb lim (stp H) ∧ (∀ r, f2 r ≠ 0 → f' r = 0) ∧ TwoK w0 w f f2 f' f2
/-- both have -/
def Done (w0 w : World) (hb rb : Nat) (lim : Int) (B : Nat) (H : List OB) (f f2 : Nat → Nat) : Prop := ∃ f' f2', Two w hb rb lim B H f' f2' ∧ TwoK w0 w f f2 f' f2'
theorem half_of {w0 w w' : World} {hb rb B B' : Nat} {lim : Int} {H H' : List OB} {f f2 : Nat → Nat} (h : Two w hb rb lim B H f f2) (h0 : TwoK w0 w f f2 f f2) (ht : HeapT w f hb lim (usedH H') B' H' w') : Half w0 w' hb rb lim B' H H' f f2 := by
  obtain ⟨f', h1, h2, h3, h4, h5, h6⟩ := two_impl h ht
  exact ⟨f', h1, h2, h3, h4, h5, h0.trans h6⟩
theorem done_of {w0 w w' : World} {hb rb B : Nat} {lim : Int} {H H' R' : List OB} {f f2 : Nat → Nat} (h : Half w0 w hb rb lim B H H' f f2) (ht : RefT w f2 rb lim R' w') (hR : R' = stp H') : Done w0 w' hb rb lim B H' f f2 := by
  obtain ⟨f', h1, h2, h3, h4, h5, h6⟩ := h
  obtain ⟨f2', g1, g2⟩ := two_ref h1 h2 h3 h5 ht hR
  exact ⟨f', f2', g1, h6.trans g2⟩
theorem Half.drew {w0 w : World} {hb rb B : Nat} {lim : Int} {H H' : List OB} {f f2 : Nat → Nat} (h : Half w0 w hb rb lim B H H' f f2) : Half w0 w.drew hb rb lim B H H' f f2 := by
  obtain ⟨f', h1, h2, h3, h4, h5, h6⟩ := h
  have hb' : Below w.heap.size w w.drew := (Below.refl _ w).drew
  exact ⟨f', h1, h2, h3.below h1 hb', h4.below h2 hb', h5, h6.trans (TwoK.of_below f' f2 hb')⟩
theorem Half.cells {w0 w : World} {hb rb B b : Nat} {lim : Int} {H H' : List OB} {f f2 : Nat → Nat} (h : Half w0 w hb rb lim B H H' f f2) (hf : f b = 0 ∧ f2 b = 0 ∧ b < w0.heap.size) : ∀ i : Nat, w.cell? ⟨b, i, none⟩ = w0.cell? ⟨b, i, none⟩ := by
  obtain ⟨f', h1, h2, h3, h4, h5, h6⟩ := h
  exact fun i => World.cell?_of_block (w := w0) (a := ⟨b, i, none⟩) (h6.block b hf.2.2 hf.1 hf.2.1)
theorem Done.cells {w0 w : World} {hb rb B b : Nat} {lim : Int} {H : List OB} {f f2 : Nat → Nat} (h : Done w0 w hb rb lim B H f f2) (hf : f b = 0 ∧ f2 b = 0 ∧ b < w0.heap.size) : ∀ i : Nat, w.cell? ⟨b, i, none⟩ = w0.cell? ⟨b, i, none⟩ := by
  obtain ⟨f', f2', h1, h6⟩ := h
  exact fun i => World.cell?_of_block (w := w0) (a := ⟨b, i, none⟩) (h6.block b hf.2.2 hf.1 hf.2.1)
theorem stp_small {H : List OB} (hu : usedH H ≤ 100000) : ∀ a ∈ stp H, a.l.length ≤ 100000 := fun a ha => by
  have := len_used ha
  rw [stp_used] at this
  omega
end Go.Proofs.Ytoccmiinkfhohaa
namespace Go.Proofs.Ytoccmiinkfhohaa
open Go.RowKit Go.Shelf Go.Lib Go.Sort Go.Proofs Go.Maps
set_option linter.unusedVariables false
set_option maxHeartbeats 4000000
set_option maxRecDepth 100000

section
variable {w0 w : World} {hb rb B : Nat} {lim : Int} {H H' : List OB} {f f2 : Nat → Nat}
theorem t_HMake (h : Two w hb rb lim B H f f2) (h0 : TwoK w0 w f f2 f f2) (hu : usedH H ≤ 100000) (c p : Int) :
    Calls Try.prog 19 #[ptrV hb, .int .i64 c, .int .i64 p] w fun e w' => e = .returned (.tuple #[.int .i64 (makeN H lim c p), .int .i64 (makeE H lim c p)]) ∧ Half w0 w' hb rb lim B H (makeH true H lim c p) f f2 :=
  (c_HMake h.1 h.2.2.1 hu c p).mono fun _ _ hx => ⟨hx.1, half_of h h0 hx.2⟩
theorem t_RMake (c p : Int) (h : Half w0 w hb rb lim B H (makeH true H lim c p) f f2) (hu : usedH H ≤ 100000) :
    Calls Try.prog 45 #[ptrV rb, .int .i64 c, .int .i64 p] w fun e w' => e = .returned (.tuple #[.int .i64 (makeN H lim c p), .int .i64 (makeE H lim c p)]) ∧ Done w0 w' hb rb lim B (makeH true H lim c p) f f2 := by
  have h' := h
  obtain ⟨f', h1, h2, h3, h4, h5, h6⟩ := h
  have hc := c_RMake h2 h4 (by rw [stp_used]; exact hu) c p
  rw [stp_makeN, stp_makeE, stp_make] at hc
  exact hc.mono fun _ _ hx => ⟨hx.1, done_of h' hx.2 rfl⟩
theorem t_HPut (h : Two w hb rb lim B H f f2) (h0 : TwoK w0 w f f2 f f2) (hB1 : 128 ≤ B) (hB : B < 90000) (hu : usedH H ≤ 100000) (o : Int) (k : KK) (hk : okK k) (p : PV) :
    Calls Try.prog 27 #[ptrV hb, .int .i64 o, keyV k.1 k.2, propV p] w fun e w' => e = .returned (.int .i64 (putE H lim o (pk k) p)) ∧ Half w0 w' hb rb lim (B + 2) H (putH H lim o (pk k) p) f f2 :=
  (c_HPut h.1 h.2.2.1 hB1 hB hu o k hk p).mono fun _ _ hx => ⟨hx.1, half_of h h0 hx.2⟩
theorem t_RPut (o : Int) (k : KK) (hk : okK k) (p : PV) (h : Half w0 w hb rb lim B H (putH H lim o (pk k) p) f f2) (hu : usedH H ≤ 100000) :
    Calls Try.prog 46 #[ptrV rb, .int .i64 o, keyV k.1 k.2, propV p] w fun e w' => e = .returned (.int .i64 (putE H lim o (pk k) p)) ∧ Done w0 w' hb rb lim B (putH H lim o (pk k) p) f f2 := by
  have h' := h
  obtain ⟨f', h1, h2, h3, h4, h5, h6⟩ := h
  have hc := c_RPut h2 h4 (stp_small hu) (by rw [stp_used]; exact hu) o k hk p
  rw [stp_putE, stp_put] at hc
  exact hc.mono fun _ _ hx => ⟨hx.1, done_of h' hx.2 rfl⟩
theorem t_HDrop (h : Two w hb rb lim B H f f2) (h0 : TwoK w0 w f f2 f f2) (hB1 : 128 ≤ B) (hB : B ≤ 100000) (hu : usedH H ≤ 100000) (o : Int) (k : KK) (hk : okK k) :
    Calls Try.prog 28 #[ptrV hb, .int .i64 o, keyV k.1 k.2] w fun e w' => e = .returned (.bool (dropB H o (pk k))) ∧ Half w0 w' hb rb lim B H (updH H o (dropA (pk k))) f f2 :=
  (c_HDrop h.1 h.2.2.1 hB1 hB hu o k hk).mono fun _ _ hx => ⟨hx.1, half_of h h0 hx.2⟩
theorem t_RDrop (o : Int) (k : KK) (hk : okK k) (h : Half w0 w hb rb lim B H (updH H o (dropA (pk k))) f f2) (hu : usedH H ≤ 100000) :
    Calls Try.prog 47 #[ptrV rb, .int .i64 o, keyV k.1 k.2] w fun e w' => e = .returned (.bool (dropB H o (pk k))) ∧ Done w0 w' hb rb lim B (updH H o (dropA (pk k))) f f2 := by
  have h' := h
  obtain ⟨f', h1, h2, h3, h4, h5, h6⟩ := h
  have hc := c_RDrop h2 h4 (stp_small hu) o k hk
  rw [stp_dropB, stp_drop] at hc
  exact hc.mono fun _ _ hx => ⟨hx.1, done_of h' hx.2 rfl⟩
theorem t_HSetProto (h : Two w hb rb lim B H f f2) (h0 : TwoK w0 w f f2 f f2) (o p : Int) :
    Calls Try.prog 24 #[ptrV hb, .int .i64 o, .int .i64 p] w fun e w' => e = .returned (.int .i64 (setE H o p)) ∧ Half w0 w' hb rb lim B H (setH H o p) f f2 :=
  (c_HSetProto h.1 h.2.2.1 o p).mono fun _ _ hx => ⟨hx.1, half_of h h0 hx.2⟩
theorem t_RSetProto (o p : Int) (h : Half w0 w hb rb lim B H (setH H o p) f f2) :
    Calls Try.prog 48 #[ptrV rb, .int .i64 o, .int .i64 p] w fun e w' => e = .returned (.int .i64 (setE H o p)) ∧ Done w0 w' hb rb lim B (setH H o p) f f2 := by
  have h' := h
  obtain ⟨f', h1, h2, h3, h4, h5, h6⟩ := h
  have hc := c_RSetProto h2 h4 o p
  rw [stp_setE, stp_set] at hc
  exact hc.mono fun _ _ hx => ⟨hx.1, done_of h' hx.2 rfl⟩
theorem t_HShut (h : Two w hb rb lim B H f f2) (h0 : TwoK w0 w f f2 f f2) (o : Int) :
    Calls Try.prog 26 #[ptrV hb, .int .i64 o] w fun e w' => e = .returned (.int .i64 (hasE H o)) ∧ Half w0 w' hb rb lim B H (updH H o shutA) f f2 :=
  (c_HShut h.1 h.2.2.1 o).mono fun _ _ hx => ⟨hx.1, half_of h h0 hx.2⟩
theorem t_RShut (o : Int) (h : Half w0 w hb rb lim B H (updH H o shutA) f f2) :
    Calls Try.prog 49 #[ptrV rb, .int .i64 o] w fun e w' => e = .returned (.int .i64 (hasE H o)) ∧ Done w0 w' hb rb lim B (updH H o shutA) f f2 := by
  have h' := h
  obtain ⟨f', h1, h2, h3, h4, h5, h6⟩ := h
  have hc : Calls Try.prog 49 #[ptrV rb, .int .i64 o] w fun e w' => e = .returned (.int .i64 (hasE (stp H) o)) ∧ RefT w f2 rb lim (updH (stp H) o shutA) w' := c_RShut h2 h4 o
  rw [stp_hasE, stp_shut] at hc
  exact hc.mono fun _ _ hx => ⟨hx.1, done_of h' hx.2 rfl⟩
theorem t_HForce (h : Two w hb rb lim B H f f2) (h0 : TwoK w0 w f f2 f f2) (hB1 : 128 ≤ B) (o : Int) :
    Calls Try.prog 29 #[ptrV hb, .int .i64 o] w fun e w' => e = .returned (.int .i64 (hasE H o)) ∧ Done w0 w' hb rb lim B (updH H o forceA) f f2 :=
  (c_HForce h.1 h.2.2.1 hB1 o).mono fun _ _ hx => ⟨hx.1, by
    obtain ⟨f', h1, h2, h3, h4, h5, h6⟩ := half_of h h0 hx.2
    exact ⟨f', f2, ⟨h1, h2, h3, by rw [stp_force]; exact h4, h5⟩, h6⟩⟩
theorem t_RHas (o : Int) (h : Done w0 w hb rb lim B H f f2) :
    Calls Try.prog 12 #[ptrV rb, .int .i64 o] w fun e w' => e = .returned (.bool (hasH (stp H) o)) ∧ w' = w := by
  obtain ⟨f', f2', h1, h2⟩ := h
  exact c_RHas h1.2.2.2.1 o
end
end Go.Proofs.Ytoccmiinkfhohaa
namespace Go.Proofs.Ytoccmiinkfhohaa
open Go.RowKit Go.Shelf Go.Lib Go.Sort Go.Proofs Go.Maps
set_option linter.unusedVariables false
set_option maxHeartbeats 4000000
set_option maxRecDepth 100000

/-- an operation of nothing -/
def zeroO : Array Value := #[.int .i64 0, .int .i64 0, .int .i64 0, .string ⟨#[]⟩, .int .i64 0, .int .i64 0, .float .f64 0, .string ⟨#[]⟩, .int .i64 0, .int .i64 0, .float .f64 0, .string ⟨#[]⟩, .int .i64 0, .int .i64 0, .float .f64 0, .string ⟨#[]⟩, .int .i64 0, .int .i64 0]
theorem zeroO_there (w : World) : (w.alloc (.cells zeroO 39)).there w.heap.size 0 18 := there_of (heap_alloc_new w _) (Nat.le_refl 18)
theorem fresh_cellsO {w : World} (x : OP) : Below w.heap.size w ((w.alloc (.cells zeroO 39)).setCells w.heap.size 0 (encO x)) ∧ ((w.alloc (.cells zeroO 39)).setCells w.heap.size 0 (encO x)).heap[w.heap.size]? = some (.cells (encO x).toArray 39 (0, 0)) := by
  obtain ⟨h1, h2, _⟩ := fresh_set (w := w) (o := zeroO) (t := 39) (vs := encO x) rfl
  exact ⟨h1, h2⟩
theorem c_few15 (v : Value) (l : List OP) (hs : fewO l l.length ≤ 4194304) (hz : ∀ x ∈ l, x.k.1.size ≤ 4194304 ∧ x.p.v.s.size ≤ 4194304) (w : World) (h : RdO w v l) :
    Calls Try.prog 9 #[v] w fun e w' => e = .returned (.bool (decide (fewO l l.length ≤ 300))) ∧ Below w.heap.size w w' := by
  obtain ⟨p, c, rfl, hlc, hL⟩ := h.form
  have hlen : l.length ≤ 4194304 := Nat.le_trans (Nat.le_add_right _ _) hs
  have h00 : fewO l 0 = l.length := by simp [fewO]
  replace h00 := Lib.hid h00
  replace hL := Lib.hid hL
  replace hz := Lib.hid hz
  clear h
  go_enter Try.func9, Try.ntmps9
  go_wp2
  go_loopw [3, 10] (fun vn vi wr => ∃ i : Nat, i ≤ l.length ∧ vi = .int .i64 (i : Int) ∧ vn = .int .i64 (fewO l i : Int) ∧ Below w.heap.size w wr) (fun _ vi _ => l.length - (intOf vi).toNat)
  case atStart => exact ⟨0, by omega, rfl, by rw [h00.out], Below.refl _ _⟩
  case round =>
    obtain ⟨i, hi, rfl, rfl, hbel⟩ := hrel
    rcases Nat.lt_or_ge i l.length with hlt | hge
    · obtain ⟨x, hx⟩ : ∃ x, l[i]? = some x := ⟨_, List.getElem?_eq_getElem hlt⟩
      obtain ⟨b, o, rfl, lb, hrg⟩ := hL.out i x hx
      replace hrg := hrg wr hbel
      have hi18 : (Try.prog.info? 39).map (·.size) = some (encO x).length := infoOp
      have hj18 : (Try.prog.info? 39).map (·.size) = some (encO x).toArray.size := infoOp
      have ho18 := all_oneCell_toArray (encO_one x)
      have q1 : (0 : Int) ≤ (i : Int) := by omega
      have q2 : (i : Int) < (l.length : Int) := by omega
      obtain ⟨hfb, hfh⟩ := fresh_cellsO (w := wr) x
      have hth : (wr.alloc (.cells zeroO 39)).there wr.heap.size 0 (encO x).toArray.size := zeroO_there wr
      obtain ⟨hx1, hx2⟩ := hz.out x (List.mem_of_getElem? hx)
      have hnx := fewO_next hx
      have hmo := fewO_mono l (j := i + 1) (k := l.length) hlt
      have e3 : ((wr.alloc (.cells zeroO 39)).setCells wr.heap.size 0 (encO x)).cell? ⟨wr.heap.size, 3, none⟩ = some (.string x.k.1) := by rw [cell_of_row _ _ 3 _ _ _ hfh]; rfl
      have e7 : ((wr.alloc (.cells zeroO 39)).setCells wr.heap.size 0 (encO x)).cell? ⟨wr.heap.size, 7, none⟩ = some (.string x.p.v.s) := by rw [cell_of_row _ _ 7 _ _ _ hfh]; rfl
      unfold fewS at hnx
      have hd : ((x.k.1.size : Int) + (x.p.v.s.size : Int)) / 20 = (((x.k.1.size + x.p.v.s.size) / 20 : Nat) : Int) := by omega
      have hw2 : IntKind.i64.wrap ((fewO l i : Int) + (((x.k.1.size + x.p.v.s.size) / 20 : Nat) : Int)) = (fewO l (i + 1) : Int) := by rw [IntKind.wrap_i64]; omega
      have hfin : (fewO l i : Int) + (((x.k.1.size + x.p.v.s.size) / 20 : Nat) : Int) = (fewO l (i + 1) : Int) := by omega
      replace hfb := Lib.hid hfb
      replace hbel := Lib.hid hbel
      replace hfin := Lib.hid (show wrap64 ((fewO l i : Int) + ((x.k.1.size : Int) + (x.p.v.s.size : Int)) / 20) = (fewO l (i + 1) : Int) by rw [hd, hfin]; unfold wrap64; omega)
      clear hx hfh hnx hmo hw2 hd
      generalize encO x = E at *
      have tokA : True := trivial
      have tokB : True := trivial
      go_wp2_with (first | (clear tokA; refine wpList_load_mid rfl 39 (.tmp 12) rfl b (o + i * 18) rfl E _ hrg Try.underlying39 rfl hi18 ?_) | (clear tokB; refine wpList_store_mid rfl 39 (.tmp 5) (.tmp 13) rfl wr.heap.size 0 E.toArray rfl rfl hth hj18 ho18 ?_; generalize hW4 : World.setCells _ _ _ _ = W4; rw [show (wr.alloc (.cells zeroO 39)).setCells wr.heap.size 0 E = W4 from hW4] at hfb e3 e7; clear hW4 hth hrg))
      refine ⟨⟨i + 1, by omega, by go_num, ?_, hbel.out.trans (hfb.out.mono hbel.out.size)⟩, by simp [intOf]; omega⟩
      rw [hfin.out]
    · obtain rfl : i = l.length := by omega
      clear hi hge
      go_wp2
      go_ret
      exact ⟨ret_bool (by rw [Bool.eq_iff_iff]; simp; omega), hbel⟩
end Go.Proofs.Ytoccmiinkfhohaa
