/-
  Contracts: The contracts of the heap's other operations, joined. The contract of the laws' awake (heap). The reference's heap: its state; Has, Proto, Class, Open. The reference's heap: an object that is set; SetProto, Shut. The reference's heap: where a key stands; its keys. The reference's heap: Used, New, Own, Kept. The reference's heap: Own.
-/
import Derived.Test.YtoccmiinkfhohaaOO11
import Derived.Test.YtoccmiinkfhohaaOO4
import Derived.Test.YtoccmiinkfhohaaOO1
import Derived.Test.YtoccmiinkfhohaaOO9
namespace Go.Proofs.Ytoccmiinkfhohaa
open Go.RowKit Go.Shelf Go.Lib Go.Sort Go.Proofs Go.Maps
set_option maxHeartbeats 4000000
set_option maxRecDepth 100000

theorem c_HDropN {w : World} {f : Nat → Nat} {hb B u : Nat} {lim : Int} {H : List OB} (hN : Norm f w) (h : HeapO w f hb lim u B H) (o : Int) (k : KK) (hk : okK k) (hj : (ownH H o (pk k)).isSome = false) :
    Calls Try.prog 28 #[ptrV hb, .int .i64 o, keyV k.1 k.2] w fun e w' => e = .returned (.bool false) ∧ Below w.heap.size w w' := by
  obtain ⟨W1, hW1⟩ : ∃ W1, w.alloc (.cells #[.string k.1, .int .i64 k.2] 32) = W1 := ⟨_, rfl⟩
  have hb1 : Below w.heap.size w W1 := by rw [← hW1]; exact (Below.refl _ w).alloc (Nat.le_refl _) _
  have hs1 : W1.heap.size = w.heap.size + 1 := by rw [← hW1]; simp
  have d0 : W1.heap[w.heap.size]? = some (.cells #[.string k.1, .int .i64 k.2] 32 (0, 0)) := by rw [← hW1]; exact heap_alloc_new w _
  have kc0 : W1.cell? ⟨w.heap.size, 0, none⟩ = some (.string k.1) := by rw [cell_of_row _ _ 0 _ _ _ d0]; rfl
  have kc1 : W1.cell? ⟨w.heap.size, 1, none⟩ = some (.int .i64 k.2) := by rw [cell_of_row _ _ 1 _ _ _ d0]; rfl
  have hOw := c_HOwn (fun r hr => hN r (Nat.le_trans hb1.size hr)) (h.below hN hb1) o k hk
  unfold tellV at hOw
  rw [hj] at hOw
  generalize (ownH H o (pk k)).getD zeroPV = P at *
  have hst := fun (y : World) (b : Nat) (hy : ZB y b) => hy.store P
  have hzb := zb_new
  obtain ⟨k0, kn⟩ := k
  unfold ptrV keyV propV at *
  dsimp only at *
  replace hOw := Lib.hid hOw
  replace hb1 := Lib.hid hb1
  replace hs1 := Lib.hid hs1
  replace d0 := Lib.hid d0
  clear hk hj hN h
  go_enter Try.func28, Try.ntmps28
  go_wp2_with (first | (go_at_call 20; refine hOw.out.mono ?_; rintro e w2 ⟨hb2, rfl⟩; have hz2 := hzb w2; clear kc0 kc1; replace hb2 := Lib.hid hb2))
  go_ret
  have hf6 := (fresh_set (w := w2) (o := (encP zeroPV).toArray) (t := 37) (vs := encP P) rfl).1
  have hB2 : Below w.heap.size w w2 := hb1.out.trans (hb2.out.mono hb1.out.size)
  exact ⟨rfl, hB2.trans (hf6.mono hB2.size)⟩
theorem set_same {H : List OB} {i : Nat} {a : OB} (h : H[i]? = some a) : H.set i a = H := by
  apply List.ext_getElem?
  intro j
  rw [List.getElem?_set]
  split
  · rename_i e; subst e; rw [h, if_pos (List.getElem?_eq_some_iff.1 h).1]
  · rfl
theorem usedH_upd (H : List OB) (o : Int) (g : OB → OB) (hg : ∀ a, (g a).l.length = a.l.length) : usedH (updH H o g) = usedH H := by
  rcases objH_cases H o with ⟨h1, h2⟩ | ⟨n, a, rfl, h0, ha, h3, h4⟩
  · unfold updH; rw [h2]
  · rw [updH_at h0 ha]
    have := usedH_set (a' := g a) ha
    rw [hg] at this
    omega
/-- what an object has -/
def listH (H : List OB) (o : Int) : List (KK × PV) := match objH H o with | some a => a.l | none => []
theorem own_list (H : List OB) (o : Int) (K : KK) : ownH H o K = getL (listH H o) K := by
  unfold ownH listH
  cases objH H o with
  | none => rfl
  | some a => rfl
theorem c_HDrop {w : World} {f : Nat → Nat} {hb B : Nat} {lim : Int} {H : List OB} (hN : Norm f w) (h : HeapO w f hb lim (usedH H) B H) (hB1 : 128 ≤ B) (hB : B ≤ 100000) (hu : usedH H ≤ 100000) (o : Int) (k : KK) (hk : okK k) :
    Calls Try.prog 28 #[ptrV hb, .int .i64 o, keyV k.1 k.2] w fun e w' => e = .returned (.bool (dropB H o (pk k))) ∧ HeapT w f hb lim (usedH (updH H o (dropA (pk k)))) B (updH H o (dropA (pk k))) w' := by
  unfold dropB
  cases hd : (ownH H o (pk k)).isSome with
  | false =>
    have e1 : updH H o (dropA (pk k)) = H := by
      rcases objH_cases H o with ⟨h1, h2⟩ | ⟨n, a, rfl, h0, ha, h3, h4⟩
      · unfold updH; rw [h2]
      · rw [updH_at h0 ha]
        rw [own_some h0 ha, getL_idx] at hd
        have : dropA (pk k) a = a := by
          unfold dropA
          cases hi : idx (gk a.l) (pk k) with
          | none => rfl
          | some j => rw [hi] at hd; cases hd
        rw [this, set_same ha]
    rw [e1]
    refine (c_HDropN hN h o k hk hd).mono ?_
    rintro e w' ⟨rfl, hb'⟩
    exact ⟨rfl, HeapT.same hN h hb'⟩
  | true =>
    rcases objH_cases H o with ⟨h1, h2⟩ | ⟨n, a, rfl, h0, ha, h3, h4⟩
    · unfold ownH at hd; rw [h2] at hd; cases hd
    · rw [own_some h0 ha, getL_idx] at hd
      obtain ⟨j, hj⟩ := Option.isSome_iff_exists.1 hd
      have hjl : j < a.l.length := by have := idx_lt hj; simpa [gk] using this
      have e1 : updH H (n : Int) (dropA (pk k)) = H.set (n - 1) { a with fast := false, l := a.l.eraseIdx j } := by
        rw [updH_at h0 ha]
        unfold dropA
        rw [hj]
      have e2 := usedH_set (a' := { a with fast := false, l := a.l.eraseIdx j }) ha
      dsimp only at e2
      rw [List.length_eraseIdx, if_pos hjl] at e2
      have e3 : usedH (updH H (n : Int) (dropA (pk k))) = usedH H - 1 := by rw [e1]; omega
      rw [e3, e1]
      refine (c_HDropT hN h hB1 hB n a h0 ha k hk j hj (by omega) (by omega)).mono ?_
      rintro e w' ⟨rfl, ht⟩
      exact ⟨rfl, ht⟩
theorem c_HSetProto {w : World} {f : Nat → Nat} {hb B : Nat} {lim : Int} {H : List OB} (hN : Norm f w) (h : HeapO w f hb lim (usedH H) B H) (o pro : Int) :
    Calls Try.prog 24 #[ptrV hb, .int .i64 o, .int .i64 pro] w fun e w' => e = .returned (.int .i64 (setE H o pro)) ∧ HeapT w f hb lim (usedH (setH H o pro)) B (setH H o pro) w' := by
  rcases objH_cases H o with ⟨h1, h2⟩ | ⟨n, a, rfl, h0, ha, h3, h4⟩
  · have e1 : setE H o pro = 151 := by unfold setE; rw [if_pos (.inl h1)]
    unfold setH
    rw [e1]
    refine (c_HSetProto0 h o pro h1).mono ?_
    rintro e w' ⟨rfl, rfl⟩
    exact ⟨rfl, HeapT.same hN h (Below.refl _ _)⟩
  · by_cases h5 : pro ≠ 0 ∧ hasH H pro = false
    · have e1 : setE H (n : Int) pro = 151 := by unfold setE; rw [if_pos (.inr h5)]
      unfold setH
      rw [e1]
      refine (c_HSetProtoN h n pro h4 h5.1 h5.2).mono ?_
      rintro e w' ⟨rfl, rfl⟩
      exact ⟨rfl, HeapT.same hN h (Below.refl _ _)⟩
    · have e1 : setE H (n : Int) pro = 0 := by
        unfold setE
        rw [if_neg]
        rintro (h | h)
        · rw [h4] at h; cases h
        · exact h5 h
      have hp : pro = 0 ∨ hasH H pro = true := by
        by_cases e : pro = 0
        · exact .inl e
        · exact .inr (by cases hh : hasH H pro; exact absurd ⟨e, hh⟩ h5; rfl)
      unfold setH
      rw [e1, if_pos rfl, usedH_upd H n (fun a => { a with pro := pro }) (fun _ => rfl), updH_at h0 ha]
      refine (c_HSetProto1 hN h n a h0 ha pro hp).mono ?_
      rintro e w' ⟨rfl, ht⟩
      exact ⟨rfl, ht⟩
theorem c_HShut {w : World} {f : Nat → Nat} {hb B : Nat} {lim : Int} {H : List OB} (hN : Norm f w) (h : HeapO w f hb lim (usedH H) B H) (o : Int) :
    Calls Try.prog 26 #[ptrV hb, .int .i64 o] w fun e w' => e = .returned (.int .i64 (hasE H o)) ∧ HeapT w f hb lim (usedH (updH H o (fun a => { a with shut := true }))) B (updH H o (fun a => { a with shut := true })) w' := by
  rw [usedH_upd H o (fun a => { a with shut := true }) (fun _ => rfl)]
  unfold hasE
  rcases objH_cases H o with ⟨h1, h2⟩ | ⟨n, a, rfl, h0, ha, h3, h4⟩
  · unfold updH
    rw [h1, h2]
    refine (c_HShut0 h o h1).mono ?_
    rintro e w' ⟨rfl, rfl⟩
    exact ⟨rfl, HeapT.same hN h (Below.refl _ _)⟩
  · rw [h4, updH_at h0 ha]
    refine (c_HShut1 hN h n a h0 ha).mono ?_
    rintro e w' ⟨rfl, ht⟩
    exact ⟨rfl, ht⟩
theorem c_HForce {w : World} {f : Nat → Nat} {hb B : Nat} {lim : Int} {H : List OB} (hN : Norm f w) (h : HeapO w f hb lim (usedH H) B H) (hB1 : 128 ≤ B) (o : Int) :
    Calls Try.prog 29 #[ptrV hb, .int .i64 o] w fun e w' => e = .returned (.int .i64 (hasE H o)) ∧ HeapT w f hb lim (usedH (updH H o (fun a => { a with fast := false }))) B (updH H o (fun a => { a with fast := false })) w' := by
  rw [usedH_upd H o (fun a => { a with fast := false }) (fun _ => rfl)]
  unfold hasE
  rcases objH_cases H o with ⟨h1, h2⟩ | ⟨n, a, rfl, h0, ha, h3, h4⟩
  · unfold updH
    rw [h1, h2]
    refine (c_HForce0 h o h1).mono ?_
    rintro e w' ⟨rfl, rfl⟩
    exact ⟨rfl, HeapT.same hN h (Below.refl _ _)⟩
  · rw [h4, updH_at h0 ha]
    obtain ⟨tb, L, rv, obs, hX⟩ := h
    refine (c_HForceA hN hX hB1 n a h0 ha).mono ?_
    rintro e w' ⟨rfl, ht⟩
    exact ⟨rfl, ht.t⟩
theorem c_HFast {w : World} {f : Nat → Nat} {hb B u : Nat} {lim : Int} {H : List OB} (h : HeapO w f hb lim u B H) (o : Int) :
    Calls Try.prog 15 #[ptrV hb, .int .i64 o] w fun e w' => e = .returned (.bool (match objH H o with | some a => a.fast | none => false)) ∧ w' = w := by
  rcases objH_cases H o with ⟨h1, h2⟩ | ⟨n, a, rfl, h0, ha, h3, h4⟩
  · rw [h2]; exact c_HFast0 h o h1
  · rw [h3]; exact c_HFast1 h n a h0 ha
theorem c_HProto {w : World} {f : Nat → Nat} {hb B u : Nat} {lim : Int} {H : List OB} (h : HeapO w f hb lim u B H) (o : Int) :
    Calls Try.prog 23 #[ptrV hb, .int .i64 o] w fun e w' => e = .returned (.int .i64 (match objH H o with | some a => a.pro | none => 0)) ∧ w' = w := by
  rcases objH_cases H o with ⟨h1, h2⟩ | ⟨n, a, rfl, h0, ha, h3, h4⟩
  · rw [h2]; exact c_HProto0 h o h1
  · rw [h3]; exact c_HProto1 h n a h0 ha
theorem c_HClass {w : World} {f : Nat → Nat} {hb B u : Nat} {lim : Int} {H : List OB} (h : HeapO w f hb lim u B H) (o : Int) :
    Calls Try.prog 22 #[ptrV hb, .int .i64 o] w fun e w' => e = .returned (.int .i64 (match objH H o with | some a => a.cls | none => 0)) ∧ w' = w := by
  rcases objH_cases H o with ⟨h1, h2⟩ | ⟨n, a, rfl, h0, ha, h3, h4⟩
  · rw [h2]; exact c_HClass0 h o h1
  · rw [h3]; exact c_HClass1 h n a h0 ha
theorem c_HOpen {w : World} {f : Nat → Nat} {hb B u : Nat} {lim : Int} {H : List OB} (h : HeapO w f hb lim u B H) (o : Int) :
    Calls Try.prog 25 #[ptrV hb, .int .i64 o] w fun e w' => e = .returned (.bool (match objH H o with | some a => !a.shut | none => false)) ∧ w' = w := by
  rcases objH_cases H o with ⟨h1, h2⟩ | ⟨n, a, rfl, h0, ha, h3, h4⟩
  · rw [h2]; exact c_HOpen0 h o h1
  · rw [h3]; exact c_HOpen1 h n a h0 ha
theorem KeysOf.nil : KeysOf [] [] := ⟨[], rfl, by unfold Srt; simp, fun _ => rfl, fun _ h => by cases h⟩
theorem c_HKeys {w : World} {f : Nat → Nat} {hb B u : Nat} {lim : Int} {H : List OB} (hN : Norm f w) (h : HeapO w f hb lim u B H) (hB1 : 128 ≤ B) (hB : B ≤ 100000) (o : Int) :
    Calls Try.prog 17 #[ptrV hb, .int .i64 o] w fun e w' => ∃ v Z, e = .returned v ∧ RdK w' v Z ∧ KeysOf (gk (listH H o)) Z ∧ Below w.heap.size w w' := by
  unfold listH
  rcases objH_cases H o with ⟨h1, h2⟩ | ⟨n, a, rfl, h0, ha, h3, h4⟩
  · rw [h2]
    refine (c_HKeys0 h o h1).mono ?_
    rintro e w' ⟨rfl, rfl⟩
    exact ⟨_, [], rfl, .inl ⟨rfl, rfl⟩, KeysOf.nil, Below.refl _ _⟩
  · rw [h3]
    exact c_HKeys1 hN h hB1 hB n a h0 ha
end Go.Proofs.Ytoccmiinkfhohaa
namespace Go.Proofs.Ytoccmiinkfhohaa
open Go.RowKit Go.Shelf Go.Lib Go.Sort Go.Proofs Go.Maps
set_option maxHeartbeats 2000000
set_option maxRecDepth 100000

/-- a text of few letters -/
def xs (l : List UInt8) : ByteArray := ⟨l.toArray⟩
def tx (l : List UInt8) : ByteArray := textU (codes (xs l))
theorem asc {l : List UInt8} (h : (l.all fun u => decide (u.toNat < 128)) = true) : ∀ u ∈ codes (xs l), u < 128 := by
  intro u hu
  simp [codes, xs] at hu
  obtain ⟨b, hb, rfl⟩ := hu
  simpa using List.all_eq_true.1 h b hb
theorem c_name {l : List UInt8} (h : (l.all fun u => decide (u.toNat < 128)) = true) (hl : l.length ≤ 1000) (w : World) :
    Calls Try.prog 42 #[.string (xs l)] w fun e w' => e = .returned (keyV (tx l) 0) ∧ Below w.heap.size w w' :=
  c_Name4 (xs l) (by show l.length ≤ _; omega) (asc h) w
def kb : KK := (tx [98], 0)
def k2 : KK := (tx [50], 0)
def p7 : PV := ⟨zeroVV, zeroVV, zeroVV, 7⟩
def aw1 : List OB := makeH true [] 100 0 0
def aw2 : List OB := putH aw1 100 1 (pk kb) p7
def aw3 : List OB := putH aw2 100 1 (pk k2) p7
def aw4 : List OB := updH aw3 1 (dropA (pk kb))
theorem kb_ok : okK kb := by unfold okK; exact ⟨by decide +kernel, by decide +kernel⟩
theorem k2_ok : okK k2 := by unfold okK; exact ⟨by decide +kernel, by decide +kernel⟩
theorem aw_E1 : putE aw1 100 1 (pk kb) p7 = 0 := by decide +kernel
theorem aw_E2 : putE aw2 100 1 (pk k2) p7 = 0 := by decide +kernel
theorem aw_B : dropB aw3 1 (pk kb) = true := by decide +kernel
theorem aw_gk : gk (listH aw3 1) = [pk kb, pk k2] := by decide +kernel
theorem aw_f3 : (objH aw3 1).map OB.fast = some true := by decide +kernel
theorem aw_f4 : (objH aw4 1).map OB.fast = some false := by decide +kernel
theorem aw_u1 : usedH aw1 = 1 := by decide +kernel
theorem aw_u2 : usedH aw2 = 2 := by decide +kernel
theorem aw_u3 : usedH aw3 = 3 := by decide +kernel
theorem rkb : rk kb = 4294967296 := by decide +kernel
theorem rk2 : rk k2 = 2 := by decide +kernel
theorem aw_same : sameK k2.1 k2.1 k2.2 k2.2 = true := by decide +kernel
theorem aw_keysOf : KeysOf [pk kb, pk k2] [k2, kb] := by
  refine ⟨[kb, k2], rfl, ?_, ?_, ?_⟩
  · simp [Srt, rkb, rk2]
  · intro r
    simp only [cls, List.filter_cons, List.filter_nil, rkb, rk2, beq_iff_eq]
    by_cases h1 : 2 = r
    · subst h1; simp
    · simp [h1]
  · intro x hx
    simp at hx
    rcases hx with rfl | rfl
    · exact k2_ok
    · exact kb_ok
/-- the heap of the example; below w0 nothing turns -/
def AwH (w0 : World) (hb u B : Nat) (H : List OB) (w : World) : Prop := ∃ f, Norm f w ∧ HeapO w f hb 100 u B H ∧ Below w0.heap.size w0 w ∧ ∀ r, r < w0.heap.size → f r = 0
theorem AwH.keep {w0 w w' : World} {hb u B : Nat} {H : List OB} (h : AwH w0 hb u B H w) (hb' : Below w.heap.size w w') : AwH w0 hb u B H w' := by
  obtain ⟨f, h1, h2, h3, h4⟩ := h
  exact ⟨f, fun r hr => h1 r (Nat.le_trans hb'.size hr), h2.below h1 hb', h3.trans (hb'.mono h3.size), h4⟩
theorem AwH.step {w0 w w' : World} {hb u' B' : Nat} {H' : List OB} {f : Nat → Nat} (h3 : Below w0.heap.size w0 w) (h4 : ∀ r, r < w0.heap.size → f r = 0) (ht : HeapT w f hb 100 u' B' H' w') : AwH w0 hb u' B' H' w' := by
  obtain ⟨f', t1, t2⟩ := ht
  refine ⟨f', t1.norm, t2, h3.trans (t1.below h3.size fun r hr h => h.2 (h4 r hr)), fun r hr => ?_⟩
  rw [t1.agree r (Nat.lt_of_lt_of_le hr h3.size)]
  exact h4 r hr
theorem aw_new (w : World) : Calls Try.prog 10 #[.int .i64 100] w fun e w' => ∃ hb, e = .returned (.pointer (some ⟨hb, 0, none⟩)) ∧ AwH w hb 0 128 [] w' := by
  refine (c_Hnew (f := fun _ => 0) (fun _ _ => rfl) 100).mono ?_
  rintro e w' ⟨hb, f', rfl, t1, t2⟩
  exact ⟨hb, rfl, f', t1.norm, t2, t1.below (Nat.le_refl _) (fun _ _ h => h), fun r hr => t1.agree r hr⟩
theorem aw_make {w0 w : World} {hb : Nat} (h : AwH w0 hb 0 128 [] w) : Calls Try.prog 19 #[.pointer (some ⟨hb, 0, none⟩), .int .i64 0, .int .i64 0] w fun e w' => e = .returned (.tuple #[.int .i64 1, .int .i64 0]) ∧ AwH w0 hb 1 128 aw1 w' := by
  obtain ⟨f, h1, h2, h3, h4⟩ := h
  refine (c_HMake (H := []) h1 h2 (by decide) 0 0).mono ?_
  rintro e w' ⟨rfl, ht⟩
  exact ⟨rfl, AwH.step h3 h4 ht⟩
theorem aw_put1 {w0 w : World} {hb : Nat} (h : AwH w0 hb 1 128 aw1 w) : Calls Try.prog 27 #[.pointer (some ⟨hb, 0, none⟩), .int .i64 1, .agg #[.string (tx [98]), .int .i64 0], propV p7] w fun e w' => e = .returned (.int .i64 0) ∧ AwH w0 hb 2 130 aw2 w' := by
  obtain ⟨f, h1, h2, h3, h4⟩ := h
  rw [← aw_u1] at h2
  have h := c_HPut h1 h2 (by decide) (by decide) (by rw [aw_u1]; decide) 1 kb kb_ok p7
  rw [aw_E1] at h
  refine h.mono ?_
  rintro e w' ⟨rfl, ht⟩
  have ht' : HeapT w f hb 100 (usedH aw2) 130 aw2 w' := ht
  rw [aw_u2] at ht'
  exact ⟨rfl, AwH.step h3 h4 ht'⟩
theorem aw_put2 {w0 w : World} {hb : Nat} (h : AwH w0 hb 2 130 aw2 w) : Calls Try.prog 27 #[.pointer (some ⟨hb, 0, none⟩), .int .i64 1, .agg #[.string (tx [50]), .int .i64 0], propV p7] w fun e w' => e = .returned (.int .i64 0) ∧ AwH w0 hb 3 132 aw3 w' := by
  obtain ⟨f, h1, h2, h3, h4⟩ := h
  rw [← aw_u2] at h2
  have h := c_HPut h1 h2 (by decide) (by decide) (by rw [aw_u2]; decide) 1 k2 k2_ok p7
  rw [aw_E2] at h
  refine h.mono ?_
  rintro e w' ⟨rfl, ht⟩
  have ht' : HeapT w f hb 100 (usedH aw3) 132 aw3 w' := ht
  rw [aw_u3] at ht'
  exact ⟨rfl, AwH.step h3 h4 ht'⟩
theorem aw_keys {w0 w : World} {hb : Nat} (h : AwH w0 hb 3 132 aw3 w) : Calls Try.prog 17 #[.pointer (some ⟨hb, 0, none⟩), .int .i64 1] w fun e w' => ∃ (b o c : Nat) (x : KK), e = .returned (.slice (some ⟨b, o, none⟩) 2 c) ∧ (∀ y, Below w'.heap.size w' y → y.cell? ⟨b, o, none⟩ = some (.string x.1) ∧ y.cell? ⟨b, o + 1, none⟩ = some (.int .i64 x.2)) ∧ x.1.size ≤ 1099511627776 ∧ sameK x.1 (tx [50]) x.2 0 = true ∧ AwH w0 hb 3 132 aw3 w' := by
  have hA := h
  obtain ⟨f, h1, h2, h3, h4⟩ := h
  have h := c_HKeys h1 h2 (by decide) (by decide) 1
  rw [aw_gk] at h
  refine h.mono ?_
  rintro e w' ⟨v, Z, rfl, hr, hk, hb'⟩
  have e1 := hk.alike aw_keysOf
  obtain ⟨_, _, _, _, hok⟩ := hk
  obtain ⟨x, z, rfl⟩ : ∃ x z, Z = [x, z] := by
    have h2 := congrArg List.length e1
    simp at h2
    match Z, h2 with
    | [x, z], _ => exact ⟨x, z, rfl⟩
  · obtain ⟨p, c, rfl, _, hc, hcell⟩ := hr.form
    obtain ⟨b, o, rfl, _, hy⟩ := hcell 0 x rfl
    refine ⟨b, o, c, x, rfl, fun y hy' => by simpa using hy y hy', (hok x (by simp)).1, ?_, hA.keep hb'⟩
    have e2 : pk x = pk k2 := by injection e1
    have e3 : sameK x.1 k2.1 x.2 k2.2 = true := by rw [sameK_pk x k2, e2]; exact decide_eq_true rfl
    exact e3
theorem aw_used {w0 w : World} {hb u B : Nat} {H : List OB} (h : AwH w0 hb u B H w) : Calls Try.prog 18 #[.pointer (some ⟨hb, 0, none⟩)] w fun e w' => e = .returned (.int .i64 (u : Int)) ∧ w' = w := by
  obtain ⟨f, h1, h2, h3, h4⟩ := h
  exact c_HUsed h2
theorem aw_fast3 {w0 w : World} {hb : Nat} (h : AwH w0 hb 3 132 aw3 w) : Calls Try.prog 15 #[.pointer (some ⟨hb, 0, none⟩), .int .i64 1] w fun e w' => e = .returned (.bool true) ∧ w' = w := by
  obtain ⟨f, h1, h2, h3, h4⟩ := h
  obtain ⟨a, ha, hf⟩ := Option.map_eq_some_iff.1 aw_f3
  have h := c_HFast h2 1
  rw [ha] at h
  dsimp only at h
  rw [hf] at h
  exact h
theorem aw_fast4 {w0 w : World} {hb u : Nat} (h : AwH w0 hb u 132 aw4 w) : Calls Try.prog 15 #[.pointer (some ⟨hb, 0, none⟩), .int .i64 1] w fun e w' => e = .returned (.bool false) ∧ w' = w := by
  obtain ⟨f, h1, h2, h3, h4⟩ := h
  obtain ⟨a, ha, hf⟩ := Option.map_eq_some_iff.1 aw_f4
  have h := c_HFast h2 1
  rw [ha] at h
  dsimp only at h
  rw [hf] at h
  exact h
theorem aw_drop {w0 w : World} {hb : Nat} (h : AwH w0 hb 3 132 aw3 w) : Calls Try.prog 28 #[.pointer (some ⟨hb, 0, none⟩), .int .i64 1, .agg #[.string (tx [98]), .int .i64 0]] w fun e w' => e = .returned (.bool true) ∧ AwH w0 hb (usedH aw4) 132 aw4 w' := by
  obtain ⟨f, h1, h2, h3, h4⟩ := h
  rw [← aw_u3] at h2
  have h := c_HDrop h1 h2 (by decide) (by decide) (by rw [aw_u3]; decide) 1 kb kb_ok
  rw [aw_B] at h
  refine h.mono ?_
  rintro e w' ⟨rfl, ht⟩
  exact ⟨rfl, AwH.step h3 h4 ht⟩
theorem c_awake15 (w : World) : Calls Try.prog 8 #[] w fun e w' => e = .returned (.bool true) ∧ Below w.heap.size w w' := by
  have hNb : ∀ y : World, RowKit.Hid (Calls Try.prog 42 #[.string ⟨#[98]⟩] y fun e w' => e = .returned (.agg #[.string (tx [98]), .int .i64 0]) ∧ Below y.heap.size y w') := fun y => Lib.hid (c_name (l := [98]) rfl (by decide) y)
  have hN2 : ∀ y : World, RowKit.Hid (Calls Try.prog 42 #[.string ⟨#[50]⟩] y fun e w' => e = .returned (.agg #[.string (tx [50]), .int .i64 0]) ∧ Below y.heap.size y w') := fun y => Lib.hid (c_name (l := [50]) rfl (by decide) y)
  have hP1 := fun (y : World) (hb : Nat) (h : AwH w hb 1 128 aw1 y) => Lib.hid (aw_put1 h)
  have hP2 := fun (y : World) (hb : Nat) (h : AwH w hb 2 130 aw2 y) => Lib.hid (aw_put2 h)
  unfold propV encP p7 zeroVV at hP1 hP2
  dsimp only at hP1 hP2
  go_enter Try.func8, Try.ntmps8
  go_wp2_with (first | (go_at_call 10; refine (aw_new _).mono ?_; rintro e w1 ⟨hb, rfl, hA1⟩) | (go_at_call 19; refine (aw_make hA1).mono ?_; rintro e w2 ⟨rfl, hA2⟩) | (go_at_call 42; with_reducible refine (hNb _).out.mono ?_; rintro e w3 ⟨rfl, hq⟩; have hA3 := AwH.keep (by assumption) hq; clear hq) | (go_at_call 27; with_reducible refine (hP1 _ _ (by assumption)).out.mono ?_; rintro e w4 ⟨rfl, hA4⟩) | (go_at_call 42; with_reducible refine (hN2 _).out.mono ?_; rintro e w5 ⟨rfl, hq⟩; have hA5 := AwH.keep (by assumption) hq; clear hq) | (go_at_call 27; with_reducible refine (hP2 _ _ (by assumption)).out.mono ?_; rintro e w6 ⟨rfl, hA6⟩) | (go_at_call 17; refine (aw_keys (by assumption)).mono ?_; rintro e w7 ⟨b, o, c, x, rfl, hl, hx, hs, hA7⟩))
  have hS := fun y => Lib.hid (c_Same4 x.1 (tx [50]) x.2 0 hx (by decide +kernel) y)
  rw [hs] at hS
  unfold keyV at hS
  have hA8 := hA7.keep (Below.refl _ w7).drew
  have hlt : b < w7.heap.size := cell_lt (hl w7 (Below.refl _ _)).1
  obtain ⟨c0, c1⟩ := hl w7.drew (Below.refl _ _).drew
  replace hl := Lib.hid hl
  clear hP1 hP2 hNb hA1 hA2 hA3 hA4 hA5 hA6 hA7 hx hs
  have hNb : ∀ y : World, RowKit.Hid (Calls Try.prog 42 #[.string ⟨#[98]⟩] y fun e w' => e = .returned (.agg #[.string (tx [98]), .int .i64 0]) ∧ Below y.heap.size y w') := fun y => Lib.hid (c_name (l := [98]) rfl (by decide) y)
  go_region_law (first | (go_simp; go_at_call 42; with_reducible refine (hN2 _).out.mono ?_; rintro e y1 ⟨rfl, hq⟩; have hA9 := AwH.keep (by assumption) hq; obtain ⟨c2, c3⟩ := hl.out y1 ((Below.refl _ w7).drew.trans (hq.mono (Nat.le_refl _))); clear hq) | (go_simp; go_at_call 40; with_reducible refine (hS _).out.mono ?_; rintro e y2 ⟨rfl, hq⟩; have hA10 := AwH.keep (by assumption) hq; clear hq) | (go_simp; go_at_call 18; refine (aw_used (by assumption)).mono ?_; rintro e y3 ⟨rfl, rfl⟩) | (go_simp; go_at_call 15; refine (aw_fast3 (by assumption)).mono ?_; rintro e y4 ⟨rfl, rfl⟩) | (go_simp; go_at_call 42; with_reducible refine (hNb _).out.mono ?_; rintro e y5 ⟨rfl, hq⟩; have hA11 := AwH.keep (by assumption) hq; clear hq) | (go_simp; go_at_call 28; refine (aw_drop (by assumption)).mono ?_; rintro e y6 ⟨rfl, hA12⟩) | (go_simp; go_at_call 15; refine (aw_fast4 (by assumption)).mono ?_; rintro e y7 ⟨rfl, rfl⟩))
  all_goals
    obtain ⟨_, _, _, hB, _⟩ := hA12
    go_wp2
    go_ret
    exact ⟨rfl, hB⟩
end Go.Proofs.Ytoccmiinkfhohaa
namespace Go.Proofs.Ytoccmiinkfhohaa
open Go.RowKit Go.Shelf Go.Lib Go.Sort Go.Proofs Go.Maps
set_option maxHeartbeats 2000000
set_option maxRecDepth 100000

/-- the reference's objects and slots as cells -/
abbrev RO := OB × Value
def encR (x : RO) : List Value := [.int .i64 x.1.cls, .int .i64 x.1.pro, .bool x.1.shut, x.2]
def flatR (l : List RO) : List Value := l.flatMap encR
theorem flatR_len (l : List RO) : (flatR l).length = l.length * 4 := fm_len (k := 4) (fun _ => rfl) l
theorem flatR_get {l : List RO} {i : Nat} {x : RO} (h : l[i]? = some x) {j : Nat} {v : Value} (hj : (encR x)[j]? = some v) : (flatR l)[i * 4 + j]? = some v := fm_get (enc := encR) (k := 4) (fun _ => rfl) h hj
theorem flatR_set {l : List RO} {i : Nat} {x x' : RO} {j : Nat} {v : Value} (h : l[i]? = some x) (hj : j < 4) (he : (encR x).set j v = encR x') : (flatR l).set (i * 4 + j) v = flatR (l.set i x') := fm_set (enc := encR) (k := 4) (fun _ => rfl) h hj he
def encL (x : KK × PV) : List Value := .string x.1.1 :: .int .i64 x.1.2 :: encP x.2
def flatL (l : List (KK × PV)) : List Value := l.flatMap encL
theorem flatL_len (l : List (KK × PV)) : (flatL l).length = l.length * 15 := fm_len (k := 15) (fun _ => rfl) l
theorem flatL_get {l : List (KK × PV)} {i : Nat} {x : KK × PV} (h : l[i]? = some x) {j : Nat} {v : Value} (hj : (encL x)[j]? = some v) : (flatL l)[i * 15 + j]? = some v := fm_get (enc := encL) (k := 15) (fun _ => rfl) h hj
theorem encL_one (x : KK × PV) : ∀ u ∈ encL x, u.oneCell' = true := by simp [encL, encP, Value.oneCell']
theorem flatL_one (l : List (KK × PV)) : ∀ u ∈ flatL l, u.oneCell' = true := by
  intro u hu
  obtain ⟨y, _, hy⟩ := List.mem_flatMap.1 hu
  exact encL_one y u hy
/-- an object's slots: nobody turns them; their keys are as they came -/
def SlotsO (w : World) (f : Nat → Nat) (sv : Value) (l : List (KK × PV)) : Prop :=
  ∃ r : List (KK × PV), RowO w f 9 89 15 sv r.length (flatL r) ∧ r.map (fun x => (pk x.1, x.2)) = l ∧ ∀ x ∈ r, okK x.1
theorem SlotsO.turn {C : Nat → Prop} {f f' : Nat → Nat} {w w' : World} {sv : Value} {l : List (KK × PV)} (h : SlotsO w f sv l) (ht : Turn C f f' w w') (hc : ¬ C 9) : SlotsO w' f' sv l := by
  obtain ⟨r, h1, h2⟩ := h
  exact ⟨r, h1.turn ht hc, h2⟩
theorem SlotsO.nil (w : World) (f : Nat → Nat) : SlotsO w f (.slice none 0 0) [] := ⟨[], ⟨⟨rfl, .inl ⟨rfl, rfl⟩⟩, fun k h => by cases h⟩, rfl, fun _ h => by cases h⟩
def zeroOB : OB := ⟨0, 0, false, false, []⟩
/-- the reference's heap -/
def RefO (w : World) (f : Nat → Nat) (rb : Nat) (lim : Int) (R : List OB) : Prop :=
  ∃ (rv : Value) (xs : List RO), (w.heap[rb]? = some (.cells #[.int .i64 lim, rv] 46 (0, 0)) ∧ f rb = 6) ∧ RowO w f 7 49 4 rv xs.length (flatR xs) ∧ xs.map Prod.fst = zeroOB :: R ∧ ∀ x ∈ xs, SlotsO w f x.2 x.1.l
theorem RefO.turn {C : Nat → Prop} {f f' : Nat → Nat} {w w' : World} {rb : Nat} {lim : Int} {R : List OB} (h : RefO w f rb lim R) (ht : Turn C f f' w w') (hC : ∀ c, C c → c = 0) : RefO w' f' rb lim R := by
  obtain ⟨rv, xs, h1, h2, h3, h4⟩ := h
  have hn : ∀ c, 0 < c → ¬ C c := fun c hc h => by have := hC c h; omega
  exact ⟨rv, xs, blk_turn h1 ht (hn _ (by omega)), h2.turn ht (hn _ (by omega)), h3, fun x hx => (h4 x hx).turn ht (hn _ (by omega))⟩
theorem RefO.below {f : Nat → Nat} {w w' : World} {rb : Nat} {lim : Int} {R : List OB} (h : RefO w f rb lim R) (hN : Norm f w) (hb' : Below w.heap.size w w') : RefO w' f rb lim R := h.turn (Turn.of_below (fun _ => False) hN hb') (fun _ h => h.elim)
/-- its cells -/
theorem RefO.form {f : Nat → Nat} {w : World} {rb : Nat} {lim : Int} {R : List OB} (h : RefO w f rb lim R) :
    ∃ g c, w.cell? ⟨rb, 0, none⟩ = some (.int .i64 lim) ∧ w.cell? ⟨rb, 1, none⟩ = some (.slice (some ⟨g, 0, none⟩) (R.length + 1) c) ∧ (rb < w.heap.size ∧ g < w.heap.size ∧ rb ≠ g) ∧
      ∀ (o : Nat) a, 0 < o → R[o - 1]? = some a → ∃ sv, SlotsO w f sv a.l ∧ ((0 : Int) ≤ (o : Int) ∧ (o : Int) < ((R.length + 1 : Nat) : Int)) ∧ (w.cell? ⟨g, o * 4, none⟩ = some (.int .i64 a.cls) ∧ w.cell? ⟨g, o * 4 + 1, none⟩ = some (.int .i64 a.pro) ∧ w.cell? ⟨g, o * 4 + 2, none⟩ = some (.bool a.shut) ∧ w.cell? ⟨g, o * 4 + 3, none⟩ = some sv) := by
  obtain ⟨rv, xs, h1, h2, h3, h4⟩ := h
  have hl : xs.length = R.length + 1 := by have := congrArg List.length h3; simpa using this
  obtain ⟨g, c, rfl, _, hlt⟩ := h2.1.form (by omega)
  have hc := h2.1.cells (g := g) rfl
  refine ⟨g, c, ?_, ?_, ⟨heapH_lt h1.1, hlt, fun e => ?_⟩, fun o a h0 ha => ?_⟩
  · rw [cell_of_row _ _ 0 _ _ _ h1.1]; rfl
  · rw [cell_of_row _ _ 1 _ _ _ h1.1, ← hl]; rfl
  · have := h2.2 g rfl; rw [← e, h1.2] at this; omega
  · have hx : (xs.map Prod.fst)[o]? = some a := by
      rw [h3]
      obtain ⟨m, rfl⟩ : ∃ m, o = m + 1 := ⟨o - 1, by omega⟩
      simpa using ha
    rw [List.getElem?_map, Option.map_eq_some_iff] at hx
    obtain ⟨x, hx1, hx2⟩ := hx
    have hlt := (List.getElem?_eq_some_iff.1 hx1).1
    subst hx2
    have e := fun j v (hj : (encR x)[j]? = some v) => hc (o * 4 + j) v (flatR_get hx1 hj)
    simp only [Addr.add_lit, Nat.zero_add] at e
    exact ⟨x.2, h4 x (List.mem_of_getElem? hx1), ⟨by omega, by omega⟩, e 0 _ rfl, e 1 _ rfl, e 2 _ rfl, e 3 _ rfl⟩
theorem c_RHas {w : World} {f : Nat → Nat} {rb : Nat} {lim : Int} {R : List OB} (h : RefO w f rb lim R) (o : Int) :
    Calls Try.prog 12 #[ptrV rb, .int .i64 o] w fun e w' => e = .returned (.bool (hasH R o)) ∧ w' = w := by
  obtain ⟨g, c, c0, c1, _, _⟩ := h.form
  unfold ptrV at *
  cases h1 : decide (0 < o) with
  | false =>
    have e : hasH R o = false := by unfold hasH; rw [h1]; rfl
    rw [e]
    go_enter Try.func12, Try.ntmps12
    go_wp2
    go_ret
    exact ⟨rfl, rfl⟩
  | true =>
    have e : hasH R o = decide (o < ((R.length + 1 : Nat) : Int)) := by unfold hasH; rw [h1]; rfl
    rw [e]
    clear e
    generalize R.length + 1 = n at *
    go_enter Try.func12, Try.ntmps12
    go_wp2
    go_ret
    exact ⟨rfl, rfl⟩
theorem c_RProto0 {w : World} {f : Nat → Nat} {rb : Nat} {lim : Int} {R : List OB} (h : RefO w f rb lim R) (o : Int) (ho : hasH R o = false) :
    Calls Try.prog 77 #[ptrV rb, .int .i64 o] w fun e w' => e = .returned (.int .i64 0) ∧ w' = w := by
  have hH := c_RHas h o
  rw [ho] at hH
  replace hH := Lib.hid hH
  clear h ho
  go_enter Try.func77, Try.ntmps77
  go_wp2_with (go_at_call 12; refine hH.out.mono ?_; rintro e w1 ⟨rfl, rfl⟩)
  go_ret
  exact ⟨rfl, rfl⟩
theorem c_RProto1 {w : World} {f : Nat → Nat} {rb : Nat} {lim : Int} {R : List OB} (h : RefO w f rb lim R) (o : Nat) (a : OB) (h0 : 0 < o) (ho : R[o - 1]? = some a) :
    Calls Try.prog 77 #[ptrV rb, .int .i64 (o : Int)] w fun e w' => e = .returned (.int .i64 a.pro) ∧ w' = w := by
  have hH := c_RHas h (o : Int)
  rw [hasH_of h0 ho] at hH
  obtain ⟨g, c, c0, c1, _, hr⟩ := h.form
  obtain ⟨sv, _, ⟨p1, p2⟩, d0, d1, d2, d3⟩ := hr o a h0 ho
  unfold ptrV at *
  replace hH := Lib.hid hH
  clear h ho hr
  go_enter Try.func77, Try.ntmps77
  go_wp2_with (go_at_call 12; refine hH.out.mono ?_; rintro e w1 ⟨rfl, rfl⟩)
  go_ret
  exact ⟨rfl, rfl⟩
end Go.Proofs.Ytoccmiinkfhohaa
namespace Go.Proofs.Ytoccmiinkfhohaa
open Go.RowKit Go.Shelf Go.Lib Go.Sort Go.Proofs Go.Maps
set_option maxHeartbeats 2000000
set_option maxRecDepth 100000

def RefT (w : World) (f : Nat → Nat) (rb : Nat) (lim : Int) (R' : List OB) (w' : World) : Prop := ∃ f', Turn (fun c => c = 6 ∨ c = 7) f f' w w' ∧ RefO w' f' rb lim R'
theorem RefT.same {w w' : World} {f : Nat → Nat} {rb : Nat} {lim : Int} {R : List OB} (hN : Norm f w) (h : RefO w f rb lim R) (hb' : Below w.heap.size w w') : RefT w f rb lim R w' := ⟨f, Turn.of_below _ hN hb', h.below hN hb'⟩
theorem RefO.upd {f : Nat → Nat} {w : World} {rb : Nat} {lim : Int} {R : List OB} (h : RefO w f rb lim R) {o : Nat} {a : OB} (h0 : 0 < o) (ha : R[o - 1]? = some a) :
    ∃ g c sv, (w.cell? ⟨rb, 0, none⟩ = some (.int .i64 lim) ∧ w.cell? ⟨rb, 1, none⟩ = some (.slice (some ⟨g, 0, none⟩) (R.length + 1) c)) ∧ (rb < w.heap.size ∧ g < w.heap.size ∧ rb ≠ g) ∧ (f rb = 6 ∧ f g = 7) ∧ SlotsO w f sv a.l ∧ ((0 : Int) ≤ (o : Int) ∧ (o : Int) < ((R.length + 1 : Nat) : Int)) ∧
      (w.cell? ⟨g, o * 4, none⟩ = some (.int .i64 a.cls) ∧ w.cell? ⟨g, o * 4 + 1, none⟩ = some (.int .i64 a.pro) ∧ w.cell? ⟨g, o * 4 + 2, none⟩ = some (.bool a.shut) ∧ w.cell? ⟨g, o * 4 + 3, none⟩ = some sv) ∧ (∀ j, w.frozen? ⟨g, j, none⟩ = false) ∧
      (∀ (f1 : Nat → Nat) (w1 : World) (j : Nat) (v : Value) (a' : OB) (sv' : Value), Turn (fun _ => False) f f1 w w1 → j < 4 → (encR (a, sv)).set j v = encR (a', sv') → SlotsO w1 f1 sv' a'.l → RefT w f rb lim (R.set (o - 1) a') (w1.setCell ⟨g, o * 4 + j, none⟩ v)) := by
  obtain ⟨rv, xs, h1, h2, h3, h4⟩ := h
  have hl : xs.length = R.length + 1 := by have := congrArg List.length h3; simpa using this
  obtain ⟨g, c, rfl, _, hlt⟩ := h2.1.form (by omega)
  have hc := h2.1.cells (g := g) rfl
  have hg := h2.2 g rfl
  have hrg : rb ≠ g := fun e => by rw [← e, h1.2] at hg; omega
  obtain ⟨m, rfl⟩ : ∃ m, o = m + 1 := ⟨o - 1, by omega⟩
  have ha' : R[m]? = some a := ha
  have hx : (xs.map Prod.fst)[m + 1]? = some a := by rw [h3]; simpa using ha
  rw [List.getElem?_map, Option.map_eq_some_iff] at hx
  obtain ⟨⟨a', sv⟩, hx1, hx2⟩ := hx
  dsimp only at hx2
  subst hx2
  have hlt2 := (List.getElem?_eq_some_iff.1 hx1).1
  have e := fun j v (hj : (encR (a', sv))[j]? = some v) => hc ((m + 1) * 4 + j) v (flatR_get hx1 hj)
  simp only [Addr.add_lit, Nat.zero_add] at e
  refine ⟨g, c, sv, ⟨?_, ?_⟩, ⟨heapH_lt h1.1, hlt, hrg⟩, ⟨h1.2, hg⟩, h4 _ (List.mem_of_getElem? hx1), ⟨by omega, by omega⟩, ⟨e 0 _ rfl, e 1 _ rfl, e 2 _ rfl, e 3 _ rfl⟩, fun j => ?_, fun f1 w1 j v a2 sv2 ht hj he hs => ?_⟩
  · rw [cell_of_row _ _ 0 _ _ _ h1.1]; rfl
  · rw [cell_of_row _ _ 1 _ _ _ h1.1, ← hl]; rfl
  · obtain ⟨g', cap, e1, _, _, _, e2⟩ := row_front h2.1 (by omega)
    injection e1 with e1
    injection e1 with e1
    injection e1 with e1
    subst e1
    exact e2 j
  · have t0 : Turn (fun c => c = 6 ∨ c = 7) f f1 w w1 := ht.mono (fun _ h => h.elim)
    have g1 : f1 g = 7 := (ht.agree g hlt).trans hg
    have t1 : Turn (fun c => c = 7) f1 f1 w1 (w1.setCell ⟨g, (m + 1) * 4 + j, none⟩ v) := (Turn.refl _ ht.norm).set g _ v g1
    have r1 := blk_turn (blk_turn h1 ht id) t1 (by omega)
    have r2 := h2.turn ht id
    refine ⟨f1, t0.trans (t1.mono (fun _ h => .inr h)), _, xs.set (m + 1) (a2, sv2), r1, ?_, ?_, ?_⟩
    · have := row_set r2.1 ((m + 1) * 4 + j) v
      rw [flatR_set hx1 hj he] at this
      rw [List.length_set]
      exact ⟨this, r2.2⟩
    · rw [List.map_set, h3]; simp
    · intro x hx
      rcases List.mem_or_eq_of_mem_set hx with h | h
      · exact ((h4 x h).turn ht id).turn t1 (by omega)
      · subst h; exact hs.turn t1 (by omega)
theorem c_RShut0 {w : World} {f : Nat → Nat} {rb : Nat} {lim : Int} {R : List OB} (h : RefO w f rb lim R) (o : Int) (ho : hasH R o = false) :
    Calls Try.prog 49 #[ptrV rb, .int .i64 o] w fun e w' => e = .returned (.int .i64 151) ∧ w' = w := by
  have hH := c_RHas h o
  rw [ho] at hH
  replace hH := Lib.hid hH
  clear h ho
  go_enter Try.func49, Try.ntmps49
  go_wp2_with (go_at_call 12; refine hH.out.mono ?_; rintro e w1 ⟨rfl, rfl⟩)
  go_ret
  exact ⟨rfl, rfl⟩
theorem c_RShut1 {w : World} {f : Nat → Nat} {rb : Nat} {lim : Int} {R : List OB} (hN : Norm f w) (h : RefO w f rb lim R) (o : Nat) (a : OB) (h0 : 0 < o) (ho : R[o - 1]? = some a) :
    Calls Try.prog 49 #[ptrV rb, .int .i64 (o : Int)] w fun e w' => e = .returned (.int .i64 0) ∧ RefT w f rb lim (R.set (o - 1) { a with shut := true }) w' := by
  have hH := c_RHas h (o : Int)
  rw [hasH_of h0 ho] at hH
  obtain ⟨g, c, sv, ⟨_, c1⟩, _, _, hs, ⟨p1, p2⟩, _, fz, hu⟩ := h.upd h0 ho
  have hfin := hu f w 2 (.bool true) { a with shut := true } sv (Turn.refl _ hN) (by omega) rfl hs
  have fz2 := fz (o * 4 + 2)
  obtain ⟨d0, d1, d2, d3⟩ := ‹_ ∧ _ ∧ _ ∧ _›
  unfold ptrV at *
  replace hH := Lib.hid hH
  replace hfin := Lib.hid hfin
  clear h ho hu hs fz hN
  go_enter Try.func49, Try.ntmps49
  go_wp2_with (go_at_call 12; refine hH.out.mono ?_; rintro e w1 ⟨rfl, rfl⟩)
  go_ret
  exact ⟨rfl, hfin.out⟩
theorem c_RSetProto0 {w : World} {f : Nat → Nat} {rb : Nat} {lim : Int} {R : List OB} (h : RefO w f rb lim R) (o p : Int) (ho : hasH R o = false) :
    Calls Try.prog 48 #[ptrV rb, .int .i64 o, .int .i64 p] w fun e w' => e = .returned (.int .i64 151) ∧ w' = w := by
  have hH := c_RHas h o
  rw [ho] at hH
  replace hH := Lib.hid hH
  clear h ho
  go_enter Try.func48, Try.ntmps48
  go_wp2_with (go_at_call 12; refine hH.out.mono ?_; rintro e w1 ⟨rfl, rfl⟩)
  go_ret
  exact ⟨rfl, rfl⟩
theorem c_RSetProtoN {w : World} {f : Nat → Nat} {rb : Nat} {lim : Int} {R : List OB} (h : RefO w f rb lim R) (o p : Int) (ho : hasH R o = true) (hp : p ≠ 0) (hp2 : hasH R p = false) :
    Calls Try.prog 48 #[ptrV rb, .int .i64 o, .int .i64 p] w fun e w' => e = .returned (.int .i64 151) ∧ w' = w := by
  have hH := fun q => c_RHas h q
  have h1 := hH o
  have h2 := hH p
  rw [ho] at h1
  rw [hp2] at h2
  have hpe : (p == 0) = false := by simpa using hp
  have hpn : (p != 0) = true := by simpa using hp
  replace h1 := Lib.hid h1
  replace h2 := Lib.hid h2
  clear h ho hH hp hp2
  go_enter Try.func48, Try.ntmps48
  go_wp2_with (first | (go_at_call 12; with_reducible refine h1.out.mono ?_; rintro e w1 ⟨rfl, rfl⟩) | (go_at_call 12; with_reducible refine h2.out.mono ?_; rintro e w1 ⟨rfl, rfl⟩))
  go_ret
  exact ⟨rfl, rfl⟩
theorem c_RSetProto1 {w : World} {f : Nat → Nat} {rb : Nat} {lim : Int} {R : List OB} (hN : Norm f w) (h : RefO w f rb lim R) (o : Nat) (a : OB) (h0 : 0 < o) (ho : R[o - 1]? = some a) (p : Int) (hp : p = 0 ∨ hasH R p = true) :
    Calls Try.prog 48 #[ptrV rb, .int .i64 (o : Int), .int .i64 p] w fun e w' => e = .returned (.int .i64 0) ∧ RefT w f rb lim (R.set (o - 1) { a with pro := p }) w' := by
  have hH := c_RHas h (o : Int)
  rw [hasH_of h0 ho] at hH
  have hH2 := c_RHas h p
  obtain ⟨g, c, sv, ⟨_, c1⟩, _, _, hs, ⟨p1, p2⟩, _, fz, hu⟩ := h.upd h0 ho
  have hfin := hu f w 1 (.int .i64 p) { a with pro := p } sv (Turn.refl _ hN) (by omega) rfl hs
  have fz2 := fz (o * 4 + 1)
  obtain ⟨d0, d1, d2, d3⟩ := ‹_ ∧ _ ∧ _ ∧ _›
  unfold ptrV at *
  replace hH := Lib.hid hH
  replace hfin := Lib.hid hfin
  clear h ho hu hs fz hN
  by_cases hpz : p = 0
  · subst hpz
    clear hH2 hp
    go_enter Try.func48, Try.ntmps48
    go_wp2_with (go_at_call 12; refine hH.out.mono ?_; rintro e w1 ⟨rfl, rfl⟩)
    go_ret
    exact ⟨rfl, hfin.out⟩
  · have hp' : hasH R p = true := by rcases hp with h | h; exact absurd h hpz; exact h
    rw [hp'] at hH2
    have hpe : (p == 0) = false := by simpa using hpz
    have hpn : (p != 0) = true := by simpa using hpz
    replace hH2 := Lib.hid hH2
    clear hp hp' hpz
    go_enter Try.func48, Try.ntmps48
    go_wp2_with (first | (go_at_call 12; with_reducible refine hH.out.mono ?_; rintro e w1 ⟨rfl, rfl⟩) | (go_at_call 12; with_reducible refine hH2.out.mono ?_; rintro e w1 ⟨rfl, rfl⟩))
    go_ret
    exact ⟨rfl, hfin.out⟩
end Go.Proofs.Ytoccmiinkfhohaa
namespace Go.Proofs.Ytoccmiinkfhohaa
open Go.RowKit Go.Shelf Go.Lib Go.Sort Go.Proofs Go.Maps
set_option maxHeartbeats 2000000
set_option maxRecDepth 100000

theorem infoSlotL : (Try.prog.info? 89).map (·.size) = some 15 := by kernel_rfl
/-- a slot of nothing -/
def zeroL : Array Value := #[.string ⟨#[]⟩, .int .i64 0, .int .i64 0, .float .f64 0, .string ⟨#[]⟩, .int .i64 0, .int .i64 0, .float .f64 0, .string ⟨#[]⟩, .int .i64 0, .int .i64 0, .float .f64 0, .string ⟨#[]⟩, .int .i64 0, .int .i64 0]
theorem zeroL_there (w : World) : (w.alloc (.cells zeroL 89)).there w.heap.size 0 15 := there_of (heap_alloc_new w _) (Nat.le_refl 15)
theorem rangeL {w : World} {g n cap B : Nat} {r : List (KK × PV)} (h : w.ownsRow B 89 15 (.slice (some ⟨g, 0, none⟩) n cap) n (flatL r)) {i : Nat} {x : KK × PV} (hi : r[i]? = some x) : w.rangeAt g (i * 15) (encL x) := fun j v hv => by
  have := h.cells (g := g) rfl _ _ (flatL_get hi hv)
  rwa [Addr.add_lit, Nat.zero_add] at this
theorem fresh_cellsL {w : World} (x : KK × PV) : Below w.heap.size w ((w.alloc (.cells zeroL 89)).setCells w.heap.size 0 (encL x)) ∧ ((w.alloc (.cells zeroL 89)).setCells w.heap.size 0 (encL x)).cell? ⟨w.heap.size, 0, none⟩ = some (.string x.1.1) ∧ ((w.alloc (.cells zeroL 89)).setCells w.heap.size 0 (encL x)).cell? ⟨w.heap.size, 1, none⟩ = some (.int .i64 x.1.2) := by
  obtain ⟨h1, h2, _⟩ := fresh_set (w := w) (o := zeroL) (t := 89) (vs := encL x) rfl
  generalize (w.alloc (.cells zeroL 89)).setCells w.heap.size 0 (encL x) = W at *
  refine ⟨h1, ?_, ?_⟩
  · rw [cell_of_row _ _ 0 _ _ _ h2]; rfl
  · rw [cell_of_row _ _ 1 _ _ _ h2]; rfl
theorem SlotsO.form {w : World} {f : Nat → Nat} {sv : Value} {r : List (KK × PV)} (h : RowO w f 9 89 15 sv r.length (flatL r)) : ∃ q cp, sv = .slice q r.length cp ∧ (0 < r.length → ∃ g, q = some ⟨g, 0, none⟩ ∧ g < w.heap.size) := by
  rcases h.1.2 with ⟨e, h⟩ | ⟨g, cap, cur, e, _, hg, _⟩
  · rw [h]; exact ⟨_, _, e, fun h => by omega⟩
  · exact ⟨_, _, e, fun _ => ⟨g, rfl, heapH_lt hg⟩⟩
theorem idx_first {l : List KK} {x : KK} : ∀ {i : Nat}, idx (l.take i) x = none → l[i]? = some x → idx l x = some i := by
  induction l with
  | nil => intro i _ h; simp at h
  | cons a l ih =>
    intro i h hi
    cases i with
    | zero => simp at hi; simp [idx, hi]
    | succ i =>
      rw [List.take_succ_cons] at h
      by_cases e : a = x
      · simp [idx, e] at h
      · simp [idx, e] at h ⊢
        exact ih h (by simpa using hi)
theorem idx_next {l : List KK} {x y : KK} {i : Nat} (h : idx (l.take i) x = none) (hi : l[i]? = some y) (hne : y ≠ x) : idx (l.take (i + 1)) x = none := by
  rw [take_get hi, idx_snoc, h]
  simp [hne]
def placeV (x : Option Nat) : Int := match x with | some i => (i : Int) | none => -1
/-- where a key stands in an object -/
def placeH (R : List OB) (o : Int) (K : KK) : Option Nat := (objH R o).bind fun a => idx (gk a.l) K
theorem c_Rplace0 {w : World} {f : Nat → Nat} {rb : Nat} {lim : Int} {R : List OB} (hN : Norm f w) (h : RefO w f rb lim R) (o : Int) (ho : hasH R o = false) (k : KK) :
    Calls Try.prog 44 #[ptrV rb, .int .i64 o, keyV k.1 k.2] w fun e w' => e = .returned (.int .i64 (-1)) ∧ Below w.heap.size w w' := by
  have hH := fun y hy => c_RHas (h.below (w' := y) hN hy) o
  rw [ho] at hH
  have hbk : Below w.heap.size w (w.alloc (.cells #[.string k.1, .int .i64 k.2] 32)) := (Below.refl _ w).alloc (Nat.le_refl _) _
  replace hH := Lib.hid (hH _ hbk)
  replace hbk := Lib.hid hbk
  unfold keyV
  clear h ho hN
  go_enter Try.func44, Try.ntmps44
  go_wp2_with (go_at_call 12; refine hH.out.mono ?_; rintro e w1 ⟨rfl, e1⟩; cases e1)
  go_ret
  exact ⟨rfl, hbk.out⟩
theorem c_Rplace1 {w : World} {f : Nat → Nat} {rb : Nat} {lim : Int} {R : List OB} (hN : Norm f w) (h : RefO w f rb lim R) (o : Nat) (a : OB) (h0 : 0 < o) (ho : R[o - 1]? = some a) (hal : a.l.length ≤ 100000) (k : KK) (hk : okK k) :
    Calls Try.prog 44 #[ptrV rb, .int .i64 (o : Int), keyV k.1 k.2] w fun e w' => e = .returned (.int .i64 (placeV (idx (gk a.l) (pk k)))) ∧ Below w.heap.size w w' := by
  obtain ⟨W1, hW1⟩ : ∃ W1, w.alloc (.cells #[.string k.1, .int .i64 k.2] 32) = W1 := ⟨_, rfl⟩
  have hb1 : Below w.heap.size w W1 := by rw [← hW1]; exact (Below.refl _ w).alloc (Nat.le_refl _) _
  have hs1 : W1.heap.size = w.heap.size + 1 := by rw [← hW1]; simp
  have hH := c_RHas (h.below hN hb1) (o : Int)
  rw [hasH_of h0 ho] at hH
  obtain ⟨g, c, sv, ⟨_, c1⟩, ⟨l1, l2, _⟩, _, hs, ⟨p1, p2⟩, ⟨_, _, _, d3⟩, _, _⟩ := h.upd h0 ho
  obtain ⟨r, r1, r2, r3⟩ := hs
  obtain ⟨q, cp, rfl, hq⟩ := SlotsO.form r1
  have hrl : r.length ≤ 100000 := by rw [← List.length_map (f := fun x : KK × PV => (pk x.1, x.2)), r2]; exact hal
  have hgk : gk a.l = r.map (fun x => pk x.1) := by rw [← r2]; unfold gk; rw [List.map_map]; rfl
  rw [hgk]
  have d0 : W1.heap[w.heap.size]? = some (.cells #[.string k.1, .int .i64 k.2] 32 (0, 0)) := by rw [← hW1]; exact heap_alloc_new w _
  have kc0 : W1.cell? ⟨w.heap.size, 0, none⟩ = some (.string k.1) := by rw [cell_of_row _ _ 0 _ _ _ d0]; rfl
  have kc1 : W1.cell? ⟨w.heap.size, 1, none⟩ = some (.int .i64 k.2) := by rw [cell_of_row _ _ 1 _ _ _ d0]; rfl
  rw [← hb1.cell (p := ⟨rb, 1, none⟩) l1] at c1
  rw [← hb1.cell (p := ⟨g, o * 4 + 3, none⟩) l2] at d3
  have rr : ∀ (i : Nat) x, r[i]? = some x → ∃ g2, q = some ⟨g2, 0, none⟩ ∧ g2 < w.heap.size ∧ w.rangeAt g2 (i * 15) (encL x) ∧ okK x.1 := by
    intro i x hx
    obtain ⟨g2, e1, e2⟩ := hq (by have := (List.getElem?_eq_some_iff.1 hx).1; omega)
    subst e1
    obtain ⟨g3, cap, e3, _, _⟩ := r1.1.form (by have := (List.getElem?_eq_some_iff.1 hx).1; omega)
    injection e3 with e3 e4 e5
    injection e3 with e3
    injection e3 with e3
    subst e3
    subst e5
    exact ⟨_, rfl, e2, rangeL r1.1 hx, r3 x (List.mem_of_getElem? hx)⟩
  have hS4 := fun (x : KK) (hx : okK x) (y : World) => c_Same4 x.1 k.1 x.2 k.2 hx.1 hk.1 y
  unfold ptrV keyV at *
  obtain ⟨k0, kn⟩ := k
  dsimp only at *
  obtain ⟨K, hK⟩ : ∃ K, pk (k0, kn) = K := ⟨_, rfl⟩
  rw [hK]
  have hsp := fun (x : KK) => sameK_pk x (k0, kn)
  rw [hK] at hsp
  have hi0 : idx ((r.map (fun x => pk x.1)).take 0) K = none := by simp [idx]
  replace hH := Lib.hid hH
  replace rr := Lib.hid rr
  replace hS4 := Lib.hid hS4
  replace hsp := Lib.hid hsp
  replace hi0 := Lib.hid hi0
  replace hb1 := Lib.hid hb1
  have lt1 : w.heap.size < W1.heap.size := by omega
  clear h ho hN r1 r2 r3 hgk hq hal d0 hk hK
  go_enter Try.func44, Try.ntmps44
  go_wp2_with (go_at_call 12; refine hH.out.mono ?_; rintro e w1 ⟨rfl, e1⟩; cases e1)
  go_loopw [22] (fun vi wr => ∃ i : Nat, i ≤ r.length ∧ vi = .int .i64 (i : Int) ∧ idx ((r.map (fun x => pk x.1)).take i) K = none ∧ Below W1.heap.size W1 wr) (fun vi _ => r.length - (intOf vi).toNat)
  case atStart => exact ⟨0, by omega, rfl, hi0.out, Below.refl _ _⟩
  case round =>
    obtain ⟨i, hi, rfl, hno, hbel⟩ := hrel
    rcases Nat.lt_or_ge i r.length with hlt | hge
    · obtain ⟨x, hx⟩ : ∃ x, r[i]? = some x := ⟨_, List.getElem?_eq_getElem hlt⟩
      obtain ⟨g2, rfl, lg2, hrg, hok⟩ := rr.out i x hx
      replace hrg := range_at hrg ((hbel.block g2 (Nat.lt_of_lt_of_le lg2 hb1.out.size)).trans (hb1.out.block g2 lg2))
      have hi15 : (Try.prog.info? 89).map (·.size) = some (encL x).length := infoSlotL
      have hj15 : (Try.prog.info? 89).map (·.size) = some (encL x).toArray.size := infoSlotL
      have ho15 := all_oneCell_toArray (encL_one x)
      have q1 : (0 : Int) ≤ (i : Int) := by omega
      have q2 : (i : Int) < (r.length : Int) := by omega
      have hfs := fresh_cellsL (w := wr) x
      have hth : (wr.alloc (.cells zeroL 89)).there wr.heap.size 0 (encL x).toArray.size := zeroL_there wr
      have hsz := hbel.size
      have hmx : (r.map (fun x => pk x.1))[i]? = some (pk x.1) := by simp [hx]
      have hsx := hsp.out x.1
      have hcall := hS4.out x.1 hok
      rw [← hbel.cell (p := ⟨w.heap.size, 0, none⟩) lt1] at kc0
      rw [← hbel.cell (p := ⟨w.heap.size, 1, none⟩) lt1] at kc1
      have ltr : w.heap.size < wr.heap.size := Nat.lt_of_lt_of_le lt1 hsz
      obtain ⟨⟨x0, xn⟩, px⟩ := x
      dsimp only at *
      generalize encL ((x0, xn), px) = E at *
      replace hfs := Lib.hid hfs
      replace hno := Lib.hid hno
      replace hmx := Lib.hid hmx
      replace hcall := Lib.hid hcall
      replace hbel := Lib.hid hbel
      replace hsx := Lib.hid hsx
      clear hx hok hsp hH hi0
      have tokA : True := trivial
      have tokB : True := trivial
      cases hb : sameK x0 k0 xn kn with
      | true =>
        rw [hb] at hcall
        go_wp2_with (first | (clear tokA; refine wpList_load_mid rfl 89 (.tmp 25) rfl g2 (i * 15) rfl E _ hrg Try.underlying89 rfl hi15 ?_) | (clear tokB; refine wpList_store_mid rfl 89 (.tmp 8) (.tmp 26) rfl wr.heap.size 0 E.toArray rfl rfl hth hj15 ho15 ?_; obtain ⟨hb4, e0, e1⟩ := hfs.out; generalize hW4 : World.setCells _ _ _ _ = W4; rw [show (wr.alloc (.cells zeroL 89)).setCells wr.heap.size 0 E = W4 from hW4] at hb4 e0 e1; clear hW4 hth hrg; rw [← hb4.cell (p := ⟨w.heap.size, 0, none⟩) ltr] at kc0; rw [← hb4.cell (p := ⟨w.heap.size, 1, none⟩) ltr] at kc1; replace hb4 := Lib.hid hb4) | (go_at_call 40; refine (hcall.out _).mono ?_; rintro e w5 ⟨rfl, hb5⟩))
        go_ret
        have : pk (x0, xn) = K := of_decide_eq_true (hsx.out.symm.trans hb)
        rw [idx_first hno.out (by rw [← this]; exact hmx.out)]
        exact ⟨rfl, (hb1.out.trans (hbel.out.mono hb1.out.size)).trans ((hb4.out.mono (Nat.le_trans hb1.out.size hsz)).trans (hb5.mono (Nat.le_trans (Nat.le_trans hb1.out.size hsz) hb4.out.size)))⟩
      | false =>
        rw [hb] at hcall
        go_wp2_with (first | (clear tokA; refine wpList_load_mid rfl 89 (.tmp 25) rfl g2 (i * 15) rfl E _ hrg Try.underlying89 rfl hi15 ?_) | (clear tokB; refine wpList_store_mid rfl 89 (.tmp 8) (.tmp 26) rfl wr.heap.size 0 E.toArray rfl rfl hth hj15 ho15 ?_; obtain ⟨hb4, e0, e1⟩ := hfs.out; generalize hW4 : World.setCells _ _ _ _ = W4; rw [show (wr.alloc (.cells zeroL 89)).setCells wr.heap.size 0 E = W4 from hW4] at hb4 e0 e1; clear hW4 hth hrg; rw [← hb4.cell (p := ⟨w.heap.size, 0, none⟩) ltr] at kc0; rw [← hb4.cell (p := ⟨w.heap.size, 1, none⟩) ltr] at kc1; replace hb4 := Lib.hid hb4) | (go_at_call 40; refine (hcall.out _).mono ?_; rintro e w5 ⟨rfl, hb5⟩))
        have hne : pk (x0, xn) ≠ K := of_decide_eq_false (hsx.out.symm.trans hb)
        go_roundw
        case rel =>
          exact ⟨i + 1, by omega, by go_num, idx_next hno.out hmx.out hne, hbel.out.trans ((hb4.out.mono hsz).trans (hb5.mono (Nat.le_trans hsz hb4.out.size)))⟩
        case measure => simp [intOf]; omega
    · obtain rfl : i = r.length := by omega
      rw [List.take_of_length_le (by simp)] at hno
      replace hno := Lib.hid hno
      replace hbel := Lib.hid hbel
      go_wp2
      go_ret
      rw [hno.out]
      exact ⟨rfl, hb1.out.trans (hbel.out.mono hb1.out.size)⟩
theorem c_Rplace {w : World} {f : Nat → Nat} {rb : Nat} {lim : Int} {R : List OB} (hN : Norm f w) (h : RefO w f rb lim R) (hR : ∀ a ∈ R, a.l.length ≤ 100000) (o : Int) (k : KK) (hk : okK k) :
    Calls Try.prog 44 #[ptrV rb, .int .i64 o, keyV k.1 k.2] w fun e w' => e = .returned (.int .i64 (placeV (placeH R o (pk k)))) ∧ Below w.heap.size w w' := by
  rcases objH_cases R o with ⟨h1, h2⟩ | ⟨n, a, rfl, h1, h2, h3, h4⟩
  · have : placeH R o (pk k) = none := by unfold placeH; rw [h2]; rfl
    rw [this]
    exact c_Rplace0 hN h o h1 k
  · have : placeH R (n : Int) (pk k) = idx (gk a.l) (pk k) := by unfold placeH; rw [h3]; rfl
    rw [this]
    exact c_Rplace1 hN h n a h1 h2 (hR a (List.mem_of_getElem? h2)) k hk
end Go.Proofs.Ytoccmiinkfhohaa
namespace Go.Proofs.Ytoccmiinkfhohaa
open Go.RowKit Go.Shelf Go.Lib Go.Sort Go.Proofs Go.Maps
set_option maxHeartbeats 4000000
set_option maxRecDepth 100000

def sumX (xs : List RO) : Nat := (xs.map fun x => x.1.l.length).sum
theorem sumX_le (xs : List RO) (i : Nat) : sumX (xs.take i) ≤ sumX xs := by
  have : sumX xs = sumX (xs.take i) + sumX (xs.drop i) := by
    unfold sumX
    rw [← List.sum_append, ← List.map_append, List.take_append_drop]
  omega
theorem sumX_next {xs : List RO} {i : Nat} {x : RO} (h : xs[i]? = some x) : sumX (xs.take (i + 1)) = sumX (xs.take i) + x.1.l.length := by
  unfold sumX
  rw [take_get h, List.map_append, List.sum_append]
  simp
theorem SlotsO.len {w : World} {f : Nat → Nat} {sv : Value} {l : List (KK × PV)} (h : SlotsO w f sv l) : ∃ q cp, sv = .slice q l.length cp := by
  obtain ⟨r, r1, r2, r3⟩ := h
  obtain ⟨q, cp, rfl, _⟩ := SlotsO.form r1
  rw [← r2, List.length_map]
  exact ⟨q, cp, rfl⟩
theorem c_RUsed {w : World} {f : Nat → Nat} {rb : Nat} {lim : Int} {R : List OB} (h : RefO w f rb lim R) (hu : usedH R ≤ 100000) :
    Calls Try.prog 64 #[ptrV rb] w fun e w' => e = .returned (.int .i64 (usedH R : Int)) ∧ Below w.heap.size w w' := by
  obtain ⟨rv, xs, h1, h2, h3, h4⟩ := h
  have hl : xs.length = R.length + 1 := by have := congrArg List.length h3; simpa using this
  obtain ⟨g, c, rfl, _, hlt⟩ := h2.1.form (by omega)
  have hc := h2.1.cells (g := g) rfl
  have c1 : w.cell? ⟨rb, 1, none⟩ = some (.slice (some ⟨g, 0, none⟩) xs.length c) := by rw [cell_of_row _ _ 1 _ _ _ h1.1]; rfl
  have hs : usedH R = R.length + sumX xs := by
    unfold usedH sumX
    have : (xs.map fun x => x.1.l.length) = (xs.map Prod.fst).map fun a => a.l.length := by rw [List.map_map]; rfl
    rw [this, h3]
    simp [zeroOB]
  have rr : ∀ (i : Nat) x, xs[i]? = some x → (w.cell? ⟨g, i * 4, none⟩ = some (.int .i64 x.1.cls) ∧ w.cell? ⟨g, i * 4 + 1, none⟩ = some (.int .i64 x.1.pro) ∧ w.cell? ⟨g, i * 4 + 2, none⟩ = some (.bool x.1.shut)) ∧ ∃ q cp, w.cell? ⟨g, i * 4 + 3, none⟩ = some (.slice q x.1.l.length cp) := fun i x hx => by
    have e := fun j v (hj : (encR x)[j]? = some v) => hc (i * 4 + j) v (flatR_get hx hj)
    simp only [Addr.add_lit, Nat.zero_add] at e
    obtain ⟨q, cp, hq⟩ := (h4 x (List.mem_of_getElem? hx)).len
    refine ⟨⟨e 0 _ rfl, e 1 _ rfl, e 2 _ rfl⟩, q, cp, ?_⟩
    have := e 3 _ rfl
    rw [hq] at this
    exact this
  have hle := sumX_le xs
  have hr1 : (xs.length : Int) - 1 = (R.length : Int) := by omega
  have hx0 : (0 : Int) ≤ (xs.length : Int) := by omega
  have hx1 : (xs.length : Int) ≤ 100001 := by omega
  rw [hs] at hu ⊢
  unfold ptrV
  replace rr := Lib.hid rr
  replace hle := Lib.hid hle
  replace hu := Lib.hid hu
  replace hl := Lib.hid hl
  clear h1 h2 h3 h4 hc hs
  go_enter Try.func64, Try.ntmps64
  go_wp2
  go_loopw [3, 17] (fun vn vi wr => ∃ i : Nat, i ≤ xs.length ∧ vi = .int .i64 (i : Int) ∧ vn = .int .i64 ((R.length + sumX (xs.take i) : Nat) : Int) ∧ Below w.heap.size w wr) (fun _ vi _ => xs.length - (intOf vi).toNat)
  case atStart => exact ⟨0, by omega, rfl, by simp [sumX], Below.refl _ _⟩
  case round =>
    obtain ⟨i, hi, rfl, rfl, hbel⟩ := hrel
    rcases Nat.lt_or_ge i xs.length with hlti | hge
    · obtain ⟨x, hx⟩ : ∃ x, xs[i]? = some x := ⟨_, List.getElem?_eq_getElem hlti⟩
      obtain ⟨⟨d0, d1, d2⟩, q, cp, d3⟩ := rr.out i x hx
      have hn := sumX_next hx
      have hb1 := hle.out (i + 1)
      rw [hn] at hb1
      rw [← hbel.cell (p := ⟨g, i * 4, none⟩) hlt] at d0
      rw [← hbel.cell (p := ⟨g, i * 4 + 1, none⟩) hlt] at d1
      rw [← hbel.cell (p := ⟨g, i * 4 + 2, none⟩) hlt] at d2
      rw [← hbel.cell (p := ⟨g, i * 4 + 3, none⟩) hlt] at d3
      have q1 : (0 : Int) ≤ (i : Int) := by omega
      have q2 : (i : Int) < (xs.length : Int) := by omega
      have hu' := hu.out
      have hz : (R.length + sumX (xs.take i) : Nat) + x.1.l.length ≤ 100000 := by omega
      have b0 : (0 : Int) ≤ ((R.length + sumX (xs.take i) : Nat) : Int) := by omega
      have b1 : (0 : Int) ≤ (x.1.l.length : Int) := by omega
      have b2 : ((R.length + sumX (xs.take i) : Nat) : Int) + (x.1.l.length : Int) ≤ 100000 := by omega
      have hbn : Below w.heap.size w (wr.alloc (.cells #[.int .i64 x.1.cls, .int .i64 x.1.pro, .bool x.1.shut, .slice q x.1.l.length cp] 49)) := hbel.alloc hbel.size _
      obtain ⟨⟨a1, a2, a3, a4, a5⟩, sv⟩ := x
      dsimp only at *
      generalize a5.length = m at *
      generalize hsx : R.length + sumX (xs.take i) = sn at *
      have hfin : ((sn : Int) + (m : Int)) = ((R.length + sumX (xs.take (i + 1)) : Nat) : Int) := by rw [hn]; omega
      replace hfin := Lib.hid hfin
      replace hbn := Lib.hid hbn
      clear hbel hn hb1 hu' hx hsx hz hi
      go_wp2
      exact ⟨⟨i + 1, by omega, by go_num, by rw [hfin.out], hbn.out⟩, by simp [intOf]; omega⟩
    · obtain rfl : i = xs.length := by omega
      rw [List.take_length]
      replace hbel := Lib.hid hbel
      go_wp2
      go_ret
      exact ⟨rfl, hbel.out⟩
theorem info4R : (Try.prog.info? 49).map (fun i => (i.zero, i.size, i.bytes)) = some (some (.agg #[.int .i64 0, .int .i64 0, .bool false, .slice none 0 0]), 4, 48) := by kernel_rfl
theorem c_Rnew {w : World} {f : Nat → Nat} (hN : Norm f w) (lim : Int) : Calls Try.prog 11 #[.int .i64 lim] w fun e w' => ∃ rb f', e = .returned (ptrV rb) ∧ Turn (fun _ => False) f f' w w' ∧ RefO w' f' rb lim [] := by
  obtain ⟨i0, hi0, hz0, hz1, hz2⟩ := info_parts info4R
  have hms := run_makeSlice (P := Try.prog) w 44 49 i0 _ Try.underlying44 hi0 hz0 .i64 .i64 1 1 (by omega) (by omega) (by rw [hz1]; decide) (by rw [hz2]; decide) (by omega)
  rw [hz1] at hms
  have hmc : madeCells (Value.agg #[.int .i64 0, .int .i64 0, .bool false, .slice none 0 0]).cells ((1 : Int).toNat * 4) = #[.int .i64 0, .int .i64 0, .bool false, .slice none 0 0] := by kernel_rfl
  rw [hmc] at hms
  change _ = Result.ok (Value.slice (some ⟨w.heap.size, 0, none⟩) 1 1) _ at hms
  unfold ptrV
  replace hN := Lib.hid hN
  clear hmc hz0 hz1 hz2 hi0
  go_enter Try.func11, Try.ntmps11
  go_wp2
  go_ret
  obtain ⟨w2, e2⟩ : ∃ w2, w.alloc (.cells #[.int .i64 0, .int .i64 0, .bool false, .slice none 0 0] 49) = w2 := ⟨_, rfl⟩
  obtain ⟨w3, e3⟩ : ∃ w3, w2.alloc (.cells #[.int .i64 lim, .slice (some ⟨w.heap.size, 0, none⟩) 1 1] 46) = w3 := ⟨_, rfl⟩
  have s2 : w2.heap.size = w.heap.size + 1 := by rw [← e2]; simp
  have b2 : Below w.heap.size w w3 := by rw [← e3, ← e2]; exact ((Below.refl _ w).alloc (Nat.le_refl _) _).alloc (by simp) _
  have d1 : w3.heap[w.heap.size]? = some (.cells #[.int .i64 0, .int .i64 0, .bool false, .slice none 0 0] 49 (0, 0)) := by rw [← e3, Below.heap_alloc _ _ _ (by omega), ← e2]; exact heap_alloc_new w _
  have d2 : w3.heap[w.heap.size + 1]? = some (.cells #[.int .i64 lim, .slice (some ⟨w.heap.size, 0, none⟩) 1 1] 46 (0, 0)) := by rw [← e3, ← s2]; exact heap_alloc_new w2 _
  have t3 : Turn (fun _ => False) f (give f w w3 (fun r => if r = w.heap.size then 7 else 6)) w w3 := (Turn.refl _ hN.out).give _ b2.os b2.tape b2.output b2.size (fun r hr _ => b2.block r hr)
  show ∃ rb f', _ ∧ Turn (fun _ => False) f f' w ((w.alloc _).alloc _) ∧ RefO ((w.alloc _).alloc _) f' rb lim []
  rw [e2, e3]
  refine ⟨w.heap.size + 1, _, rfl, t3, .slice (some ⟨w.heap.size, 0, none⟩) 1 1, [(zeroOB, .slice none 0 0)], ⟨d2, ?_⟩, ⟨⟨rfl, .inr ⟨w.heap.size, 1, _, rfl, Nat.zero_le _, d1, Nat.le_refl _, by unfold maxLen; omega, rfl, rfl⟩⟩, ?_⟩, rfl, fun x hx => ?_⟩
  · rw [give_new (by omega) (heapH_lt d2)]; simp
  · intro r hr
    simp [Value.ownBlock] at hr
    subst hr
    rw [give_new (Nat.le_refl _) (heapH_lt d1)]; simp
  · obtain rfl : x = (zeroOB, .slice none 0 0) := by simpa using hx
    exact SlotsO.nil _ _
theorem c_Rkept (p : PV) (h0 : 0 ≤ p.fl) (h15 : p.fl ≤ 15) (w : World) :
    Calls Try.prog 65 #[propV p] w fun e w' => e = .returned (propV (keptP p)) ∧ Below w.heap.size w w' := by
  have ha := and8 p.fl h0 h15
  have rsf := fun (w : World) (a : Addr) (x : Nat) => run_store Try.prog w a (.float .f64 x) .plain rfl
  have hb := two_belowH w
  by_cases h8 : 8 ≤ p.fl
  · rw [if_pos h8] at ha
    have hk : keptP p = { p with v := zeroVV } := by unfold keptP; rw [if_pos h8]
    rw [hk]
    obtain ⟨⟨a1, a2, a3, a4⟩, ⟨b1, b2, b3, b4⟩, ⟨d1, d2, d3, d4⟩, fl⟩ := p
    have hne : (bits BinOp.and IntKind.i64 fl 8 != 0) = true := by rw [ha]; rfl
    unfold propV encP zeroVV
    dsimp only at *
    replace hb := Lib.hid hb
    clear hk h8 h0 h15 ha
    go_enter Try.func65, Try.ntmps65
    go_wp2
    refine bodyPost_ret (results_cell_row rfl _ _ (w.heap.size + 1) 37 _ (0, 0) _ rfl (heap_alloc2_new w _ _) Try.underlying37 rfl infoProp) rfl ?_
    exact ⟨rfl, hb.out _ _⟩
  · rw [if_neg h8] at ha
    have hk : keptP p = { p with g := zeroVV, t := zeroVV } := by unfold keptP; rw [if_neg h8]
    rw [hk]
    obtain ⟨⟨a1, a2, a3, a4⟩, ⟨b1, b2, b3, b4⟩, ⟨d1, d2, d3, d4⟩, fl⟩ := p
    have hne : (bits BinOp.and IntKind.i64 fl 8 != 0) = false := by rw [ha]; rfl
    unfold propV encP zeroVV
    dsimp only at *
    replace hb := Lib.hid hb
    clear hk h8 h0 h15 ha
    go_enter Try.func65, Try.ntmps65
    go_wp2
    refine bodyPost_ret (results_cell_row rfl _ _ (w.heap.size + 1) 37 _ (0, 0) _ rfl (heap_alloc2_new w _ _) Try.underlying37 rfl infoProp) rfl ?_
    exact ⟨rfl, hb.out _ _⟩
end Go.Proofs.Ytoccmiinkfhohaa
namespace Go.Proofs.Ytoccmiinkfhohaa
open Go.RowKit Go.Shelf Go.Lib Go.Sort Go.Proofs Go.Maps
set_option maxHeartbeats 4000000
set_option maxRecDepth 100000

theorem place_own (R : List OB) (o : Int) (K : KK) : (placeH R o K).isSome = (ownH R o K).isSome := by
  unfold placeH ownH
  cases objH R o with
  | none => rfl
  | some a => exact (getL_idx (l := a.l)).symm
theorem c_ROwnN {w : World} {f : Nat → Nat} {rb : Nat} {lim : Int} {R : List OB} (hN : Norm f w) (h : RefO w f rb lim R) (hR : ∀ a ∈ R, a.l.length ≤ 100000) (o : Int) (k : KK) (hk : okK k) (hp : placeH R o (pk k) = none) :
    Calls Try.prog 13 #[ptrV rb, .int .i64 o, keyV k.1 k.2] w fun e w' => Below w.heap.size w w' ∧ e = .returned (tellV none) := by
  have hBy := fun (y : World) (hy : Below w.heap.size w y) => c_Rplace (w := y) (fun r hr => hN r (Nat.le_trans hy.size hr)) (h.below hN hy) hR o k hk
  rw [hp] at hBy
  unfold keyV tellV placeV at *
  dsimp only [Option.getD, Option.isSome] at *
  obtain ⟨k0, kn⟩ := k
  dsimp only at *
  obtain ⟨W2, hW2⟩ : ∃ W2, (w.alloc (.cells #[.string k0, .int .i64 kn] 32)).alloc (.cells (encP zeroPV).toArray 37) = W2 := ⟨_, rfl⟩
  have hb2 : Below w.heap.size w W2 := by rw [← hW2]; exact ((Below.refl _ w).alloc (Nat.le_refl _) _).alloc (by simp) _
  have z0 : W2.heap[w.heap.size + 1]? = some (.cells (encP zeroPV).toArray 37 (0, 0)) := by rw [← hW2]; exact heap_alloc2_new w _ _
  have d0 : W2.heap[w.heap.size]? = some (.cells #[.string k0, .int .i64 kn] 32 (0, 0)) := by rw [← hW2, Below.heap_alloc _ _ _ (by simp)]; exact heap_alloc_new w _
  have kc0 : W2.cell? ⟨w.heap.size, 0, none⟩ = some (.string k0) := by rw [cell_of_row _ _ 0 _ _ _ d0]; rfl
  have kc1 : W2.cell? ⟨w.heap.size, 1, none⟩ = some (.int .i64 kn) := by rw [cell_of_row _ _ 1 _ _ _ d0]; rfl
  have hi13 : (Try.prog.info? 37).map (·.size) = some (encP zeroPV).toArray.size := infoProp
  have ho13 := all_oneCell_toArray (encP_one zeroPV)
  have hBy2 := Lib.hid (hBy W2 hb2)
  unfold ptrV propV at *
  replace hb2 := Lib.hid hb2
  replace z0 := Lib.hid z0
  replace d0 := Lib.hid d0
  simp only [encP, zeroPV, zeroVV] at hW2
  clear h hN hBy hp hk
  go_enter Try.func13, Try.ntmps13
  go_wp2_with (first | (go_at_call 44; refine hBy2.out.mono ?_; rintro e y2 ⟨rfl, hb5⟩; have hth := there_of (n := 13) (o := 0) ((hb5.block _ (heapH_lt z0.out)).trans z0.out) (by simp [encP]); clear kc0 kc1; replace hb5 := Lib.hid hb5) | (refine wpList_store_mid (by rfl) 37 _ _ (by rfl) (w.heap.size + 1) 0 (encP zeroPV).toArray (by rfl) (by rfl) hth hi13 ho13 ?_))
  have z2 : y2.heap[w.heap.size + 1]? = some (.cells (encP zeroPV).toArray 37 (0, 0)) := (hb5.out.block _ (heapH_lt z0.out)).trans z0.out
  have hz := heap_setCells_all (t := 37) (vs := encP zeroPV) z2 rfl
  refine bodyPost_ret (results_cell_tmp_row rfl _ _ (w.heap.size + 1) 37 (encP zeroPV).toArray (0, 0) _ rfl rfl hz infoProp) rfl ?_
  exact ⟨below_setC (hb2.out.trans (hb5.out.mono hb2.out.size)) (by omega) _ _, rfl⟩
theorem c_ROwnT {w : World} {f : Nat → Nat} {rb : Nat} {lim : Int} {R : List OB} (hN : Norm f w) (h : RefO w f rb lim R) (hR : ∀ a ∈ R, a.l.length ≤ 100000) (o : Nat) (a : OB) (h0 : 0 < o) (ho : R[o - 1]? = some a) (k : KK) (hk : okK k) (i : Nat) (hi : idx (gk a.l) (pk k) = some i) :
    Calls Try.prog 13 #[ptrV rb, .int .i64 (o : Int), keyV k.1 k.2] w fun e w' => Below w.heap.size w w' ∧ e = .returned (tellV (getL a.l (pk k))) := by
  have hBy := fun (y : World) (hy : Below w.heap.size w y) => c_Rplace1 (w := y) (fun r hr => hN r (Nat.le_trans hy.size hr)) (h.below hN hy) o a h0 ho (hR a (List.mem_of_getElem? ho)) k hk
  rw [hi] at hBy
  obtain ⟨g, c, sv, ⟨_, c1⟩, ⟨l1, l2, _⟩, _, hs, ⟨p1, p2⟩, ⟨_, _, _, d3⟩, _, _⟩ := h.upd h0 ho
  obtain ⟨r, r1, r2, r3⟩ := hs
  have hil : i < r.length := by have := idx_lt hi; rw [← r2] at this; simpa [gk] using this
  obtain ⟨x, hx⟩ : ∃ x, r[i]? = some x := ⟨_, List.getElem?_eq_getElem hil⟩
  have hget : getL a.l (pk k) = some x.2 := by
    have h1 : a.l[i]? = some (pk x.1, x.2) := by rw [← r2]; simp [hx]
    unfold getL
    rw [hi]
    simp [h1]
  rw [hget]
  obtain ⟨g2, cp, rfl, _, lg2⟩ := r1.1.form (by omega)
  have hrg : w.rangeAt g2 (i * 15 + 2) (encP x.2) := fun j v hv => by
    have := rangeL r1.1 hx (2 + j) v (by simpa [encL, List.getElem?_cons, Nat.add_comm] using hv)
    rwa [← Nat.add_assoc] at this
  obtain ⟨x1, P⟩ := x
  dsimp only at *
  unfold keyV tellV placeV at *
  dsimp only [Option.getD, Option.isSome] at *
  obtain ⟨k0, kn⟩ := k
  dsimp only at *
  obtain ⟨W2, hW2⟩ : ∃ W2, (w.alloc (.cells #[.string k0, .int .i64 kn] 32)).alloc (.cells (encP zeroPV).toArray 37) = W2 := ⟨_, rfl⟩
  have hb2 : Below w.heap.size w W2 := by rw [← hW2]; exact ((Below.refl _ w).alloc (Nat.le_refl _) _).alloc (by simp) _
  have z0 : W2.heap[w.heap.size + 1]? = some (.cells (encP zeroPV).toArray 37 (0, 0)) := by rw [← hW2]; exact heap_alloc2_new w _ _
  have d0 : W2.heap[w.heap.size]? = some (.cells #[.string k0, .int .i64 kn] 32 (0, 0)) := by rw [← hW2, Below.heap_alloc _ _ _ (by simp)]; exact heap_alloc_new w _
  have kc0 : W2.cell? ⟨w.heap.size, 0, none⟩ = some (.string k0) := by rw [cell_of_row _ _ 0 _ _ _ d0]; rfl
  have kc1 : W2.cell? ⟨w.heap.size, 1, none⟩ = some (.int .i64 kn) := by rw [cell_of_row _ _ 1 _ _ _ d0]; rfl
  have hi13 : (Try.prog.info? 37).map (·.size) = some (encP P).length := infoProp
  have hj13 : (Try.prog.info? 37).map (·.size) = some (encP P).toArray.size := infoProp
  have ho13 := all_oneCell_toArray (encP_one P)
  have hBy2 := Lib.hid (hBy W2 hb2)
  have q1 : (0 : Int) ≤ (i : Int) := by omega
  have q2 : (i : Int) < (r.length : Int) := by omega
  have q3 : ¬ (i : Int) < 0 := by omega
  unfold ptrV propV at *
  replace hb2 := Lib.hid hb2
  replace z0 := Lib.hid z0
  replace d0 := Lib.hid d0
  replace hrg := Lib.hid hrg
  simp only [encP, zeroPV, zeroVV] at hW2
  have tokA : True := trivial
  clear h hN hBy hk hget hx r1 r2 r3 hi ho
  go_enter Try.func13, Try.ntmps13
  go_wp2_with (first | (go_at_call 44; refine hBy2.out.mono ?_; rintro e y2 ⟨rfl, hb5⟩; have hB5 := hb2.out.trans (hb5.mono hb2.out.size); have hth : y2.there (w.heap.size + 1) 0 (encP P).toArray.size := there_of (n := 13) (o := 0) ((hb5.block _ (heapH_lt z0.out)).trans z0.out) (by simp [encP]); clear kc0 kc1; rw [← hB5.cell (p := ⟨rb, 1, none⟩) l1] at c1; rw [← hB5.cell (p := ⟨g, o * 4 + 3, none⟩) l2] at d3; have hrg5 := range_at hrg.out (hB5.block g2 lg2); replace hb5 := Lib.hid hb5) | (clear tokA; refine wpList_load_mid rfl 37 (.tmp 26) rfl g2 (i * 15 + 2) rfl (encP P) _ hrg5 Try.underlying37 rfl hi13 ?_) | (refine wpList_store_mid (by rfl) 37 _ _ (by rfl) (w.heap.size + 1) 0 (encP P).toArray (by rfl) (by rfl) hth hj13 ho13 ?_))
  have z2 : y2.heap[w.heap.size + 1]? = some (.cells (encP zeroPV).toArray 37 (0, 0)) := (hb5.out.block _ (heapH_lt z0.out)).trans z0.out
  have hz := heap_setCells_all (t := 37) (vs := encP P) z2 rfl
  refine bodyPost_ret (results_cell_tmp_row rfl _ _ (w.heap.size + 1) 37 (encP P).toArray (0, 0) _ rfl rfl hz infoProp) rfl ?_
  exact ⟨below_setC (hb2.out.trans (hb5.out.mono hb2.out.size)) (by omega) _ _, rfl⟩
theorem c_ROwn {w : World} {f : Nat → Nat} {rb : Nat} {lim : Int} {R : List OB} (hN : Norm f w) (h : RefO w f rb lim R) (hR : ∀ a ∈ R, a.l.length ≤ 100000) (o : Int) (k : KK) (hk : okK k) :
    Calls Try.prog 13 #[ptrV rb, .int .i64 o, keyV k.1 k.2] w fun e w' => Below w.heap.size w w' ∧ e = .returned (tellV (ownH R o (pk k))) := by
  cases hp : placeH R o (pk k) with
  | none =>
    have : ownH R o (pk k) = none := by
      have := place_own R o (pk k)
      rw [hp] at this
      cases ho : ownH R o (pk k) with
      | none => rfl
      | some p => rw [ho] at this; cases this
    rw [this]
    exact c_ROwnN hN h hR o k hk hp
  | some i =>
    rcases objH_cases R o with ⟨h1, h2⟩ | ⟨n, a, rfl, h0, ha, h3, h4⟩
    · unfold placeH at hp; rw [h2] at hp; cases hp
    · have e1 : ownH R (n : Int) (pk k) = getL a.l (pk k) := by unfold ownH; rw [h3]; rfl
      have e2 : idx (gk a.l) (pk k) = some i := by unfold placeH at hp; rw [h3] at hp; exact hp
      rw [e1]
      exact c_ROwnT hN h hR n a h0 ha k hk i e2
end Go.Proofs.Ytoccmiinkfhohaa
