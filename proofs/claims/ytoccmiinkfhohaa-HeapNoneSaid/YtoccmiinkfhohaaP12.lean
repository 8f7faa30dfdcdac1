/-
  HeapNone: a heap that nobody made, none or one of noughts, has nothing; for every input, without a condition.
-/
import Derived.Test.YtoccmiinkfhohaaP11
import Derived.Test.YtoccmiinkfhohaaP4
import Derived.Test.YtoccmiinkfhohaaP1
import Derived.Test.YtoccmiinkfhohaaP8
import Derived.Test.YtoccmiinkfhohaaRows
import Derived.Deep.SlicePairs
import Derived.ProofKit
import Derived.OpenShut
import Derived.JoinedCond
import Derived.Carry
import Derived.Lib.SmallJoins
namespace Go.Proofs.Ytoccmiinkfhohaa
open Go.RowKit Go.Shelf Go.Lib Go.Sort Go.Proofs Go.Maps
set_option maxHeartbeats 4000000
set_option maxRecDepth 100000

theorem c_HDropN {w : World} {f : Nat → Nat} {hb B u : Nat} {lim : Int} {H : List OB} (hN : Norm f w) (h : HeapO w f hb lim u B H) (o : Int) (k : KK) (hk : okK k) (hj : (ownH H o (pk k)).isSome = false) :
    Calls Try.prog 28 #[ptrV hb, .int .i64 o, keyV k.1 k.2] w fun e w' => e = .returned (.bool false) ∧ Below w.heap.size w w' := by
  obtain ⟨W1, hW1⟩ : ∃ W1, w.alloc (.cells #[.string k.1, .int .i64 k.2] 32) = W1 := ⟨_, rfl⟩
  have hb1 : Below w.heap.size w W1 := by rw [← hW1]; exact (Below.refl _ w).alloc (Nat.le_refl _) _
  have hs1 : W1.heap.size = w.heap.size + 1 := by rw [← hW1]; simp
  have d0 : W1.heap[w.heap.size]? = some (.cells #[.string k.1, .int .i64 k.2] 32 (0, 0)) := by rw [← hW1]; exact heap_alloc_new w _
  have kc0 : W1.cell? ⟨w.heap.size, 0, none⟩ = some (.string k.1) := by rw [cell_of_row _ _ 0 _ _ _ d0]; rfl
  have kc1 : W1.cell? ⟨w.heap.size, 1, none⟩ = some (.int .i64 k.2) := by rw [cell_of_row _ _ 1 _ _ _ d0]; rfl
  have hOw := c_HOwn (fun r hr => hN r (Nat.le_trans hb1.size hr)) (h.below hN hb1) o k hk
  unfold tellV at hOw
  rw [hj] at hOw
  generalize (ownH H o (pk k)).getD zeroPV = P at *
  have hst := fun (y : World) (b : Nat) (hy : ZB y b) => hy.store P
  have hzb := zb_new
  obtain ⟨k0, kn⟩ := k
  unfold ptrV keyV propV at *
  dsimp only at *
  replace hOw := Lib.hid hOw
  replace hb1 := Lib.hid hb1
  replace hs1 := Lib.hid hs1
  replace d0 := Lib.hid d0
  clear hk hj hN h
  go_enter Try.func28, Try.ntmps28
  go_wp2_with (first | (go_at_call 20; refine hOw.out.mono ?_; rintro e w2 ⟨hb2, rfl⟩; have hz2 := hzb w2; clear kc0 kc1; replace hb2 := Lib.hid hb2))
  go_ret
  have hf6 := (fresh_set (w := w2) (o := (encP zeroPV).toArray) (t := 37) (vs := encP P) rfl).1
  have hB2 : Below w.heap.size w w2 := hb1.out.trans (hb2.out.mono hb1.out.size)
  exact ⟨rfl, hB2.trans (hf6.mono hB2.size)⟩
theorem set_same {H : List OB} {i : Nat} {a : OB} (h : H[i]? = some a) : H.set i a = H := by
  apply List.ext_getElem?
  intro j
  rw [List.getElem?_set]
  split
  · rename_i e; subst e; rw [h, if_pos (List.getElem?_eq_some_iff.1 h).1]
  · rfl
theorem usedH_upd (H : List OB) (o : Int) (g : OB → OB) (hg : ∀ a, (g a).l.length = a.l.length) : usedH (updH H o g) = usedH H := by
  rcases objH_cases H o with ⟨h1, h2⟩ | ⟨n, a, rfl, h0, ha, h3, h4⟩
  · unfold updH; rw [h2]
  · rw [updH_at h0 ha]
    have := usedH_set (a' := g a) ha
    rw [hg] at this
    omega
/-- what an object has -/
def listH (H : List OB) (o : Int) : List (KK × PV) := match objH H o with | some a => a.l | none => []
theorem own_list (H : List OB) (o : Int) (K : KK) : ownH H o K = getL (listH H o) K := by
  unfold ownH listH
  cases objH H o with
  | none => rfl
  | some a => rfl
theorem c_HDrop {w : World} {f : Nat → Nat} {hb B : Nat} {lim : Int} {H : List OB} (hN : Norm f w) (h : HeapO w f hb lim (usedH H) B H) (hB1 : 128 ≤ B) (hB : B ≤ 100000) (hu : usedH H ≤ 100000) (o : Int) (k : KK) (hk : okK k) :
    Calls Try.prog 28 #[ptrV hb, .int .i64 o, keyV k.1 k.2] w fun e w' => e = .returned (.bool (dropB H o (pk k))) ∧ HeapT w f hb lim (usedH (updH H o (dropA (pk k)))) B (updH H o (dropA (pk k))) w' := by
  unfold dropB
  cases hd : (ownH H o (pk k)).isSome with
  | false =>
    have e1 : updH H o (dropA (pk k)) = H := by
      rcases objH_cases H o with ⟨h1, h2⟩ | ⟨n, a, rfl, h0, ha, h3, h4⟩
      · unfold updH; rw [h2]
      · rw [updH_at h0 ha]
        rw [own_some h0 ha, getL_idx] at hd
        have : dropA (pk k) a = a := by
          unfold dropA
          cases hi : idx (gk a.l) (pk k) with
          | none => rfl
          | some j => rw [hi] at hd; cases hd
        rw [this, set_same ha]
    rw [e1]
    refine (c_HDropN hN h o k hk hd).mono ?_
    rintro e w' ⟨rfl, hb'⟩
    exact ⟨rfl, HeapT.same hN h hb'⟩
  | true =>
    rcases objH_cases H o with ⟨h1, h2⟩ | ⟨n, a, rfl, h0, ha, h3, h4⟩
    · unfold ownH at hd; rw [h2] at hd; cases hd
    · rw [own_some h0 ha, getL_idx] at hd
      obtain ⟨j, hj⟩ := Option.isSome_iff_exists.1 hd
      have hjl : j < a.l.length := by have := idx_lt hj; simpa [gk] using this
      have e1 : updH H (n : Int) (dropA (pk k)) = H.set (n - 1) { a with fast := false, l := a.l.eraseIdx j } := by
        rw [updH_at h0 ha]
        unfold dropA
        rw [hj]
      have e2 := usedH_set (a' := { a with fast := false, l := a.l.eraseIdx j }) ha
      dsimp only at e2
      rw [List.length_eraseIdx, if_pos hjl] at e2
      have e3 : usedH (updH H (n : Int) (dropA (pk k))) = usedH H - 1 := by rw [e1]; omega
      rw [e3, e1]
      refine (c_HDropT hN h hB1 hB n a h0 ha k hk j hj (by omega) (by omega)).mono ?_
      rintro e w' ⟨rfl, ht⟩
      exact ⟨rfl, ht⟩
theorem c_HSetProto {w : World} {f : Nat → Nat} {hb B : Nat} {lim : Int} {H : List OB} (hN : Norm f w) (h : HeapO w f hb lim (usedH H) B H) (o pro : Int) :
    Calls Try.prog 24 #[ptrV hb, .int .i64 o, .int .i64 pro] w fun e w' => e = .returned (.int .i64 (setE H o pro)) ∧ HeapT w f hb lim (usedH (setH H o pro)) B (setH H o pro) w' := by
  rcases objH_cases H o with ⟨h1, h2⟩ | ⟨n, a, rfl, h0, ha, h3, h4⟩
  · have e1 : setE H o pro = 151 := by unfold setE; rw [if_pos (.inl h1)]
    unfold setH
    rw [e1]
    refine (c_HSetProto0 h o pro h1).mono ?_
    rintro e w' ⟨rfl, rfl⟩
    exact ⟨rfl, HeapT.same hN h (Below.refl _ _)⟩
  · by_cases h5 : pro ≠ 0 ∧ hasH H pro = false
    · have e1 : setE H (n : Int) pro = 151 := by unfold setE; rw [if_pos (.inr h5)]
      unfold setH
      rw [e1]
      refine (c_HSetProtoN h n pro h4 h5.1 h5.2).mono ?_
      rintro e w' ⟨rfl, rfl⟩
      exact ⟨rfl, HeapT.same hN h (Below.refl _ _)⟩
    · have e1 : setE H (n : Int) pro = 0 := by
        unfold setE
        rw [if_neg]
        rintro (h | h)
        · rw [h4] at h; cases h
        · exact h5 h
      have hp : pro = 0 ∨ hasH H pro = true := by
        by_cases e : pro = 0
        · exact .inl e
        · exact .inr (by cases hh : hasH H pro; exact absurd ⟨e, hh⟩ h5; rfl)
      unfold setH
      rw [e1, if_pos rfl, usedH_upd H n (fun a => { a with pro := pro }) (fun _ => rfl), updH_at h0 ha]
      refine (c_HSetProto1 hN h n a h0 ha pro hp).mono ?_
      rintro e w' ⟨rfl, ht⟩
      exact ⟨rfl, ht⟩
theorem c_HShut {w : World} {f : Nat → Nat} {hb B : Nat} {lim : Int} {H : List OB} (hN : Norm f w) (h : HeapO w f hb lim (usedH H) B H) (o : Int) :
    Calls Try.prog 26 #[ptrV hb, .int .i64 o] w fun e w' => e = .returned (.int .i64 (hasE H o)) ∧ HeapT w f hb lim (usedH (updH H o (fun a => { a with shut := true }))) B (updH H o (fun a => { a with shut := true })) w' := by
  rw [usedH_upd H o (fun a => { a with shut := true }) (fun _ => rfl)]
  unfold hasE
  rcases objH_cases H o with ⟨h1, h2⟩ | ⟨n, a, rfl, h0, ha, h3, h4⟩
  · unfold updH
    rw [h1, h2]
    refine (c_HShut0 h o h1).mono ?_
    rintro e w' ⟨rfl, rfl⟩
    exact ⟨rfl, HeapT.same hN h (Below.refl _ _)⟩
  · rw [h4, updH_at h0 ha]
    refine (c_HShut1 hN h n a h0 ha).mono ?_
    rintro e w' ⟨rfl, ht⟩
    exact ⟨rfl, ht⟩
theorem c_HForce {w : World} {f : Nat → Nat} {hb B : Nat} {lim : Int} {H : List OB} (hN : Norm f w) (h : HeapO w f hb lim (usedH H) B H) (hB1 : 128 ≤ B) (o : Int) :
    Calls Try.prog 29 #[ptrV hb, .int .i64 o] w fun e w' => e = .returned (.int .i64 (hasE H o)) ∧ HeapT w f hb lim (usedH (updH H o (fun a => { a with fast := false }))) B (updH H o (fun a => { a with fast := false })) w' := by
  rw [usedH_upd H o (fun a => { a with fast := false }) (fun _ => rfl)]
  unfold hasE
  rcases objH_cases H o with ⟨h1, h2⟩ | ⟨n, a, rfl, h0, ha, h3, h4⟩
  · unfold updH
    rw [h1, h2]
    refine (c_HForce0 h o h1).mono ?_
    rintro e w' ⟨rfl, rfl⟩
    exact ⟨rfl, HeapT.same hN h (Below.refl _ _)⟩
  · rw [h4, updH_at h0 ha]
    obtain ⟨tb, L, rv, obs, hX⟩ := h
    refine (c_HForceA hN hX hB1 n a h0 ha).mono ?_
    rintro e w' ⟨rfl, ht⟩
    exact ⟨rfl, ht.t⟩
theorem c_HFast {w : World} {f : Nat → Nat} {hb B u : Nat} {lim : Int} {H : List OB} (h : HeapO w f hb lim u B H) (o : Int) :
    Calls Try.prog 15 #[ptrV hb, .int .i64 o] w fun e w' => e = .returned (.bool (match objH H o with | some a => a.fast | none => false)) ∧ w' = w := by
  rcases objH_cases H o with ⟨h1, h2⟩ | ⟨n, a, rfl, h0, ha, h3, h4⟩
  · rw [h2]; exact c_HFast0 h o h1
  · rw [h3]; exact c_HFast1 h n a h0 ha
theorem c_HProto {w : World} {f : Nat → Nat} {hb B u : Nat} {lim : Int} {H : List OB} (h : HeapO w f hb lim u B H) (o : Int) :
    Calls Try.prog 23 #[ptrV hb, .int .i64 o] w fun e w' => e = .returned (.int .i64 (match objH H o with | some a => a.pro | none => 0)) ∧ w' = w := by
  rcases objH_cases H o with ⟨h1, h2⟩ | ⟨n, a, rfl, h0, ha, h3, h4⟩
  · rw [h2]; exact c_HProto0 h o h1
  · rw [h3]; exact c_HProto1 h n a h0 ha
theorem c_HClass {w : World} {f : Nat → Nat} {hb B u : Nat} {lim : Int} {H : List OB} (h : HeapO w f hb lim u B H) (o : Int) :
    Calls Try.prog 22 #[ptrV hb, .int .i64 o] w fun e w' => e = .returned (.int .i64 (match objH H o with | some a => a.cls | none => 0)) ∧ w' = w := by
  rcases objH_cases H o with ⟨h1, h2⟩ | ⟨n, a, rfl, h0, ha, h3, h4⟩
  · rw [h2]; exact c_HClass0 h o h1
  · rw [h3]; exact c_HClass1 h n a h0 ha
theorem c_HOpen {w : World} {f : Nat → Nat} {hb B u : Nat} {lim : Int} {H : List OB} (h : HeapO w f hb lim u B H) (o : Int) :
    Calls Try.prog 25 #[ptrV hb, .int .i64 o] w fun e w' => e = .returned (.bool (match objH H o with | some a => !a.shut | none => false)) ∧ w' = w := by
  rcases objH_cases H o with ⟨h1, h2⟩ | ⟨n, a, rfl, h0, ha, h3, h4⟩
  · rw [h2]; exact c_HOpen0 h o h1
  · rw [h3]; exact c_HOpen1 h n a h0 ha
theorem KeysOf.nil : KeysOf [] [] := ⟨[], rfl, by unfold Srt; simp, fun _ => rfl, fun _ h => by cases h⟩
theorem c_HKeys {w : World} {f : Nat → Nat} {hb B u : Nat} {lim : Int} {H : List OB} (hN : Norm f w) (h : HeapO w f hb lim u B H) (hB1 : 128 ≤ B) (hB : B ≤ 100000) (o : Int) :
    Calls Try.prog 17 #[ptrV hb, .int .i64 o] w fun e w' => ∃ v Z, e = .returned v ∧ RdK w' v Z ∧ KeysOf (gk (listH H o)) Z ∧ Below w.heap.size w w' := by
  unfold listH
  rcases objH_cases H o with ⟨h1, h2⟩ | ⟨n, a, rfl, h0, ha, h3, h4⟩
  · rw [h2]
    refine (c_HKeys0 h o h1).mono ?_
    rintro e w' ⟨rfl, rfl⟩
    exact ⟨_, [], rfl, .inl ⟨rfl, rfl⟩, KeysOf.nil, Below.refl _ _⟩
  · rw [h3]
    exact c_HKeys1 hN h hB1 hB n a h0 ha
end Go.Proofs.Ytoccmiinkfhohaa
namespace Go.Proofs.Ytoccmiinkfhohaa
open Go.RowKit Go.Shelf Go.Lib Go.Sort Go.Proofs Go.Maps
set_option maxHeartbeats 2000000
set_option maxRecDepth 100000

/-- a text of few letters -/
def xs (l : List UInt8) : ByteArray := ⟨l.toArray⟩
def tx (l : List UInt8) : ByteArray := textU (codes (xs l))
theorem asc {l : List UInt8} (h : (l.all fun u => decide (u.toNat < 128)) = true) : ∀ u ∈ codes (xs l), u < 128 := by
  intro u hu
  simp [codes, xs] at hu
  obtain ⟨b, hb, rfl⟩ := hu
  simpa using List.all_eq_true.1 h b hb
theorem c_name {l : List UInt8} (h : (l.all fun u => decide (u.toNat < 128)) = true) (hl : l.length ≤ 1000) (w : World) :
    Calls Try.prog 42 #[.string (xs l)] w fun e w' => e = .returned (keyV (tx l) 0) ∧ Below w.heap.size w w' :=
  c_Name4 (xs l) (by show l.length ≤ _; omega) (asc h) w
def kb : KK := (tx [98], 0)
def k2 : KK := (tx [50], 0)
def p7 : PV := ⟨zeroVV, zeroVV, zeroVV, 7⟩
def aw1 : List OB := makeH true [] 100 0 0
def aw2 : List OB := putH aw1 100 1 (pk kb) p7
def aw3 : List OB := putH aw2 100 1 (pk k2) p7
def aw4 : List OB := updH aw3 1 (dropA (pk kb))
theorem kb_ok : okK kb := by unfold okK; exact ⟨by decide +kernel, by decide +kernel⟩
theorem k2_ok : okK k2 := by unfold okK; exact ⟨by decide +kernel, by decide +kernel⟩
theorem aw_E1 : putE aw1 100 1 (pk kb) p7 = 0 := by decide +kernel
theorem aw_E2 : putE aw2 100 1 (pk k2) p7 = 0 := by decide +kernel
theorem aw_B : dropB aw3 1 (pk kb) = true := by decide +kernel
theorem aw_gk : gk (listH aw3 1) = [pk kb, pk k2] := by decide +kernel
theorem aw_f3 : (objH aw3 1).map OB.fast = some true := by decide +kernel
theorem aw_f4 : (objH aw4 1).map OB.fast = some false := by decide +kernel
theorem aw_u1 : usedH aw1 = 1 := by decide +kernel
theorem aw_u2 : usedH aw2 = 2 := by decide +kernel
theorem aw_u3 : usedH aw3 = 3 := by decide +kernel
theorem rkb : rk kb = 4294967296 := by decide +kernel
theorem rk2 : rk k2 = 2 := by decide +kernel
theorem aw_same : sameK k2.1 k2.1 k2.2 k2.2 = true := by decide +kernel
theorem aw_keysOf : KeysOf [pk kb, pk k2] [k2, kb] := by
  refine ⟨[kb, k2], rfl, ?_, ?_, ?_⟩
  · simp [Srt, rkb, rk2]
  · intro r
    simp only [cls, List.filter_cons, List.filter_nil, rkb, rk2, beq_iff_eq]
    by_cases h1 : 2 = r
    · subst h1; simp
    · simp [h1]
  · intro x hx
    simp at hx
    rcases hx with rfl | rfl
    · exact k2_ok
    · exact kb_ok
/-- the heap of the example; below w0 nothing turns -/
def AwH (w0 : World) (hb u B : Nat) (H : List OB) (w : World) : Prop := ∃ f, Norm f w ∧ HeapO w f hb 100 u B H ∧ Below w0.heap.size w0 w ∧ ∀ r, r < w0.heap.size → f r = 0
theorem AwH.keep {w0 w w' : World} {hb u B : Nat} {H : List OB} (h : AwH w0 hb u B H w) (hb' : Below w.heap.size w w') : AwH w0 hb u B H w' := by
  obtain ⟨f, h1, h2, h3, h4⟩ := h
  exact ⟨f, fun r hr => h1 r (Nat.le_trans hb'.size hr), h2.below h1 hb', h3.trans (hb'.mono h3.size), h4⟩
theorem AwH.step {w0 w w' : World} {hb u' B' : Nat} {H' : List OB} {f : Nat → Nat} (h3 : Below w0.heap.size w0 w) (h4 : ∀ r, r < w0.heap.size → f r = 0) (ht : HeapT w f hb 100 u' B' H' w') : AwH w0 hb u' B' H' w' := by
  obtain ⟨f', t1, t2⟩ := ht
  refine ⟨f', t1.norm, t2, h3.trans (t1.below h3.size fun r hr h => h.2 (h4 r hr)), fun r hr => ?_⟩
  rw [t1.agree r (Nat.lt_of_lt_of_le hr h3.size)]
  exact h4 r hr
theorem aw_new (w : World) : Calls Try.prog 10 #[.int .i64 100] w fun e w' => ∃ hb, e = .returned (.pointer (some ⟨hb, 0, none⟩)) ∧ AwH w hb 0 128 [] w' := by
  refine (c_Hnew (f := fun _ => 0) (fun _ _ => rfl) 100).mono ?_
  rintro e w' ⟨hb, f', rfl, t1, t2⟩
  exact ⟨hb, rfl, f', t1.norm, t2, t1.below (Nat.le_refl _) (fun _ _ h => h), fun r hr => t1.agree r hr⟩
theorem aw_make {w0 w : World} {hb : Nat} (h : AwH w0 hb 0 128 [] w) : Calls Try.prog 19 #[.pointer (some ⟨hb, 0, none⟩), .int .i64 0, .int .i64 0] w fun e w' => e = .returned (.tuple #[.int .i64 1, .int .i64 0]) ∧ AwH w0 hb 1 128 aw1 w' := by
  obtain ⟨f, h1, h2, h3, h4⟩ := h
  refine (c_HMake (H := []) h1 h2 (by decide) 0 0).mono ?_
  rintro e w' ⟨rfl, ht⟩
  exact ⟨rfl, AwH.step h3 h4 ht⟩
theorem aw_put1 {w0 w : World} {hb : Nat} (h : AwH w0 hb 1 128 aw1 w) : Calls Try.prog 27 #[.pointer (some ⟨hb, 0, none⟩), .int .i64 1, .agg #[.string (tx [98]), .int .i64 0], propV p7] w fun e w' => e = .returned (.int .i64 0) ∧ AwH w0 hb 2 130 aw2 w' := by
  obtain ⟨f, h1, h2, h3, h4⟩ := h
  rw [← aw_u1] at h2
  have h := c_HPut h1 h2 (by decide) (by decide) (by rw [aw_u1]; decide) 1 kb kb_ok p7
  rw [aw_E1] at h
  refine h.mono ?_
  rintro e w' ⟨rfl, ht⟩
  have ht' : HeapT w f hb 100 (usedH aw2) 130 aw2 w' := ht
  rw [aw_u2] at ht'
  exact ⟨rfl, AwH.step h3 h4 ht'⟩
theorem aw_put2 {w0 w : World} {hb : Nat} (h : AwH w0 hb 2 130 aw2 w) : Calls Try.prog 27 #[.pointer (some ⟨hb, 0, none⟩), .int .i64 1, .agg #[.string (tx [50]), .int .i64 0], propV p7] w fun e w' => e = .returned (.int .i64 0) ∧ AwH w0 hb 3 132 aw3 w' := by
  obtain ⟨f, h1, h2, h3, h4⟩ := h
  rw [← aw_u2] at h2
  have h := c_HPut h1 h2 (by decide) (by decide) (by rw [aw_u2]; decide) 1 k2 k2_ok p7
  rw [aw_E2] at h
  refine h.mono ?_
  rintro e w' ⟨rfl, ht⟩
  have ht' : HeapT w f hb 100 (usedH aw3) 132 aw3 w' := ht
  rw [aw_u3] at ht'
  exact ⟨rfl, AwH.step h3 h4 ht'⟩
theorem aw_keys {w0 w : World} {hb : Nat} (h : AwH w0 hb 3 132 aw3 w) : Calls Try.prog 17 #[.pointer (some ⟨hb, 0, none⟩), .int .i64 1] w fun e w' => ∃ (b o c : Nat) (x : KK), e = .returned (.slice (some ⟨b, o, none⟩) 2 c) ∧ (∀ y, Below w'.heap.size w' y → y.cell? ⟨b, o, none⟩ = some (.string x.1) ∧ y.cell? ⟨b, o + 1, none⟩ = some (.int .i64 x.2)) ∧ x.1.size ≤ 1099511627776 ∧ sameK x.1 (tx [50]) x.2 0 = true ∧ AwH w0 hb 3 132 aw3 w' := by
  have hA := h
  obtain ⟨f, h1, h2, h3, h4⟩ := h
  have h := c_HKeys h1 h2 (by decide) (by decide) 1
  rw [aw_gk] at h
  refine h.mono ?_
  rintro e w' ⟨v, Z, rfl, hr, hk, hb'⟩
  have e1 := hk.alike aw_keysOf
  obtain ⟨_, _, _, _, hok⟩ := hk
  obtain ⟨x, z, rfl⟩ : ∃ x z, Z = [x, z] := by
    have h2 := congrArg List.length e1
    simp at h2
    match Z, h2 with
    | [x, z], _ => exact ⟨x, z, rfl⟩
  · obtain ⟨p, c, rfl, _, hc, hcell⟩ := hr.form
    obtain ⟨b, o, rfl, _, hy⟩ := hcell 0 x rfl
    refine ⟨b, o, c, x, rfl, fun y hy' => by simpa using hy y hy', (hok x (by simp)).1, ?_, hA.keep hb'⟩
    have e2 : pk x = pk k2 := by injection e1
    have e3 : sameK x.1 k2.1 x.2 k2.2 = true := by rw [sameK_pk x k2, e2]; exact decide_eq_true rfl
    exact e3
theorem aw_used {w0 w : World} {hb u B : Nat} {H : List OB} (h : AwH w0 hb u B H w) : Calls Try.prog 18 #[.pointer (some ⟨hb, 0, none⟩)] w fun e w' => e = .returned (.int .i64 (u : Int)) ∧ w' = w := by
  obtain ⟨f, h1, h2, h3, h4⟩ := h
  exact c_HUsed h2
theorem aw_fast3 {w0 w : World} {hb : Nat} (h : AwH w0 hb 3 132 aw3 w) : Calls Try.prog 15 #[.pointer (some ⟨hb, 0, none⟩), .int .i64 1] w fun e w' => e = .returned (.bool true) ∧ w' = w := by
  obtain ⟨f, h1, h2, h3, h4⟩ := h
  obtain ⟨a, ha, hf⟩ := Option.map_eq_some_iff.1 aw_f3
  have h := c_HFast h2 1
  rw [ha] at h
  dsimp only at h
  rw [hf] at h
  exact h
theorem aw_fast4 {w0 w : World} {hb u : Nat} (h : AwH w0 hb u 132 aw4 w) : Calls Try.prog 15 #[.pointer (some ⟨hb, 0, none⟩), .int .i64 1] w fun e w' => e = .returned (.bool false) ∧ w' = w := by
  obtain ⟨f, h1, h2, h3, h4⟩ := h
  obtain ⟨a, ha, hf⟩ := Option.map_eq_some_iff.1 aw_f4
  have h := c_HFast h2 1
  rw [ha] at h
  dsimp only at h
  rw [hf] at h
  exact h
theorem aw_drop {w0 w : World} {hb : Nat} (h : AwH w0 hb 3 132 aw3 w) : Calls Try.prog 28 #[.pointer (some ⟨hb, 0, none⟩), .int .i64 1, .agg #[.string (tx [98]), .int .i64 0]] w fun e w' => e = .returned (.bool true) ∧ AwH w0 hb (usedH aw4) 132 aw4 w' := by
  obtain ⟨f, h1, h2, h3, h4⟩ := h
  rw [← aw_u3] at h2
  have h := c_HDrop h1 h2 (by decide) (by decide) (by rw [aw_u3]; decide) 1 kb kb_ok
  rw [aw_B] at h
  refine h.mono ?_
  rintro e w' ⟨rfl, ht⟩
  exact ⟨rfl, AwH.step h3 h4 ht⟩
theorem c_awake15 (w : World) : Calls Try.prog 8 #[] w fun e w' => e = .returned (.bool true) ∧ Below w.heap.size w w' := by
  have hNb : ∀ y : World, RowKit.Hid (Calls Try.prog 42 #[.string ⟨#[98]⟩] y fun e w' => e = .returned (.agg #[.string (tx [98]), .int .i64 0]) ∧ Below y.heap.size y w') := fun y => Lib.hid (c_name (l := [98]) rfl (by decide) y)
  have hN2 : ∀ y : World, RowKit.Hid (Calls Try.prog 42 #[.string ⟨#[50]⟩] y fun e w' => e = .returned (.agg #[.string (tx [50]), .int .i64 0]) ∧ Below y.heap.size y w') := fun y => Lib.hid (c_name (l := [50]) rfl (by decide) y)
  have hP1 := fun (y : World) (hb : Nat) (h : AwH w hb 1 128 aw1 y) => Lib.hid (aw_put1 h)
  have hP2 := fun (y : World) (hb : Nat) (h : AwH w hb 2 130 aw2 y) => Lib.hid (aw_put2 h)
  unfold propV encP p7 zeroVV at hP1 hP2
  dsimp only at hP1 hP2
  go_enter Try.func8, Try.ntmps8
  go_wp2_with (first | (go_at_call 10; refine (aw_new _).mono ?_; rintro e w1 ⟨hb, rfl, hA1⟩) | (go_at_call 19; refine (aw_make hA1).mono ?_; rintro e w2 ⟨rfl, hA2⟩) | (go_at_call 42; with_reducible refine (hNb _).out.mono ?_; rintro e w3 ⟨rfl, hq⟩; have hA3 := AwH.keep (by assumption) hq; clear hq) | (go_at_call 27; with_reducible refine (hP1 _ _ (by assumption)).out.mono ?_; rintro e w4 ⟨rfl, hA4⟩) | (go_at_call 42; with_reducible refine (hN2 _).out.mono ?_; rintro e w5 ⟨rfl, hq⟩; have hA5 := AwH.keep (by assumption) hq; clear hq) | (go_at_call 27; with_reducible refine (hP2 _ _ (by assumption)).out.mono ?_; rintro e w6 ⟨rfl, hA6⟩) | (go_at_call 17; refine (aw_keys (by assumption)).mono ?_; rintro e w7 ⟨b, o, c, x, rfl, hl, hx, hs, hA7⟩))
  have hS := fun y => Lib.hid (c_Same4 x.1 (tx [50]) x.2 0 hx (by decide +kernel) y)
  rw [hs] at hS
  unfold keyV at hS
  have hA8 := hA7.keep (Below.refl _ w7).drew
  have hlt : b < w7.heap.size := cell_lt (hl w7 (Below.refl _ _)).1
  obtain ⟨c0, c1⟩ := hl w7.drew (Below.refl _ _).drew
  replace hl := Lib.hid hl
  clear hP1 hP2 hNb hA1 hA2 hA3 hA4 hA5 hA6 hA7 hx hs
  have hNb : ∀ y : World, RowKit.Hid (Calls Try.prog 42 #[.string ⟨#[98]⟩] y fun e w' => e = .returned (.agg #[.string (tx [98]), .int .i64 0]) ∧ Below y.heap.size y w') := fun y => Lib.hid (c_name (l := [98]) rfl (by decide) y)
  go_region_law (first | (go_simp; go_at_call 42; with_reducible refine (hN2 _).out.mono ?_; rintro e y1 ⟨rfl, hq⟩; have hA9 := AwH.keep (by assumption) hq; obtain ⟨c2, c3⟩ := hl.out y1 ((Below.refl _ w7).drew.trans (hq.mono (Nat.le_refl _))); clear hq) | (go_simp; go_at_call 40; with_reducible refine (hS _).out.mono ?_; rintro e y2 ⟨rfl, hq⟩; have hA10 := AwH.keep (by assumption) hq; clear hq) | (go_simp; go_at_call 18; refine (aw_used (by assumption)).mono ?_; rintro e y3 ⟨rfl, rfl⟩) | (go_simp; go_at_call 15; refine (aw_fast3 (by assumption)).mono ?_; rintro e y4 ⟨rfl, rfl⟩) | (go_simp; go_at_call 42; with_reducible refine (hNb _).out.mono ?_; rintro e y5 ⟨rfl, hq⟩; have hA11 := AwH.keep (by assumption) hq; clear hq) | (go_simp; go_at_call 28; refine (aw_drop (by assumption)).mono ?_; rintro e y6 ⟨rfl, hA12⟩) | (go_simp; go_at_call 15; refine (aw_fast4 (by assumption)).mono ?_; rintro e y7 ⟨rfl, rfl⟩))
  all_goals
    obtain ⟨_, _, _, hB, _⟩ := hA12
    go_wp2
    go_ret
    exact ⟨rfl, hB⟩
end Go.Proofs.Ytoccmiinkfhohaa
namespace Go.Proofs.Ytoccmiinkfhohaa
open Go.RowKit Go.Shelf Go.Lib Go.Sort Go.Proofs Go.Maps
set_option maxHeartbeats 2000000
set_option maxRecDepth 100000

/-- a heap that nobody made: none, or one of noughts -/
def NoH (w : World) (hv : Value) : Prop := hv = .pointer none ∨ ∃ b, hv = .pointer (some ⟨b, 0, none⟩) ∧ b < w.heap.size ∧ w.cell? ⟨b, 0, none⟩ = some (.int .i64 0)
theorem NoH.below {w w' : World} {hv : Value} (h : NoH w hv) (hb : Below w.heap.size w w') : NoH w' hv := by
  rcases h with h | ⟨b, h1, h2, h3⟩
  · exact .inl h
  · exact .inr ⟨b, h1, Nat.lt_of_lt_of_le h2 hb.size, (hb.cell (p := ⟨b, 0, none⟩) h2).trans h3⟩
theorem n_Has {w : World} {hv : Value} (h : NoH w hv) (o : Int) : Calls Try.prog 21 #[hv, .int .i64 o] w fun e w' => e = .returned (.bool false) ∧ w' = w := by
  rcases h with rfl | ⟨b, rfl, h2, c0⟩
  · go_enter Try.func21, Try.ntmps21
    go_wp2
    go_ret
    exact ⟨rfl, rfl⟩
  · go_enter Try.func21, Try.ntmps21
    go_wp2
    go_ret
    exact ⟨rfl, rfl⟩
theorem n_Make {w : World} {hv : Value} (h : NoH w hv) (c p : Int) : Calls Try.prog 19 #[hv, .int .i64 c, .int .i64 p] w fun e w' => e = .returned (.tuple #[.int .i64 0, .int .i64 151]) ∧ w' = w := by
  rcases h with rfl | ⟨b, rfl, h2, c0⟩
  · go_enter Try.func19, Try.ntmps19
    go_wp2
    go_ret2
    exact ⟨rfl, rfl⟩
  · go_enter Try.func19, Try.ntmps19
    go_wp2
    go_ret2
    exact ⟨rfl, rfl⟩
theorem n_Used {w : World} {hv : Value} (h : NoH w hv) : Calls Try.prog 18 #[hv] w fun e w' => e = .returned (.int .i64 0) ∧ w' = w := by
  rcases h with rfl | ⟨b, rfl, h2, c0⟩
  · go_enter Try.func18, Try.ntmps18
    go_wp2
    go_ret
    exact ⟨rfl, rfl⟩
  · go_enter Try.func18, Try.ntmps18
    go_wp2
    go_ret
    exact ⟨rfl, rfl⟩
theorem n_Len {w : World} {hv : Value} (h : NoH w hv) : Calls Try.prog 16 #[hv] w fun e w' => e = .returned (.int .i64 0) ∧ w' = w := by
  rcases h with rfl | ⟨b, rfl, h2, c0⟩
  · go_enter Try.func16, Try.ntmps16
    go_wp2
    go_ret
    exact ⟨rfl, rfl⟩
  · go_enter Try.func16, Try.ntmps16
    go_wp2
    go_ret
    exact ⟨rfl, rfl⟩
theorem n_Class {w : World} {hv : Value} (h : NoH w hv) (o : Int) : Calls Try.prog 22 #[hv, .int .i64 o] w fun e w' => e = .returned (.int .i64 0) ∧ w' = w := by
  have hH := n_Has h o
  replace hH := Lib.hid hH
  clear h
  go_enter Try.func22, Try.ntmps22
  go_wp2_with (go_at_call 21; refine hH.out.mono ?_; rintro e w1 ⟨rfl, rfl⟩)
  go_ret
  exact ⟨rfl, rfl⟩
theorem n_Proto {w : World} {hv : Value} (h : NoH w hv) (o : Int) : Calls Try.prog 23 #[hv, .int .i64 o] w fun e w' => e = .returned (.int .i64 0) ∧ w' = w := by
  have hH := n_Has h o
  replace hH := Lib.hid hH
  clear h
  go_enter Try.func23, Try.ntmps23
  go_wp2_with (go_at_call 21; refine hH.out.mono ?_; rintro e w1 ⟨rfl, rfl⟩)
  go_ret
  exact ⟨rfl, rfl⟩
theorem n_SetProto {w : World} {hv : Value} (h : NoH w hv) (o : Int) (p : Int) : Calls Try.prog 24 #[hv, .int .i64 o, .int .i64 p] w fun e w' => e = .returned (.int .i64 151) ∧ w' = w := by
  have hH := n_Has h o
  replace hH := Lib.hid hH
  clear h
  go_enter Try.func24, Try.ntmps24
  go_wp2_with (go_at_call 21; refine hH.out.mono ?_; rintro e w1 ⟨rfl, rfl⟩)
  go_ret
  exact ⟨rfl, rfl⟩
theorem n_Open {w : World} {hv : Value} (h : NoH w hv) (o : Int) : Calls Try.prog 25 #[hv, .int .i64 o] w fun e w' => e = .returned (.bool false) ∧ w' = w := by
  have hH := n_Has h o
  replace hH := Lib.hid hH
  clear h
  go_enter Try.func25, Try.ntmps25
  go_wp2_with (go_at_call 21; refine hH.out.mono ?_; rintro e w1 ⟨rfl, rfl⟩)
  go_ret
  exact ⟨rfl, rfl⟩
theorem n_Shut {w : World} {hv : Value} (h : NoH w hv) (o : Int) : Calls Try.prog 26 #[hv, .int .i64 o] w fun e w' => e = .returned (.int .i64 151) ∧ w' = w := by
  have hH := n_Has h o
  replace hH := Lib.hid hH
  clear h
  go_enter Try.func26, Try.ntmps26
  go_wp2_with (go_at_call 21; refine hH.out.mono ?_; rintro e w1 ⟨rfl, rfl⟩)
  go_ret
  exact ⟨rfl, rfl⟩
theorem n_Keys {w : World} {hv : Value} (h : NoH w hv) (o : Int) : Calls Try.prog 17 #[hv, .int .i64 o] w fun e w' => e = .returned (.slice none 0 0) ∧ w' = w := by
  have hH := n_Has h o
  replace hH := Lib.hid hH
  clear h
  go_enter Try.func17, Try.ntmps17
  go_wp2_with (go_at_call 21; refine hH.out.mono ?_; rintro e w1 ⟨rfl, rfl⟩)
  go_ret
  exact ⟨rfl, rfl⟩
theorem n_Force {w : World} {hv : Value} (h : NoH w hv) (o : Int) : Calls Try.prog 29 #[hv, .int .i64 o] w fun e w' => e = .returned (.int .i64 151) ∧ w' = w := by
  have hH := n_Has h o
  replace hH := Lib.hid hH
  clear h
  go_enter Try.func29, Try.ntmps29
  go_wp2_with (go_at_call 21; refine hH.out.mono ?_; rintro e w1 ⟨rfl, rfl⟩)
  go_ret
  exact ⟨rfl, rfl⟩
theorem n_Fast {w : World} {hv : Value} (h : NoH w hv) (o : Int) : Calls Try.prog 15 #[hv, .int .i64 o] w fun e w' => e = .returned (.bool false) ∧ w' = w := by
  have hH := n_Has h o
  replace hH := Lib.hid hH
  clear h
  go_enter Try.func15, Try.ntmps15
  go_wp2_with (go_at_call 21; refine hH.out.mono ?_; rintro e w1 ⟨rfl, rfl⟩)
  go_ret
  exact ⟨rfl, rfl⟩
theorem n_Put {w : World} {hv : Value} (h : NoH w hv) (o : Int) (k : KK) (p : PV) :
    Calls Try.prog 27 #[hv, .int .i64 o, keyV k.1 k.2, propV p] w fun e w' => e = .returned (.int .i64 151) ∧ Below w.heap.size w w' := by
  obtain ⟨W2, hW2⟩ : ∃ W2, (w.alloc (.cells #[.string k.1, .int .i64 k.2] 32)).alloc (.cells (encP p).toArray 37) = W2 := ⟨_, rfl⟩
  have hb2 : Below w.heap.size w W2 := by rw [← hW2]; exact ((Below.refl _ w).alloc (Nat.le_refl _) _).alloc (by simp) _
  have hH := n_Has (h.below hb2) o
  unfold keyV propV at *
  obtain ⟨k0, kn⟩ := k
  dsimp only at *
  replace hH := Lib.hid hH
  replace hb2 := Lib.hid hb2
  clear h
  go_enter Try.func27, Try.ntmps27
  go_wp2_with (first | (go_at_call 21; refine hH.out.mono ?_; rintro e w1 ⟨rfl, e1⟩; cases e1))
  go_ret
  exact ⟨rfl, hb2.out⟩
theorem n_By {w : World} {hv : Value} (h : NoH w hv) (cv : Value) (o : Int) (k : KK) :
    Calls Try.prog 51 #[hv, cv, .int .i64 o, keyV k.1 k.2] w fun e w' => Below w.heap.size w w' ∧ e = .returned (tellV none) := by
  unfold keyV tellV
  obtain ⟨k0, kn⟩ := k
  dsimp only [Option.getD, Option.isSome]
  obtain ⟨W2, hW2⟩ : ∃ W2, (w.alloc (.cells #[.string k0, .int .i64 kn] 32)).alloc (.cells (encP zeroPV).toArray 37) = W2 := ⟨_, rfl⟩
  have hb2 : Below w.heap.size w W2 := by rw [← hW2]; exact ((Below.refl _ w).alloc (Nat.le_refl _) _).alloc (by simp) _
  have z0 : W2.heap[w.heap.size + 1]? = some (.cells (encP zeroPV).toArray 37 (0, 0)) := by rw [← hW2]; exact heap_alloc2_new w _ _
  have hH := n_Has (h.below hb2) o
  have hth := there_of (n := 13) (o := 0) z0 (by simp [encP])
  have hi13 : (Try.prog.info? 37).map (·.size) = some (encP zeroPV).toArray.size := infoProp
  have ho13 := all_oneCell_toArray (encP_one zeroPV)
  replace hH := Lib.hid hH
  replace hb2 := Lib.hid hb2
  replace z0 := Lib.hid z0
  simp only [encP, zeroPV, zeroVV] at hW2
  clear h
  go_enter Try.func51, Try.ntmps51
  go_wp2_with (first | (go_at_call 21; refine hH.out.mono ?_; rintro e w1 ⟨rfl, e1⟩; cases e1) | (refine wpList_store_mid (by rfl) 37 _ _ (by rfl) (w.heap.size + 1) 0 (encP zeroPV).toArray (by rfl) (by rfl) hth hi13 ho13 ?_))
  have hz' := heap_setCells_all (t := 37) (vs := encP zeroPV) z0.out rfl
  refine bodyPost_ret (results_cell_tmp_row rfl _ _ (w.heap.size + 1) 37 (encP zeroPV).toArray (0, 0) _ rfl rfl hz' infoProp) rfl ?_
  exact ⟨below_setC hb2.out (by omega) _ _, rfl⟩
theorem n_Own {w : World} {hv : Value} (h : NoH w hv) (o : Int) (k : KK) :
    Calls Try.prog 20 #[hv, .int .i64 o, keyV k.1 k.2] w fun e w' => Below w.heap.size w w' ∧ e = .returned (tellV none) := by
  have hBy := fun (y : World) (hy : Below w.heap.size w y) => n_By (w := y) (h.below hy) (.pointer none) o k
  unfold keyV tellV at *
  generalize (none : Option PV).getD zeroPV = P at *
  generalize (none : Option PV).isSome = bo at *
  obtain ⟨k0, kn⟩ := k
  dsimp only at *
  obtain ⟨W2, hW2⟩ : ∃ W2, (w.alloc (.cells #[.string k0, .int .i64 kn] 32)).alloc (.cells (encP zeroPV).toArray 37) = W2 := ⟨_, rfl⟩
  have hb2 : Below w.heap.size w W2 := by rw [← hW2]; exact ((Below.refl _ w).alloc (Nat.le_refl _) _).alloc (by simp) _
  have z0 : W2.heap[w.heap.size + 1]? = some (.cells (encP zeroPV).toArray 37 (0, 0)) := by rw [← hW2]; exact heap_alloc2_new w _ _
  have d0 : W2.heap[w.heap.size]? = some (.cells #[.string k0, .int .i64 kn] 32 (0, 0)) := by rw [← hW2, Below.heap_alloc _ _ _ (by simp)]; exact heap_alloc_new w _
  have kc0 : W2.cell? ⟨w.heap.size, 0, none⟩ = some (.string k0) := by rw [cell_of_row _ _ 0 _ _ _ d0]; rfl
  have kc1 : W2.cell? ⟨w.heap.size, 1, none⟩ = some (.int .i64 kn) := by rw [cell_of_row _ _ 1 _ _ _ d0]; rfl
  have hi13 : (Try.prog.info? 37).map (·.size) = some (encP P).toArray.size := infoProp
  have ho13 := all_oneCell_toArray (encP_one P)
  have hBy := Lib.hid (hBy W2 hb2)
  have hst := fun (y : World) (hy : ZB y (w.heap.size + 1)) => hy.store P
  unfold propV at *
  replace hb2 := Lib.hid hb2
  replace z0 := Lib.hid z0
  replace d0 := Lib.hid d0
  simp only [encP, zeroPV, zeroVV] at hW2
  clear h
  rename_i hByo
  clear hByo
  go_enter Try.func20, Try.ntmps20
  go_wp2_with (first | (go_at_call 51; refine hBy.out.mono ?_; rintro e y2 ⟨hb5, rfl⟩; have hz2 : ZB y2 (w.heap.size + 1) := ZB.below ⟨_, z0.out, rfl⟩ hb5; clear kc0 kc1; replace hb5 := Lib.hid hb5))
  have z2 : y2.heap[w.heap.size + 1]? = some (.cells (encP zeroPV).toArray 37 (0, 0)) := (hb5.out.block _ (heapH_lt z0.out)).trans z0.out
  have hz := heap_setCells_all (t := 37) (vs := encP P) z2 rfl
  refine bodyPost_ret (results_cell_tmp_row rfl _ _ (w.heap.size + 1) 37 (encP P).toArray (0, 0) _ rfl rfl hz infoProp) rfl ?_
  exact ⟨below_setC (hb2.out.trans (hb5.out.mono hb2.out.size)) (by omega) _ _, rfl⟩
theorem n_Drop {w : World} {hv : Value} (h : NoH w hv) (o : Int) (k : KK) :
    Calls Try.prog 28 #[hv, .int .i64 o, keyV k.1 k.2] w fun e w' => e = .returned (.bool false) ∧ Below w.heap.size w w' := by
  obtain ⟨W1, hW1⟩ : ∃ W1, w.alloc (.cells #[.string k.1, .int .i64 k.2] 32) = W1 := ⟨_, rfl⟩
  have hb1 : Below w.heap.size w W1 := by rw [← hW1]; exact (Below.refl _ w).alloc (Nat.le_refl _) _
  have hs1 : W1.heap.size = w.heap.size + 1 := by rw [← hW1]; simp
  have d0 : W1.heap[w.heap.size]? = some (.cells #[.string k.1, .int .i64 k.2] 32 (0, 0)) := by rw [← hW1]; exact heap_alloc_new w _
  have kc0 : W1.cell? ⟨w.heap.size, 0, none⟩ = some (.string k.1) := by rw [cell_of_row _ _ 0 _ _ _ d0]; rfl
  have kc1 : W1.cell? ⟨w.heap.size, 1, none⟩ = some (.int .i64 k.2) := by rw [cell_of_row _ _ 1 _ _ _ d0]; rfl
  have hOw := n_Own (h.below hb1) o k
  unfold tellV at hOw
  have hbo : (none : Option PV).isSome = false := rfl
  rw [hbo] at hOw
  clear hbo
  generalize (none : Option PV).getD zeroPV = P at *
  have hst := fun (y : World) (b : Nat) (hy : ZB y b) => hy.store P
  have hzb := zb_new
  obtain ⟨k0, kn⟩ := k
  unfold keyV propV at *
  dsimp only at *
  replace hOw := Lib.hid hOw
  replace hb1 := Lib.hid hb1
  replace hs1 := Lib.hid hs1
  replace d0 := Lib.hid d0
  clear h
  go_enter Try.func28, Try.ntmps28
  go_wp2_with (first | (go_at_call 20; refine hOw.out.mono ?_; rintro e w2 ⟨hb2, rfl⟩; have hz2 := hzb w2; clear kc0 kc1; replace hb2 := Lib.hid hb2))
  go_ret
  have hf6 := (fresh_set (w := w2) (o := (encP zeroPV).toArray) (t := 37) (vs := encP P) rfl).1
  have hB2 : Below w.heap.size w w2 := hb1.out.trans (hb2.out.mono hb1.out.size)
  exact ⟨rfl, hB2.trans (hf6.mono hB2.size)⟩
end Go.Proofs.Ytoccmiinkfhohaa
namespace Go.Proofs.Ytoccmiinkfhohaa
open Go.RowKit Go.Shelf Go.Lib Go.Sort Go.Proofs Go.Maps
set_option linter.unusedVariables false
set_option maxHeartbeats 4000000
set_option maxRecDepth 100000

theorem c_HeapNone (o : Int) (k : KK) (w : World) :
    Calls Try.prog 5 #[.int .i64 o, keyV k.1 k.2] w fun e w' => e = .returned (.bool true) ∧ Below w.heap.size w w' := by
  obtain ⟨W1, hW1⟩ : ∃ W1, w.alloc (.cells #[.string k.1, .int .i64 k.2] 32) = W1 := ⟨_, rfl⟩
  have hb1 : Below w.heap.size w W1 := by rw [← hW1]; exact (Below.refl _ w).alloc (Nat.le_refl _) _
  have d0 : W1.heap[w.heap.size]? = some (.cells #[.string k.1, .int .i64 k.2] 32 (0, 0)) := by rw [← hW1]; exact heap_alloc_new w _
  have kc : ∀ y, Below W1.heap.size W1 y → y.cell? ⟨w.heap.size, 0, none⟩ = some (.string k.1) ∧ y.cell? ⟨w.heap.size, 1, none⟩ = some (.int .i64 k.2) := fun y hy => by
    have h1 := (hy.block _ (heapH_lt d0)).trans d0
    exact ⟨by rw [cell_of_row _ _ 0 _ _ _ h1]; rfl, by rw [cell_of_row _ _ 1 _ _ _ h1]; rfl⟩
  obtain ⟨k0, kn⟩ := k
  have hOwn := fun (hv : Value) (y : World) (h : NoH y hv) => n_Own h o (k0, kn)
  have hPut := fun (hv : Value) (y : World) (h : NoH y hv) => n_Put h o (k0, kn) zeroPV
  have hDrop := fun (hv : Value) (y : World) (h : NoH y hv) => n_Drop h o (k0, kn)
  unfold tellV keyV propV at hOwn
  dsimp only [Option.getD, Option.isSome] at hOwn
  generalize zeroPV = P at hOwn
  unfold keyV propV encP zeroPV zeroVV at hPut
  dsimp only at hPut
  unfold keyV at hDrop ⊢
  dsimp only at hDrop ⊢
  have hst := fun (y : World) (b : Nat) (hy : ZB y b) => hy.store P
  replace hb1 := Lib.hid hb1
  replace kc := Lib.hid kc
  replace hOwn := Lib.hid hOwn
  replace hPut := Lib.hid hPut
  replace hDrop := Lib.hid hDrop
  clear d0
  go_enter Try.func5, Try.ntmps5
  go_wp2_with (go_at_call 8; refine (c_awake15 _).mono ?_; rintro e w2 ⟨rfl, hb2⟩)
  have hr3 := heap_alloc2_new w2 (.cells #[.int .i64 0, .int .i64 0, .int .i64 0, .pointer none, .slice none 0 0] 57) (.cells #[.pointer none, .pointer (some ⟨w2.heap.size, 0, none⟩)] 25)
  have hb3 := two_belowH w2 (.cells #[.int .i64 0, .int .i64 0, .int .i64 0, .pointer none, .slice none 0 0] 57) (.cells #[.pointer none, .pointer (some ⟨w2.heap.size, 0, none⟩)] 25)
  have hn3 : NoH ((w2.alloc (.cells #[.int .i64 0, .int .i64 0, .int .i64 0, .pointer none, .slice none 0 0] 57)).alloc (.cells #[.pointer none, .pointer (some ⟨w2.heap.size, 0, none⟩)] 25)) (.pointer (some ⟨w2.heap.size, 0, none⟩)) := by
    refine .inr ⟨_, rfl, by simp; omega, ?_⟩
    have h1 : ((w2.alloc (.cells #[.int .i64 0, .int .i64 0, .int .i64 0, .pointer none, .slice none 0 0] 57)).alloc (.cells #[.pointer none, .pointer (some ⟨w2.heap.size, 0, none⟩)] 25)).heap[w2.heap.size]? = some (.cells #[.int .i64 0, .int .i64 0, .int .i64 0, .pointer none, .slice none 0 0] 57 (0, 0)) := by
      rw [Below.heap_alloc _ _ _ (by simp)]; exact heap_alloc_new w2 _
    rw [cell_of_row _ _ 0 _ _ _ h1]; rfl
  generalize hW3 : (w2.alloc (.cells #[.int .i64 0, .int .i64 0, .int .i64 0, .pointer none, .slice none 0 0] 57)).alloc (.cells #[.pointer none, .pointer (some ⟨w2.heap.size, 0, none⟩)] 25) = W3 at *
  have hb13 := Lib.hid (hb2.trans (hb3.mono hb2.size))
  have hrc : ∀ y, Below W3.heap.size W3 y → y.cell? ⟨w2.heap.size + 1, 0, none⟩ = some (.pointer none) ∧ y.cell? ⟨w2.heap.size + 1, 1, none⟩ = some (.pointer (some ⟨w2.heap.size, 0, none⟩)) := fun y hy => by
    have h1 := (hy.block _ (heapH_lt hr3)).trans hr3
    exact ⟨by rw [cell_of_row _ _ 0 _ _ _ h1]; rfl, by rw [cell_of_row _ _ 1 _ _ _ h1]; rfl⟩
  generalize w2.heap.size = b0 at *
  have hzb := zb_new
  replace hrc := Lib.hid hrc
  replace hn3 := Lib.hid hn3
  clear hr3 hb3 hW3 hb2 hW1
  go_loopw [19] (fun vi wr => ∃ z : Int, (z = 0 ∨ z = 1 ∨ z = 2) ∧ vi = .int .i64 z ∧ Below W3.heap.size W3 wr) (fun vi _ => 2 - (intOf vi).toNat)
  case atStart => exact ⟨0, .inl rfl, rfl, Below.refl _ _⟩
  case round =>
    obtain ⟨z, hz, rfl, hbel⟩ := hrel
    obtain ⟨c0, c1⟩ := hrc.out wr hbel
    obtain ⟨kc0, kc1⟩ := kc.out wr (hb13.out.trans (hbel.mono hb13.out.size))
    rcases hz with rfl | rfl | rfl
    · have hno : ∀ y, Below W3.heap.size W3 y → NoH y (.pointer none) := fun _ _ => .inl rfl
      replace hno := Lib.hid hno
      go_wp2_with (first | (go_at_call 19; refine (n_Make (hno.out _ hbel) 0 0).mono ?_; rintro e y1 ⟨rfl, rfl⟩) | (go_at_call 20; refine (hOwn.out _ _ (hno.out _ hbel)).mono ?_; rintro e w5 ⟨hq, rfl⟩; have hz2 := hzb w5; have hbel2 := hbel.trans (hq.mono hbel.size); clear kc0 kc1 c0 c1 hq))
      have hf6 := (fresh_set (w := w5) (o := (encP zeroPV).toArray) (t := 37) (vs := encP P) rfl).1
      generalize hW6 : World.setCells _ _ _ _ = W6
      have hb6 : Below w5.heap.size w5 W6 := by rw [← hW6]; exact hf6
      have hbel3 := hbel2.trans (hb6.mono hbel2.size)
      obtain ⟨kc0, kc1⟩ := kc.out W6 (hb13.out.trans (hbel3.mono hb13.out.size))
      clear hW6 hf6 hz2 hb6 hbel2
      go_wp2_with (first | (go_at_call 21; refine (n_Has (hno.out _ (by assumption)) o).mono ?_; rintro e y1 ⟨rfl, rfl⟩) | (go_at_call 22; refine (n_Class (hno.out _ (by assumption)) o).mono ?_; rintro e y1 ⟨rfl, rfl⟩) | (go_at_call 23; refine (n_Proto (hno.out _ (by assumption)) o).mono ?_; rintro e y1 ⟨rfl, rfl⟩) | (go_at_call 24; refine (n_SetProto (hno.out _ (by assumption)) o 0).mono ?_; rintro e y1 ⟨rfl, rfl⟩) | (go_at_call 25; refine (n_Open (hno.out _ (by assumption)) o).mono ?_; rintro e y1 ⟨rfl, rfl⟩) | (go_at_call 26; refine (n_Shut (hno.out _ (by assumption)) o).mono ?_; rintro e y1 ⟨rfl, rfl⟩) | (go_at_call 27; refine (hPut.out _ _ (hno.out _ hbel3)).mono ?_; rintro e y7 ⟨rfl, hq⟩; have hbel4 := hbel3.trans (hq.mono hbel3.size); clear hq kc0 kc1; obtain ⟨kc0, kc1⟩ := kc.out y7 (hb13.out.trans (hbel4.mono hb13.out.size))) | (go_at_call 28; refine (hDrop.out _ _ (hno.out _ hbel4)).mono ?_; rintro e y8 ⟨rfl, hq⟩; have hbel5 := hbel4.trans (hq.mono hbel4.size); clear hq kc0 kc1) | (go_at_call 17; refine (n_Keys (hno.out _ (by assumption)) o).mono ?_; rintro e y1 ⟨rfl, rfl⟩) | (go_at_call 29; refine (n_Force (hno.out _ (by assumption)) o).mono ?_; rintro e y1 ⟨rfl, rfl⟩) | (go_at_call 15; refine (n_Fast (hno.out _ (by assumption)) o).mono ?_; rintro e y1 ⟨rfl, rfl⟩) | (go_at_call 18; refine (n_Used (hno.out _ (by assumption))).mono ?_; rintro e y1 ⟨rfl, rfl⟩) | (go_at_call 16; refine (n_Len (hno.out _ (by assumption))).mono ?_; rintro e y1 ⟨rfl, rfl⟩))
      go_roundw
      case rel => exact ⟨1, by simp, rfl, hbel5⟩
      case measure => simp [intOf]
    · have hno : ∀ y, Below W3.heap.size W3 y → NoH y (.pointer (some ⟨b0, 0, none⟩)) := fun y hy => hn3.out.below hy
      replace hno := Lib.hid hno
      go_wp2_with (first | (go_at_call 19; refine (n_Make (hno.out _ hbel) 0 0).mono ?_; rintro e y1 ⟨rfl, rfl⟩) | (go_at_call 20; refine (hOwn.out _ _ (hno.out _ hbel)).mono ?_; rintro e w5 ⟨hq, rfl⟩; have hz2 := hzb w5; have hbel2 := hbel.trans (hq.mono hbel.size); clear kc0 kc1 c0 c1 hq))
      have hf6 := (fresh_set (w := w5) (o := (encP zeroPV).toArray) (t := 37) (vs := encP P) rfl).1
      generalize hW6 : World.setCells _ _ _ _ = W6
      have hb6 : Below w5.heap.size w5 W6 := by rw [← hW6]; exact hf6
      have hbel3 := hbel2.trans (hb6.mono hbel2.size)
      obtain ⟨kc0, kc1⟩ := kc.out W6 (hb13.out.trans (hbel3.mono hb13.out.size))
      clear hW6 hf6 hz2 hb6 hbel2
      go_wp2_with (first | (go_at_call 21; refine (n_Has (hno.out _ (by assumption)) o).mono ?_; rintro e y1 ⟨rfl, rfl⟩) | (go_at_call 22; refine (n_Class (hno.out _ (by assumption)) o).mono ?_; rintro e y1 ⟨rfl, rfl⟩) | (go_at_call 23; refine (n_Proto (hno.out _ (by assumption)) o).mono ?_; rintro e y1 ⟨rfl, rfl⟩) | (go_at_call 24; refine (n_SetProto (hno.out _ (by assumption)) o 0).mono ?_; rintro e y1 ⟨rfl, rfl⟩) | (go_at_call 25; refine (n_Open (hno.out _ (by assumption)) o).mono ?_; rintro e y1 ⟨rfl, rfl⟩) | (go_at_call 26; refine (n_Shut (hno.out _ (by assumption)) o).mono ?_; rintro e y1 ⟨rfl, rfl⟩) | (go_at_call 27; refine (hPut.out _ _ (hno.out _ hbel3)).mono ?_; rintro e y7 ⟨rfl, hq⟩; have hbel4 := hbel3.trans (hq.mono hbel3.size); clear hq kc0 kc1; obtain ⟨kc0, kc1⟩ := kc.out y7 (hb13.out.trans (hbel4.mono hb13.out.size))) | (go_at_call 28; refine (hDrop.out _ _ (hno.out _ hbel4)).mono ?_; rintro e y8 ⟨rfl, hq⟩; have hbel5 := hbel4.trans (hq.mono hbel4.size); clear hq kc0 kc1) | (go_at_call 17; refine (n_Keys (hno.out _ (by assumption)) o).mono ?_; rintro e y1 ⟨rfl, rfl⟩) | (go_at_call 29; refine (n_Force (hno.out _ (by assumption)) o).mono ?_; rintro e y1 ⟨rfl, rfl⟩) | (go_at_call 15; refine (n_Fast (hno.out _ (by assumption)) o).mono ?_; rintro e y1 ⟨rfl, rfl⟩) | (go_at_call 18; refine (n_Used (hno.out _ (by assumption))).mono ?_; rintro e y1 ⟨rfl, rfl⟩) | (go_at_call 16; refine (n_Len (hno.out _ (by assumption))).mono ?_; rintro e y1 ⟨rfl, rfl⟩))
      go_roundw
      case rel => exact ⟨2, by simp, rfl, hbel5⟩
      case measure => simp [intOf]
    · go_wp2
      go_ret
      exact ⟨rfl, hb1.out.trans ((hb13.out.trans (hbel.mono hb13.out.size)).mono hb1.out.size)⟩
end Go.Proofs.Ytoccmiinkfhohaa
namespace Go.Proofs.Ytoccmiinkfhohaa
open Go.RowKit Go.Shelf Go.Lib Go.Sort Go.Proofs Go.Maps
set_option maxHeartbeats 400000
set_option maxRecDepth 8000

theorem mem_le_sum {l : List Nat} {x : Nat} (h : x ∈ l) : x ≤ l.sum := by
  induction l with
  | nil => cases h
  | cons a l ih =>
    rw [List.sum_cons]
    rcases List.mem_cons.1 h with rfl | h
    · omega
    · have := ih h; omega
/-- an operation -/
structure OP where
  kd : Int
  o : Int
  n : Int
  k : KK
  p : PV
instance : Inhabited OP := ⟨⟨0, 0, 0, (⟨#[]⟩, 0), zeroPV⟩⟩
def encO (x : OP) : List Value := [.int .i64 x.kd, .int .i64 x.o, .int .i64 x.n, .string x.k.1, .int .i64 x.k.2] ++ encP x.p
def opV (x : OP) : Value := .agg (encO x).toArray
theorem encO_one (x : OP) : ∀ u ∈ encO x, u.oneCell' = true := by simp [encO, encP, Value.oneCell']
theorem infoOp : (Try.prog.info? 39).map (·.size) = some 18 := by kernel_rfl
/-- v reads as the list l -/
def RdO (w : World) (v : Value) (l : List OP) : Prop :=
  (v = .slice none 0 0 ∧ l = []) ∨ ∃ p c, v = .slice (some p) l.length c ∧ l.length ≤ c ∧ ∀ k x, l[k]? = some x → p.spot = none ∧ w.rangeAt p.block (p.off + k * 18) (encO x)
theorem RdO.form {w : World} {v : Value} {l : List OP} (h : RdO w v l) : ∃ p c, v = .slice p l.length c ∧ l.length ≤ c ∧
    ∀ k x, l[k]? = some x → ∃ b o, p = some ⟨b, o, none⟩ ∧ b < w.heap.size ∧ ∀ y, Below w.heap.size w y → y.rangeAt b (o + k * 18) (encO x) := by
  rcases h with ⟨rfl, rfl⟩ | ⟨p, c, rfl, hl, hc⟩
  · exact ⟨none, 0, rfl, Nat.le_refl _, fun k x hx => by simp at hx⟩
  · refine ⟨some p, c, rfl, hl, fun k x hx => ?_⟩
    obtain ⟨h1, h2⟩ := hc k x hx
    obtain ⟨b, o, sp⟩ := p
    dsimp only at *
    subst h1
    have hlt : b < w.heap.size := cell_lt (h2 0 _ rfl)
    exact ⟨b, o, rfl, hlt, fun y hy => range_at h2 (hy.block b hlt)⟩
def fewS (x : OP) : Nat := (x.k.1.size + x.p.v.s.size) / 20
def fewO (l : List OP) (k : Nat) : Nat := l.length + ((l.take k).map fewS).sum
theorem fewO_next {l : List OP} {k : Nat} {x : OP} (h : l[k]? = some x) : fewO l (k + 1) = fewO l k + fewS x := by
  unfold fewO
  have hlt : k < l.length := (List.getElem?_eq_some_iff.1 h).1
  rw [List.take_succ_eq_append_getElem hlt, List.map_append, List.sum_append]
  have : l[k] = x := (List.getElem?_eq_some_iff.1 h).2
  simp [this]
  omega
theorem fewO_mono (l : List OP) {j k : Nat} (h : j ≤ k) : fewO l j ≤ fewO l k := by
  unfold fewO
  obtain ⟨d, rfl⟩ := Nat.exists_eq_add_of_le h
  rw [List.take_add, List.map_append, List.sum_append]
  omega
end Go.Proofs.Ytoccmiinkfhohaa
namespace Go.Proofs.Ytoccmiinkfhohaa
open Go.RowKit Go.Shelf Go.Lib Go.Sort Go.Proofs Go.ChangeShapes Go.WideShapes Go.ChangeAt
set_option maxHeartbeats 1000000
set_option maxRecDepth 8000

theorem bulk_small {H : Type} {ds : List (DataW H)} (hk : Rows.uptoSmall H ds = true) : Rows.uptoBulkAll ds ≤ 1048576 := of_decide_eq_true hk
theorem bulk_part {H : Type} {d : DataW H} {l : List (DataW H)} (h : d ∈ l) : Rows.uptoBulk d ≤ Rows.uptoBulkAll l := by
  induction l with
  | nil => cases h
  | cons x r ih =>
    simp only [Rows.uptoBulkAll]
    rcases List.mem_cons.1 h with rfl | e
    · omega
    · have := ih e; omega
theorem cellsOp : Try.prog.cellsOf 39 = 18 := by kernel_rfl
theorem cellsValue : Try.prog.cellsOf 35 = 4 := by kernel_rfl
theorem cellsProp : Try.prog.cellsOf 37 = 13 := by kernel_rfl
theorem cellsFloat : Try.prog.cellsOf 33 = 1 := by kernel_rfl
section
variable {H : Type} {enc : TypeId × Value → H} {P : Program} {w : World} {base : Nat} {spare : Nat → Bool} {held : Bool}
theorem trod_float5 {t : TypeId} {k : FloatKind} {fuel : Nat} {cs : List Value} {x : DataW H × List MemPlace} (ht : P.underlying t = some (.float k)) (h : DataW.trod enc P w base spare held fuel t cs = some x) : ∃ b, cs = [.float k b] ∧ x = (.lit (.float k b), []) := by
  cases fuel with
  | zero => simp [DataW.trod] at h
  | succ n =>
    unfold DataW.trod at h
    rw [ht] at h
    split at h <;> simp_all
end
section
variable {H : Type} {enc : TypeId × Value → H} {w : World} {base : Nat} {spare : Nat → Bool} {held : Bool}
def encV (v : VV) : List Value := [.int .i64 v.k, .float .f64 v.x, .string v.s, .int .i64 v.r]
theorem value_open {fuel : Nat} {cs : List Value} {x : DataW H × List MemPlace} (h : DataW.trod enc Try.prog w base spare held fuel 35 cs = some x) : ∃ v : VV, cs = encV v ∧ v.s.size ≤ Rows.uptoBulk x.1 := by
  obtain ⟨y0, y1, y2, y3, n, rfl, hl, h0, h1, h2, h3⟩ := Go.Joins.trod_struct4 Try.underlying35 h
  rw [cellsValue] at hl
  match cs, hl with
  | [c0, c1, c2, c3], _ =>
    obtain ⟨k, e0, _, _⟩ := DataW.trod_int Try.underlying3 h0
    obtain ⟨f, e1, _⟩ := trod_float5 Try.underlying33 h1
    obtain ⟨s, e2, g2, _⟩ := DataW.trod_string Try.underlying30 h2
    obtain ⟨r, e3, _, _⟩ := DataW.trod_int Try.underlying3 h3
    simp [cellsInt, cellsFloat, cellsStr] at e0 e1 e2 e3
    subst e0 e1 e2 e3
    refine ⟨⟨k, f, s, r⟩, rfl, ?_⟩
    have h3 : s.data.toList.length = s.size := rfl
    subst g2
    simp only [Rows.uptoBulk, Rows.uptoBulkAll]
    omega
theorem prop_open {fuel : Nat} {cs : List Value} {x : DataW H × List MemPlace} (h : DataW.trod enc Try.prog w base spare held fuel 37 cs = some x) : ∃ p : PV, cs = encP p ∧ p.v.s.size ≤ Rows.uptoBulk x.1 := by
  obtain ⟨y0, y1, y2, y3, n, rfl, hl, h0, h1, h2, h3⟩ := Go.Joins.trod_struct4 Try.underlying37 h
  rw [cellsProp] at hl
  match cs, hl with
  | [c0, c1, c2, c3, c4, c5, c6, c7, c8, c9, c10, c11, c12], _ =>
    obtain ⟨v, e0, g0⟩ := value_open h0
    obtain ⟨g, e1, _⟩ := value_open h1
    obtain ⟨t, e2, _⟩ := value_open h2
    obtain ⟨r, e3, _, _⟩ := DataW.trod_int Try.underlying3 h3
    simp [cellsValue, cellsInt, encV] at e0 e1 e2 e3
    obtain ⟨rfl, rfl, rfl, rfl⟩ := e0
    obtain ⟨rfl, rfl, rfl, rfl⟩ := e1
    obtain ⟨rfl, rfl, rfl, rfl⟩ := e2
    subst e3
    refine ⟨⟨v, g, t, r⟩, rfl, ?_⟩
    show v.s.size ≤ _
    simp only [Rows.uptoBulk, Rows.uptoBulkAll]
    omega
theorem keyc_open {fuel : Nat} {cs : List Value} {x : DataW H × List MemPlace} (h : DataW.trod enc Try.prog w base spare held fuel 32 cs = some x) : ∃ k : KK, cs = [.string k.1, .int .i64 k.2] ∧ k.1.size ≤ Rows.uptoBulk x.1 ∧ (Lit.int .i64 k.2).wf = true := by
  obtain ⟨y0, y1, n, rfl, hl, h0, h1⟩ := Go.ChangeShapes.trod_struct2 Try.underlying32 h
  rw [cellsKey] at hl
  match cs, hl with
  | [c0, c1], _ =>
    obtain ⟨s, e0, g0, _⟩ := DataW.trod_string Try.underlying30 h0
    obtain ⟨r, e1, _, hw⟩ := DataW.trod_int Try.underlying3 h1
    simp [cellsInt, cellsStr] at e0 e1
    subst e0 e1
    refine ⟨(s, r), rfl, ?_, hw⟩
    subst g0
    have h3 : s.data.toList.length = s.size := rfl
    simp only [Rows.uptoBulk, Rows.uptoBulkAll]
    show s.size ≤ _
    omega
theorem op_open {fuel : Nat} {cs : List Value} {x : DataW H × List MemPlace} (h : DataW.trod enc Try.prog w base spare held fuel 39 cs = some x) : ∃ z : OP, cs = encO z ∧ z.k.1.size + z.p.v.s.size + 1 ≤ Rows.uptoBulk x.1 ∧ (Lit.int .i64 z.k.2).wf = true := by
  obtain ⟨xs, n, _, rfl, hl, hlen, hf⟩ := DataW.trod_struct Try.underlying39 h
  rw [cellsOp] at hl
  match xs, hlen with
  | [y0, y1, y2, y3, y4], _ =>
    have h0 := hf 0 _ rfl
    have h1 := hf 1 _ rfl
    have h2 := hf 2 _ rfl
    have h3 := hf 3 _ rfl
    have h4 := hf 4 _ rfl
    match cs, hl with
    | [c0, c1, c2, c3, c4, c5, c6, c7, c8, c9, c10, c11, c12, c13, c14, c15, c16, c17], _ =>
      obtain ⟨a, e0, _, _⟩ := DataW.trod_int Try.underlying3 h0
      obtain ⟨b, e1, _, _⟩ := DataW.trod_int Try.underlying3 h1
      obtain ⟨c, e2, _, _⟩ := DataW.trod_int Try.underlying3 h2
      obtain ⟨k, e3, g3, hw⟩ := keyc_open h3
      obtain ⟨p, e4, g4⟩ := prop_open h4
      simp [cellsInt, cellsKey, cellsProp, encP] at e0 e1 e2 e3 e4
      subst e0 e1 e2
      obtain ⟨rfl, rfl⟩ := e3
      obtain ⟨rfl, rfl, rfl, rfl, rfl, rfl, rfl, rfl, rfl, rfl, rfl, rfl, rfl⟩ := e4
      refine ⟨⟨a, b, c, k, p⟩, rfl, ?_, hw⟩
      show k.1.size + p.v.s.size + 1 ≤ _
      simp only [List.map_cons, Rows.uptoBulk, Rows.uptoBulkAll]
      omega
theorem bulk_ops (q : Nat → OP) (D : Nat → DataW H) (is : List Nat) (h : ∀ i ∈ is, (q i).k.1.size + (q i).p.v.s.size + 1 ≤ Rows.uptoBulk (D i)) : (is.map fun i => (q i).k.1.size + (q i).p.v.s.size + 1).sum ≤ Rows.uptoBulkAll (is.map D) := by
  induction is with
  | nil => simp
  | cons i is ih =>
    have h1 := ih (fun j hj => h j (by simp [hj]))
    have h2 := h i (by simp)
    simp only [List.map_cons, List.sum_cons, Rows.uptoBulkAll]
    omega
end
theorem ops_open {H : Type} {enc : TypeId × Value → H} {W : World} {base : Nat} {v : Value} {d : DataW H} {p : List MemPlace} (hok : Value.okWide Try.prog W .any base 22 v) (h : DataW.Trod enc Try.prog W 0 (fun _ => true) true 22 v d p) (hb : Rows.uptoBulk d ≤ 1048576) :
    ∃ l : List OP, RdO W v l ∧ (l.map fun x => x.k.1.size + x.p.v.s.size + 1).sum ≤ 1048576 ∧ ∀ x ∈ l, okK x.k := by
  obtain ⟨a0, len0, cap0, rfl⟩ := okWide_slice Try.underlying22 hok
  obtain ⟨fuel, hf⟩ := h
  rcases Go.Deep.open_slice Try.underlying22 hf with ⟨hcs, hx⟩ | ⟨a, len, cap, m, n, D, Pl, hcs, hba, hlc, hcm, hm, hx, hcell⟩
  · simp [Value.cells] at hcs
    obtain ⟨rfl, rfl, rfl⟩ := hcs
    exact ⟨[], .inl ⟨rfl, rfl⟩, by simp, by simp⟩
  · simp [Value.cells] at hcs
    obtain ⟨rfl, rfl, rfl⟩ := hcs
    rw [cellsOp] at hcell
    have each : ∀ i, i < len0 → ∃ q : OP, (∀ j u, (encO q)[j]? = some u → W.cell? (a.add (i * 18 + j)) = some u) ∧ q.k.1.size + q.p.v.s.size + 1 ≤ Rows.uptoBulk (D i) ∧ (Lit.int .i64 q.k.2).wf = true := by
      intro i hi
      obtain ⟨cs', c0, t0⟩ := hcell i (by rw [hm]; split <;> omega)
      obtain ⟨q, rfl, g1, g2⟩ := op_open t0
      obtain ⟨_, hl, hat⟩ := World.cells?_some c0
      refine ⟨q, fun j u hu => ?_, g1, g2⟩
      have hj : j < 18 := (List.getElem?_eq_some_iff.1 hu).1
      rw [← Go.Deep.add_add, hat j hj, hu]
    obtain ⟨q, hq⟩ := Go.Deep.choose_lt each
    have hl : ((List.range len0).map q).length = len0 := by simp
    have hbk := bulk_ops q D (List.range len0) (fun i hi => (hq i (List.mem_range.1 hi)).2.1)
    have hd : d = _ := congrArg Prod.fst hx
    rw [hd] at hb
    simp only [Rows.uptoBulk] at hb
    have hsum : (((List.range len0).map q).map fun x => x.k.1.size + x.p.v.s.size + 1).sum ≤ 1048576 := by
      rw [List.map_map]
      have : ((fun x : OP => x.k.1.size + x.p.v.s.size + 1) ∘ q) = fun i => (q i).k.1.size + (q i).p.v.s.size + 1 := rfl
      rw [this]
      omega
    refine ⟨(List.range len0).map q, .inr ⟨a, cap0, by rw [hl], by rw [hl]; exact hlc, ?_⟩, hsum, ?_⟩
    · intro k x hx
      have hk : k < len0 := by have := (List.getElem?_eq_some_iff.1 hx).1; simpa using this
      have hxe : q k = x := by simpa [hk] using hx
      obtain ⟨e0, _⟩ := hq k hk
      obtain ⟨d0, _⟩ := hq 0 (by omega)
      have hsp : a.spot = none := by
        have d1 := d0 0 _ rfl
        have h00 : a.add (0 * 18 + 0) = a := by simp [Addr.add]
        rw [h00] at d1
        unfold World.cell? at d1
        cases hs : a.spot with
        | none => rfl
        | some z =>
          rw [hs] at d1
          cases hh : W.heap[a.block]? with
          | none => simp [hh] at d1
          | some o => cases o <;> simp [hh] at d1
      have hadd : ∀ j, a.add j = ⟨a.block, a.off + j, none⟩ := by
        intro j
        unfold Addr.add
        split
        · rename_i h0; subst h0; rw [← hsp]; simp
        · rfl
      refine ⟨hsp, fun j u hu => ?_⟩
      have := e0 j u (by rw [hxe]; exact hu)
      rw [hadd, ← Nat.add_assoc] at this
      exact this
    · intro x hx
      obtain ⟨i, hi, rfl⟩ := List.mem_map.1 hx
      have hi' := List.mem_range.1 hi
      obtain ⟨_, g1, g2⟩ := hq i hi'
      have hle : (q i).k.1.size + (q i).p.v.s.size + 1 ≤ (((List.range len0).map q).map fun x => x.k.1.size + x.p.v.s.size + 1).sum := mem_le_sum (List.mem_map.2 ⟨q i, hx, rfl⟩)
      exact ⟨by omega, g2⟩
theorem key_open5 {H : Type} {enc : TypeId × Value → H} {W : World} {base : Nat} {v : Value} {d : DataW H} {p : List MemPlace} (hok : Value.okWide Try.prog W .any base 32 v) (h : DataW.Trod enc Try.prog W 0 (fun _ => true) true 32 v d p) :
    ∃ x : KK, v = keyV x.1 x.2 := by
  obtain ⟨v0, v1, y0, y1, n, rfl, rfl, _, h0, h1⟩ := Go.Joins.open_agg2 Try.underlying32 (by kernel_rfl) cellsKey hok h
  obtain ⟨s, e1, e2, _⟩ := DataW.trod_string Try.underlying30 h0
  obtain ⟨z, e3, e4, _⟩ := DataW.trod_int Try.underlying3 h1
  simp at e1 e3
  subst e1; subst e3
  exact ⟨(s, z), rfl⟩
end Go.Proofs.Ytoccmiinkfhohaa
namespace Go.Proofs.Ytoccmiinkfhohaa.heapNone
open Go.ChangeShapes Go.WideShapes Go.ChangeAt Go.RowKit
set_option linter.unusedVariables false

theorem own : ownKnob Try.prog.godebug = none := by kernel_rfl
set_option maxRecDepth 100000 in
theorem contract (H : Type) (enc : TypeId × Value → H) (W : World) (base : Nat) (args : Array Value) (ds gs : List (DataW H)) (before : List MemPlace)
    (hval : ∀ (j : Nat) t v, Try.f5.params[j]? = some t → args[j]? = some v → Value.okWide Try.prog W .any base t v)
    (hW : DataW.Whole enc Try.prog Try.f5.params.toList Rows.heapNoneSpec.vars false W args.toList ds gs before) :
    Calls Try.prog 5 args W fun e W' => ∃ v, e = .returned v ∧ Rows.heapNoneSpec.post enc Try.prog Try.f5 false true false false W args v W' := by
  have hW' := hW
  obtain ⟨p, q, hA0, hV, rfl, hfz, hnd⟩ := hW
  have hA : DataW.TrodAll enc Try.prog W 0 (fun _ => true) true Try.f5.params.toList args.toList ds p := hA0
  rw [Try.params5] at hA hval
  obtain ⟨v0, vs0, d0, ds0, p0, q0, hargs, rfl, rfl, h0, r0⟩ := trodAll_cons hA
  obtain ⟨v1, vs1, d1, ds1, p1, q1, rfl, rfl, rfl, h1, r1⟩ := trodAll_cons r0
  obtain ⟨rfl, rfl, rfl⟩ := trodAll_nil r1
  obtain rfl : args = #[v0, v1] := by cases args; simp_all
  obtain ⟨rfl, rfl⟩ := trodVars_none hV
  simp only [List.append_nil] at hW'
  obtain ⟨z, rfl⟩ := okWide_int Try.underlying3 (hval 0 3 v0 rfl rfl)
  obtain ⟨x, rfl⟩ := key_open5 (hval 1 32 v1 rfl rfl) h1
  have hlt0 : ∀ x ∈ p0, x.block < W.heap.size := fun x hx => by simpa using hW'.lt x (by simp [hx])
  have hlt1 : ∀ x ∈ p1, x.block < W.heap.size := fun x hx => by simpa using hW'.lt x (by simp [hx])
  clear hA0
  refine (c_HeapNone z x W).mono fun e W' ⟨he, hg⟩ => ?_
  subst he
  exact ⟨_, rfl, [d0, d1], [], _, [], p0 ++ (p1 ++ []), [], by simpa using hW', trodAll_mk1 (shut_bool Try.underlying4 _), trodAll_cons_mk (Below.trod laidOut (by kernel_rfl) (of_decide_eq_true (by kernel_rfl)) h0 hg hlt0) (trodAll_cons_mk (Below.trod laidOut (by kernel_rfl) (of_decide_eq_true (by kernel_rfl)) h1 hg hlt1) trodAll_mk0), rfl, hg.frame _, fun h => by cases h⟩
set_option maxRecDepth 100000 in
theorem lifted (os : Os) (started : os.Started) (H : Type) (enc : TypeId × Value → H) :
    ReturnsInHanded {} Try.checked os 5 .any (Rows.heapNoneSpec.pre6 enc Try.prog Try.f5 Rows.heapNoneRow.domain false) (Rows.heapNoneSpec.post enc Try.prog Try.f5 false true false false) := by
  refine returnsInHanded_of_change (C := Try.checked) own started (by kernel_rfl) Try.func5
    (ChangeSpec.witness6 (enc := enc) (C := Try.checked) false ⟨#[], #[.int .i64 0, .agg #[.string ⟨#[]⟩, .int .i64 0]], []⟩ 8 (by kernel_rfl) (by kernel_rfl) (by kernel_rfl) (by kernel_rfl)) ?_
  intro W base args ds gs before hval hW _ _
  exact contract H enc W base args ds gs before hval hW
theorem over : Rows.heapNoneRow.holds Try.pinned (OpenSpec.ofChange Rows.heapNoneSpec) :=
  OpenClaim.holds_of_wide 5 Try.f5 rfl rfl rfl rfl rfl rfl rfl ⟨rfl, rfl, rfl, rfl, rfl⟩ rfl rfl rfl rfl rfl (by kernel_rfl) Try.func5 (by kernel_rfl)
    (of_decide_eq_true (by kernel_rfl)) (by unfold Func.isWrapper; first | (rw [if_pos (by decide +kernel)]; kernel_rfl) | (rw [if_neg (by decide +kernel)]; exact ⟨rfl, rfl⟩))
    (fun os started H enc _ => lifted os started H enc)
theorem proved : Rows.HeapNoneSaid :=
  over
end Go.Proofs.Ytoccmiinkfhohaa.heapNone
