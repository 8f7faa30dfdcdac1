/-
  The contract of slices.stableCmpFunc, and of slices.SortStableFunc.
-/
import Derived.Test.YtbodfdmmfaampaaGreatDoorS7
namespace Go.Proofs.YtbodfdmmfaampaaGreatDoor
open Go.RowKit Go.Shelf Go.Lib Go.Sort Go.Proofs
set_option maxHeartbeats 2000000
set_option maxRecDepth 100000

/-- k blocks of bs elements, each in order -/
def Full (bs : Nat) : Nat → List KK → Prop
  | 0, l => l = []
  | k + 1, l => ∃ A B, l = A ++ B ∧ A.length = bs ∧ Srt A ∧ Full bs k B
theorem Full.len {bs k : Nat} {l : List KK} (h : Full bs k l) : l.length = k * bs := by
  induction k generalizing l with
  | zero => simp only [Full] at h; subst h; simp
  | succ k ih =>
    obtain ⟨A, B, rfl, hA, _, hB⟩ := h
    rw [List.length_append, hA, ih hB, Nat.succ_mul]; omega
theorem Full.snoc {bs k : Nat} {l A : List KK} (h : Full bs k l) (hA : A.length = bs) (hs : Srt A) : Full bs (k + 1) (l ++ A) := by
  induction k generalizing l with
  | zero => simp only [Full] at h; subst h; exact ⟨A, [], by simp, hA, hs, rfl⟩
  | succ k ih =>
    obtain ⟨C, B, rfl, hC, hsC, hB⟩ := h
    exact ⟨C, B ++ A, by simp, hC, hsC, ih hB⟩
/-- all before a is in blocks of 20 -/
def St1 (blk : Nat) (L : List KK) (a : Nat) (w : World) : Prop := ∃ k F T, RowL w blk (F ++ T) ∧ Full 20 k F ∧ F.length = a ∧ Eqv (F ++ T) L
/-- all is in blocks of bs, the last one shorter -/
def St2 (blk : Nat) (L : List KK) (bs : Nat) (w : World) : Prop := ∃ k F Z, RowL w blk (F ++ Z) ∧ Full bs k F ∧ Srt Z ∧ Z.length < bs ∧ Eqv (F ++ Z) L
/-- all before a is in blocks of 2 bs, the rest in blocks of bs -/
def St3 (blk : Nat) (L : List KK) (bs a : Nat) (w : World) : Prop := ∃ j k D F Z, RowL w blk (D ++ (F ++ Z)) ∧ Full (2 * bs) j D ∧ D.length = a ∧ Full bs k F ∧ Srt Z ∧ Z.length < bs ∧ Eqv (D ++ (F ++ Z)) L
theorem st1_step (blk cap len : Nat) (L : List KK) (hlen : len = L.length) (hsm : Small L) (hsz : len ≤ 1099511627776) (a : Nat) (w : World) (h : St1 blk L a w) (ha : a + 20 ≤ len) (za zb : Int) (e1 : za = a) (e2 : zb = a + 20) :
    Calls Tryz.prog 49 #[.slice (some ⟨blk, 0, none⟩) len cap, .int .i64 za, .int .i64 zb, .func (.func 25) #[] #[]] w fun e w' => e = .returned (.tuple #[]) ∧ St1 blk L (a + 20) w' ∧ Fr blk w w' := by
  obtain ⟨k, F, T, h1, h2, h3, h4⟩ := h
  have hl := h4.len
  simp only [List.length_append] at hl
  obtain ⟨R, T, rfl, hR⟩ := split_at T 20 (by omega)
  have e2' : zb = ((a + 20 : Nat) : Int) := by omega
  rw [e1, e2']
  refine (c_ins blk cap F R T len a (a + 20) (by simp; simp at hl; omega) (by omega) (by omega) (fun x hx => hsm x (h4.mem (by simp [hx]))) hsz w (by simpa using h1)).mono ?_
  rintro e w1 ⟨rfl, ⟨Z, q1, q2, q3⟩, q4⟩
  have hZ := q3.len
  refine ⟨rfl, ⟨k + 1, F ++ Z, T, by simpa using q1, h2.snoc (by omega) q2, by simp; omega, ?_⟩, q4⟩
  refine Eqv.trans ?_ h4
  have := (Eqv.refl F).app (q3.app (Eqv.refl T))
  simpa using this
theorem st1_last (blk cap len : Nat) (L : List KK) (hlen : len = L.length) (hsm : Small L) (hsz : len ≤ 1099511627776) (a : Nat) (w : World) (h : St1 blk L a w) (ha : len < a + 20) (za zb : Int) (e1 : za = a) (e2 : zb = len) :
    Calls Tryz.prog 49 #[.slice (some ⟨blk, 0, none⟩) len cap, .int .i64 za, .int .i64 zb, .func (.func 25) #[] #[]] w fun e w' => e = .returned (.tuple #[]) ∧ St2 blk L 20 w' ∧ Fr blk w w' := by
  obtain ⟨k, F, T, h1, h2, h3, h4⟩ := h
  have hl := h4.len
  simp only [List.length_append] at hl
  rw [e1, e2]
  refine (c_ins blk cap F T [] len a len (by simp; omega) (by omega) (by omega) (fun x hx => hsm x (h4.mem (by simp [hx]))) hsz w (by simpa using h1)).mono ?_
  rintro e w1 ⟨rfl, ⟨Z, q1, q2, q3⟩, q4⟩
  have hZ := q3.len
  exact ⟨rfl, ⟨k, F, Z, by simpa using q1, h2, q2, by omega, ((Eqv.refl F).app q3).trans h4⟩, q4⟩
theorem st1_bound {blk : Nat} {L : List KK} {a : Nat} {w : World} (h : St1 blk L a w) : a ≤ L.length := by
  obtain ⟨k, F, T, h1, h2, h3, h4⟩ := h
  have hl := h4.len
  simp only [List.length_append] at hl
  omega
theorem st3_bound {blk : Nat} {L : List KK} {bs a : Nat} {w : World} (h : St3 blk L bs a w) : a ≤ L.length := by
  obtain ⟨j, k, D, F, Z, h1, h2, h3, h4, h5, h6, h7⟩ := h
  have hl := h7.len
  simp only [List.length_append] at hl
  omega
theorem st2_enter {blk : Nat} {L : List KK} {bs : Nat} {w : World} (h : St2 blk L bs w) : St3 blk L bs 0 w := by
  obtain ⟨k, F, Z, h1, h2, h3, h4, h5⟩ := h
  exact ⟨0, k, [], F, Z, by simpa using h1, rfl, rfl, h2, h3, h4, by simpa using h5⟩
theorem st2_end {blk : Nat} {L : List KK} {bs : Nat} {w : World} (h : St2 blk L bs w) (hb : L.length ≤ bs) : ∃ Z, RowL w blk Z ∧ Srt Z ∧ Eqv Z L := by
  obtain ⟨k, F, Z, h1, h2, h3, h4, h5⟩ := h
  have hl := h5.len
  simp only [List.length_append] at hl
  have hF := h2.len
  match k, h2, hF with
  | 0, h2, hF =>
    simp only [Full] at h2; subst h2
    exact ⟨Z, by simpa using h1, h3, by simpa using h5⟩
  | 1, ⟨A, B, e, hA, hs, hB⟩, hF =>
    simp only [Full] at hB; subst hB
    have hZ : Z = [] := List.length_eq_zero_iff.1 (by omega)
    subst hZ
    simp at e; subst e
    exact ⟨F, by simpa using h1, hs, by simpa using h5⟩
  | k + 2, h2, hF =>
    have : (k + 2) * bs = k * bs + bs + bs := by rw [Nat.add_mul]; omega
    omega
theorem st3_step (blk cap len : Nat) (L : List KK) (hlen : len = L.length) (hsm : Small L) (hsz : len ≤ 1099511627776) (bs a : Nat) (hb0 : 0 < bs) (w : World) (h : St3 blk L bs a w) (ha : a + 2 * bs ≤ len) (za zm zb : Int) (e1 : za = a) (e2 : zm = a + bs) (e3 : zb = a + 2 * bs) :
    Calls Tryz.prog 50 #[.slice (some ⟨blk, 0, none⟩) len cap, .int .i64 za, .int .i64 zm, .int .i64 zb, .func (.func 25) #[] #[]] w fun e w' => e = .returned (.tuple #[]) ∧ St3 blk L bs (a + 2 * bs) w' ∧ Fr blk w w' := by
  obtain ⟨j, k, D, F, Z, h1, h2, h3, h4, h5, h6, h7⟩ := h
  have hl := h7.len
  simp only [List.length_append] at hl
  have hF := h4.len
  match k, h4, hF with
  | 0, h4, hF => omega
  | 1, h4, hF => omega
  | k + 2, ⟨A, F1, eA, hA, sA, B, F2, eB, hB, sB, h4'⟩, hF =>
    subst eB; subst eA
    simp only [List.length_append] at hl
    have e2' : zm = ((a + bs : Nat) : Int) := by omega
    have e3' : zb = ((a + 2 * bs : Nat) : Int) := by omega
    rw [e1, e2', e3']
    refine (c_symMerge blk cap D A B (F2 ++ Z) len a (a + bs) (a + 2 * bs) w (by simp only [List.length_append]; omega) (by omega) (by omega) (by omega) (by omega) (by omega) sA sB (fun x hx => hsm x (h7.mem (by simp at hx ⊢; rcases hx with hx | hx <;> simp [hx]))) hsz (by simpa using h1)).mono ?_
    rintro e w1 ⟨rfl, ⟨Y, q1, q2, q3⟩, q4⟩
    have hY := q3.len
    simp only [List.length_append] at hY
    refine ⟨rfl, ⟨j + 1, k, D ++ Y, F2, Z, by simpa using q1, h2.snoc (by omega) q2, by simp; omega, h4', h5, h6, ?_⟩, q4⟩
    refine Eqv.trans ?_ h7
    have := (Eqv.refl D).app (q3.app (Eqv.refl (F2 ++ Z)))
    simpa using this
theorem st3_last (blk cap len : Nat) (L : List KK) (hlen : len = L.length) (hsm : Small L) (hsz : len ≤ 1099511627776) (bs a : Nat) (w : World) (h : St3 blk L bs a w) (ha : len < a + 2 * bs) (hm : a + bs < len) (za zm zb : Int) (e1 : za = a) (e2 : zm = a + bs) (e3 : zb = len) :
    Calls Tryz.prog 50 #[.slice (some ⟨blk, 0, none⟩) len cap, .int .i64 za, .int .i64 zm, .int .i64 zb, .func (.func 25) #[] #[]] w fun e w' => e = .returned (.tuple #[]) ∧ St2 blk L (2 * bs) w' ∧ Fr blk w w' := by
  obtain ⟨j, k, D, F, Z, h1, h2, h3, h4, h5, h6, h7⟩ := h
  have hl := h7.len
  simp only [List.length_append] at hl
  have hF := h4.len
  match k, h4, hF with
  | 0, h4, hF =>
    have : F.length = 0 := by rw [hF]; exact Nat.zero_mul bs
    omega
  | k + 2, h4, hF =>
    have : (k + 2) * bs = k * bs + bs + bs := by rw [Nat.add_mul]; omega
    omega
  | 1, ⟨A, F1, eA, hA, sA, h4⟩, hF =>
    simp only [Full] at h4; subst h4
    simp at eA; subst eA
    have e2' : zm = ((a + bs : Nat) : Int) := by omega
    rw [e1, e2', e3]
    refine (c_symMerge blk cap D F Z [] len a (a + bs) len w (by simp only [List.length_append, List.length_nil]; omega) (by omega) (by omega) (by omega) (by omega) (by omega) sA h5 (fun x hx => hsm x (h7.mem (by simp at hx ⊢; rcases hx with hx | hx <;> simp [hx]))) hsz (by simpa using h1)).mono ?_
    rintro e w1 ⟨rfl, ⟨Y, q1, q2, q3⟩, q4⟩
    have hY := q3.len
    simp only [List.length_append] at hY
    exact ⟨rfl, ⟨j, D, Y, by simpa using q1, h2, q2, by omega, ((Eqv.refl D).app q3).trans h7⟩, q4⟩
theorem st3_skip (blk len : Nat) (L : List KK) (hlen : len = L.length) (bs a : Nat) (w : World) (h : St3 blk L bs a w) (ha : len < a + 2 * bs) (hm : ¬ a + bs < len) : St2 blk L (2 * bs) w := by
  obtain ⟨j, k, D, F, Z, h1, h2, h3, h4, h5, h6, h7⟩ := h
  have hl := h7.len
  simp only [List.length_append] at hl
  have hF := h4.len
  match k, h4, hF with
  | 0, h4, hF =>
    simp only [Full] at h4; subst h4
    exact ⟨j, D, Z, by simpa using h1, h2, h5, by omega, by simpa using h7⟩
  | k + 2, h4, hF =>
    have : (k + 2) * bs = k * bs + bs + bs := by rw [Nat.add_mul]; omega
    omega
  | 1, ⟨A, F1, eA, hA, sA, h4⟩, hF =>
    simp only [Full] at h4; subst h4
    simp at eA; subst eA
    have hZ : Z = [] := List.length_eq_zero_iff.1 (by omega)
    subst hZ
    exact ⟨j, D, F, by simpa using h1, h2, sA, by omega, by simpa using h7⟩
theorem c_stable (blk cap len : Nat) (L : List KK) (hlen : len = L.length) (hsm : Small L) (hsz : len ≤ 1099511627776) (w : World) (h : RowL w blk L) :
    Calls Tryz.prog 40 #[.slice (some ⟨blk, 0, none⟩) len cap, .int .i64 (len : Int), .func (.func 25) #[] #[]] w fun e w' => e = .returned (.tuple #[]) ∧ (∃ Z, RowL w' blk Z ∧ Srt Z ∧ Eqv Z L) ∧ Fr blk w w' := by
  have f0 : St1 blk L 0 w := ⟨0, [], L, by simpa using h, rfl, rfl, Eqv.refl _⟩
  have f1 := st1_step blk cap len L hlen hsm hsz
  have f2 := st1_last blk cap len L hlen hsm hsz
  have f3 : ∀ a w, St1 blk L a w → a ≤ len := fun a w h => hlen ▸ st1_bound h
  have f4 := st3_step blk cap len L hlen hsm hsz
  have f5 := st3_last blk cap len L hlen hsm hsz
  have f6 := st3_skip blk len L hlen
  have f7 : ∀ bs a w, St3 blk L bs a w → a ≤ len := fun bs a w h => hlen ▸ st3_bound h
  have f8 : ∀ bs w, St2 blk L bs w → St3 blk L bs 0 w := fun bs w h => st2_enter h
  have f9 : ∀ bs w, St2 blk L bs w → len ≤ bs → ∃ Z, RowL w blk Z ∧ Srt Z ∧ Eqv Z L := fun bs w h hb => st2_end h (hlen ▸ hb)
  clear h hlen hsm
  generalize St1 blk L = A1 at *
  generalize St2 blk L = A2 at *
  generalize St3 blk L = A3 at *
  replace f1 := Lib.hid f1
  replace f2 := Lib.hid f2
  replace f3 := Lib.hid f3
  replace f4 := Lib.hid f4
  replace f5 := Lib.hid f5
  replace f6 := Lib.hid f6
  replace f7 := Lib.hid f7
  replace f8 := Lib.hid f8
  replace f9 := Lib.hid f9
  go_enter Tryz.func40, Tryz.ntmps40
  go_wp2
  go_loopw [7, 8] (fun va vb wr => ∃ a : Nat, va = .int .i64 (a : Int) ∧ vb = .int .i64 ((a : Int) + 20) ∧ A1 a wr ∧ Fr blk w wr) (fun va vb _ => len - (intOf va).toNat)
  case atStart => exact ⟨0, rfl, by go_num, f0, Fr.refl _ _⟩
  case round =>
    obtain ⟨a, rfl, rfl, hA, hfr⟩ := hrel
    have hab := f3.out _ _ hA
    clear f0
    rcases Nat.lt_or_ge len (a + 20) with hlt | hge
    · have hC := fun za zb => Lib.hid (f2.out a wr hA hlt za zb)
      have k1 : ¬ (a : Int) + 20 ≤ (len : Int) := by omega
      clear hA f1 f2
      go_wp2_with (go_at_call 49; refine ((hC _ _).out (by omega) (by omega)).mono ?_; rintro e w1 ⟨rfl, hA2, hfr1⟩)
      have hA2 := Lib.hid hA2
      have hfr0 := Lib.hid (hfr.trans hfr1)
      clear hC hfr hfr1
      go_loopw [6] (fun vs wr2 => ∃ bs : Nat, vs = .int .i64 (bs : Int) ∧ 0 < bs ∧ bs ≤ 2199023255600 ∧ A2 bs wr2 ∧ Fr blk w wr2) (fun vs _ => len - (intOf vs).toNat)
      case atStart => exact ⟨20, rfl, by omega, by omega, hA2.out, hfr0.out⟩
      case round =>
        obtain ⟨bs, rfl, hb0, hbm, hB, hfr⟩ := hrel
        clear hA2 hfr0
        rcases Nat.lt_or_ge bs len with hbl | hbl
        · have hA3 := Lib.hid (f8.out _ _ hB)
          have hbl' : (bs : Int) < (len : Int) := by omega
          have hfr0 := Lib.hid hfr
          clear hB hfr
          go_wp2
          go_loopw [7, 8] (fun va vb wr2 => ∃ a : Nat, va = .int .i64 (a : Int) ∧ vb = .int .i64 ((a : Int) + 2 * bs) ∧ A3 bs a wr2 ∧ Fr blk w wr2) (fun va vb _ => len - (intOf va).toNat)
          case atStart => exact ⟨0, rfl, by go_num, hA3.out, hfr0.out⟩
          case round =>
            obtain ⟨a, rfl, rfl, hA, hfr⟩ := hrel
            have hab := f7.out _ _ _ hA
            clear hA3 hfr0
            rcases Nat.lt_or_ge len (a + 2 * bs) with hlt | hge
            · have k1 : ¬ (a : Int) + 2 * bs ≤ (len : Int) := by omega
              by_cases hm : a + bs < len
              · have hC := fun za zm zb => Lib.hid (f5.out bs a wr hA hlt hm za zm zb)
                have k2 : (a : Int) + bs < (len : Int) := by omega
                clear hA hm
                go_wp2_with (go_at_call 50; refine ((hC _ _ _).out (by omega) (by omega) (by omega)).mono ?_; rintro e w1 ⟨rfl, hA2, hfr1⟩)
                go_roundw
                case rel => exact ⟨2 * bs, by go_num, by omega, by omega, hA2, hfr.trans hfr1⟩
                case measure => simp [intOf]; omega
              · have hA2 := Lib.hid (f6.out bs a wr hA hlt hm)
                have k2 : ¬ (a : Int) + bs < (len : Int) := by omega
                clear hA hm
                go_wp2
                go_roundw
                case rel => exact ⟨2 * bs, by go_num, by omega, by omega, hA2.out, hfr⟩
                case measure => simp [intOf]; omega
            · have k1 : (a : Int) + 2 * bs ≤ (len : Int) := by omega
              have hC := fun za zm zb => Lib.hid (f4.out bs a hb0 wr hA hge za zm zb)
              clear hA
              go_wp2_with (go_at_call 50; refine ((hC _ _ _).out (by omega) (by omega) (by omega)).mono ?_; rintro e w1 ⟨rfl, hA2, hfr1⟩)
              go_roundw
              case rel => exact ⟨a + 2 * bs, by go_num, by go_num, hA2, hfr.trans hfr1⟩
              case measure => simp [intOf]; omega
        · have hZ := Lib.hid (f9.out _ _ hB hbl)
          have hbl' : ¬ (bs : Int) < (len : Int) := by omega
          clear hB
          go_wp2
          go_end0
          exact ⟨rfl, hZ.out, hfr⟩
    · have hC := fun za zb => Lib.hid (f1.out a wr hA hge za zb)
      have k1 : (a : Int) + 20 ≤ (len : Int) := by omega
      clear hA
      go_wp2_with (go_at_call 49; refine ((hC _ _).out (by omega) (by omega)).mono ?_; rintro e w1 ⟨rfl, hA2, hfr1⟩)
      go_roundw
      case rel => exact ⟨a + 20, by go_num, by go_num, hA2, hfr.trans hfr1⟩
      case measure => simp [intOf]; omega
theorem c_SortStable (blk cap len : Nat) (L : List KK) (hlen : len = L.length) (hsm : Small L) (hsz : len ≤ 1099511627776) (w : World) (h : RowL w blk L) :
    Calls Tryz.prog 24 #[.slice (some ⟨blk, 0, none⟩) len cap, .func (.func 25) #[] #[]] w fun e w' => e = .returned (.tuple #[]) ∧ (∃ Z, RowL w' blk Z ∧ Srt Z ∧ Eqv Z L) ∧ Fr blk w w' := by
  have hC := Lib.hid (c_stable blk cap len L hlen hsm hsz w h)
  clear h hlen hsm
  go_enter Tryz.func24, Tryz.ntmps24
  go_wp2_with (go_at_call 40; refine hC.out.mono ?_; rintro e w1 ⟨rfl, hZ, hfr⟩)
  go_end0
  exact ⟨rfl, hZ, hfr⟩
/-- nothing to sort: nothing is done -/
theorem c_ins0 (b : Option Addr) (cap : Nat) (w : World) :
    Calls Tryz.prog 49 #[.slice b 0 cap, .int .i64 0, .int .i64 0, .func (.func 25) #[] #[]] w fun e w' => e = .returned (.tuple #[]) ∧ w' = w := by
  go_enter Tryz.func49, Tryz.ntmps49
  go_wp2
  go_loopw [8] (fun vi wr => vi = .int .i64 1 ∧ wr = w) (fun _ _ => 0)
  case atStart => exact ⟨rfl, rfl⟩
  case round =>
    obtain ⟨rfl, rfl⟩ := hrel
    go_wp2
    go_end0
    exact ⟨rfl, rfl⟩
theorem c_stable0 (b : Option Addr) (cap : Nat) (w : World) :
    Calls Tryz.prog 40 #[.slice b 0 cap, .int .i64 0, .func (.func 25) #[] #[]] w fun e w' => e = .returned (.tuple #[]) ∧ w' = w := by
  go_enter Tryz.func40, Tryz.ntmps40
  go_wp2
  go_loopw [7, 8] (fun va vb wr => va = .int .i64 0 ∧ vb = .int .i64 20 ∧ wr = w) (fun va vb _ => 0)
  case atStart => exact ⟨rfl, rfl, rfl⟩
  case round =>
    obtain ⟨rfl, rfl, rfl⟩ := hrel
    go_wp2_with (go_at_call 49; refine (c_ins0 _ _ _).mono ?_; rintro e w1 ⟨rfl, rfl⟩)
    go_loopw [6] (fun vs wr2 => vs = .int .i64 20 ∧ wr2 = w1) (fun vs _ => 0)
    case atStart => exact ⟨rfl, rfl⟩
    case round =>
      obtain ⟨rfl, rfl⟩ := hrel
      go_wp2
      go_end0
      exact ⟨rfl, rfl⟩
theorem c_SortStable0 (b : Option Addr) (cap : Nat) (w : World) :
    Calls Tryz.prog 24 #[.slice b 0 cap, .func (.func 25) #[] #[]] w fun e w' => e = .returned (.tuple #[]) ∧ w' = w := by
  go_enter Tryz.func24, Tryz.ntmps24
  go_wp2_with (go_at_call 40; refine (c_stable0 _ _ _).mono ?_; rintro e w1 ⟨rfl, rfl⟩)
  go_end0
  exact ⟨rfl, rfl⟩
end Go.Proofs.YtbodfdmmfaampaaGreatDoor
