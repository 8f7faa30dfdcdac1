/-
  The contract of the laws' awake.
-/
import Derived.Test.YtbodfdmmfaampaaGreatDoorT2
namespace Go.Proofs.YtbodfdmmfaampaaGreatDoor
open Go.RowKit Go.Shelf Go.Lib Go.Sort Go.Proofs Go.Maps
set_option maxHeartbeats 1000000
set_option maxRecDepth 100000

/-- a text of few letters -/
def xs (l : List UInt8) : ByteArray := ⟨l.toArray⟩
def tx (l : List UInt8) : ByteArray := textU (codes (xs l))
theorem asc {l : List UInt8} (h : (l.all fun u => decide (u.toNat < 128)) = true) : ∀ u ∈ codes (xs l), u < 128 := by
  intro u hu
  simp [codes, xs] at hu
  obtain ⟨b, hb, rfl⟩ := hu
  simpa using List.all_eq_true.1 h b hb
theorem c_ascii {l : List UInt8} (h : (l.all fun u => decide (u.toNat < 128)) = true) (hl : l.length ≤ 1000) (w : World) :
    Calls Tryz.prog 10 #[.string (xs l)] w fun e w' => e = .returned (.string (tx l)) ∧ Below w.heap.size w w' :=
  c_AsciiR (xs l) (by show l.length ≤ _; omega) (asc h) w
theorem c_name {l : List UInt8} (h : (l.all fun u => decide (u.toNat < 128)) = true) (hl : l.length ≤ 1000) (w : World) :
    Calls Tryz.prog 12 #[.string (xs l)] w fun e w' => e = .returned (keyV (tx l) 0) ∧ Below w.heap.size w w' :=
  c_Name4 (xs l) (by show l.length ≤ _; omega) (asc h) w
theorem idx0 : idxOf (U (tx [52, 50, 57, 52, 57, 54, 55, 50, 57, 52])) = some 4294967294 := by decide +kernel
theorem idx1 : idxOf (U (tx [48, 49])) = none := by decide +kernel
def awL : List KK := [(tx [98], 0), (tx [50], 0), (tx [97], 0), (tx [49, 48], 0), (tx [49], 0)]
def awS : List KK := [(tx [49], 0), (tx [50], 0), (tx [49, 48], 0), (tx [98], 0), (tx [97], 0)]
theorem rkb : rk (tx [98], 0) = 4294967296 := by decide +kernel
theorem rka : rk (tx [97], 0) = 4294967296 := by decide +kernel
theorem rk2 : rk (tx [50], 0) = 2 := by decide +kernel
theorem rk10 : rk (tx [49, 48], 0) = 10 := by decide +kernel
theorem rk1 : rk (tx [49], 0) = 1 := by decide +kernel
theorem aw_srt : Srt awS := by
  simp [Srt, awS, rkb, rka, rk2, rk10, rk1]
theorem aw_eqv : Eqv awS awL := by
  intro r
  simp only [cls, awS, awL, List.filter_cons, List.filter_nil, rkb, rka, rk2, rk10, rk1, beq_iff_eq]
  by_cases h1 : 1 = r
  · subst h1; simp
  · by_cases h2 : 2 = r
    · subst h2; simp
    · by_cases h3 : 10 = r
      · subst h3; simp
      · simp [h1, h2, h3]
theorem aw_small : Small awL := by
  intro x hx
  simp [awL] at hx
  rcases hx with rfl | rfl | rfl | rfl | rfl <;> decide +kernel
theorem aw_same1 : sameK (tx [49]) (tx [49]) 0 0 = true := by decide +kernel
theorem aw_same2 : sameK (tx [98]) (tx [98]) 0 0 = true := by decide +kernel
theorem aw_even : evenB (tx [120]) = tx [120] := by decide +kernel
theorem TabS.keep {w w' : World} {B tb : Nat} {names syms : List ByteArray} (h : TabS w B tb names syms) (hb : Below w.heap.size w w') : TabS w' B tb names syms := by
  obtain ⟨bm, vn, vs, D, h1, h2, h3, h4, h5, h6, h7, h8⟩ := h
  refine ⟨bm, vn, vs, D, h1, h2, ?_, ?_, h5, ?_, ?_, h8⟩
  · rw [hb.block tb (heap_lt h3)]; exact h3
  · obtain ⟨es, c, g1, g2⟩ := h4
    exact ⟨es, c, by rw [hb.block bm (heap_lt g1)]; exact g1, g2⟩
  · exact h6.kept (row := none) ⟨hb.os, hb.tape, hb.output, hb.size, fun k hk _ => hb.block k hk⟩ (by cases h : vn.ownBlock with | none => exact .inl rfl | some q => exact .inr (by simp))
  · exact h7.kept (row := none) ⟨hb.os, hb.tape, hb.output, hb.size, fun k hk _ => hb.block k hk⟩ (by cases h : vs.ownBlock with | none => exact .inl rfl | some q => exact .inr (by simp))
/-- what the test at the end sees: the row of keys and the table -/
def AwS (B tb : Nat) (b o : Nat) (w y : World) : Prop :=
  (y.cell? ⟨b, o, none⟩ = some (.string (tx [49])) ∧ y.cell? ⟨b, o + 1, none⟩ = some (.int .i64 0) ∧ y.cell? ⟨b, o + 6, none⟩ = some (.string (tx [98])) ∧ y.cell? ⟨b, o + 6 + 1, none⟩ = some (.int .i64 0)) ∧
  b < B ∧ B ≤ y.heap.size ∧ Below B w y ∧ (TabS y B tb [] [] ∨ TabS y B tb [tx [120]] [])
theorem AwS.step {B tb b o : Nat} {w y y' : World} (h : AwS B tb b o w y) (hb : Below B y y') (ht : TabS y' B tb [] [] ∨ TabS y' B tb [tx [120]] []) : AwS B tb b o w y' := by
  obtain ⟨⟨h1, h2, h3, h4⟩, h5, h6, h7, h8⟩ := h
  refine ⟨⟨?_, ?_, ?_, ?_⟩, h5, Nat.le_trans h6 hb.size, h7.trans hb, ht⟩
  · rw [hb.cell (p := ⟨b, o, none⟩) h5]; exact h1
  · rw [hb.cell (p := ⟨b, o + 1, none⟩) h5]; exact h2
  · rw [hb.cell (p := ⟨b, o + 6, none⟩) h5]; exact h3
  · rw [hb.cell (p := ⟨b, o + 6 + 1, none⟩) h5]; exact h4
theorem AwS.keep {B tb b o : Nat} {w y y' : World} (h : AwS B tb b o w y) (hb : Below y.heap.size y y') : AwS B tb b o w y' :=
  h.step (hb.mono h.2.2.1) (h.2.2.2.2.imp (fun h => h.keep hb) (fun h => h.keep hb))
theorem c_internAw {B tb b o : Nat} {w y : World} (h : AwS B tb b o w y) :
    Calls Tryz.prog 14 #[.pointer (some ⟨tb, 0, none⟩), .string (tx [120])] y fun e y' => e = .returned (.int .i64 0) ∧ AwS B tb b o w y' := by
  have hsz : (tx [120]).size ≤ 1099511627776 := by decide +kernel
  rcases h.2.2.2.2 with ht | ht
  · refine (c_Intern B tb [] [] (tx [120]) hsz (by simp) y h.2.2.1 ht).mono ?_
    rintro e y' ⟨i, names', rfl, h1, h2, ⟨rfl, h3⟩ | ⟨h3, rfl, rfl⟩⟩
    · simp at h3
    · rw [aw_even] at h1
      exact ⟨rfl, h.step h2 (.inr h1)⟩
  · refine (c_Intern B tb [tx [120]] [] (tx [120]) hsz (by simp) y h.2.2.1 ht).mono ?_
    rintro e y' ⟨i, names', rfl, h1, h2, ⟨rfl, h3⟩ | ⟨h3, rfl, rfl⟩⟩
    · have hi := (List.getElem?_eq_some_iff.1 h3).1
      simp at hi
      subst hi
      exact ⟨rfl, h.step h2 (.inr h1)⟩
    · rw [aw_even] at h3; simp at h3
theorem rdk_block {w : World} {b : Nat} {l : List KK} {cs : Array Value} {t : TypeId} {fr : Nat × Nat} (h : w.heap[b]? = some (.cells cs t fr)) (hcs : cs.toList = flatK l) : RdK w (.slice (some ⟨b, 0, none⟩) l.length l.length) l := by
  refine .inr ⟨_, _, rfl, Nat.le_refl _, fun k x hx => ?_⟩
  obtain ⟨q1, q2⟩ := flatK_get l k x hx
  rw [← hcs, Array.getElem?_toList] at q1 q2
  refine ⟨rfl, ?_, ?_⟩
  · rw [cell_of_row w b _ _ _ _ h]; simpa using q1
  · rw [cell_of_row w b _ _ _ _ h]; simpa using q2
theorem aw_S {B tb b o : Nat} {w y : World} (h : AwS B tb b o w y) : y.cell? ⟨b, o, none⟩ = some (.string (tx [49])) ∧ y.cell? ⟨b, o + 1, none⟩ = some (.int .i64 0) ∧ y.cell? ⟨b, o + 6, none⟩ = some (.string (tx [98])) ∧ y.cell? ⟨b, o + 6 + 1, none⟩ = some (.int .i64 0) ∧ AwS B tb b o w y := ⟨h.1.1, h.1.2.1, h.1.2.2.1, h.1.2.2.2, h⟩
theorem aw_keep {B tb b o : Nat} {w y y' : World} (h : y.cell? ⟨b, o, none⟩ = some (.string (tx [49])) ∧ y.cell? ⟨b, o + 1, none⟩ = some (.int .i64 0) ∧ y.cell? ⟨b, o + 6, none⟩ = some (.string (tx [98])) ∧ y.cell? ⟨b, o + 6 + 1, none⟩ = some (.int .i64 0) ∧ AwS B tb b o w y) (hb : Below y.heap.size y y') :
    y'.cell? ⟨b, o, none⟩ = some (.string (tx [49])) ∧ y'.cell? ⟨b, o + 1, none⟩ = some (.int .i64 0) ∧ y'.cell? ⟨b, o + 6, none⟩ = some (.string (tx [98])) ∧ y'.cell? ⟨b, o + 6 + 1, none⟩ = some (.int .i64 0) ∧ AwS B tb b o w y' := aw_S (h.2.2.2.2.keep hb)
theorem c_awake (w : World) : Calls Tryz.prog 4 #[] w fun e w' => e = .returned (.bool true) ∧ Below w.heap.size w w' := by
  have hA0 : ∀ y : World, RowKit.Hid (Calls Tryz.prog 10 #[.string ⟨#[52, 50, 57, 52, 57, 54, 55, 50, 57, 52]⟩] y fun e w' => e = .returned (.string (tx [52, 50, 57, 52, 57, 54, 55, 50, 57, 52])) ∧ Below y.heap.size y w') := fun y => Lib.hid (c_ascii (l := [52, 50, 57, 52, 57, 54, 55, 50, 57, 52]) rfl (by decide) y)
  have hA1 : ∀ y : World, RowKit.Hid (Calls Tryz.prog 10 #[.string ⟨#[48, 49]⟩] y fun e w' => e = .returned (.string (tx [48, 49])) ∧ Below y.heap.size y w') := fun y => Lib.hid (c_ascii (l := [48, 49]) rfl (by decide) y)
  have hAx : ∀ y : World, RowKit.Hid (Calls Tryz.prog 10 #[.string ⟨#[120]⟩] y fun e w' => e = .returned (.string (tx [120])) ∧ Below y.heap.size y w') := fun y => Lib.hid (c_ascii (l := [120]) rfl (by decide) y)
  have hNb : ∀ y : World, RowKit.Hid (Calls Tryz.prog 12 #[.string ⟨#[98]⟩] y fun e w' => e = .returned (.agg #[.string (tx [98]), .int .i64 0]) ∧ Below y.heap.size y w') := fun y => Lib.hid (c_name (l := [98]) rfl (by decide) y)
  have hN2 : ∀ y : World, RowKit.Hid (Calls Tryz.prog 12 #[.string ⟨#[50]⟩] y fun e w' => e = .returned (.agg #[.string (tx [50]), .int .i64 0]) ∧ Below y.heap.size y w') := fun y => Lib.hid (c_name (l := [50]) rfl (by decide) y)
  have hNa : ∀ y : World, RowKit.Hid (Calls Tryz.prog 12 #[.string ⟨#[97]⟩] y fun e w' => e = .returned (.agg #[.string (tx [97]), .int .i64 0]) ∧ Below y.heap.size y w') := fun y => Lib.hid (c_name (l := [97]) rfl (by decide) y)
  have hN10 : ∀ y : World, RowKit.Hid (Calls Tryz.prog 12 #[.string ⟨#[49, 48]⟩] y fun e w' => e = .returned (.agg #[.string (tx [49, 48]), .int .i64 0]) ∧ Below y.heap.size y w') := fun y => Lib.hid (c_name (l := [49, 48]) rfl (by decide) y)
  have hN1 : ∀ y : World, RowKit.Hid (Calls Tryz.prog 12 #[.string ⟨#[49]⟩] y fun e w' => e = .returned (.agg #[.string (tx [49]), .int .i64 0]) ∧ Below y.heap.size y w') := fun y => Lib.hid (c_name (l := [49]) rfl (by decide) y)
  have hI0 := fun y => Lib.hid (c_Index (tx [52, 50, 57, 52, 57, 54, 55, 50, 57, 52]) (by decide +kernel) y)
  have hI1 := fun y => Lib.hid (c_Index (tx [48, 49]) (by decide +kernel) y)
  rw [idx0] at hI0
  rw [idx1] at hI1
  unfold idxV at hI0 hI1
  have hO := fun (v : Value) (y : World) (h : RdK y v awL) => Lib.hid (c_Order v awL (by decide) aw_small y h)
  have hS1 := fun y => Lib.hid (c_Same4 (tx [49]) (tx [49]) 0 0 (by decide +kernel) (by decide +kernel) y)
  have hS2 := fun y => Lib.hid (c_Same4 (tx [98]) (tx [98]) 0 0 (by decide +kernel) (by decide +kernel) y)
  rw [aw_same1] at hS1
  rw [aw_same2] at hS2
  unfold keyV at hS1 hS2
  have hint := fun (B tb b o : Nat) (w y : World) (h : AwS B tb b o w y) => Lib.hid (c_internAw h)
  generalize tx [52, 50, 57, 52, 57, 54, 55, 50, 57, 52] = T0 at hA0 hA1 hI0 hI1
  generalize tx [48, 49] = T1 at hA0 hA1 hI0 hI1
  simp only [Option.getD, Option.isSome] at hI0 hI1
  go_enter Tryz.func4, Tryz.ntmps4
  go_wp2_with (first | (go_at_call 10; with_reducible refine (hA0 _).out.mono ?_; rintro e w1 ⟨rfl, hb1⟩) | (go_at_call 5; with_reducible refine (hI0 _).out.mono ?_; rintro e w2 ⟨rfl, hb2⟩) | (go_at_call 10; with_reducible refine (hA1 _).out.mono ?_; rintro e w3 ⟨rfl, hb3⟩) | (go_at_call 5; with_reducible refine (hI1 _).out.mono ?_; rintro e w4 ⟨rfl, hb4⟩) | (go_at_call 12; with_reducible refine (hNb _).out.mono ?_; rintro e w5 ⟨rfl, hb5⟩) | (go_at_call 12; with_reducible refine (hN2 _).out.mono ?_; rintro e w6 ⟨rfl, hb6⟩) | (go_at_call 12; with_reducible refine (hNa _).out.mono ?_; rintro e w7 ⟨rfl, hb7⟩) | (go_at_call 12; with_reducible refine (hN10 _).out.mono ?_; rintro e w8 ⟨rfl, hb8⟩) | (go_at_call 12; with_reducible refine (hN1 _).out.mono ?_; rintro e w9 ⟨rfl, hb9⟩))
  have hrd := rdk_block (l := awL) (heap_alloc_new w9 (.cells #[.string (tx [98]), .int .i64 0, .string (tx [50]), .int .i64 0, .string (tx [97]), .int .i64 0, .string (tx [49, 48]), .int .i64 0, .string (tx [49]), .int .i64 0] 29)) rfl
  refine (hO _ _ hrd).out.mono ?_
  rintro e w10 ⟨v', Z, rfl, hrd2, hs, he, hb10⟩
  obtain rfl : Z = awS := srt_eqv_eq hs aw_srt (he.trans aw_eqv.symm)
  obtain ⟨p, c, rfl, _, hc, hcell⟩ := hrd2.form
  obtain ⟨b, o, rfl, hB, hy⟩ := hcell 0 _ rfl
  obtain ⟨b2, o2, e2, _, hy2⟩ := hcell 3 _ rfl
  obtain ⟨rfl, rfl⟩ : b = b2 ∧ o = o2 := by injection e2 with e2; injection e2 with e3 e4; exact ⟨e3, e4⟩
  have hbw : Below w.heap.size w w10 := below_after (below_after (below_after (below_after (below_after (below_after (below_after (below_after (below_after (below_after hb1 hb2) hb3) hb4) hb5) hb6) hb7) hb8) hb9) ((Below.refl _ w9).alloc (Nat.le_refl _) _)) hb10
  clear hrd hrd2 hs he hcell e2
  replace hy := Lib.hid hy
  replace hy2 := Lib.hid hy2
  have hbw := Lib.hid hbw
  clear hA0 hA1 hN2 hNa hN10 hI0 hI1 hO hb1 hb2 hb3 hb4 hb5 hb6 hb7 hb8 hb9 hb10
  go_wp2_with (go_at_call 13; refine (c_New _).mono ?_; rintro e w11 ⟨rfl, htab, hb11⟩)
  have hS0 : AwS w10.heap.size (w10.heap.size + 1) b o w10 w11 := by
    obtain ⟨g1, g2⟩ := hy.out w11 hb11
    obtain ⟨g3, g4⟩ := hy2.out w11 hb11
    exact ⟨⟨by simpa [awS] using g1, by simpa [awS] using g2, by simpa [awS] using g3, by simpa [awS] using g4⟩, hB, hb11.size, hb11, .inl htab⟩
  clear hy hy2 htab
  have hS1' := aw_S hS0
  have h5 : awS.length = 5 := rfl
  rw [h5]
  generalize htb : w10.heap.size + 1 = tb at *
  generalize hBB : w10.heap.size = BB at *
  replace hBB := Lib.hid hBB
  clear hc h5 hB hb11 htb hS0
  have hS0 : w11.drew.cell? ⟨b, o, none⟩ = some (.string (tx [49])) ∧ w11.drew.cell? ⟨b, o + 1, none⟩ = some (.int .i64 0) ∧ w11.drew.cell? ⟨b, o + 6, none⟩ = some (.string (tx [98])) ∧ w11.drew.cell? ⟨b, o + 6 + 1, none⟩ = some (.int .i64 0) ∧ AwS BB tb b o w10 w11.drew := ⟨hS1'.1, hS1'.2.1, hS1'.2.2.1, hS1'.2.2.2.1, hS1'.2.2.2.2.keep (Below.refl _ _).drew⟩
  clear hS1'
  go_region_held3 (fun y => y.cell? ⟨b, o, none⟩ = some (.string (tx [49])) ∧ y.cell? ⟨b, o + 1, none⟩ = some (.int .i64 0) ∧ y.cell? ⟨b, o + 6, none⟩ = some (.string (tx [98])) ∧ y.cell? ⟨b, o + 6 + 1, none⟩ = some (.int .i64 0) ∧ AwS BB tb b o w10 y) (first | assumption | exact aw_S (by assumption) | exact aw_keep (by assumption) (by assumption)) (first | (go_at_call 12; with_reducible refine (hN1 _).out.mono ?_; rintro e y' ⟨rfl, hb⟩) | (go_at_call 12; with_reducible refine (hNb _).out.mono ?_; rintro e y' ⟨rfl, hb⟩) | (go_at_call 10; with_reducible refine (hAx _).out.mono ?_; rintro e y' ⟨rfl, hb⟩) | (go_at_call 7; with_reducible refine (hS1 _).out.mono ?_; rintro e y' ⟨rfl, hb⟩) | (go_at_call 7; with_reducible refine (hS2 _).out.mono ?_; rintro e y' ⟨rfl, hb⟩) | (go_at_call 14; refine (hint _ _ _ _ _ _ (And.right (And.right (And.right (And.right (by assumption)))))).out.mono ?_; rintro e y' ⟨rfl, hb⟩))
  have hfin := Lib.hid (below_after hbw.out (hb.2.2.2.1.mono (Nat.le_of_eq hBB.out)))
  go_wp2
  go_ret
  exact ⟨rfl, hfin.out⟩
end Go.Proofs.YtbodfdmmfaampaaGreatDoor
