/-
  DigitsBlanks: blanks are those of the document, and are taken off at both ends (the card ties the library's tables to its text).
-/
import Derived.Test.YtbakbikilbaafaaGreatDoorZ14
import Derived.Test.YtbakbikilbaafaaGreatDoorRows
import Derived.Lib.LaidU8
import Derived.Lib.LaidPrint
import Derived.Shelf.Vars
import Derived.OpenShut
import Derived.MakeChecks
import Derived.Test.YtbakbikilbaafaaGreatDoorCards
import Derived.Test.YtbakbikilbaafaaGreatDoorTie
import Derived.ProofKit
import Derived.Laws.Cover2
import Derived.Lay
import Derived.Deep.DeepHandedRow
import Derived.ChangeMaps5
import Derived.LaidMore
import Derived.SevenTiedAt
import Derived.JoinedCond
namespace Go.Proofs.YtbakbikilbaafaaGreatDoor
open Go.RowKit F64 Ieee
set_option linter.unusedVariables false
set_option maxHeartbeats 4000000
set_option maxRecDepth 100000

theorem aw_sticky (w : World) : Calls Tryz.prog 76 #[.string (u8sG [49, 70]), .int .i64 16] w fun r w' => r = .returned (.float .f64 4629418941960159232) ∧ Below w.heap.size w w' := by
  have h := c_dsticky1 [49, 70] 16 31 59 (by decide) (by decide) (by decide) (by decide) (by decide +kernel) (by decide) (by decide +kernel) (by decide) (by decide) w
  have e : wEK (1085 - ((59 : Nat) : Int)) (rnd (31 * 2 ^ 59)) = 4629418941960159232 := by decide +kernel
  rw [e] at h
  exact h
theorem aw_read (w : World) : Calls Tryz.prog 16 #[.string (textU [32, 48, 120, 49, 70, 32])] w fun r w' => r = .returned (.float .f64 4629418941960159232) ∧ Below w.heap.size w w' := by
  refine c_dReadH (textU [32, 48, 120, 49, 70, 32]) 1 5 [48, 120, 49, 70] 16 4629418941960159232 (by decide +kernel) ⟨by decide +kernel, ?_, ?_⟩ ⟨by decide +kernel, by decide +kernel, ?_, ?_⟩ (by decide +kernel) (by decide) (by decide) (by decide +kernel) (by decide) (by decide) (by decide +kernel) (by decide) w ?_
  · intro i hi
    obtain rfl : i = 0 := by omega
    decide +kernel
  · intro _; decide +kernel
  · intro i h1 h2
    have h2' : i < 6 := Nat.lt_of_lt_of_eq h2 (by decide +kernel)
    obtain rfl : i = 5 := by omega
    decide +kernel
  · intro _; decide +kernel
  · intro W _
    exact c_dexactS _ 16 _ (by decide) (by decide) W (aw_sticky W)
theorem aw_blank (w : World) : Calls Tryz.prog 12 #[.int .u16 32] w fun r w' => r = .returned (.bool true) ∧ w = w' := c_dBlank 32 (by decide) w
/-- 0.1 and 1e21 as they are shown -/
theorem sci_01 : IsSci 4591870180066957722 1 1 (-1) := ⟨16, ⟨by decide, by decide +kernel, by decide +kernel⟩, by decide, by decide, by decide, by decide +kernel, by decide, by decide +kernel⟩
theorem sci_1e21 : IsSci 4921056587992461136 1 1 21 := ⟨16, ⟨by decide, by decide +kernel, by decide +kernel⟩, by decide, by decide, by decide, by decide +kernel, by decide, by decide +kernel⟩
theorem txt_01 : txtG 1 1 (-1) = [48, 46, 49] := by decide +kernel
theorem txt_1e21 : txtG 1 1 21 = [49, 101, 43, 50, 49] := by decide +kernel
theorem aw_show01 (w : World) (hL : LibW w) : Calls Tryz.prog 10 #[.float .f64 4591870180066957722] w fun r w' => r = .returned (.string (textU [48, 46, 49])) ∧ Below w.heap.size w w' := by
  have h := c_dShow (by decide) (ShowT.pos (by decide) (by decide) sci_01 (by decide) (by decide) (by decide) (by decide)) w hL
  rw [txt_01] at h
  exact h
theorem aw_show1e21 (w : World) (hL : LibW w) : Calls Tryz.prog 10 #[.float .f64 4921056587992461136] w fun r w' => r = .returned (.string (textU [49, 101, 43, 50, 49])) ∧ Below w.heap.size w w' := by
  have h := c_dShow (by decide) (ShowT.pos (by decide) (by decide) sci_1e21 (by decide) (by decide) (by decide) (by decide)) w hL
  rw [txt_1e21] at h
  exact h
end Go.Proofs.YtbakbikilbaafaaGreatDoor
namespace Go.Proofs.YtbakbikilbaafaaGreatDoor
open Go.RowKit F64 Ieee
set_option linter.unusedVariables false
set_option maxHeartbeats 4000000
set_option maxRecDepth 100000

theorem nv_12 : nv 12 0 = 4622945017495814144 := nv_of (a := V 4622945017495814144 * 1) (b := 1) (by decide) (near_V (r := 4622945017495814144) (b := 1) (by decide) (by decide)) (by decide +kernel)
theorem nv_1500 : nv 15 2 = 4654311885213007872 := nv_of (a := V 4654311885213007872 * 1) (b := 1) (by decide) (near_V (r := 4654311885213007872) (b := 1) (by decide) (by decide)) (by decide +kernel)
theorem aw_pf12 (w : World) (hL : LibW w) : Calls Tryz.prog 75 #[.string (u8sG [49, 50]), .int .i64 64] w fun r w' => PfR 4622945017495814144 r ∧ Below w.heap.size w w' := by
  refine c_ParseFloat (u8sG [49, 50]) _ w hL (by decide) ?_
  have h := c_atofN (u8sG [49, 50]) 12 0 49 (by decide) (by decide) (by decide) (by decide) (by decide) (by decide) w hL (fun W => by
    have h := c_readI [49, 50] (u8sG [49, 50]) (by decide) (by decide) (by decide) (by decide) (fun j c h1 h2 => uG_get [49, 50] j c h1 (by
      have := List.mem_of_getElem? h1; simp at this; omega) h2) W
    have e1 : (rfF [49, 50]).m = 12 := by decide +kernel
    have e2 : expI (rfF [49, 50]) = 0 := by decide +kernel
    have e3 : (rfF [49, 50]).tr = false := by decide +kernel
    rw [e1, e2, e3] at h
    exact h)
  rw [if_neg (by decide), nv_12] at h
  exact h
theorem aw_pf1500 (w : World) (hL : LibW w) : Calls Tryz.prog 75 #[.string (u8sG [48, 46, 49, 53, 101, 52]), .int .i64 64] w fun r w' => PfR 4654311885213007872 r ∧ Below w.heap.size w w' := by
  refine c_ParseFloat (u8sG [48, 46, 49, 53, 101, 52]) _ w hL (by decide) ?_
  have h := c_atofN (u8sG [48, 46, 49, 53, 101, 52]) 15 2 48 (by decide) (by decide) (by decide) (by decide) (by decide) (by decide) w hL (fun W => by
    have h := c_readEp [48, 46, 49, 53] [52] (u8sG [48, 46, 49, 53, 101, 52]) (by decide) (by decide) rfl rfl (fun k hk => by
        have : k < 4 := (List.getElem?_eq_some_iff.1 hk).1
        rcases k with _ | _ | _ | _ | k
        · simp at hk
        · decide +kernel
        · simp at hk
        · simp at hk
        · omega) (by decide) (by decide) (by decide) (by decide +kernel) (by decide +kernel) (by decide) (fun j c h1 h2 => uG_get [48, 46, 49, 53, 101, 52] j c h1 (by
      have := List.mem_of_getElem? h1; simp at this; omega) h2) W
    have e1 : (rfF [48, 46, 49, 53]).m = 15 := by decide +kernel
    have e2 : (rfF [48, 46, 49, 53]).dp + (evF [52] : Int) - ((rfF [48, 46, 49, 53]).nm : Int) = 2 := by decide +kernel
    have e3 : (rfF [48, 46, 49, 53]).tr = false := by decide +kernel
    rw [e1, e2, e3] at h
    exact h)
  rw [if_neg (by decide), nv_1500] at h
  exact h
end Go.Proofs.YtbakbikilbaafaaGreatDoor
namespace Go.Proofs.YtbakbikilbaafaaGreatDoor
open Go.RowKit F64 Ieee
set_option linter.unusedVariables false
set_option maxHeartbeats 4000000
set_option maxRecDepth 100000

theorem aw_float (w : World) (hL : LibW w) : Calls Tryz.prog 45 #[.string (u8sG [49, 46, 53, 101, 51])] w fun r w' => r = .returned (.float .f64 4654311885213007872) ∧ Below w.heap.size w w' := by
  have h1 : ∀ b ∈ (u8sG [49, 46, 53, 101, 51]).data.toList, b.toNat < 128 := by decide +kernel
  have h2 : ∀ b ∈ (⟨#[101, 69]⟩ : ByteArray).data.toList, b.toNat < 128 := by decide +kernel
  have hIA := Lib.hid (fun W => s_IndexAny (u8sG [49, 46, 53, 101, 51]) ⟨#[101, 69]⟩ W (by decide) (by decide) (fun j b h => h1 b (List.mem_of_getElem? h)) (fun j b h => h2 b (List.mem_of_getElem? h)))
  have e1 : Lib.indexAny (u8sG [49, 46, 53, 101, 51]).data.toList (⟨#[101, 69]⟩ : ByteArray).data.toList = 3 := by decide +kernel
  rw [e1] at hIA
  have hLk := Lib.hid (fun W (hb : Below w.heap.size w W) => hL.keep hb)
  have hCut := Lib.hid (fun W (hW : LibW W) => by
    obtain ⟨ml, hml⟩ := hW.ml
    have h := s_Cut (u8sG [49, 46, 53]) ⟨#[46]⟩ ml W (by decide) hml
    have e2 : Lib.cut (u8sG [49, 46, 53]).data.toList (⟨#[46]⟩ : ByteArray).data.toList = ([49], [53], true) := by decide +kernel
    rw [e2] at h
    exact h)
  have hTL := Lib.hid (fun W => s_TrimLeft (u8sG [49, 53]) 48 (by decide) W)
  have e3 : Lib.trimLeftB (u8sG [49, 53]).data.toList 48 = [49, 53] := by decide +kernel
  rw [e3] at hTL
  have hSg := Lib.hid (fun W => c_dsigned [51] (by decide) (by decide) W)
  have hIt := Lib.hid (fun W hW => c_itoa 4 (by decide) W hW)
  have hPF := Lib.hid (fun W hW => aw_pf1500 W hW)
  replace hL := Lib.hid hL
  have hx1 : (u8sG [49, 46, 53, 101, 51]).extract 0 3 = u8sG [49, 46, 53] := by decide +kernel
  have hx2 : (u8sG [49, 46, 53, 101, 51]).extract 4 (u8sG [49, 46, 53, 101, 51]).size = u8sG [51] := by decide +kernel
  have hsz : (u8sG [49, 46, 53, 101, 51]).size = 5 := by decide
  have hx3 : (u8sG [49, 46, 53, 101, 51]).extract 4 5 = u8sG [51] := by decide +kernel
  replace hx2 := Lib.hid hx2
  have hd : u8sG [49] ++ u8sG [53] = u8sG [49, 53] := by decide +kernel
  have ht : (⟨#[48, 46]⟩ : ByteArray) ++ u8sG [49, 53] ++ ⟨#[101]⟩ ++ u8sG (itG 4) = u8sG [48, 46, 49, 53, 101, 52] := by decide +kernel
  clear e1 h1 h2
  generalize u8sG [49, 46, 53, 101, 51] = S at *
  have hCut : Hid (∀ W, LibW W → Calls Tryz.prog 61 #[.string (u8sG [49, 46, 53]), .string ⟨#[46]⟩] W fun e w' => e = .returned (.tuple #[.string (u8sG [49]), .string (u8sG [53]), .bool true]) ∧ ∃ n, w' = W.drewN n) := hCut
  have hTL : Hid (∀ W, Calls Tryz.prog 80 #[.string (u8sG [49, 53]), .string ⟨#[48]⟩] W fun e w' => e = .returned (.string (u8sG [49, 53])) ∧ w' = W) := hTL
  have hSg : Hid (∀ W, Calls Tryz.prog 42 #[.string (u8sG [51])] W fun r w' => r = .returned (.tuple #[.float .f64 4607182418800017408, .string (u8sG [51])]) ∧ ∃ n, w' = W.drewN n) := hSg
  clear e3
  have z1 : (u8sG [49]).size = 1 := by decide
  have z2 : (u8sG [53]).size = 1 := by decide
  have z3 : (u8sG [49, 53]).size = 2 := by decide
  have z4 : (u8sG [51]).size = 1 := by decide
  have z5 : (u8sG (itG 4)).size = 1 := by decide +kernel
  have z6 : (u8sG [49, 53]).toList.isEmpty = false := by decide +kernel
  have z7 : ∀ h : 0 < (u8sG [51]).size, ((u8sG [51])[0]'h).toNat = 51 := fun h => uG_get [51] 0 51 rfl (by decide) h
  replace ht := Lib.hid ht
  replace z7 := Lib.hid z7
  generalize u8sG [49] = A at *
  generalize u8sG [53] = B at *
  generalize u8sG [49, 53] = C at *
  generalize u8sG [49, 46, 53] = M at *
  generalize u8sG (itG 4) = I4 at *
  go_enter Tryz.func45, Tryz.ntmps45
  go_wp2_with fail
  refine (hIA.out _).mono ?_
  rintro e w1 ⟨rfl, hb1⟩
  go_wp2_with fail
  go_quiet (fail)
  go_wp2_with fail
  refine (hCut.out _ (hLk.out _ (below_drewN hb1 _))).mono ?_
  rintro e w2 ⟨rfl, q2, rfl⟩
  have hb2 := below_drewN (below_drewN hb1 nq) q2
  generalize (w1.drewN nq).drewN q2 = w3 at *
  clear hb1
  go_wp2_with fail
  refine (hTL.out _).mono ?_
  rintro e w4 ⟨rfl, rfl⟩
  go_wp2_with fail
  refine (hSg.out _).mono ?_
  rintro e w5 ⟨rfl, q4, rfl⟩
  go_wp2_with fail
  have hb5 : Below w.heap.size w (w4.drewN q4) := below_drewN hb2 q4
  have hs45 : (w4.drewN q4).heap.size = w4.heap.size := rfl
  have hbI : Below w.heap.size w ((w4.drewN q4).iter (u8sG [51]) 0) := hb5.alloc hb5.size _
  have hB5 : w.heap.size ≤ w4.heap.size := hb5.size
  have hit0 : ((w4.drewN q4).iter (u8sG [51]) 0).heap[w4.heap.size]? = some (.stringIter (u8sG [51]) 0) := World.iter_heap (w4.drewN q4) (u8sG [51]) 0
  clear hs45
  generalize hD : u8sG [51] = D at *
  have z8 : D.size = 1 := z4
  have z9 := z7
  clear z7 hsz hx1 hx2 hx3 hCut hIA hTL hSg hD
  go_loopw [10, 13] (fun v10 v13 wr => ∃ pos : Nat, (pos = 0 ∧ v10 = .int .i64 0 ∨ pos = 1 ∧ v10 = .int .i64 3) ∧ wr.heap[w4.heap.size]? = some (.stringIter D pos) ∧ Below w.heap.size w wr) (fun _ _ wr => 2 - wr.iterPos w4.heap.size)
  case atStart => exact ⟨0, .inl ⟨rfl, rfl⟩, hit0, hbI⟩
  case round =>
    obtain ⟨pos, h, hit, hbw⟩ := hrel
    rcases h with ⟨rfl, rfl⟩ | ⟨rfl, rfl⟩
    · have h0 : 0 < D.size := by omega
      have hnx : ∀ ty, (Instr.next (.pointer (some ⟨w4.heap.size, 0, none⟩)) true ty).run Tryz.prog wr = .ok (.tuple #[.bool true, .int .i64 0, .int .i32 51]) (wr.iterAt w4.heap.size D 1) := fun ty => by
        have := Lib.run_next_ascii_at (P := Tryz.prog) wr w4.heap.size D 0 ty hit h0 (by rw [z9.out h0]; decide)
        rw [z9.out h0] at this
        exact this
      have hit2 := Lib.iterAt_heap wr w4.heap.size D 0 1 hit
      have hbw2 := Lib.below_iterAt hbw (k := w4.heap.size) hB5 D 1
      have hm : wr.iterPos w4.heap.size = 0 := by simp [World.iterPos, hit]
      have hm2 : (wr.iterAt w4.heap.size D 1).iterPos w4.heap.size = 1 := by simp [World.iterPos, hit2]
      generalize wr.iterAt w4.heap.size D 1 = w6 at *
      clear hit hbw
      go_wp2_with fail
      go_roundw
      case rel => exact ⟨1, .inr ⟨rfl, rfl⟩, hit2, hbw2⟩
      case measure => rw [hm, hm2]; decide
    · have hnx : ∀ ty, (Instr.next (.pointer (some ⟨w4.heap.size, 0, none⟩)) true ty).run Tryz.prog wr = _ := fun ty => Lib.run_next_end_at wr w4.heap.size D 1 ty hit (by omega)
      have hI1 := Lib.hid (hIt.out wr (hLk.out _ hbw))
      have hcv : ∀ W, (convert 22 3 (.float .f64 4607182418800017408)).run Tryz.prog W = .ok (.int .i64 1) W := fun W => by kernel_rfl
      go_wp2_with fail
      refine hI1.out.mono ?_
      rintro e w7 ⟨rfl, hb7⟩
      have hbA := hbw.trans (hb7.mono hbw.size)
      have hP := Lib.hid (hPF.out w7 (hLk.out _ hbA))
      rw [← ht.out] at hP
      go_wp2_with fail
      refine hP.out.mono ?_
      rintro e w8 ⟨⟨er, rfl⟩, hb8⟩
      go_wp2_with fail
      go_ret
      exact ⟨rfl, hbA.trans (hb8.mono hbA.size)⟩
end Go.Proofs.YtbakbikilbaafaaGreatDoor
namespace Go.Proofs.YtbakbikilbaafaaGreatDoor
open Go.RowKit F64 Ieee
set_option linter.unusedVariables false
set_option maxHeartbeats 4000000
set_option maxRecDepth 100000

theorem aw_lit (w : World) (hL : LibW w) : Calls Tryz.prog 17 #[.string (u8sG [49, 46, 53, 101, 51, 59])] w fun r w' => r = .returned (.tuple #[.float .f64 4654311885213007872, .int .i64 5, .int .i64 0]) ∧ Below w.heap.size w w' := by
  have hPr := Lib.hid (fun W => c_dprefix [49, 46, 53, 101, 51, 59] (by decide) (by decide) W)
  rw [show preL [49, 46, 53, 101, 51, 59] = 0 by decide +kernel] at hPr
  have hDe := Lib.hid (fun W => c_ddecimal [49, 46, 53, 101, 51, 59] (by decide) (by decide) W)
  rw [show decN [49, 46, 53, 101, 51, 59] = 5 by decide +kernel] at hDe
  have hWo := Lib.hid (fun W => c_dworth 59 (by decide) W)
  rw [show wth 59 = 99 by decide +kernel] at hWo
  have hFl := Lib.hid (fun W hW => aw_float W hW)
  have hLk := Lib.hid (fun W (hb : Below w.heap.size w W) => hL.keep hb)
  replace hL := Lib.hid hL
  have hsz : (u8sG [49, 46, 53, 101, 51, 59]).size = 6 := by decide
  have g0 : ∀ h : 0 < (u8sG [49, 46, 53, 101, 51, 59]).size, ((u8sG [49, 46, 53, 101, 51, 59])[0]'h).toNat = 49 := fun h => uG_get _ 0 49 rfl (by decide) h
  have g5 : ∀ h : 5 < (u8sG [49, 46, 53, 101, 51, 59]).size, ((u8sG [49, 46, 53, 101, 51, 59])[5]'h).toNat = 59 := fun h => uG_get _ 5 59 rfl (by decide) h
  have hx : (u8sG [49, 46, 53, 101, 51, 59]).extract 0 5 = u8sG [49, 46, 53, 101, 51] := by decide +kernel
  generalize u8sG [49, 46, 53, 101, 51, 59] = S at *
  generalize u8sG [49, 46, 53, 101, 51] = T at *
  have hPr : Hid (∀ W, Calls Tryz.prog 37 #[.string S] W fun r w' => r = .returned (.int .i64 0) ∧ Below W.heap.size W w') := hPr
  have hDe : Hid (∀ W, Calls Tryz.prog 43 #[.string S] W fun r w' => r = .returned (.int .i64 5) ∧ Below W.heap.size W w') := hDe
  have hWo : Hid (∀ W, Calls Tryz.prog 46 #[.int .u8 59] W fun r w' => r = .returned (.int .i64 99) ∧ W = w') := hWo
  go_enter Tryz.func17, Tryz.ntmps17
  go_wp2_with fail
  refine (hPr.out _).mono ?_
  rintro e w1 ⟨rfl, hb1⟩
  go_wp2_with fail
  refine (hDe.out _).mono ?_
  rintro e w2 ⟨rfl, hb2⟩
  have hbA := hb1.trans (hb2.mono hb1.size)
  clear hb1 hb2
  go_wp2_with fail
  refine (hFl.out _ (hLk.out _ hbA)).mono ?_
  rintro e w3 ⟨rfl, hb3⟩
  have hbB := hbA.trans (hb3.mono hbA.size)
  clear hb3 hbA
  go_wp2_with (go_at_call 46; refine (hWo.out _).mono ?_; rintro e w' ⟨rfl, rfl⟩)
  go_ret3
  exact ⟨rfl, hbB⟩
theorem aw_whole (w : World) (hL : LibW w) : Calls Tryz.prog 24 #[.string (textU [49, 50, 112, 120]), .int .i64 10] w fun r w' => r = .returned (.float .f64 4622945017495814144) ∧ Below w.heap.size w w' := by
  have hs4 : (textU [49, 50, 112, 120]).size / 2 = 4 := by decide +kernel
  have hFr := Lib.hid (fun W => c_dfront (textU [49, 50, 112, 120]) 0 (by decide +kernel) ⟨by omega, fun i hi => by omega, fun _ => by decide +kernel⟩ W)
  have hLn := Lib.hid (fun W => c_ULen (textU [49, 50, 112, 120]) (by decide +kernel) W)
  have hCt := Lib.hid (fun W => c_UCutG (textU [49, 50, 112, 120]) 0 4 (by decide +kernel) (by omega) (by omega) W)
  rw [show (textU [49, 50, 112, 120]).extract (2 * 0) (2 * 4) = textU [49, 50, 112, 120] by decide +kernel] at hCt
  have hPl := Lib.hid (fun W => c_dplain (textU [49, 50, 112, 120]) (by decide +kernel) W)
  rw [show u8sG (plL (unitsN (textU [49, 50, 112, 120]) ((textU [49, 50, 112, 120]).size / 2))) = u8sG [49, 50, 112, 120] by decide +kernel] at hPl
  rw [hs4] at hLn
  have hSg := Lib.hid (fun W => c_dsigned [49, 50, 112, 120] (by decide) (by decide) W)
  have hPr := Lib.hid (fun W => c_dprefix [49, 50, 112, 120] (by decide) (by decide) W)
  rw [show preL [49, 50, 112, 120] = 0 by decide +kernel] at hPr
  have hDo := Lib.hid (fun W => c_ddigitsOf 10 W)
  have hRu := Lib.hid (fun b W h => c_drun [49, 50, 112, 120] (by decide) 0 10 b (by decide) (by decide) W h)
  rw [show runL 10 ([49, 50, 112, 120].drop 0) = 2 by decide +kernel] at hRu
  have hX := Lib.hid (fun W hW => c_dexact10 (u8sG [49, 50]) _ W (aw_pf12 W hW))
  have hLk := Lib.hid (fun W (hb : Below w.heap.size w W) => hL.keep hb)
  have hmul := fun w => run_float_arith (P := Tryz.prog) w .mul 22 .f64 4607182418800017408 4622945017495814144 4622945017495814144 (mul_one (by decide))
  replace hL := Lib.hid hL
  have hx : (u8sG [49, 50, 112, 120]).extract 0 2 = u8sG [49, 50] := by decide +kernel
  have hsz : (u8sG [49, 50, 112, 120]).size = 4 := by decide
  have hSg : Hid (∀ W, Calls Tryz.prog 42 #[.string (u8sG [49, 50, 112, 120])] W fun r w' => r = .returned (.tuple #[.float .f64 4607182418800017408, .string (u8sG [49, 50, 112, 120])]) ∧ ∃ n, w' = W.drewN n) := hSg
  generalize u8sG [49, 50, 112, 120] = S at *
  generalize u8sG [49, 50] = T at *
  generalize textU [49, 50, 112, 120] = X at *
  have hFr : Hid (∀ W, Calls Tryz.prog 29 #[.string X] W fun e w' => e = .returned (.int .i64 0) ∧ ∃ nq, w' = W.drewN nq) := hFr
  have hLn : Hid (∀ W, Calls Tryz.prog 30 #[.string X] W fun e w' => e = .returned (.int .i64 4) ∧ W = w') := hLn
  have hCt : Hid (∀ W, Calls Tryz.prog 32 #[.string X, .int .i64 0, .int .i64 4] W fun e w' => e = .returned (.string X) ∧ w' = W) := hCt
  have hPr : Hid (∀ W, Calls Tryz.prog 37 #[.string S] W fun r w' => r = .returned (.int .i64 0) ∧ Below W.heap.size W w') := hPr
  have hRu : Hid (∀ b W, W.cell? ⟨b, 0, none⟩ = some (.int .i64 10) → Calls Tryz.prog 38 #[.string S, .int .i64 0, DigF b] W fun r w' => r = .returned (.int .i64 2) ∧ Below W.heap.size W w') := hRu
  clear hs4
  go_enter Tryz.func24, Tryz.ntmps24
  go_wp2_with fail
  refine (hFr.out _).mono ?_
  rintro e w1 ⟨rfl, q1, rfl⟩
  go_wp2_with (go_at_call 30; refine (hLn.out _).mono ?_; rintro e w' ⟨rfl, rfl⟩)
  refine (hCt.out _).mono ?_
  rintro e w2 ⟨rfl, rfl⟩
  go_wp2_with fail
  refine (hPl.out _).mono ?_
  rintro e w3 ⟨rfl, hb3⟩
  have hbA : Below w.heap.size w w3 := (below_drewN (Below.refl _ w) q1).trans hb3
  clear hb3
  go_wp2_with fail
  refine (hSg.out _).mono ?_
  rintro e w4 ⟨rfl, q4, rfl⟩
  have hbB := below_drewN hbA q4
  generalize w3.drewN q4 = w5 at *
  go_wp2_with fail
  refine (hPr.out _).mono ?_
  rintro e w6 ⟨rfl, hb6⟩
  have hbC := hbB.trans (hb6.mono hbB.size)
  clear hb6 hbA hbB
  go_wp2_with fail
  refine (hDo.out _).mono ?_
  rintro e w7 ⟨rfl, hc7, hb7⟩
  have hbD := hbC.trans (hb7.mono hbC.size)
  have hR7 := Lib.hid (hRu.out _ _ hc7)
  clear hb7 hbC hc7
  go_wp2_with fail
  refine hR7.out.mono ?_
  rintro e w8 ⟨rfl, hb8⟩
  have hbE := hbD.trans (hb8.mono hbD.size)
  clear hb8 hbD
  go_wp2_with fail
  refine (hX.out _ (hLk.out _ hbE)).mono ?_
  rintro e w9 ⟨rfl, hb9⟩
  have hbF := hbE.trans (hb9.mono hbE.size)
  clear hb9 hbE
  go_wp2_with fail
  go_ret
  exact ⟨rfl, hbF⟩
end Go.Proofs.YtbakbikilbaafaaGreatDoor
namespace Go.Proofs.YtbakbikilbaafaaGreatDoor
open Go.RowKit F64 Ieee
set_option linter.unusedVariables false
set_option maxHeartbeats 4000000
set_option maxRecDepth 100000

theorem aw_ascii (L : List Nat) (hl : L.length ≤ 1000) (h : ∀ c ∈ L, c < 128) (w : World) : Calls Tryz.prog 19 #[.string (u8sG L)] w fun e w' => e = .returned (.string (textU L)) ∧ Below w.heap.size w w' := by
  have h2 := c_AsciiR (u8sG L) (by rw [uG_size]; omega) (by rw [codes_uG L h]; exact h) w
  rw [codes_uG L h] at h2
  exact h2
theorem c_awake3 (w : World) (hL : LibW w) : Calls Tryz.prog 9 #[] w fun e w' => e = .returned (.bool true) ∧ Below w.heap.size w w' := by
  have hLi := Lib.hid (fun W hW => (show Calls Tryz.prog 17 #[.string ⟨#[49, 46, 53, 101, 51, 59]⟩] W _ from aw_lit W hW))
  have hS1 := Lib.hid (fun W hW => aw_show01 W hW)
  have hS2 := Lib.hid (fun W hW => aw_show1e21 W hW)
  have hA1 := Lib.hid (fun W => (show Calls Tryz.prog 19 #[.string ⟨#[48, 46, 49]⟩] W _ from aw_ascii [48, 46, 49] (by decide) (by decide) W))
  have hA2 := Lib.hid (fun W => (show Calls Tryz.prog 19 #[.string ⟨#[49, 101, 43, 50, 49]⟩] W _ from aw_ascii [49, 101, 43, 50, 49] (by decide) (by decide) W))
  have hA3 := Lib.hid (fun W => (show Calls Tryz.prog 19 #[.string ⟨#[32, 48, 120, 49, 70, 32]⟩] W _ from aw_ascii [32, 48, 120, 49, 70, 32] (by decide) (by decide) W))
  have hA4 := Lib.hid (fun W => (show Calls Tryz.prog 19 #[.string ⟨#[49, 50, 112, 120]⟩] W _ from aw_ascii [49, 50, 112, 120] (by decide) (by decide) W))
  have hRd := Lib.hid (fun W => aw_read W)
  have hBl := Lib.hid (fun W => aw_blank W)
  have hWh := Lib.hid (fun W hW => aw_whole W hW)
  have hLk := Lib.hid (fun W (hb : Below w.heap.size w W) => hL.keep hb)
  have o1 : (FloatKind.f64.format.order 4629418941960159232 4629418941960159232 == some Ordering.eq) = true := by decide +kernel
  have o2 : (FloatKind.f64.format.order 4654311885213007872 4654311885213007872 == some Ordering.eq) = true := by decide +kernel
  have o3 : (FloatKind.f64.format.order 4622945017495814144 4622945017495814144 == some Ordering.eq) = true := by decide +kernel
  generalize textU [48, 46, 49] = a1 at *
  generalize textU [49, 101, 43, 50, 49] = a2 at *
  generalize textU [32, 48, 120, 49, 70, 32] = a3 at *
  generalize textU [49, 50, 112, 120] = a4 at *
  go_enter Tryz.func9, Tryz.ntmps9
  go_wp2_with fail
  refine (hLi.out _ hL).mono ?_
  rintro e w1 ⟨rfl, b1⟩
  go_wp2_with fail
  refine (hS1.out _ (hLk.out _ b1)).mono ?_
  rintro e w2 ⟨rfl, b2⟩
  have c2 := b1.trans (b2.mono b1.size)
  clear b1 b2
  go_wp2_with fail
  refine (hA1.out _).mono ?_
  rintro e w3 ⟨rfl, b3⟩
  have c3 := c2.trans (b3.mono c2.size)
  clear c2 b3
  go_wp2_with fail
  refine (hS2.out _ (hLk.out _ c3)).mono ?_
  rintro e w4 ⟨rfl, b4⟩
  have c4 := c3.trans (b4.mono c3.size)
  clear c3 b4
  go_wp2_with fail
  refine (hA2.out _).mono ?_
  rintro e w5 ⟨rfl, b5⟩
  have c5 := c4.trans (b5.mono c4.size)
  clear c4 b5
  go_wp2_with fail
  refine (hA3.out _).mono ?_
  rintro e w6 ⟨rfl, b6⟩
  have c6 := c5.trans (b6.mono c5.size)
  clear c5 b6
  go_wp2_with fail
  refine (hRd.out _).mono ?_
  rintro e w7 ⟨rfl, b7⟩
  have c7 := c6.trans (b7.mono c6.size)
  clear c6 b7
  go_wp2_with (go_at_call 12; refine (hBl.out _).mono ?_; rintro e w' ⟨rfl, rfl⟩)
  refine (hA4.out _).mono ?_
  rintro e w8 ⟨rfl, b8⟩
  have c8 := c7.trans (b8.mono c7.size)
  clear c7 b8
  go_wp2_with fail
  refine (hWh.out _ (hLk.out _ c8)).mono ?_
  rintro e w9 ⟨rfl, b9⟩
  have c9 := c8.trans (b9.mono c8.size)
  go_wp2_with fail
  go_ret
  exact ⟨rfl, c9⟩
end Go.Proofs.YtbakbikilbaafaaGreatDoor
namespace Go.Proofs.YtbakbikilbaafaaGreatDoor
open Go.RowKit F64 Ieee
set_option linter.unusedVariables false
set_option maxHeartbeats 4000000
set_option maxRecDepth 100000

theorem c_LShow (x : Nat) (hx : x < 18446744073709551616) (w : World) (hL : LibW w) : Calls Tryz.prog 3 #[.float .f64 x] w fun e w' => e = .returned (.bool true) ∧ Below w.heap.size w w' := by
  obtain ⟨L, hT⟩ := showT_ex x hx
  have hA := Lib.hid (c_awake3 w hL)
  have h1 := Lib.hid (fun W hW => c_dShow hx hT W hW)
  have h2 := Lib.hid (fun W hW => c_RShow hx hT W hW)
  have hLk := Lib.hid (fun W (hb : Below w.heap.size w W) => hL.keep hb)
  generalize textU L = T at *
  clear hT
  go_enter Tryz.func3, Tryz.ntmps3
  go_wp2_with fail
  refine hA.out.mono ?_
  rintro e w1 ⟨rfl, b1⟩
  go_wp2_with fail
  refine (h1.out _ (hLk.out _ b1)).mono ?_
  rintro e w2 ⟨rfl, b2⟩
  have c2 := b1.trans (b2.mono b1.size)
  clear b1 b2
  go_wp2_with fail
  refine (h2.out _ (hLk.out _ c2)).mono ?_
  rintro e w3 ⟨rfl, b3⟩
  have c3 := c2.trans (b3.mono c2.size)
  go_wp2_with fail
  go_ret
  exact ⟨rfl, c3⟩
end Go.Proofs.YtbakbikilbaafaaGreatDoor
namespace Go.Proofs.YtbakbikilbaafaaGreatDoor
open Go.RowKit F64 Ieee
set_option linter.unusedVariables false
set_option maxHeartbeats 4000000
set_option maxRecDepth 100000

theorem ub_cut (s : ByteArray) (a b i : Nat) (h : a + i < b) (hb : b ≤ s.size) : ub (s.extract a b) i = ub s (a + i) := by
  unfold ub
  rw [ByteArray.data_extract, Array.toList_extract, List.extract_eq_take_drop]
  congr 1
  rw [List.getD_eq_getElem?_getD, List.getD_eq_getElem?_getD, List.getElem?_take, if_pos (by omega), List.getElem?_drop]
theorem unit_cut (s : ByteArray) (k t i : Nat) (h : k + i < t) (ht : t ≤ s.size / 2) : unitAt (s.extract (2 * k) (2 * t)) i = unitAt s (k + i) := by
  unfold unitAt
  rw [ub_cut s _ _ _ (by omega) (by omega), ub_cut s _ _ _ (by omega) (by omega)]
  rw [show 2 * k + 2 * i = 2 * (k + i) by omega, show 2 * k + (2 * i + 1) = 2 * (k + i) + 1 by omega]
theorem cut_size (s : ByteArray) (k t : Nat) (ht : t ≤ s.size / 2) : (s.extract (2 * k) (2 * t)).size = 2 * (t - k) := by
  rw [ByteArray.size_extract]; omega
theorem cut_self (R : ByteArray) (n : Nat) (h : R.size = 2 * n) : R.extract (2 * 0) (2 * n) = R := by
  rw [← h]; simp
theorem c_LBlanks0 (u : Nat) (hu : u < 65536) (s : ByteArray) (hs : s.size ≤ 1099511627776) (w : World) (hL : LibW w) : Calls Tryz.prog 4 #[.int .u16 (u : Int), .string s] w fun e w' => e = .returned (.bool true) ∧ Below w.heap.size w w' := by
  obtain ⟨k, hF⟩ := FrA.ex (blkS s) (s.size / 2)
  obtain ⟨t, hT⟩ := BkA.ex (blkS s) k (s.size / 2) hF.le
  have hsz := cut_size s k t hT.le
  have hF2 : FrA (blkS (s.extract (2 * k) (2 * t))) ((s.extract (2 * k) (2 * t)).size / 2) 0 := ⟨Nat.zero_le _, fun i hi => by omega, fun h => by
    unfold blkS
    rw [unit_cut s k t 0 (by omega) hT.le]
    exact hF.nd (by have := hT.le; omega)⟩
  have hT2 : BkA (blkS (s.extract (2 * k) (2 * t))) 0 ((s.extract (2 * k) (2 * t)).size / 2) (t - k) := ⟨Nat.zero_le _, by omega, fun i a b => by omega, fun h => by
    unfold blkS
    rw [unit_cut s k t (t - k - 1) (by omega) hT.le, show k + (t - k - 1) = t - 1 by omega]
    exact hT.nd (by omega)⟩
  have hA := Lib.hid (c_awake3 w hL)
  have hB1 := Lib.hid (fun W => c_dBlank u hu W)
  have hB2 := Lib.hid (fun W => c_RBlank u hu W)
  have hT1 := Lib.hid (fun W => c_dTrim s k t hs hF hT W)
  have hR1 := Lib.hid (fun W => c_RTrim s k t hs hF hT W)
  have hD2 := Lib.hid (fun W => c_dTrim (s.extract (2 * k) (2 * t)) 0 (t - k) (by rw [hsz]; have := hT.le; omega) hF2 hT2 W)
  rw [cut_self _ _ hsz] at hD2
  clear hF hT hF2 hT2 hsz hL
  generalize s.extract (2 * k) (2 * t) = R at *
  generalize blkN u = bb at *
  by_cases hg : 2000 < s.size
  · go_enter Tryz.func4, Tryz.ntmps4
    go_wp2_with fail
    refine hA.out.mono ?_
    rintro e w1 ⟨rfl, b1⟩
    go_wp2_with fail
    go_ret
    exact ⟨rfl, b1⟩
  · have hg2 : ¬ 2000 < (s.size : Int) := by omega
    go_enter Tryz.func4, Tryz.ntmps4
    go_wp2_with fail
    refine hA.out.mono ?_
    rintro e w1 ⟨rfl, b1⟩
    go_wp2_with (go_at_call 12; refine (hB1.out _).mono ?_; rintro e w' ⟨rfl, rfl⟩)
    refine (hB2.out _).mono ?_
    rintro e w2 ⟨rfl, b2⟩
    have c2 := b1.trans (b2.mono b1.size)
    clear b1 b2
    go_wp2_with fail
    refine (hT1.out _).mono ?_
    rintro e w3 ⟨rfl, q3, rfl⟩
    have c3 := below_drewN c2 q3
    clear c2
    go_wp2_with fail
    refine (hR1.out _).mono ?_
    rintro e w4 ⟨rfl, b4⟩
    have c4 := c3.trans (b4.mono c3.size)
    clear c3 b4
    go_wp2_with fail
    refine (hT1.out _).mono ?_
    rintro e w5 ⟨rfl, q5, rfl⟩
    go_wp2_with fail
    refine (hD2.out _).mono ?_
    rintro e w6 ⟨rfl, q6, rfl⟩
    go_wp2_with fail
    refine (hT1.out _).mono ?_
    rintro e w7 ⟨rfl, q7, rfl⟩
    go_wp2_with fail
    go_ret
    exact ⟨rfl, below_drewN c4 _⟩
theorem c_LBlanks (u : Nat) (hu : u < 65536) (s : ByteArray) (w : World) (hL : LibW w) : Calls Tryz.prog 4 #[.int .u16 (u : Int), .string s] w fun e w' => e = .returned (.bool true) ∧ Below w.heap.size w w' := by
  by_cases hg : 2000 < s.size
  · have hA := Lib.hid (c_awake3 w hL)
    have hg2 : 2000 < (s.size : Int) := by omega
    go_enter Tryz.func4, Tryz.ntmps4
    go_wp2_with fail
    refine hA.out.mono ?_
    rintro e w1 ⟨rfl, b1⟩
    go_wp2_with fail
    go_ret
    exact ⟨rfl, b1⟩
  · exact c_LBlanks0 u hu s (by omega) w hL
end Go.Proofs.YtbakbikilbaafaaGreatDoor
namespace Go.Proofs.YtbakbikilbaafaaGreatDoor
open Go.RowKit Go.Lib
set_option linter.unusedVariables false
set_option linter.unusedSimpArgs false
set_option maxHeartbeats 4000000
set_option maxRecDepth 100000

theorem slice_reads {P : Program} {w : World} {name : String} {g c : Nat} {t e : TypeId} {D : List (DataW Unit)} (hn : P.globalNamed name = some g) (hy : (P.globals[g]?).map (·.type) = some t)
    (ht : P.underlying t = some (.slice e)) (hce : P.cellsOf e = c) (hc : 0 < c) (hD : 0 < D.length) (E : Nat → List Value) (hE0 : ∀ i, (E i).length = c)
    (hE : ∀ (base : Nat) (sp : Nat → Bool) (held : Bool) (i m : Nat) (cs : List Value) (d : DataW Unit) (p : List MemPlace), D[i]? = some d → DataW.trod (fun _ => ()) P w base sp held m e cs = some (d, p) → cs = E i)
    (h : VarReads P w name (.slice D [])) : ∃ b o cap, w.cell? ⟨g, 0, none⟩ = some (.slice (some ⟨b, o, none⟩) D.length cap) ∧ ∀ (i j : Nat) (v : Value), i < D.length → (E i)[j]? = some v → w.cell? ⟨b, o + i * c + j, none⟩ = some v := by
  obtain ⟨g', t', cs, fuel, p, hg, hty, hvar, hd⟩ := h
  obtain rfl := Option.some.inj (hn.symm.trans hg)
  obtain rfl := Option.some.inj (hy.symm.trans hty)
  rcases DataW.trod_slice ht hd with ⟨_, hx⟩ | ⟨a, len, cap, el, rs, m, rfl, hcs, hx, _, hlc, _, hel, helem, hsp, _⟩
  · cases hx
  have e0 := congrArg Prod.fst hx
  simp only [DataW.slice.injEq] at e0
  obtain ⟨eE, eR⟩ := e0
  have hlen : len = D.length := by
    have := congrArg List.length eE
    simp at this
    omega
  have hcell : ∀ (i j : Nat) (v : Value), i < D.length → (E i)[j]? = some v → w.cell? ((a.add (i * c)).add j) = some v := by
    intro i j v hi hv
    have h1 := helem i (by omega)
    rw [hce] at h1
    obtain ⟨b, hb⟩ : ∃ b, el[i]? = some b := ⟨el[i]'(by omega), List.getElem?_eq_getElem (by omega)⟩
    rw [hb] at h1
    obtain ⟨ce, hcc, hte⟩ := Option.bind_eq_some_iff.1 h1
    have hdi : D[i]? = some b.1 := by rw [eE, List.getElem?_map, hb]; rfl
    have hEi := hE _ _ _ i _ ce b.1 b.2 hdi hte
    obtain ⟨_, _, hcell⟩ := World.cells?_some hcc
    have hj : j < c := by rw [← hE0 i]; exact (List.getElem?_eq_some_iff.1 hv).1
    rw [hcell j hj, hEi, hv]
  obtain ⟨R, o, sR⟩ := a
  have v0 : (E 0)[0]? = some ((E 0)[0]'(by rw [hE0]; exact hc)) := List.getElem?_eq_getElem _
  obtain rfl : sR = none := by
    have h00 := hcell 0 0 _ hD v0
    have : ((Addr.add ⟨R, o, sR⟩ (0 * c)).add 0) = ⟨R, o, sR⟩ := by simp [Addr.add]
    rw [this] at h00
    exact Go.Proofs.cell_spot h00
  refine ⟨R, o, cap, ?_, fun i j v hi hv => ?_⟩
  · rw [World.var?_cell hg hvar 0, ← Array.getElem?_toList, hcs, hlen]
    rfl
  · have := hcell i j v hi hv
    rw [Addr.add_lit, Addr.add_lit] at this
    exact this
theorem trod_lit {H : Type} {enc : TypeId × Value → H} {P : Program} {w : World} {base : Nat} {sp : Nat → Bool} {held : Bool} {fuel : Nat} {t : TypeId} {cs : List Value} {l : Lit} {p : List MemPlace}
    (h : DataW.trod enc P w base sp held fuel t cs = some (.lit l, p)) : cs = [l.value] := by
  cases fuel with
  | zero => simp [DataW.trod] at h
  | succ n =>
    unfold DataW.trod at h
    split at h
    all_goals first
      | (simp only [Option.some.injEq, Prod.mk.injEq, DataW.lit.injEq] at h; obtain ⟨rfl, _⟩ := h; rfl)
      | (split at h
         · simp only [Option.some.injEq, Prod.mk.injEq, DataW.lit.injEq] at h
           obtain ⟨rfl, _⟩ := h
           first | rfl | (simp_all [Lit.value])
         · cases h)
      | (simp [Option.map_eq_some_iff, Option.bind_eq_some_iff] at h; done)
      | (exfalso; revert h; simp [Option.map_eq_some_iff, Option.bind_eq_some_iff]; done)
      | (exfalso; revert h; split <;> simp [Option.map_eq_some_iff, Option.bind_eq_some_iff]; done)
      | (exfalso; revert h; split <;> (try split) <;> simp [Option.map_eq_some_iff, Option.bind_eq_some_iff])
theorem lits_of_struct {H : Type} {enc : TypeId × Value → H} {P : Program} {w : World} {base : Nat} {sp : Nat → Bool} {held : Bool} {fuel : Nat} {t : TypeId} {fs : Array Field} {cs : List Value} {ls : List Lit} {p : List MemPlace} (ht : P.underlying t = some (.struct fs))
    (hf : ∀ (i : Nat) (f : Field), fs[i]? = some f → f.offset = i ∧ P.cellsOf f.type = 1) (hct : P.cellsOf t = fs.size)
    (h : DataW.trod enc P w base sp held fuel t cs = some (.agg (ls.map fun z => .lit z), p)) : cs = ls.map Lit.value := by
  obtain ⟨xs, n, rfl, hx, hl, hxl, hall⟩ := DataW.trod_struct ht h
  have hxs : xs.map (·.1) = ls.map fun z => (DataW.lit z : DataW H) := by
    have := congrArg Prod.fst hx
    simpa using this.symm
  have hzl : ls.length = fs.size := by
    have := congrArg List.length hxs
    simp at this
    omega
  apply List.ext_getElem?
  intro i
  by_cases hi : i < fs.size
  · obtain ⟨ho, hc⟩ := hf i fs[i] (by simp [hi])
    have h1 := hall i fs[i] (by simp [hi])
    obtain ⟨b, hb⟩ : ∃ b, xs[i]? = some b := ⟨xs[i]'(by omega), List.getElem?_eq_getElem (by omega)⟩
    obtain ⟨z, hz⟩ : ∃ z, ls[i]? = some z := ⟨ls[i]'(by omega), List.getElem?_eq_getElem (by omega)⟩
    have h3 : (xs.map (·.1))[i]? = some (DataW.lit z : DataW H) := by rw [hxs, List.getElem?_map, hz]; rfl
    rw [List.getElem?_map, hb] at h3
    have h4 : b.1 = DataW.lit z := Option.some.inj h3
    rw [hb, ho, hc, show b = (DataW.lit z, b.2) by rw [← h4]] at h1
    have hcz := trod_lit h1
    have h2 : cs[i]? = some z.value := by
      have := congrArg (·[0]?) hcz
      simpa [List.getElem?_take, List.getElem?_drop] using this
    rw [h2, List.getElem?_map, hz]; rfl
  · rw [List.getElem?_eq_none (by omega), List.getElem?_eq_none (by simp; omega)]
def laidL : List (String × DataW Unit) := Rows.digitsShowRow.laid
theorem gPow : Tryz.prog.globalNamed "internal/strconv.pow10Tab" = some 12 := by kernel_rfl
theorem tPow : (Tryz.prog.globals[12]?).map (·.type) = some 238 := by kernel_rfl
theorem gP10 : Tryz.prog.globalNamed "internal/strconv.uint64pow10" = some 1 := by kernel_rfl
theorem tP10 : (Tryz.prog.globals[1]?).map (·.type) = some 161 := by kernel_rfl
theorem gFI : Tryz.prog.globalNamed "internal/strconv.float64info" = some 9 := by kernel_rfl
theorem tFI : (Tryz.prog.globals[9]?).map (·.type) = some 222 := by kernel_rfl
theorem gF10 : Tryz.prog.globalNamed "internal/strconv.float64pow10" = some 16 := by kernel_rfl
theorem tF10 : (Tryz.prog.globals[16]?).map (·.type) = some 247 := by kernel_rfl
theorem gPT : Tryz.prog.globalNamed "internal/strconv.powtab" = some 15 := by kernel_rfl
theorem tPT : (Tryz.prog.globals[15]?).map (·.type) = some 246 := by kernel_rfl
theorem gLC : Tryz.prog.globalNamed "internal/strconv.leftcheats" = some 13 := by kernel_rfl
theorem tLC : (Tryz.prog.globals[13]?).map (·.type) = some 242 := by kernel_rfl
theorem gOp : Tryz.prog.globalNamed "internal/strconv.optimize" = some 5 := by kernel_rfl
theorem tOp : (Tryz.prog.globals[5]?).map (·.type) = some 4 := by kernel_rfl
theorem gEr : Tryz.prog.globalNamed "strconv.ErrRange" = some 7 := by kernel_rfl
theorem tEr : (Tryz.prog.globals[7]?).map (·.type) = some 83 := by kernel_rfl
theorem cTab20 : Tryz.prog.cellsOf 161 = 20 := by kernel_rfl
theorem cU64 : Tryz.prog.cellsOf 102 = 1 := by kernel_rfl
theorem cHiLo : Tryz.prog.cellsOf 237 = 2 := by kernel_rfl
theorem cF64 : Tryz.prog.cellsOf 22 = 1 := by kernel_rfl
theorem cInt : Tryz.prog.cellsOf 3 = 1 := by kernel_rfl
theorem cStr : Tryz.prog.cellsOf 9 = 1 := by kernel_rfl
theorem cCheat : Tryz.prog.cellsOf 241 = 2 := by kernel_rfl
theorem cFInfo : Tryz.prog.cellsOf 222 = 3 := by kernel_rfl
theorem cErr : Tryz.prog.cellsOf 83 = 1 := by kernel_rfl
theorem pow_of {W : World} (h : VarReads Tryz.prog W "internal/strconv.pow10Tab" Pinned.pow10Tab) : PowT W := by
  obtain ⟨g, t, cs, fuel, p, hg, ht, hv, hd⟩ := h
  obtain rfl := Option.some.inj (gPow.symm.trans hg)
  obtain rfl := Option.some.inj (tPow.symm.trans ht)
  obtain ⟨xs, m, rfl, hx, hlen, hn, hel⟩ := DataW.trod_array Tryz.underlying238 hd
  rw [cHiLo] at hel
  have hxs : xs.map (·.1) = Pinned.pow10Rows.map fun x => (DataW.agg [.lit (.int .u64 x.1), .lit (.int .u64 x.2)] : DataW Unit) := by
    have := congrArg Prod.fst hx
    simpa [Pinned.pow10Tab] using this.symm
  intro i x hxi
  have hil : i < 696 := by
    have := (List.getElem?_eq_some_iff.1 hxi).1
    rw [rows_len] at this
    exact this
  have hi := hel i hil
  have hxi2 : (xs.map (·.1))[i]? = some (.agg [.lit (.int .u64 x.1), .lit (.int .u64 x.2)]) := by
    rw [hxs, List.getElem?_map, hxi]; rfl
  rw [List.getElem?_map, Option.map_eq_some_iff] at hxi2
  obtain ⟨⟨d, pp⟩, hxe, rfl⟩ := hxi2
  rw [hxe] at hi
  have hz := lits_of_struct (ls := [.int .u64 x.1, .int .u64 x.2]) Tryz.underlying237 (by
    intro i f hf
    rcases i with _ | _ | i
    · simp at hf; subst hf; exact ⟨rfl, cU64⟩
    · simp at hf; subst hf; exact ⟨rfl, cU64⟩
    · simp at hf) cHiLo hi
  have c0 := congrArg (·[0]?) hz
  have c1 := congrArg (·[1]?) hz
  simp only [List.getElem?_take, List.getElem?_drop] at c0 c1
  simp [Lit.value] at c0 c1
  exact ⟨(World.var?_cell hg hv _).trans c0, (World.var?_cell hg hv _).trans c1⟩
theorem p10_of {W : World} (h : VarReads Tryz.prog W "internal/strconv.uint64pow10" Rows.laid_internal_strconv_uint64pow10) : P10 W ∧ Lib.TabIs Tryz.prog W "internal/strconv.uint64pow10" .u64 Lib.pow10Tab := by
  obtain ⟨g, t, cs, fuel, p, hg, ht, hv, hd⟩ := h
  obtain rfl := Option.some.inj (gP10.symm.trans hg)
  obtain rfl := Option.some.inj (tP10.symm.trans ht)
  have hz := cells_of_tab (zs := Lib.pow10Tab) Tryz.underlying161 Tryz.underlying102 cU64 cTab20 hd
  have hT : Lib.TabIs Tryz.prog W "internal/strconv.uint64pow10" .u64 Lib.pow10Tab := by
    unfold TabIs
    rw [hv, ← hz]
  refine ⟨fun i hi => ?_, hT⟩
  have hc := hT.cell gP10 i (by show i < 20; exact hi)
  rw [hc]
  have all : ∀ i : Fin 20, Lib.pow10Tab.getD i.val 0 = ((10 ^ i.val : Nat) : Int) := by decide +kernel
  rw [all ⟨i, hi⟩]
theorem fi_of {W : World} (h : VarReads Tryz.prog W "internal/strconv.float64info" Rows.laid_internal_strconv_float64info) : FI W := by
  obtain ⟨g, t, cs, fuel, p, hg, ht, hv, hd⟩ := h
  obtain rfl := Option.some.inj (gFI.symm.trans hg)
  obtain rfl := Option.some.inj (tFI.symm.trans ht)
  have hz := lits_of_struct (ls := [.int .u64 52, .int .u64 11, .int .i64 (-1023)]) Tryz.underlying222 (by
    intro i f hf
    rcases i with _ | _ | _ | i
    · simp at hf; subst hf; exact ⟨rfl, by kernel_rfl⟩
    · simp at hf; subst hf; exact ⟨rfl, by kernel_rfl⟩
    · simp at hf; subst hf; exact ⟨rfl, cInt⟩
    · simp at hf) cFInfo hd
  refine ⟨?_, ?_, ?_⟩
  · have := congrArg (·[0]?) hz
    rw [Array.getElem?_toList] at this
    exact (World.var?_cell hg hv _).trans this
  · have := congrArg (·[1]?) hz
    rw [Array.getElem?_toList] at this
    exact (World.var?_cell hg hv _).trans this
  · have := congrArg (·[2]?) hz
    rw [Array.getElem?_toList] at this
    exact (World.var?_cell hg hv _).trans this
theorem f10_of {W : World} (h : VarReads Tryz.prog W "internal/strconv.float64pow10" Rows.laid_internal_strconv_float64pow10) : F10 W := by
  obtain ⟨b, o, cap, h0, h1⟩ := slice_reads (c := 1) gF10 tF10 Tryz.underlying247 cF64 (by decide) (by decide) (fun i => [.float .f64 (pow10W.getD i 0)]) (fun _ => rfl) (by
    intro base sp held i m cs d p hd htr
    have hall : ∀ i : Fin 23, ([.lit (.float .f64 4607182418800017408)] : List (DataW Unit)).length = 1 := fun _ => rfl
    have hdi : d = .lit (.float .f64 (pow10W.getD i 0)) := by
      have hi : i < 23 := (List.getElem?_eq_some_iff.1 hd).1
      rcases i with _ | _ | _ | _ | _ | _ | _ | _ | _ | _ | _ | _ | _ | _ | _ | _ | _ | _ | _ | _ | _ | _ | _ | i
      all_goals first | (exact (Option.some.inj hd).symm) | omega
    subst hdi
    exact trod_lit htr) h
  refine ⟨b, o, cap, h0, fun i hi => ?_⟩
  have := h1 i 0 _ hi rfl
  rw [Nat.mul_one, Nat.add_zero] at this
  exact this
theorem pt_of {W : World} (h : VarReads Tryz.prog W "internal/strconv.powtab" Rows.laid_internal_strconv_powtab) : PT W := by
  obtain ⟨b, o, cap, h0, h1⟩ := slice_reads (c := 1) gPT tPT Tryz.underlying246 cInt (by decide) (by decide) (fun i => [.int .i64 (PTL.getD i 0)]) (fun _ => rfl) (by
    intro base sp held i m cs d p hd htr
    have hdi : d = .lit (.int .i64 (PTL.getD i 0)) := by
      have hi : i < 9 := (List.getElem?_eq_some_iff.1 hd).1
      rcases i with _ | _ | _ | _ | _ | _ | _ | _ | _ | i
      all_goals first | (exact (Option.some.inj hd).symm) | omega
    subst hdi
    exact trod_lit htr) h
  refine ⟨b, o, cap, h0, fun i hi => ?_⟩
  have := h1 i 0 _ hi rfl
  rw [Nat.mul_one, Nat.add_zero] at this
  exact this
theorem cheat_len : Pinned.cheatRows.length = 61 := by decide +kernel
theorem lc_of {W : World} (h : VarReads Tryz.prog W "internal/strconv.leftcheats" Pinned.leftcheats) : LC W := by
  have hlen : (Pinned.cheatRows.map fun x => (DataW.agg [.lit (.int .i64 x.1), .lit (.string x.2)] : DataW Unit)).length = 61 := by rw [List.length_map, cheat_len]
  obtain ⟨b, o, cap, h0, h1⟩ := slice_reads (c := 2) (D := Pinned.cheatRows.map fun x => (DataW.agg [.lit (.int .i64 x.1), .lit (.string x.2)] : DataW Unit)) gLC tLC Tryz.underlying242 cCheat (by decide) (by rw [hlen]; decide)
    (fun i => match Pinned.cheatRows[i]? with | some x => [.int .i64 x.1, .string ⟨x.2.toArray⟩] | none => [.int .i64 0, .int .i64 0]) (by
    intro i
    cases Pinned.cheatRows[i]? <;> rfl) (by
    intro base sp held i m cs d p hd htr
    rw [List.getElem?_map, Option.map_eq_some_iff] at hd
    obtain ⟨x, hx, rfl⟩ := hd
    have hz := lits_of_struct (ls := [.int .i64 x.1, .string x.2]) Tryz.underlying241 (by
      intro i f hf
      rcases i with _ | _ | i
      · simp at hf; subst hf; exact ⟨rfl, cInt⟩
      · simp at hf; subst hf; exact ⟨rfl, cStr⟩
      · simp at hf) cCheat htr
    rw [hz]
    simp only [hx]
    rfl) h
  rw [hlen] at h0 h1
  refine ⟨b, o, cap, h0, fun i x hx => ?_⟩
  have hi : i < 61 := by
    have := (List.getElem?_eq_some_iff.1 hx).1
    rw [cheat_len] at this
    exact this
  have c0 := h1 i 0 (.int .i64 x.1) hi (by simp only [hx]; rfl)
  have c1 := h1 i 1 (.string ⟨x.2.toArray⟩) hi (by simp only [hx]; rfl)
  rw [Nat.add_zero, Nat.mul_comm] at c0
  rw [Nat.mul_comm i 2] at c1
  exact ⟨c0, c1⟩
theorem op_of {W : World} (h : VarReads Tryz.prog W "internal/strconv.optimize" Rows.laid_internal_strconv_optimize) : W.cell? ⟨5, 0, none⟩ = some (.bool true) := by
  obtain ⟨g, t, cs, fuel, p, hg, ht, hv, hd⟩ := h
  obtain rfl := Option.some.inj (gOp.symm.trans hg)
  have hz := trod_lit (l := .bool true) hd
  have := congrArg (·[0]?) hz
  rw [Array.getElem?_toList] at this
  exact (World.var?_cell hg hv _).trans this
theorem er_of {W : World} (h : VarReads Tryz.prog W "strconv.ErrRange" Rows.laid_strconv_ErrRange) : ∃ te pe, W.cell? ⟨7, 0, none⟩ = some (.iface te pe) := by
  obtain ⟨g, t, cs, fuel, p, hg, ht, hv, hd⟩ := h
  obtain rfl := Option.some.inj (gEr.symm.trans hg)
  obtain rfl := Option.some.inj (tEr.symm.trans ht)
  have hcs : ∃ u v, cs.toList = [.iface u v] := by
    cases fuel with
    | zero => simp [DataW.trod] at hd
    | succ n =>
      unfold DataW.trod at hd
      rw [Tryz.underlying83] at hd
      unfold Rows.laid_strconv_ErrRange at hd
      split at hd
      all_goals first
        | (cases hd; done)
        | (rename_i e; cases e; done)
        | (rename_i e _; cases e; done)
        | (rename_i e _ _; cases e; done)
        | exact ⟨_, _, by assumption⟩
  obtain ⟨u, v, hcs⟩ := hcs
  have := congrArg (·[0]?) hcs
  rw [Array.getElem?_toList] at this
  exact ⟨u, v, (World.var?_cell hg hv _).trans this⟩
theorem lib_of {W : World} (hS : W.ShapedOpen Tryz.prog) (h : laidMet Tryz.prog laidL W) : LibW W := by
  have hp := p10_of (laidMet.reads h (n := "internal/strconv.uint64pow10") (.tail _ (.tail _ (.tail _ (.tail _ (.tail _ (.tail _ (.tail _ (.tail _ (.head _))))))))))
  exact ⟨pow_of (laidMet.reads h (.tail _ (.tail _ (.tail _ (.tail _ (.tail _ (.tail _ (.tail _ (.tail _ (.tail _ (.tail _ (.tail _ (.tail _ (.tail _ (.head _))))))))))))))), hp.1,
    fi_of (laidMet.reads h (.tail _ (.tail _ (.tail _ (.head _))))),
    f10_of (laidMet.reads h (.tail _ (.tail _ (.tail _ (.tail _ (.tail _ (.tail _ (.head _)))))))),
    op_of (laidMet.reads h (.tail _ (.tail _ (.tail _ (.tail _ (.head _)))))),
    er_of (laidMet.reads h (.tail _ (.tail _ (.tail _ (.tail _ (.tail _ (.tail _ (.tail _ (.tail _ (.tail _ (.tail _ (.head _)))))))))))),
    pt_of (laidMet.reads h (.tail _ (.tail _ (.tail _ (.tail _ (.tail _ (.head _))))))),
    lc_of (laidMet.reads h (.tail _ (.tail _ (.tail _ (.tail _ (.tail _ (.tail _ (.tail _ (.tail _ (.tail _ (.tail _ (.tail _ (.tail _ (.head _)))))))))))))),
    Go.Proofs.cell_of_shapedOpen_int hS (of_decide_eq_true (by kernel_rfl)) (t := 3) (zero := #[.int .i64 0]) (by kernel_rfl) rfl (by kernel_rfl) (by kernel_rfl) Tryz.underlying3, hp.2⟩
end Go.Proofs.YtbakbikilbaafaaGreatDoor
namespace Go.Proofs.YtbakbikilbaafaaGreatDoor.digitsBlanks
open Go.ChangeShapes Go.WideShapes Go.ChangeAt Go.RowKit Go.ChangeMaps
set_option linter.unusedVariables false

theorem own : ownKnob Tryz.prog.godebug = none := by kernel_rfl
set_option maxRecDepth 100000 in
theorem contract (H : Type) (enc : TypeId × Value → H) (W : World) (base : Nat) (args : Array Value) (ds gs : List (DataW H)) (before : List MemPlace)
    (hval0 : ∀ (j : Nat) t v, Tryz.f4.params[j]? = some t → args[j]? = some v → Value.okWide Tryz.prog W .any base t v)
    (hW : DataW.Whole enc Tryz.prog Tryz.f4.params.toList Rows.digitsBlanksSpec.vars false W args.toList ds gs before) (hL : laidMetH Tryz.prog laidL W) (hS : W.ShapedOpen Tryz.prog) :
    Calls Tryz.prog 4 args W fun e W' => ∃ v, e = .returned v ∧ Rows.digitsBlanksSpec.post enc Tryz.prog Tryz.f4 false true false false W args v W' := by
  have hval : ∀ (j : Nat) t v, Tryz.f4.params[j]? = some t → args[j]? = some v → Value.okWide Tryz.prog W .any base t v := hval0
  have hW' := hW
  obtain ⟨p, q, hA0, hV, rfl, hfz, hnd⟩ := hW
  have hA : DataW.TrodAll enc Tryz.prog W 0 (fun _ => true) true Tryz.f4.params.toList args.toList ds p := hA0
  rw [Tryz.params4] at hA hval
  obtain ⟨v0, vs0, d0, ds0, p0, q0, hargs, rfl, rfl, h0, r0⟩ := trodAll_cons hA
  obtain ⟨v1, vs1, d1, ds1, p1, q1, rfl, rfl, rfl, h1, r1⟩ := trodAll_cons r0
  obtain ⟨rfl, rfl, rfl⟩ := trodAll_nil r1
  obtain rfl : args = #[v0, v1] := by cases args; simp_all
  obtain ⟨rfl, rfl⟩ := trodVars_none hV
  obtain ⟨a0, rfl, rfl, rfl, w0⟩ := open_int Tryz.underlying27 (hval 0 27 v0 rfl rfl) h0
  have b0 : 0 ≤ a0 ∧ a0 ≤ 65535 := bounds_u16 w0
  obtain ⟨n0, rfl⟩ := Int.eq_ofNat_of_zero_le b0.1
  obtain ⟨a1, rfl, rfl, rfl, w1⟩ := open_string Tryz.underlying24 (hval 1 24 v1 rfl rfl) h1
  clear hA0 hval0
  simp only [List.append_nil] at hW'
  rw [MakeChecks.laidMetH_plain _ _ _ (by kernel_rfl)] at hL
  have hT := lib_of hS hL
  refine (c_LBlanks n0 (by omega) a1 W hT).mono fun e W' ⟨he, hb⟩ => ?_
  subst he
  exact ⟨_, rfl, _, _, _, [], [], [], hW', trodAll_mk1 (shut_bool Tryz.underlying4 _), (trodAll_cons_mk (shut_int Tryz.underlying27 w0) (trodAll_cons_mk (shut_string Tryz.underlying24 w1) trodAll_mk0)), rfl, hb.frame _, fun h => by cases h⟩
theorem laid_met (os : Os) : laidMet Tryz.prog laidL ((World.laidAll Tryz.prog os laidL).forCall (fun _ _ => 0) ⟨#[], #[.int .u16 0, .string ⟨#[]⟩], []⟩).memory :=
  laidMet_laidAll _ (by kernel_rfl) (by kernel_rfl)
set_option maxRecDepth 100000 in
theorem reads (os : Os) {H : Type} (enc : TypeId × Value → H) : ∃ places, DataW.whole enc Tryz.prog ((World.laidAll Tryz.prog os laidL).forCall (fun _ _ => 0) ⟨#[], #[.int .u16 0, .string ⟨#[]⟩], []⟩).memory Tryz.f4.params.toList Rows.digitsBlanksSpec.vars false (#[.int .u16 0, .string ⟨#[]⟩] : Array Value).toList 8 = some ([.lit (.int .u16 0), .lit (.string [])], [], places) :=
  ⟨[], by kernel_rfl⟩
set_option maxRecDepth 100000 in
theorem lifted (os : Os) (started : os.Started) (H : Type) (enc : TypeId × Value → H) (F : Stop.Interp) :
    ReturnsInHanded {} Tryz.checked os 4 .any ((OpenSpec.ofChange Rows.digitsBlanksSpec).preRow enc Tryz.prog Tryz.f4 Rows.digitsBlanksRow.domain false laidL) (((OpenSpec.ofChange Rows.digitsBlanksSpec).at F).post enc Tryz.prog Tryz.f4 false true false false) := by
  obtain ⟨places, hx⟩ := reads os enc
  refine returnsInHanded_of_row (C := Tryz.checked) (s := OpenSpec.ofChange Rows.digitsBlanksSpec) own started (by kernel_rfl) Tryz.func4
    ⟨World.laidAll Tryz.prog os laidL, fun _ _ => 0, ⟨#[], #[.int .u16 0, .string ⟨#[]⟩], []⟩, World.laidAll_os _ _ _, World.shaped_of_ZipB (by kernel_rfl) (by kernel_rfl),
      rfl, (Input.okWide_of_okWideB (by kernel_rfl)).2,
      OpenSpec.preRow_of_cond 8 hx (by kernel_rfl) (fun k hk => by cases hk) (by kernel_rfl) (by rw [MakeChecks.laidMetH_plain _ _ _ (by kernel_rfl)]; exact laid_met os),
      by
        simp only [Assume.holds]
        exact ⟨by simp, by simp, fun _ => Modest.zero, by simp, by simp⟩⟩ ?_
  intro W base args ds gs before hval hW _ hcond _ hL hS _
  exact contract H enc W base args ds gs before hval hW hL hS
theorem over : Rows.DigitsBlanksSaid :=
  OpenClaim.holds_of_cond 4 Tryz.f4 rfl rfl rfl rfl rfl rfl rfl ⟨rfl, rfl, rfl, rfl, rfl⟩ rfl rfl rfl rfl rfl (by kernel_rfl) Tryz.func4 (by kernel_rfl)
    (of_decide_eq_true (by kernel_rfl)) (by unfold Func.isWrapper; first | (rw [if_pos (by decide +kernel)]; kernel_rfl) | (rw [if_neg (by decide +kernel)]; exact ⟨rfl, rfl⟩))
    (fun os started H enc _ F => by rw [OpenClaim.pre_eq_preRow]; exact lifted os started H enc F)
theorem plain (f : FuncId) (fn : Func) (hf : Tryz.pinned.checked.prog.funcNamed "lintel/lintellaw03.DigitsBlanks" = some f) (hfn : Tryz.pinned.checked.prog.funcs[f]? = some fn) :
    true = Tryz.pinned.checked.prog.looks [] ∧ ∀ (j : Nat) t, fn.params[j]? = some t → Tryz.pinned.checked.prog.wantsStandIn t = false := by
  obtain rfl : f = 4 := Option.some.inj ((show Tryz.prog.funcNamed "lintel/lintellaw03.DigitsBlanks" = some 4 by kernel_rfl).symm.trans hf) |>.symm
  obtain rfl : fn = Tryz.f4 := (Option.some.inj (Tryz.func4.symm.trans hfn)).symm
  refine ⟨by kernel_rfl, fun j t ht => ?_⟩
  rw [Tryz.params4] at ht
  have hm : t ∈ [27, 24] := by simpa using Array.mem_of_getElem? ht
  have hall : ([27, 24].all fun u => !Tryz.prog.wantsStandIn u) = true := by kernel_rfl
  exact (show Tryz.prog.wantsStandIn t = false by simpa using List.all_eq_true.1 hall t hm)
theorem proved : Rows.DigitsBlanksCardSaid :=
  Claim7.holds_tied_plain_at .later [] _ _ _ _ over (fun _ h => by cases h) (by kernel_rfl) (fun _ h => by cases h) digitsBlanks_row_tie rfl ⟨rfl, rfl⟩ (by kernel_rfl) rfl plain (by kernel_rfl)
end Go.Proofs.YtbakbikilbaafaaGreatDoor.digitsBlanks
