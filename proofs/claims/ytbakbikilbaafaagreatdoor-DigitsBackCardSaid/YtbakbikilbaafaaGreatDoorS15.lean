/-
  Contracts: awake's calls: Read of " 0x1F ", Blank(32), Show(0.1), Show(1e21). awake's ParseFloat of "12" and "0.15e4". awake's float of "1.5e3". awake's Literal("1.5e3;") and Whole("12px", 10). awake: the chapter's examples hold. The contract of atof64, and of ParseFloat, at 0.<digits>e<power>: the float nearest to the number, whatever digits there are. The contract of the program's float, at any decimal text. The contract of the program's float, at any decimal text: the walk (printed by gen_XVQ.py). Plain: a whole number's nearest float by its upper 64 bits and whether something is left below.
-/
import Derived.Test.YtbakbikilbaafaaGreatDoorS14
import Derived.Test.YtbakbikilbaafaaGreatDoorS12
import Derived.Deep.DeepCutAuto
import Derived.Deep.CutBlock
namespace Go.Proofs.YtbakbikilbaafaaGreatDoor
open Go.RowKit F64 Ieee
set_option linter.unusedVariables false
set_option maxHeartbeats 4000000
set_option maxRecDepth 100000

theorem aw_sticky (w : World) : Calls Tryz.prog 76 #[.string (u8sG [49, 70]), .int .i64 16] w fun r w' => r = .returned (.float .f64 4629418941960159232) ∧ Below w.heap.size w w' := by
  have h := c_dsticky1 [49, 70] 16 31 59 (by decide) (by decide) (by decide) (by decide) (by decide +kernel) (by decide) (by decide +kernel) (by decide) (by decide) w
  have e : wEK (1085 - ((59 : Nat) : Int)) (rnd (31 * 2 ^ 59)) = 4629418941960159232 := by decide +kernel
  rw [e] at h
  exact h
theorem aw_read (w : World) : Calls Tryz.prog 16 #[.string (textU [32, 48, 120, 49, 70, 32])] w fun r w' => r = .returned (.float .f64 4629418941960159232) ∧ Below w.heap.size w w' := by
  refine c_dReadH (textU [32, 48, 120, 49, 70, 32]) 1 5 [48, 120, 49, 70] 16 4629418941960159232 (by decide +kernel) ⟨by decide +kernel, ?_, ?_⟩ ⟨by decide +kernel, by decide +kernel, ?_, ?_⟩ (by decide +kernel) (by decide) (by decide) (by decide +kernel) (by decide) (by decide) (by decide +kernel) (by decide) w ?_
  · intro i hi
    obtain rfl : i = 0 := by omega
    decide +kernel
  · intro _; decide +kernel
  · intro i h1 h2
    have h2' : i < 6 := Nat.lt_of_lt_of_eq h2 (by decide +kernel)
    obtain rfl : i = 5 := by omega
    decide +kernel
  · intro _; decide +kernel
  · intro W _
    exact c_dexactS _ 16 _ (by decide) (by decide) W (aw_sticky W)
theorem aw_blank (w : World) : Calls Tryz.prog 12 #[.int .u16 32] w fun r w' => r = .returned (.bool true) ∧ w = w' := c_dBlank 32 (by decide) w
/-- 0.1 and 1e21 as they are shown -/
theorem sci_01 : IsSci 4591870180066957722 1 1 (-1) := ⟨16, ⟨by decide, by decide +kernel, by decide +kernel⟩, by decide, by decide, by decide, by decide +kernel, by decide, by decide +kernel⟩
theorem sci_1e21 : IsSci 4921056587992461136 1 1 21 := ⟨16, ⟨by decide, by decide +kernel, by decide +kernel⟩, by decide, by decide, by decide, by decide +kernel, by decide, by decide +kernel⟩
theorem txt_01 : txtG 1 1 (-1) = [48, 46, 49] := by decide +kernel
theorem txt_1e21 : txtG 1 1 21 = [49, 101, 43, 50, 49] := by decide +kernel
theorem aw_show01 (w : World) (hL : LibW w) : Calls Tryz.prog 10 #[.float .f64 4591870180066957722] w fun r w' => r = .returned (.string (textU [48, 46, 49])) ∧ Below w.heap.size w w' := by
  have h := c_dShow (by decide) (ShowT.pos (by decide) (by decide) sci_01 (by decide) (by decide) (by decide) (by decide)) w hL
  rw [txt_01] at h
  exact h
theorem aw_show1e21 (w : World) (hL : LibW w) : Calls Tryz.prog 10 #[.float .f64 4921056587992461136] w fun r w' => r = .returned (.string (textU [49, 101, 43, 50, 49])) ∧ Below w.heap.size w w' := by
  have h := c_dShow (by decide) (ShowT.pos (by decide) (by decide) sci_1e21 (by decide) (by decide) (by decide) (by decide)) w hL
  rw [txt_1e21] at h
  exact h
end Go.Proofs.YtbakbikilbaafaaGreatDoor
namespace Go.Proofs.YtbakbikilbaafaaGreatDoor
open Go.RowKit F64 Ieee
set_option linter.unusedVariables false
set_option maxHeartbeats 4000000
set_option maxRecDepth 100000

theorem nv_12 : nv 12 0 = 4622945017495814144 := nv_of (a := V 4622945017495814144 * 1) (b := 1) (by decide) (near_V (r := 4622945017495814144) (b := 1) (by decide) (by decide)) (by decide +kernel)
theorem nv_1500 : nv 15 2 = 4654311885213007872 := nv_of (a := V 4654311885213007872 * 1) (b := 1) (by decide) (near_V (r := 4654311885213007872) (b := 1) (by decide) (by decide)) (by decide +kernel)
theorem aw_pf12 (w : World) (hL : LibW w) : Calls Tryz.prog 75 #[.string (u8sG [49, 50]), .int .i64 64] w fun r w' => PfR 4622945017495814144 r ∧ Below w.heap.size w w' := by
  refine c_ParseFloat (u8sG [49, 50]) _ w hL (by decide) ?_
  have h := c_atofN (u8sG [49, 50]) 12 0 49 (by decide) (by decide) (by decide) (by decide) (by decide) (by decide) w hL (fun W => by
    have h := c_readI1 [49, 50] (u8sG [49, 50]) (by decide) (by decide) (by decide) (by decide) (by decide) (fun j c h1 h2 => uG_get [49, 50] j c h1 (by
      have := List.mem_of_getElem? h1; simp at this; omega) h2) W
    have e1 : (rfF [49, 50]).m = 12 := by decide +kernel
    have e2 : expI (rfF [49, 50]) = 0 := by decide +kernel
    have e3 : (rfF [49, 50]).tr = false := by decide +kernel
    rw [e1, e2, e3] at h
    exact h)
  rw [if_neg (by decide), nv_12] at h
  exact h
theorem aw_pf1500 (w : World) (hL : LibW w) : Calls Tryz.prog 75 #[.string (u8sG [48, 46, 49, 53, 101, 52]), .int .i64 64] w fun r w' => PfR 4654311885213007872 r ∧ Below w.heap.size w w' := by
  refine c_ParseFloat (u8sG [48, 46, 49, 53, 101, 52]) _ w hL (by decide) ?_
  have h := c_atofN (u8sG [48, 46, 49, 53, 101, 52]) 15 2 48 (by decide) (by decide) (by decide) (by decide) (by decide) (by decide) w hL (fun W => by
    have h := c_readEp [48, 46, 49, 53] [52] (u8sG [48, 46, 49, 53, 101, 52]) (by decide) (by decide) rfl rfl (fun k hk => by
        have : k < 4 := (List.getElem?_eq_some_iff.1 hk).1
        rcases k with _ | _ | _ | _ | k
        · simp at hk
        · decide +kernel
        · simp at hk
        · simp at hk
        · omega) (by decide) (by decide) (by decide) (by decide +kernel) (by decide +kernel) (by decide) (fun j c h1 h2 => uG_get [48, 46, 49, 53, 101, 52] j c h1 (by
      have := List.mem_of_getElem? h1; simp at this; omega) h2) W
    have e1 : (rfF [48, 46, 49, 53]).m = 15 := by decide +kernel
    have e2 : (rfF [48, 46, 49, 53]).dp + (evF [52] : Int) - ((rfF [48, 46, 49, 53]).nm : Int) = 2 := by decide +kernel
    have e3 : (rfF [48, 46, 49, 53]).tr = false := by decide +kernel
    rw [e1, e2, e3] at h
    exact h)
  rw [if_neg (by decide), nv_1500] at h
  exact h
end Go.Proofs.YtbakbikilbaafaaGreatDoor
namespace Go.Proofs.YtbakbikilbaafaaGreatDoor
open Go.RowKit F64 Ieee
set_option linter.unusedVariables false
set_option maxHeartbeats 4000000
set_option maxRecDepth 100000

theorem aw_float (w : World) (hL : LibW w) : Calls Tryz.prog 45 #[.string (u8sG [49, 46, 53, 101, 51])] w fun r w' => r = .returned (.float .f64 4654311885213007872) ∧ Below w.heap.size w w' := by
  have h1 : ∀ b ∈ (u8sG [49, 46, 53, 101, 51]).data.toList, b.toNat < 128 := by decide +kernel
  have h2 : ∀ b ∈ (⟨#[101, 69]⟩ : ByteArray).data.toList, b.toNat < 128 := by decide +kernel
  have hIA := Lib.hid (fun W => s_IndexAny (u8sG [49, 46, 53, 101, 51]) ⟨#[101, 69]⟩ W (by decide) (by decide) (fun j b h => h1 b (List.mem_of_getElem? h)) (fun j b h => h2 b (List.mem_of_getElem? h)))
  have e1 : Lib.indexAny (u8sG [49, 46, 53, 101, 51]).data.toList (⟨#[101, 69]⟩ : ByteArray).data.toList = 3 := by decide +kernel
  rw [e1] at hIA
  have hLk := Lib.hid (fun W (hb : Below w.heap.size w W) => hL.keep hb)
  have hCut := Lib.hid (fun W (hW : LibW W) => by
    obtain ⟨ml, hml⟩ := hW.ml
    have h := s_Cut (u8sG [49, 46, 53]) ⟨#[46]⟩ ml W (by decide) hml
    have e2 : Lib.cut (u8sG [49, 46, 53]).data.toList (⟨#[46]⟩ : ByteArray).data.toList = ([49], [53], true) := by decide +kernel
    rw [e2] at h
    exact h)
  have hTL := Lib.hid (fun W => s_TrimLeft (u8sG [49, 53]) 48 (by decide) W)
  have e3 : Lib.trimLeftB (u8sG [49, 53]).data.toList 48 = [49, 53] := by decide +kernel
  rw [e3] at hTL
  have hSg := Lib.hid (fun W => c_dsigned [51] (by decide) (by decide) W)
  have hIt := Lib.hid (fun W hW => c_itoa 4 (by decide) W hW)
  have hPF := Lib.hid (fun W hW => aw_pf1500 W hW)
  replace hL := Lib.hid hL
  have hx1 : (u8sG [49, 46, 53, 101, 51]).extract 0 3 = u8sG [49, 46, 53] := by decide +kernel
  have hx2 : (u8sG [49, 46, 53, 101, 51]).extract 4 (u8sG [49, 46, 53, 101, 51]).size = u8sG [51] := by decide +kernel
  have hsz : (u8sG [49, 46, 53, 101, 51]).size = 5 := by decide
  have hx3 : (u8sG [49, 46, 53, 101, 51]).extract 4 5 = u8sG [51] := by decide +kernel
  replace hx2 := Lib.hid hx2
  have hd : u8sG [49] ++ u8sG [53] = u8sG [49, 53] := by decide +kernel
  have ht : (⟨#[48, 46]⟩ : ByteArray) ++ u8sG [49, 53] ++ ⟨#[101]⟩ ++ u8sG (itG 4) = u8sG [48, 46, 49, 53, 101, 52] := by decide +kernel
  clear e1 h1 h2
  generalize u8sG [49, 46, 53, 101, 51] = S at *
  have hCut : Hid (∀ W, LibW W → Calls Tryz.prog 61 #[.string (u8sG [49, 46, 53]), .string ⟨#[46]⟩] W fun e w' => e = .returned (.tuple #[.string (u8sG [49]), .string (u8sG [53]), .bool true]) ∧ ∃ n, w' = W.drewN n) := hCut
  have hTL : Hid (∀ W, Calls Tryz.prog 80 #[.string (u8sG [49, 53]), .string ⟨#[48]⟩] W fun e w' => e = .returned (.string (u8sG [49, 53])) ∧ w' = W) := hTL
  have hSg : Hid (∀ W, Calls Tryz.prog 42 #[.string (u8sG [51])] W fun r w' => r = .returned (.tuple #[.float .f64 4607182418800017408, .string (u8sG [51])]) ∧ ∃ n, w' = W.drewN n) := hSg
  clear e3
  have z1 : (u8sG [49]).size = 1 := by decide
  have z2 : (u8sG [53]).size = 1 := by decide
  have z3 : (u8sG [49, 53]).size = 2 := by decide
  have z4 : (u8sG [51]).size = 1 := by decide
  have z5 : (u8sG (itG 4)).size = 1 := by decide +kernel
  have z6 : (u8sG [49, 53]).toList.isEmpty = false := by decide +kernel
  have z7 : ∀ h : 0 < (u8sG [51]).size, ((u8sG [51])[0]'h).toNat = 51 := fun h => uG_get [51] 0 51 rfl (by decide) h
  replace ht := Lib.hid ht
  replace z7 := Lib.hid z7
  generalize u8sG [49] = A at *
  generalize u8sG [53] = B at *
  generalize u8sG [49, 53] = C at *
  generalize u8sG [49, 46, 53] = M at *
  generalize u8sG (itG 4) = I4 at *
  go_enter Tryz.func45, Tryz.ntmps45
  go_wp2_with fail
  refine (hIA.out _).mono ?_
  rintro e w1 ⟨rfl, hb1⟩
  go_wp2_with fail
  go_quiet (fail)
  go_wp2_with fail
  refine (hCut.out _ (hLk.out _ (below_drewN hb1 _))).mono ?_
  rintro e w2 ⟨rfl, q2, rfl⟩
  have hb2 := below_drewN (below_drewN hb1 nq) q2
  generalize (w1.drewN nq).drewN q2 = w3 at *
  clear hb1
  go_wp2_with fail
  refine (hTL.out _).mono ?_
  rintro e w4 ⟨rfl, rfl⟩
  go_wp2_with fail
  refine (hSg.out _).mono ?_
  rintro e w5 ⟨rfl, q4, rfl⟩
  go_wp2_with fail
  have hb5 : Below w.heap.size w (w4.drewN q4) := below_drewN hb2 q4
  have hs45 : (w4.drewN q4).heap.size = w4.heap.size := rfl
  have hbI : Below w.heap.size w ((w4.drewN q4).iter (u8sG [51]) 0) := hb5.alloc hb5.size _
  have hB5 : w.heap.size ≤ w4.heap.size := hb5.size
  have hit0 : ((w4.drewN q4).iter (u8sG [51]) 0).heap[w4.heap.size]? = some (.stringIter (u8sG [51]) 0) := World.iter_heap (w4.drewN q4) (u8sG [51]) 0
  clear hs45
  generalize hD : u8sG [51] = D at *
  have z8 : D.size = 1 := z4
  have z9 := z7
  clear z7 hsz hx1 hx2 hx3 hCut hIA hTL hSg hD
  go_loopw [10, 13] (fun v10 v13 wr => ∃ pos : Nat, (pos = 0 ∧ v10 = .int .i64 0 ∨ pos = 1 ∧ v10 = .int .i64 3) ∧ wr.heap[w4.heap.size]? = some (.stringIter D pos) ∧ Below w.heap.size w wr) (fun _ _ wr => 2 - wr.iterPos w4.heap.size)
  case atStart => exact ⟨0, .inl ⟨rfl, rfl⟩, hit0, hbI⟩
  case round =>
    obtain ⟨pos, h, hit, hbw⟩ := hrel
    rcases h with ⟨rfl, rfl⟩ | ⟨rfl, rfl⟩
    · have h0 : 0 < D.size := by omega
      have hnx : ∀ ty, (Instr.next (.pointer (some ⟨w4.heap.size, 0, none⟩)) true ty).run Tryz.prog wr = .ok (.tuple #[.bool true, .int .i64 0, .int .i32 51]) (wr.iterAt w4.heap.size D 1) := fun ty => by
        have := Lib.run_next_ascii_at (P := Tryz.prog) wr w4.heap.size D 0 ty hit h0 (by rw [z9.out h0]; decide)
        rw [z9.out h0] at this
        exact this
      have hit2 := Lib.iterAt_heap wr w4.heap.size D 0 1 hit
      have hbw2 := Lib.below_iterAt hbw (k := w4.heap.size) hB5 D 1
      have hm : wr.iterPos w4.heap.size = 0 := by simp [World.iterPos, hit]
      have hm2 : (wr.iterAt w4.heap.size D 1).iterPos w4.heap.size = 1 := by simp [World.iterPos, hit2]
      generalize wr.iterAt w4.heap.size D 1 = w6 at *
      clear hit hbw
      go_wp2_with fail
      go_roundw
      case rel => exact ⟨1, .inr ⟨rfl, rfl⟩, hit2, hbw2⟩
      case measure => rw [hm, hm2]; decide
    · have hnx : ∀ ty, (Instr.next (.pointer (some ⟨w4.heap.size, 0, none⟩)) true ty).run Tryz.prog wr = _ := fun ty => Lib.run_next_end_at wr w4.heap.size D 1 ty hit (by omega)
      have hI1 := Lib.hid (hIt.out wr (hLk.out _ hbw))
      have hcv : ∀ W, (convert 22 3 (.float .f64 4607182418800017408)).run Tryz.prog W = .ok (.int .i64 1) W := fun W => by kernel_rfl
      go_wp2_with fail
      refine hI1.out.mono ?_
      rintro e w7 ⟨rfl, hb7⟩
      have hbA := hbw.trans (hb7.mono hbw.size)
      have hP := Lib.hid (hPF.out w7 (hLk.out _ hbA))
      rw [← ht.out] at hP
      go_wp2_with fail
      refine hP.out.mono ?_
      rintro e w8 ⟨⟨er, rfl⟩, hb8⟩
      go_wp2_with fail
      go_ret
      exact ⟨rfl, hbA.trans (hb8.mono hbA.size)⟩
end Go.Proofs.YtbakbikilbaafaaGreatDoor
namespace Go.Proofs.YtbakbikilbaafaaGreatDoor
open Go.RowKit F64 Ieee
set_option linter.unusedVariables false
set_option maxHeartbeats 4000000
set_option maxRecDepth 100000

theorem aw_lit (w : World) (hL : LibW w) : Calls Tryz.prog 17 #[.string (u8sG [49, 46, 53, 101, 51, 59])] w fun r w' => r = .returned (.tuple #[.float .f64 4654311885213007872, .int .i64 5, .int .i64 0]) ∧ Below w.heap.size w w' := by
  have hPr := Lib.hid (fun W => c_dprefix [49, 46, 53, 101, 51, 59] (by decide) (by decide) W)
  rw [show preL [49, 46, 53, 101, 51, 59] = 0 by decide +kernel] at hPr
  have hDe := Lib.hid (fun W => c_ddecimal [49, 46, 53, 101, 51, 59] (by decide) (by decide) W)
  rw [show decN [49, 46, 53, 101, 51, 59] = 5 by decide +kernel] at hDe
  have hWo := Lib.hid (fun W => c_dworth 59 (by decide) W)
  rw [show wth 59 = 99 by decide +kernel] at hWo
  have hFl := Lib.hid (fun W hW => aw_float W hW)
  have hLk := Lib.hid (fun W (hb : Below w.heap.size w W) => hL.keep hb)
  replace hL := Lib.hid hL
  have hsz : (u8sG [49, 46, 53, 101, 51, 59]).size = 6 := by decide
  have g0 : ∀ h : 0 < (u8sG [49, 46, 53, 101, 51, 59]).size, ((u8sG [49, 46, 53, 101, 51, 59])[0]'h).toNat = 49 := fun h => uG_get _ 0 49 rfl (by decide) h
  have g5 : ∀ h : 5 < (u8sG [49, 46, 53, 101, 51, 59]).size, ((u8sG [49, 46, 53, 101, 51, 59])[5]'h).toNat = 59 := fun h => uG_get _ 5 59 rfl (by decide) h
  have hx : (u8sG [49, 46, 53, 101, 51, 59]).extract 0 5 = u8sG [49, 46, 53, 101, 51] := by decide +kernel
  generalize u8sG [49, 46, 53, 101, 51, 59] = S at *
  generalize u8sG [49, 46, 53, 101, 51] = T at *
  have hPr : Hid (∀ W, Calls Tryz.prog 37 #[.string S] W fun r w' => r = .returned (.int .i64 0) ∧ Below W.heap.size W w') := hPr
  have hDe : Hid (∀ W, Calls Tryz.prog 43 #[.string S] W fun r w' => r = .returned (.int .i64 5) ∧ Below W.heap.size W w') := hDe
  have hWo : Hid (∀ W, Calls Tryz.prog 46 #[.int .u8 59] W fun r w' => r = .returned (.int .i64 99) ∧ W = w') := hWo
  go_enter Tryz.func17, Tryz.ntmps17
  go_wp2_with fail
  refine (hPr.out _).mono ?_
  rintro e w1 ⟨rfl, hb1⟩
  go_wp2_with fail
  refine (hDe.out _).mono ?_
  rintro e w2 ⟨rfl, hb2⟩
  have hbA := hb1.trans (hb2.mono hb1.size)
  clear hb1 hb2
  go_wp2_with fail
  refine (hFl.out _ (hLk.out _ hbA)).mono ?_
  rintro e w3 ⟨rfl, hb3⟩
  have hbB := hbA.trans (hb3.mono hbA.size)
  clear hb3 hbA
  go_wp2_with (go_at_call 46; refine (hWo.out _).mono ?_; rintro e w' ⟨rfl, rfl⟩)
  go_ret3
  exact ⟨rfl, hbB⟩
theorem aw_whole (w : World) (hL : LibW w) : Calls Tryz.prog 24 #[.string (textU [49, 50, 112, 120]), .int .i64 10] w fun r w' => r = .returned (.float .f64 4622945017495814144) ∧ Below w.heap.size w w' := by
  have hs4 : (textU [49, 50, 112, 120]).size / 2 = 4 := by decide +kernel
  have hFr := Lib.hid (fun W => c_dfront (textU [49, 50, 112, 120]) 0 (by decide +kernel) ⟨by omega, fun i hi => by omega, fun _ => by decide +kernel⟩ W)
  have hLn := Lib.hid (fun W => c_ULen (textU [49, 50, 112, 120]) (by decide +kernel) W)
  have hCt := Lib.hid (fun W => c_UCutG (textU [49, 50, 112, 120]) 0 4 (by decide +kernel) (by omega) (by omega) W)
  rw [show (textU [49, 50, 112, 120]).extract (2 * 0) (2 * 4) = textU [49, 50, 112, 120] by decide +kernel] at hCt
  have hPl := Lib.hid (fun W => c_dplain (textU [49, 50, 112, 120]) (by decide +kernel) W)
  rw [show u8sG (plL (unitsN (textU [49, 50, 112, 120]) ((textU [49, 50, 112, 120]).size / 2))) = u8sG [49, 50, 112, 120] by decide +kernel] at hPl
  rw [hs4] at hLn
  have hSg := Lib.hid (fun W => c_dsigned [49, 50, 112, 120] (by decide) (by decide) W)
  have hPr := Lib.hid (fun W => c_dprefix [49, 50, 112, 120] (by decide) (by decide) W)
  rw [show preL [49, 50, 112, 120] = 0 by decide +kernel] at hPr
  have hDo := Lib.hid (fun W => c_ddigitsOf 10 W)
  have hRu := Lib.hid (fun b W h => c_drun [49, 50, 112, 120] (by decide) 0 10 b (by decide) (by decide) W h)
  rw [show runL 10 ([49, 50, 112, 120].drop 0) = 2 by decide +kernel] at hRu
  have hX := Lib.hid (fun W hW => c_dexact10 (u8sG [49, 50]) _ W (aw_pf12 W hW))
  have hLk := Lib.hid (fun W (hb : Below w.heap.size w W) => hL.keep hb)
  have hmul := fun w => run_float_arith (P := Tryz.prog) w .mul 22 .f64 4607182418800017408 4622945017495814144 4622945017495814144 (mul_one (by decide))
  replace hL := Lib.hid hL
  have hx : (u8sG [49, 50, 112, 120]).extract 0 2 = u8sG [49, 50] := by decide +kernel
  have hsz : (u8sG [49, 50, 112, 120]).size = 4 := by decide
  have hSg : Hid (∀ W, Calls Tryz.prog 42 #[.string (u8sG [49, 50, 112, 120])] W fun r w' => r = .returned (.tuple #[.float .f64 4607182418800017408, .string (u8sG [49, 50, 112, 120])]) ∧ ∃ n, w' = W.drewN n) := hSg
  generalize u8sG [49, 50, 112, 120] = S at *
  generalize u8sG [49, 50] = T at *
  generalize textU [49, 50, 112, 120] = X at *
  have hFr : Hid (∀ W, Calls Tryz.prog 29 #[.string X] W fun e w' => e = .returned (.int .i64 0) ∧ ∃ nq, w' = W.drewN nq) := hFr
  have hLn : Hid (∀ W, Calls Tryz.prog 30 #[.string X] W fun e w' => e = .returned (.int .i64 4) ∧ W = w') := hLn
  have hCt : Hid (∀ W, Calls Tryz.prog 32 #[.string X, .int .i64 0, .int .i64 4] W fun e w' => e = .returned (.string X) ∧ w' = W) := hCt
  have hPr : Hid (∀ W, Calls Tryz.prog 37 #[.string S] W fun r w' => r = .returned (.int .i64 0) ∧ Below W.heap.size W w') := hPr
  have hRu : Hid (∀ b W, W.cell? ⟨b, 0, none⟩ = some (.int .i64 10) → Calls Tryz.prog 38 #[.string S, .int .i64 0, DigF b] W fun r w' => r = .returned (.int .i64 2) ∧ Below W.heap.size W w') := hRu
  clear hs4
  go_enter Tryz.func24, Tryz.ntmps24
  go_wp2_with fail
  refine (hFr.out _).mono ?_
  rintro e w1 ⟨rfl, q1, rfl⟩
  go_wp2_with (go_at_call 30; refine (hLn.out _).mono ?_; rintro e w' ⟨rfl, rfl⟩)
  refine (hCt.out _).mono ?_
  rintro e w2 ⟨rfl, rfl⟩
  go_wp2_with fail
  refine (hPl.out _).mono ?_
  rintro e w3 ⟨rfl, hb3⟩
  have hbA : Below w.heap.size w w3 := (below_drewN (Below.refl _ w) q1).trans hb3
  clear hb3
  go_wp2_with fail
  refine (hSg.out _).mono ?_
  rintro e w4 ⟨rfl, q4, rfl⟩
  have hbB := below_drewN hbA q4
  generalize w3.drewN q4 = w5 at *
  go_wp2_with fail
  refine (hPr.out _).mono ?_
  rintro e w6 ⟨rfl, hb6⟩
  have hbC := hbB.trans (hb6.mono hbB.size)
  clear hb6 hbA hbB
  go_wp2_with fail
  refine (hDo.out _).mono ?_
  rintro e w7 ⟨rfl, hc7, hb7⟩
  have hbD := hbC.trans (hb7.mono hbC.size)
  have hR7 := Lib.hid (hRu.out _ _ hc7)
  clear hb7 hbC hc7
  go_wp2_with fail
  refine hR7.out.mono ?_
  rintro e w8 ⟨rfl, hb8⟩
  have hbE := hbD.trans (hb8.mono hbD.size)
  clear hb8 hbD
  go_wp2_with fail
  refine (hX.out _ (hLk.out _ hbE)).mono ?_
  rintro e w9 ⟨rfl, hb9⟩
  have hbF := hbE.trans (hb9.mono hbE.size)
  clear hb9 hbE
  go_wp2_with fail
  go_ret
  exact ⟨rfl, hbF⟩
end Go.Proofs.YtbakbikilbaafaaGreatDoor
namespace Go.Proofs.YtbakbikilbaafaaGreatDoor
open Go.RowKit F64 Ieee
set_option linter.unusedVariables false
set_option maxHeartbeats 4000000
set_option maxRecDepth 100000

theorem aw_ascii (L : List Nat) (hl : L.length ≤ 1000) (h : ∀ c ∈ L, c < 128) (w : World) : Calls Tryz.prog 19 #[.string (u8sG L)] w fun e w' => e = .returned (.string (textU L)) ∧ Below w.heap.size w w' := by
  have h2 := c_AsciiR (u8sG L) (by rw [uG_size]; omega) (by rw [codes_uG L h]; exact h) w
  rw [codes_uG L h] at h2
  exact h2
theorem c_awake3 (w : World) (hL : LibW w) : Calls Tryz.prog 9 #[] w fun e w' => e = .returned (.bool true) ∧ Below w.heap.size w w' := by
  have hLi := Lib.hid (fun W hW => (show Calls Tryz.prog 17 #[.string ⟨#[49, 46, 53, 101, 51, 59]⟩] W _ from aw_lit W hW))
  have hS1 := Lib.hid (fun W hW => aw_show01 W hW)
  have hS2 := Lib.hid (fun W hW => aw_show1e21 W hW)
  have hA1 := Lib.hid (fun W => (show Calls Tryz.prog 19 #[.string ⟨#[48, 46, 49]⟩] W _ from aw_ascii [48, 46, 49] (by decide) (by decide) W))
  have hA2 := Lib.hid (fun W => (show Calls Tryz.prog 19 #[.string ⟨#[49, 101, 43, 50, 49]⟩] W _ from aw_ascii [49, 101, 43, 50, 49] (by decide) (by decide) W))
  have hA3 := Lib.hid (fun W => (show Calls Tryz.prog 19 #[.string ⟨#[32, 48, 120, 49, 70, 32]⟩] W _ from aw_ascii [32, 48, 120, 49, 70, 32] (by decide) (by decide) W))
  have hA4 := Lib.hid (fun W => (show Calls Tryz.prog 19 #[.string ⟨#[49, 50, 112, 120]⟩] W _ from aw_ascii [49, 50, 112, 120] (by decide) (by decide) W))
  have hRd := Lib.hid (fun W => aw_read W)
  have hBl := Lib.hid (fun W => aw_blank W)
  have hWh := Lib.hid (fun W hW => aw_whole W hW)
  have hLk := Lib.hid (fun W (hb : Below w.heap.size w W) => hL.keep hb)
  have o1 : (FloatKind.f64.format.order 4629418941960159232 4629418941960159232 == some Ordering.eq) = true := by decide +kernel
  have o2 : (FloatKind.f64.format.order 4654311885213007872 4654311885213007872 == some Ordering.eq) = true := by decide +kernel
  have o3 : (FloatKind.f64.format.order 4622945017495814144 4622945017495814144 == some Ordering.eq) = true := by decide +kernel
  generalize textU [48, 46, 49] = a1 at *
  generalize textU [49, 101, 43, 50, 49] = a2 at *
  generalize textU [32, 48, 120, 49, 70, 32] = a3 at *
  generalize textU [49, 50, 112, 120] = a4 at *
  go_enter Tryz.func9, Tryz.ntmps9
  go_wp2_with fail
  refine (hLi.out _ hL).mono ?_
  rintro e w1 ⟨rfl, b1⟩
  go_wp2_with fail
  refine (hS1.out _ (hLk.out _ b1)).mono ?_
  rintro e w2 ⟨rfl, b2⟩
  have c2 := b1.trans (b2.mono b1.size)
  clear b1 b2
  go_wp2_with fail
  refine (hA1.out _).mono ?_
  rintro e w3 ⟨rfl, b3⟩
  have c3 := c2.trans (b3.mono c2.size)
  clear c2 b3
  go_wp2_with fail
  refine (hS2.out _ (hLk.out _ c3)).mono ?_
  rintro e w4 ⟨rfl, b4⟩
  have c4 := c3.trans (b4.mono c3.size)
  clear c3 b4
  go_wp2_with fail
  refine (hA2.out _).mono ?_
  rintro e w5 ⟨rfl, b5⟩
  have c5 := c4.trans (b5.mono c4.size)
  clear c4 b5
  go_wp2_with fail
  refine (hA3.out _).mono ?_
  rintro e w6 ⟨rfl, b6⟩
  have c6 := c5.trans (b6.mono c5.size)
  clear c5 b6
  go_wp2_with fail
  refine (hRd.out _).mono ?_
  rintro e w7 ⟨rfl, b7⟩
  have c7 := c6.trans (b7.mono c6.size)
  clear c6 b7
  go_wp2_with (go_at_call 12; refine (hBl.out _).mono ?_; rintro e w' ⟨rfl, rfl⟩)
  refine (hA4.out _).mono ?_
  rintro e w8 ⟨rfl, b8⟩
  have c8 := c7.trans (b8.mono c7.size)
  clear c7 b8
  go_wp2_with fail
  refine (hWh.out _ (hLk.out _ c8)).mono ?_
  rintro e w9 ⟨rfl, b9⟩
  have c9 := c8.trans (b9.mono c8.size)
  go_wp2_with fail
  go_ret
  exact ⟨rfl, c9⟩
end Go.Proofs.YtbakbikilbaafaaGreatDoor
namespace Go.Proofs.YtbakbikilbaafaaGreatDoor
open Go.RowKit F64 Ieee
set_option linter.unusedVariables false
set_option maxHeartbeats 4000000
set_option maxRecDepth 100000

theorem nearV_congr {a b a' b' : Nat} (hb : 0 < b) (hb' : 0 < b') (h : a * b' = a' * b) : nearV a b = nearV a' b' := by
  by_cases hx : ∃ r, Near r a b
  · obtain ⟨r, hr⟩ := hx
    rw [nearV_eq hb hr, nearV_eq hb' (near_eq hr hb hb' h)]
  · have hy : ¬ ∃ r, Near r a' b' := fun ⟨r, hr⟩ => hx ⟨r, near_eq hr hb' hb h.symm⟩
    unfold nearV
    rw [dif_neg hx, dif_neg hy]
theorem nv_shift (m z : Nat) (e : Int) : nv (m * 10 ^ z) e = nv m (e + z) := by
  unfold nv
  refine nearV_congr (frD_pos _ _) (frD_pos _ _) ?_
  rw [frN_U, frN_U, frD_1, frD_1]
  have hs := pow_sh (p := e + (z : Int)) (e := e) (z := z) rfl
  calc m * 10 ^ z * (10 ^ e.toNat * F64.U) * 10 ^ (-(e + (z : Int))).toNat = m * (10 ^ z * (10 ^ e.toNat * 10 ^ (-(e + (z : Int))).toNat)) * F64.U := by ac_rfl
    _ = m * (10 ^ (e + (z : Int)).toNat * 10 ^ (-e).toNat) * F64.U := by rw [hs]
    _ = m * (10 ^ (e + (z : Int)).toNat * F64.U) * 10 ^ (-e).toNat := by ac_rfl
theorem rfF_dig : ∀ (l : List Nat) (σ : RF), (∀ c ∈ l, 48 ≤ c ∧ c ≤ 57) → 0 < σ.nd → σ.nm ≤ 19 → (σ.nm < 19 → σ.nd = σ.nm) →
    l.foldl rfS σ = ⟨σ.dot, σ.nd + l.length, min (σ.nm + l.length) 19, σ.dp, (l.take (19 - σ.nm)).foldl (fun e c => e * 10 + (c - 48)) σ.m, σ.tr || anyNZ (l.drop (19 - σ.nm))⟩
  | [], σ, _, h0, h1, _ => by
    obtain ⟨dot, nd, nm, dp, m, tr⟩ := σ
    simp only at h1
    simp [anyNZ, Nat.min_eq_left h1]
  | c :: l, σ, hl, h0, h1, h2 => by
    obtain ⟨dot, nd, nm, dp, m, tr⟩ := σ
    simp only at h0 h1 h2
    have hc := hl c (List.mem_cons_self ..)
    have hstep : rfS ⟨dot, nd, nm, dp, m, tr⟩ c = if nm < 19 then ⟨dot, nd + 1, nm + 1, dp, m * 10 + (c - 48), tr⟩ else ⟨dot, nd + 1, nm, dp, m, tr || decide (c ≠ 48)⟩ := by
      unfold rfS
      rw [if_neg (by omega), if_neg (by simp only; omega)]
    rw [List.foldl_cons, hstep]
    by_cases hn : nm < 19
    · rw [if_pos hn, rfF_dig l _ (fun x hx => hl x (List.mem_cons_of_mem _ hx)) (by simp only; omega) (by simp only; omega) (by simp only; omega)]
      simp only [List.length_cons]
      obtain ⟨j, hj⟩ : ∃ j, 19 - nm = j + 1 := ⟨18 - nm, by omega⟩
      rw [hj, show 19 - (nm + 1) = j by omega]
      simp only [List.take_succ_cons, List.drop_succ_cons, List.foldl_cons]
      congr 1 <;> omega
    · rw [if_neg hn, rfF_dig l _ (fun x hx => hl x (List.mem_cons_of_mem _ hx)) (by simp only; omega) (by simp only; omega) (by simp only; omega)]
      simp only [List.length_cons]
      rw [show 19 - nm = 0 by omega]
      simp only [List.take_zero, List.drop_zero, List.foldl_nil]
      have e : (tr || decide (c ≠ 48) || anyNZ l) = (tr || anyNZ (c :: l)) := by
        unfold anyNZ
        rw [List.any_cons, Bool.or_assoc]
        congr 2
        by_cases h : c = 48 <;> simp [h]
      rw [e]
      congr 1 <;> omega
theorem rfF_zd (d : List Nat) (hd : ∀ c ∈ d, 48 ≤ c ∧ c ≤ 57) (hh : ∀ c, d[0]? = some c → 49 ≤ c) : rfF (48 :: 46 :: d) = ⟨true, d.length, min d.length 19, 0, numL (d.take 19), anyNZ (d.drop 19)⟩ := by
  cases d with
  | nil => rfl
  | cons c l =>
    have hc := hd c (List.mem_cons_self ..)
    have h49 := hh c rfl
    have e : rfF (48 :: 46 :: c :: l) = l.foldl rfS ⟨true, 1, 1, 0, c - 48, false⟩ := by
      unfold rfF
      rw [List.foldl_cons, List.foldl_cons, List.foldl_cons]
      have e1 : rfS (rfS (rfS rf0 48) 46) c = ⟨true, 1, 1, 0, c - 48, false⟩ := by
        rw [show rfS (rfS rf0 48) 46 = ⟨true, 0, 0, 0, 0, false⟩ from rfl]
        unfold rfS
        rw [if_neg (by omega), if_neg (by omega), if_pos (by decide)]
        simp
      rw [e1]
    rw [e, rfF_dig l _ (fun x hx => hd x (List.mem_cons_of_mem _ hx)) (by simp only; omega) (by simp only; omega) (fun _ => rfl)]
    simp only [List.length_cons]
    rw [show (c :: l).take 19 = c :: l.take 18 from rfl, show (c :: l).drop 19 = l.drop 18 from rfl, show 19 - 1 = 18 from rfl, Bool.false_or]
    have : numL (c :: l.take 18) = (l.take 18).foldl (fun e c => e * 10 + (c - 48)) (c - 48) := by
      show List.foldl _ 0 (c :: l.take 18) = _
      rw [List.foldl_cons, Nat.zero_mul, Nat.zero_add]
    rw [this]
    congr 1 <;> omega
theorem dfF_dig : ∀ (l : List Nat) (σ : DF), (∀ c ∈ l, 48 ≤ c ∧ c ≤ 57) → σ.D ≠ [] → l.foldl dfS σ = ⟨σ.dot, σ.D ++ l, σ.dp⟩
  | [], σ, _, _ => by simp
  | c :: l, σ, hl, h0 => by
    have hc := hl c (List.mem_cons_self ..)
    have hstep : dfS σ c = { σ with D := σ.D ++ [c] } := by
      unfold dfS
      rw [if_neg (by omega), if_neg (fun h => h0 h.2)]
    rw [List.foldl_cons, hstep, dfF_dig l _ (fun x hx => hl x (List.mem_cons_of_mem _ hx)) (by simp)]
    simp
theorem dfF_zd (d : List Nat) (hd : ∀ c ∈ d, 48 ≤ c ∧ c ≤ 57) (hh : ∀ c, d[0]? = some c → 49 ≤ c) : dfF (48 :: 46 :: d) = ⟨true, d, 0⟩ := by
  cases d with
  | nil => rfl
  | cons c l =>
    have h49 := hh c rfl
    unfold dfF
    rw [List.foldl_cons, List.foldl_cons, List.foldl_cons]
    have e1 : dfS (dfS (dfS df0 48) 46) c = ⟨true, [c], 0⟩ := by
      rw [show dfS (dfS df0 48) 46 = ⟨true, [], 0⟩ from rfl]
      unfold dfS
      rw [if_neg (by omega), if_neg (by omega)]
      rfl
    rw [e1, dfF_dig l _ (fun x hx => hd x (List.mem_cons_of_mem _ hx)) (by simp)]
    simp
/-- a number's digits with the exponent -/
def powL (n : Int) : List Nat := if n < 0 then 45 :: itG n.natAbs else itG n.natAbs
def numT (d : List Nat) (n : Int) : List Nat := 48 :: 46 :: d ++ 101 :: powL n
theorem numL_pos1 {d : List Nat} (hpos : d ≠ []) (hh : ∀ c, d[0]? = some c → 49 ≤ c) : 0 < numL d := by
  cases d with
  | nil => exact absurd rfl hpos
  | cons x xs =>
    have := hh x rfl
    rw [numL_cons]
    have h2 : 0 < 10 ^ xs.length := Nat.pow_pos (by decide)
    have h3 := Nat.mul_le_mul_right (10 ^ xs.length) (show 1 ≤ x - 48 by omega)
    omega
theorem c_atofG (S : ByteArray) (d : List Nat) (n : Int) (c : Nat) (h0 : 0 < S.size) (hc : (S[0]'h0).toNat = c) (hcd : 48 ≤ c ∧ c ≤ 57) (hd : ∀ c ∈ d, 48 ≤ c ∧ c ≤ 57) (hpos : d ≠ []) (hh : ∀ c, d[0]? = some c → 49 ≤ c) (hn1 : -450 ≤ n) (hn2 : n ≤ 800) (hlen : d.length ≤ 90000) (w : World) (hL : LibW w)
    (hR : ∀ W, Calls Tryz.prog 202 #[.string S] W fun r w' => r = .returned (.tuple #[.int .u64 (numL (d.take 19) : Int), .int .i64 (n - ((min d.length 19 : Nat) : Int)), .bool false, .bool (anyNZ (d.drop 19)), .bool false, .int .i64 (S.size : Int), .bool true]) ∧ W = w')
    (hSet : ∀ b W, SetI b [] 0 W → W.cell? ⟨b, 802, none⟩ = some (.bool false) → Calls Tryz.prog 208 #[.pointer (some ⟨b, 0, none⟩), .string S] W fun r w' => r = .returned (.bool true) ∧ SetI b d n w' ∧ Below b W w') :
    Calls Tryz.prog 175 #[.string S] w fun r w' => AtR (nv (numL d) (n - d.length)) S.size r ∧ Below w.heap.size w w' := by
  have hlen0 : 0 < d.length := List.length_pos_iff.2 hpos
  have hm1 : 0 < numL (d.take 19) := numL_pos1 (by
    cases d with
    | nil => exact absurd rfl hpos
    | cons x xs => simp) (fun c hc => hh c (by
      cases d with
      | nil => simp at hc
      | cons x xs => exact hc))
  by_cases hnz : anyNZ (d.drop 19) = true
  · have hl : 20 ≤ d.length := by
      rcases Nat.lt_or_ge d.length 20 with g | g
      · rw [List.drop_of_length_le (by omega)] at hnz
        cases hnz
      · exact g
    rw [hnz] at hR
    have e19 : ((min d.length 19 : Nat) : Int) = 19 := by omega
    rw [e19] at hR
    exact c_atofT S d (numL (d.take 19)) (n - 19) n c h0 hc hcd hd hh hl rfl rfl hn1 hn2 w hL hR hSet
  · have hnz2 : anyNZ (d.drop 19) = false := by
      cases h : anyNZ (d.drop 19) with
      | false => rfl
      | true => exact absurd h hnz
    rw [hnz2] at hR
    have hm : numL (d.take 19) < 18446744073709551616 := by
      refine Nat.lt_of_lt_of_le (numL_lt (fun c hc => hd c (List.mem_of_mem_take hc))) ?_
      refine Nat.le_trans (Nat.pow_le_pow_right (by decide) (show (d.take 19).length ≤ 19 by rw [List.length_take]; omega)) (by decide)
    have h := c_atofN S (numL (d.take 19)) (n - ((min d.length 19 : Nat) : Int)) c h0 hc hcd hm (by omega) (by omega) w hL hR
    rw [if_neg (by omega)] at h
    have e : nv (numL (d.take 19)) (n - ((min d.length 19 : Nat) : Int)) = nv (numL d) (n - d.length) := by
      have hsp := numL_split d 19
      have hz : numL (d.drop 19) = 0 := by
        have := nz_num (d.drop 19) (fun c hc => hd c (List.mem_of_mem_drop hc))
        rw [hnz2] at this
        have h2 : ¬ 0 < numL (d.drop 19) := fun h => by have := this.2 h; cases this
        omega
      rw [hz, Nat.add_zero] at hsp
      rw [hsp, nv_shift]
      congr 1
      rw [List.length_drop]
      omega
    rw [e] at h
    exact h
theorem itG_all : ∀ k : Fin 401, evF (itG k.val) = k.val ∧ 1 ≤ (itG k.val).length ∧ (itG k.val).length ≤ 3 ∧ ((itG k.val).all fun c => decide (48 ≤ c) && decide (c ≤ 57)) = true := by decide +kernel
theorem itG_k {k : Nat} (h : k ≤ 400) : evF (itG k) = k ∧ 1 ≤ (itG k).length ∧ (itG k).length ≤ 3 ∧ ∀ c ∈ itG k, 48 ≤ c ∧ c ≤ 57 := by
  obtain ⟨a, b, c, d⟩ := itG_all ⟨k, by omega⟩
  refine ⟨a, b, c, fun x hx => ?_⟩
  have := List.all_eq_true.1 d x hx
  simpa using this
theorem dot_zd {α : Type} (f : List Nat → Bool) (d : List Nat) (hd : ∀ c ∈ d, 48 ≤ c ∧ c ≤ 57) (hf : f [48] = false) : ∀ k, (48 :: 46 :: d)[k]? = some 46 → f ((48 :: 46 :: d).take k) = false := by
  intro k hk
  rcases k with _ | _ | k
  · simp at hk
  · exact hf
  · exfalso
    simp at hk
    have := hd 46 (List.mem_of_getElem? hk)
    omega
theorem c_atofD (d : List Nat) (n : Int) (hd : ∀ c ∈ d, 48 ≤ c ∧ c ≤ 57) (hpos : d ≠ []) (hh : ∀ c, d[0]? = some c → 49 ≤ c) (hn1 : -400 ≤ n) (hn2 : n ≤ 400) (hlen : d.length ≤ 90000) (w : World) (hL : LibW w) :
    Calls Tryz.prog 175 #[.string (u8sG (numT d n))] w fun r w' => AtR (nv (numL d) (n - d.length)) (u8sG (numT d n)).size r ∧ Below w.heap.size w w' := by
  obtain ⟨k1, k2, k3, k4⟩ := itG_k (k := n.natAbs) (by omega)
  have hA : ∀ c ∈ (48 :: 46 :: d), c = 46 ∨ 48 ≤ c ∧ c ≤ 57 := by
    intro c hc
    rcases List.mem_cons.1 hc with rfl | hc
    · exact .inr (by decide)
    · rcases List.mem_cons.1 hc with rfl | hc
      · exact .inl rfl
      · exact .inr (hd c hc)
  have hrf := rfF_zd d hd hh
  have hdf := dfF_zd d hd hh
  have hm1 : 0 < numL (d.take 19) := numL_pos1 (by
    cases d with
    | nil => exact absurd rfl hpos
    | cons x xs => simp) (fun c hc => hh c (by
      cases d with
      | nil => simp at hc
      | cons x xs => exact hc))
  have hall : ∀ c ∈ numT d n, c < 256 := by
    intro c hc
    unfold numT powL at hc
    rcases List.mem_append.1 hc with hc | hc
    · have := hA c hc; omega
    · rcases List.mem_cons.1 hc with rfl | hc
      · decide
      · split at hc
        · rcases List.mem_cons.1 hc with rfl | hc
          · decide
          · have := k4 c hc; omega
        · have := k4 c hc; omega
  have hget : ∀ (j c : Nat), (numT d n)[j]? = some c → ∀ h : j < (u8sG (numT d n)).size, ((u8sG (numT d n))[j]'h).toNat = c := fun j c hc h => uG_get _ j c hc (hall c (List.mem_of_getElem? hc)) h
  have hsz : (u8sG (numT d n)).size = (numT d n).length := uG_size _
  have h0 : 0 < (u8sG (numT d n)).size := by rw [hsz]; unfold numT; simp
  have hc0 : ((u8sG (numT d n))[0]'h0).toNat = 48 := hget 0 48 rfl h0
  refine c_atofG (u8sG (numT d n)) d n 48 h0 hc0 (by decide) hd hpos hh (by omega) (by omega) hlen w hL ?_ ?_
  · intro W
    by_cases hneg : n < 0
    · have hT : numT d n = (48 :: 46 :: d) ++ ([101, 45] ++ itG n.natAbs) := by unfold numT powL; rw [if_pos hneg]; rfl
      have h := c_readEn (48 :: 46 :: d) (itG n.natAbs) (u8sG (numT d n)) (by rw [hsz, hT]; simp; omega) hA rfl rfl (dot_zd (α := Nat) (fun l => (rfF l).dot) d hd rfl) k4 k2 (by omega) (by rw [hrf]; exact hm1) (by rw [hrf]) (by simp; omega) (by rw [← hT]; exact hget) W
      rw [hrf, k1] at h
      simp only at h
      rw [show (0 : Int) + -((n.natAbs : Nat) : Int) = n by omega] at h
      exact h
    · have hT : numT d n = (48 :: 46 :: d) ++ ([101] ++ itG n.natAbs) := by unfold numT powL; rw [if_neg hneg]; rfl
      have h := c_readEp (48 :: 46 :: d) (itG n.natAbs) (u8sG (numT d n)) (by rw [hsz, hT]; simp; omega) hA rfl rfl (dot_zd (α := Nat) (fun l => (rfF l).dot) d hd rfl) k4 k2 (by omega) (by rw [hrf]; exact hm1) (by rw [hrf]) (by simp; omega) (by rw [← hT]; exact hget) W
      rw [hrf, k1] at h
      simp only at h
      rw [show (0 : Int) + ((n.natAbs : Nat) : Int) = n by omega] at h
      exact h
  · intro b W hI hG
    by_cases hneg : n < 0
    · have hT : numT d n = (48 :: 46 :: d) ++ ([101, 45] ++ itG n.natAbs) := by unfold numT powL; rw [if_pos hneg]; rfl
      have h := c_setEn b (48 :: 46 :: d) (itG n.natAbs) (u8sG (numT d n)) (by rw [hsz, hT]; simp; omega) hA rfl (dot_zd (α := Nat) (fun l => (dfF l).dot) d hd rfl) k4 k2 (by omega) (by rw [hdf]) (by simp; omega) (by rw [← hT]; exact hget) W hI hG
      rw [hdf, k1] at h
      simp only at h
      rw [show (0 : Int) - ((n.natAbs : Nat) : Int) = n by omega] at h
      exact h
    · have hT : numT d n = (48 :: 46 :: d) ++ ([101] ++ itG n.natAbs) := by unfold numT powL; rw [if_neg hneg]; rfl
      have h := c_setEp b (48 :: 46 :: d) (itG n.natAbs) (u8sG (numT d n)) (by rw [hsz, hT]; simp; omega) hA rfl (dot_zd (α := Nat) (fun l => (dfF l).dot) d hd rfl) k4 k2 (by omega) (by rw [hdf]) (by simp; omega) (by rw [← hT]; exact hget) W hI hG
      rw [hdf, k1] at h
      simp only at h
      rw [show (0 : Int) + ((n.natAbs : Nat) : Int) = n by omega] at h
      exact h
theorem c_PFD (d : List Nat) (n : Int) (hd : ∀ c ∈ d, 48 ≤ c ∧ c ≤ 57) (hpos : d ≠ []) (hh : ∀ c, d[0]? = some c → 49 ≤ c) (hn1 : -400 ≤ n) (hn2 : n ≤ 400) (hlen : d.length ≤ 90000) (w : World) (hL : LibW w) :
    Calls Tryz.prog 75 #[.string (u8sG (numT d n)), .int .i64 64] w fun r w' => PfR (nv (numL d) (n - d.length)) r ∧ Below w.heap.size w w' := by
  refine c_ParseFloat _ _ w hL ?_ (c_atofD d n hd hpos hh hn1 hn2 hlen w hL)
  obtain ⟨k1, k2, k3, k4⟩ := itG_k (k := n.natAbs) (by omega)
  rw [uG_size]
  unfold numT powL
  split <;> simp <;> omega
end Go.Proofs.YtbakbikilbaafaaGreatDoor
namespace Go.Proofs.YtbakbikilbaafaaGreatDoor
open Go.RowKit F64 Ieee
set_option linter.unusedVariables false
set_option maxHeartbeats 4000000
set_option maxRecDepth 100000

theorem any_none : ∀ (l : List Nat), (∀ c ∈ l, c < 128 ∧ c ≠ 101 ∧ c ≠ 69) → Lib.indexAny (l.map UInt8.ofNat) [101, 69] = -1
  | [], _ => rfl
  | c :: l, h => by
    have ih := any_none l (fun x hx => h x (List.mem_cons_of_mem _ hx))
    obtain ⟨h1, h2, h3⟩ := h c (List.mem_cons_self ..)
    have hc : [101, 69].contains (UInt8.ofNat c) = false := by
      have a1 : ¬ UInt8.ofNat c = 101 := fun e => h2 (by have := congrArg UInt8.toNat e; simp at this; omega)
      have a2 : ¬ UInt8.ofNat c = 69 := fun e => h3 (by have := congrArg UInt8.toNat e; simp at this; omega)
      simp [a1, a2]
    rw [List.map_cons]
    unfold Lib.indexAny
    rw [hc, ih]
    rfl
theorem any_some : ∀ (l X : List Nat) (e : Nat), (∀ c ∈ l, c < 128 ∧ c ≠ 101 ∧ c ≠ 69) → (e = 101 ∨ e = 69) → Lib.indexAny ((l ++ e :: X).map UInt8.ofNat) [101, 69] = (l.length : Int)
  | [], X, e, _, he => by
    rw [List.nil_append, List.map_cons]
    unfold Lib.indexAny
    rcases he with rfl | rfl <;> rfl
  | c :: l, X, e, h, he => by
    have ih := any_some l X e (fun x hx => h x (List.mem_cons_of_mem _ hx)) he
    obtain ⟨h1, h2, h3⟩ := h c (List.mem_cons_self ..)
    have hc : [101, 69].contains (UInt8.ofNat c) = false := by
      have a1 : ¬ UInt8.ofNat c = 101 := fun e => h2 (by have := congrArg UInt8.toNat e; simp at this; omega)
      have a2 : ¬ UInt8.ofNat c = 69 := fun e => h3 (by have := congrArg UInt8.toNat e; simp at this; omega)
      simp [a1, a2]
    rw [List.cons_append, List.map_cons]
    unfold Lib.indexAny
    rw [hc, ih, if_neg (by decide), List.length_cons]
    have e2 : ((l.length : Int) == -1) = false := beq_eq_false_iff_ne.2 (by omega)
    rw [e2]
    simp
theorem trim_zero (l : List Nat) (h : ∀ c ∈ l, c < 256) : Lib.trimLeftB (l.map UInt8.ofNat) 48 = (l.dropWhile (· == 48)).map UInt8.ofNat := by
  unfold Lib.trimLeftB
  induction l with
  | nil => rfl
  | cons c l ih =>
    have hc := h c (List.mem_cons_self ..)
    have e : (UInt8.ofNat c == 48) = (c == 48) := by
      by_cases z : c = 48
      · subst z; rfl
      · have h1 : ¬ UInt8.ofNat c = 48 := fun e => z (by have := congrArg UInt8.toNat e; simp at this; omega)
        rw [beq_eq_false_iff_ne.2 h1, beq_eq_false_iff_ne.2 z]
    rw [List.map_cons, List.dropWhile_cons, List.dropWhile_cons, e]
    split
    · exact ih (fun x hx => h x (List.mem_cons_of_mem _ hx))
    · rfl
theorem drop_head (l : List Nat) (h : ∀ c ∈ l, 48 ≤ c ∧ c ≤ 57) : ∀ c, (l.dropWhile (· == 48))[0]? = some c → 49 ≤ c := by
  induction l with
  | nil => intro c hc; simp at hc
  | cons x l ih =>
    intro c hc
    rw [List.dropWhile_cons] at hc
    split at hc
    · exact ih (fun y hy => h y (List.mem_cons_of_mem _ hy)) c hc
    · rename_i hx
      simp at hc
      subst hc
      have := h x (List.mem_cons_self ..)
      simp at hx
      omega
theorem drop_dig (l : List Nat) (h : ∀ c ∈ l, 48 ≤ c ∧ c ≤ 57) : ∀ c ∈ l.dropWhile (· == 48), 48 ≤ c ∧ c ≤ 57 := fun c hc => h c ((List.dropWhile_sublist _).subset hc)
/-- an exponent's digits, no more than 2^30 -/
def powF (es : List Nat) : Nat := es.foldl (fun p c => min (10 * p + (c - 48)) 1073741824) 0
theorem powF_take {l : List Nat} {k c : Nat} (h : l[k]? = some c) : powF (l.take (k + 1)) = min (10 * powF (l.take k) + (c - 48)) 1073741824 := by
  rw [List.take_add_one, h]; unfold powF; rw [Option.toList, List.foldl_append]; rfl
theorem powF_le (l : List Nat) : ∀ k, powF (l.take k) ≤ 1073741824 := by
  intro k
  induction k with
  | zero => simp [powF]
  | succ k ih =>
    rcases Nat.lt_or_ge k l.length with h | h
    · rw [powF_take (List.getElem?_eq_getElem h)]; omega
    · rw [List.take_of_length_le (by omega)] at ih ⊢; exact ih
/-- the float of a decimal number: whole digits, digits behind the point, the exponent's sign and digits -/
noncomputable def fltV (ws ps : List Nat) (neg : Bool) (es : List Nat) : Nat :=
  let d := (ws ++ ps).dropWhile (· == 48)
  let pw : Int := (if neg then -(powF es : Int) else (powF es : Int)) + (d.length : Int) - (ps.length : Int)
  if d = [] then 0 else if pw < -400 then 0 else if 400 < pw then 9218868437227405312 else nv (numL d) (pw - d.length)
def oneB (neg : Bool) : Nat := if neg then 13830554455654793216 else 4607182418800017408
theorem itoa_pow : ∀ k : Fin 801, (⟨(Lib.itoa ((k.val : Int) - 400)).toArray⟩ : ByteArray) = u8sG (powL ((k.val : Int) - 400)) := by decide +kernel
theorem c_itoaP (n : Int) (h1 : -400 ≤ n) (h2 : n ≤ 400) (w : World) (hL : LibW w) :
    Calls Tryz.prog 66 #[.int .i64 n] w fun e w' => e = .returned (.string (u8sG (powL n))) ∧ Below w.heap.size w w' := by
  have h := itoa_pow ⟨(n + 400).toNat, by omega⟩
  simp only [show (((n + 400).toNat : Nat) : Int) - 400 = n by omega] at h
  rw [← h]
  exact s_Itoa n (by omega) (by omega) w hL.tab
end Go.Proofs.YtbakbikilbaafaaGreatDoor
namespace Go.Proofs.YtbakbikilbaafaaGreatDoor
open Go.RowKit F64 Ieee
set_option linter.unusedVariables false
set_option maxHeartbeats 4000000
set_option maxRecDepth 100000

/-- the mantissa of a decimal text -/
def mantL (ws ps : List Nat) (pt : Bool) : List Nat := ws ++ if pt then 46 :: ps else []
theorem cut_mant (ws ps : List Nat) (pt : Bool) (hw : ∀ c ∈ ws, 48 ≤ c ∧ c ≤ 57) (hp : pt = false → ps = []) :
    Lib.cut (u8sG (mantL ws ps pt)).data.toList (⟨#[46]⟩ : ByteArray).data.toList = (ws.map UInt8.ofNat, ps.map UInt8.ofNat, pt) := by
  have hm : (46 : UInt8) ∉ ws.map UInt8.ofNat := by
    have := ofNat_mem (l := ws) (c := 46) (by decide) (fun x hx => by have := hw x hx; omega)
    exact this
  have e : (⟨#[46]⟩ : ByteArray).data.toList = [46] := rfl
  rw [uG_data, e]
  unfold mantL
  cases pt with
  | true =>
    rw [if_pos rfl, List.map_append, List.map_cons]
    exact cut_hit 46 _ _ hm
  | false =>
    rw [hp rfl]
    simp only [Bool.false_eq_true, if_false, List.append_nil, List.map_nil]
    unfold Lib.cut
    rw [index_miss 46 _ hm, if_neg (by decide)]
theorem mantL_mem {ws ps : List Nat} {pt : Bool} (hw : ∀ c ∈ ws, 48 ≤ c ∧ c ≤ 57) (hps : ∀ c ∈ ps, 48 ≤ c ∧ c ≤ 57) : ∀ c ∈ mantL ws ps pt, c < 128 ∧ c ≠ 101 ∧ c ≠ 69 := by
  intro c hc
  unfold mantL at hc
  rcases List.mem_append.1 hc with hc | hc
  · have := hw c hc; omega
  · cases pt with
    | false => simp at hc
    | true =>
      simp only [if_true] at hc
      rcases List.mem_cons.1 hc with rfl | hc
      · omega
      · have := hps c hc; omega
theorem app_all {P : Nat → Prop} {a b : List Nat} (h1 : ∀ c ∈ a, P c) (h2 : ∀ c ∈ b, P c) : ∀ c ∈ a ++ b, P c := fun c hc => (List.mem_append.1 hc).elim (h1 c) (h2 c)
theorem tL_app (d : List Nat) (n : Int) : (⟨#[48, 46]⟩ : ByteArray) ++ u8sG d ++ ⟨#[101]⟩ ++ u8sG (powL n) = u8sG (numT d n) := by
  have e1 : (⟨#[48, 46]⟩ : ByteArray) = u8sG [48, 46] := rfl
  have e2 : (⟨#[101]⟩ : ByteArray) = u8sG [101] := rfl
  rw [e1, e2, uG_app, uG_app, uG_app]
  unfold numT
  simp
theorem cvt_one : ∀ W : World, (convert 22 3 (.float .f64 4607182418800017408)).run Tryz.prog W = .ok (.int .i64 1) W := fun W => by kernel_rfl
theorem cvt_neg : ∀ W : World, (convert 22 3 (.float .f64 13830554455654793216)).run Tryz.prog W = .ok (.int .i64 (-1)) W := fun W => by kernel_rfl
def sgI (neg : Bool) : Int := if neg then -1 else 1
theorem cvt_sg (neg : Bool) : ∀ W : World, (convert 22 3 (.float .f64 (oneB neg))).run Tryz.prog W = .ok (.int .i64 (sgI neg)) W := by
  cases neg
  · exact cvt_one
  · exact cvt_neg
/-- the power: the exponent, the digits, less those behind the point -/
def pwF (ws ps : List Nat) (neg : Bool) (es : List Nat) : Int := sgI neg * (powF es : Int) + (((ws ++ ps).dropWhile (· == 48)).length : Int) - (ps.length : Int)
theorem fltV_eq (ws ps : List Nat) (neg : Bool) (es : List Nat) : fltV ws ps neg es = if (ws ++ ps).dropWhile (· == 48) = [] then 0 else if pwF ws ps neg es < -400 then 0 else if 400 < pwF ws ps neg es then 9218868437227405312 else nv (numL ((ws ++ ps).dropWhile (· == 48))) (pwF ws ps neg es - (((ws ++ ps).dropWhile (· == 48)).length : Int)) := by
  unfold fltV pwF sgI
  cases neg <;> simp
theorem c_dfloat0 (ws ps : List Nat) (pt : Bool) (hw : ∀ c ∈ ws, 48 ≤ c ∧ c ≤ 57) (hps : ∀ c ∈ ps, 48 ≤ c ∧ c ≤ 57) (hp : pt = false → ps = [])
    (hlen : (mantL ws ps pt).length ≤ 80000) (w : World) (hL : LibW w) :
    Calls Tryz.prog 45 #[.string (u8sG (mantL ws ps pt))] w fun r w' => r = .returned (.float .f64 (fltV ws ps false [])) ∧ Below w.heap.size w w' := by
  obtain ⟨neg, hneg⟩ : ∃ neg, neg = false := ⟨false, rfl⟩
  obtain ⟨es, hes0⟩ : ∃ es : List Nat, es = [] := ⟨[], rfl⟩
  rw [show fltV ws ps false [] = fltV ws ps neg es by rw [hneg, hes0]]
  have hes : ∀ c ∈ es, 48 ≤ c ∧ c ≤ 57 := by rw [hes0]; intro c hc; cases hc
  have hall : ∀ c ∈ mantL ws ps pt, c < 128 := fun c hc => (mantL_mem hw hps c hc).1
  have hlM := hlen
  have hlE : es.length ≤ 80000 := by rw [hes0]; decide
  have e1 : Lib.indexAny (u8sG (mantL ws ps pt)).data.toList (⟨#[101, 69]⟩ : ByteArray).data.toList = -1 := by
    rw [uG_data]; exact any_none _ (mantL_mem hw hps)
  have hSg0 : ∀ W : World, Calls Tryz.prog 42 #[.string ⟨#[]⟩] W fun r w' => r = .returned (.tuple #[.float .f64 (oneB neg), .string (u8sG es)]) ∧ ∃ n, w' = W.drewN n := by
    intro W; rw [hneg, hes0]; exact c_dsigned [] (fun c hc => by cases hc) (by decide) W
  clear hneg hes0
  have hlW : ws.length + ps.length ≤ 80000 := by
    have hm : (mantL ws ps pt).length ≤ 80000 := by first | exact hlen | (rw [hML]; exact hlM)
    unfold mantL at hm; rw [List.length_append] at hm
    cases pt with
    | true => simp at hm; omega
    | false => rw [hp rfl]; simp at hm ⊢; omega
  have hIA := Lib.hid (fun W => s_IndexAny (u8sG (mantL ws ps pt)) ⟨#[101, 69]⟩ W (by rw [uG_size]; omega) (by decide) (fun j b h => by
    rw [uG_data] at h
    obtain ⟨c, hc, rfl⟩ := List.mem_map.1 (List.mem_of_getElem? h)
    have := hall c hc
    simp; omega) (fun j b h => by have : ∀ b ∈ (⟨#[101, 69]⟩ : ByteArray).data.toList, b.toNat < 128 := by decide +kernel
                                  exact this b (List.mem_of_getElem? h)))
  rw [e1] at hIA
  have hLk := Lib.hid (fun W (hb : Below w.heap.size w W) => hL.keep hb)
  have hCut := Lib.hid (fun W (hW : LibW W) => by
    obtain ⟨mx, hml⟩ := hW.ml
    have h := s_Cut (u8sG (mantL ws ps pt)) ⟨#[46]⟩ mx W (by rw [uG_size]; omega) hml
    rw [cut_mant ws ps pt hw hp] at h
    exact h)
  have hCut : Hid (∀ W, LibW W → Calls Tryz.prog 61 #[.string (u8sG (mantL ws ps pt)), .string ⟨#[46]⟩] W fun e w' => e = .returned (.tuple #[.string (u8sG ws), .string (u8sG ps), .bool pt]) ∧ ∃ n, w' = W.drewN n) := hCut
  have hTL := Lib.hid (fun W => s_TrimLeft (u8sG (ws ++ ps)) 48 (by decide) W)
  rw [uG_data, trim_zero (ws ++ ps) (fun c hc => by rcases List.mem_append.1 hc with h | h; · have := hw c h; omega
                                                    · have := hps c h; omega)] at hTL
  have hTL : Hid (∀ W, Calls Tryz.prog 80 #[.string (u8sG (ws ++ ps)), .string ⟨#[48]⟩] W fun e w' => e = .returned (.string (u8sG ((ws ++ ps).dropWhile (· == 48)))) ∧ w' = W) := hTL
  have hSg := Lib.hid hSg0
  have hcv := cvt_sg neg
  have hd := drop_dig (ws ++ ps) (fun c hc => by rcases List.mem_append.1 hc with h | h; · exact hw c h
                                                 · exact hps c h)
  have hh := drop_head (ws ++ ps) (fun c hc => by rcases List.mem_append.1 hc with h | h; · exact hw c h
                                                  · exact hps c h)
  have hdl : ((ws ++ ps).dropWhile (· == 48)).length ≤ 80000 := by
    have := (List.dropWhile_sublist (fun c : Nat => c == 48) (l := ws ++ ps)).length_le
    rw [List.length_append] at this; omega
  have hF := fltV_eq ws ps neg es
  have hpw : pwF ws ps neg es = sgI neg * (powF es : Int) + (((ws ++ ps).dropWhile (· == 48)).length : Int) - (ps.length : Int) := rfl
  have hpl := powF_le es es.length
  rw [List.take_length] at hpl
  have hsgb : sgI neg * (powF es : Int) ≤ 1073741824 ∧ -1073741824 ≤ sgI neg * (powF es : Int) := by unfold sgI; cases neg <;> simp <;> omega
  have happ : u8sG ws ++ u8sG ps = u8sG (ws ++ ps) := uG_app _ _
  generalize (ws ++ ps).dropWhile (· == 48) = d at *
  generalize hFV : fltV ws ps neg es = FV at *
  replace hFV := Lib.hid hF
  have hIt := Lib.hid (fun (h1 : -400 ≤ pwF ws ps neg es) (h2 : pwF ws ps neg es ≤ 400) W hW => c_itoaP (pwF ws ps neg es) h1 h2 W hW)
  have hPF := Lib.hid (fun (hne : d ≠ []) (h1 : -400 ≤ pwF ws ps neg es) (h2 : pwF ws ps neg es ≤ 400) W hW => c_PFD d (pwF ws ps neg es) hd hne hh h1 h2 (by omega) W hW)
  have ht := Lib.hid (tL_app d (pwF ws ps neg es))
  have hdsz : (u8sG d).size = d.length := uG_size d
  have hpsz : (u8sG ps).size = ps.length := uG_size ps
  have hwsz : (u8sG ws).size = ws.length := uG_size ws
  have hesz : (u8sG es).size = es.length := uG_size es
  have hiz : Hid (-400 ≤ pwF ws ps neg es → pwF ws ps neg es ≤ 400 → (u8sG (powL (pwF ws ps neg es))).size ≤ 100) := fun h1 h2 => by
    obtain ⟨k1, k2, k3, k4⟩ := itG_k (k := (pwF ws ps neg es).natAbs) (by omega)
    rw [uG_size]; unfold powL; split
    · rw [List.length_cons]; omega
    · omega
  have hdem : (u8sG d).toList.isEmpty = decide (d = []) := by
    rw [ByteArray.toList_eq, uG_data]; cases d <;> simp
  have hdem2 : ((u8sG d).toList == []) = decide (d = []) := by
    rw [ByteArray.toList_eq, uG_data]; cases d <;> simp
  have hget := Lib.hid (fun j c (h1 : es[j]? = some c) h3 => uG_get es j c h1 (by have := hes c (List.mem_of_getElem? h1); omega) h3)
  have hesd := Lib.hid (fun j c (h1 : es[j]? = some c) => hes c (List.mem_of_getElem? h1))
  have hpt := Lib.hid (fun k c (h : es[k]? = some c) => powF_take h)
  have hpb := Lib.hid (powF_le es)
  have hp0 : Hid (powF (es.take 0) = 0) := rfl
  have hpe : Hid (powF (es.take es.length) = powF es) := by show _ = _; rw [List.take_length]
  have hs80 : (u8sG (mantL ws ps pt)).size ≤ 80000 := by rw [uG_size]; exact hlen
  generalize u8sG (mantL ws ps pt) = M at *
  have hws80 : ws.length ≤ 80000 := by omega
  have hps80 : ps.length ≤ 80000 := by omega
  clear hF
  clear hall hlen hlM hlW e1 hSg0 hes hw hps hp hd hh hpl
  replace hL := Lib.hid hL
  replace hpw := Lib.hid hpw
  replace hsgb := Lib.hid hsgb
  replace happ := Lib.hid happ
  generalize hWS : u8sG ws = WS at *
  generalize hPS : u8sG ps = PS at *
  generalize hES : u8sG es = ES at *
  generalize hDD : u8sG d = DD at *
  generalize hIP : u8sG (powL (pwF ws ps neg es)) = IP at *
  generalize hNT : u8sG (numT d (pwF ws ps neg es)) = NT at *
  clear hWS hPS hES hDD hIP hNT
  generalize hWP : u8sG (ws ++ ps) = WP at *
  clear hWP
  replace happ := happ.out
  go_enter Tryz.func45, Tryz.ntmps45
  go_wp2_with fail
  refine (hIA.out _).mono ?_
  rintro e w1 ⟨rfl, hb1⟩
  clear hIA
  go_wp2_with fail
  refine (hCut.out _ (hLk.out _ hb1)).mono ?_
  rintro e w2 ⟨rfl, q2, rfl⟩
  have hb2 := below_drewN hb1 q2
  generalize w1.drewN q2 = w3 at *
  clear hb1 hCut
  go_wp2_with fail
  refine (hTL.out _).mono ?_
  rintro e w4 ⟨rfl, rfl⟩
  clear hTL
  go_wp2_with fail
  refine (hSg.out _).mono ?_
  rintro e w5 ⟨rfl, q4, rfl⟩
  clear hSg
  go_wp2_with fail
  have hb5 : Below w.heap.size w (w4.drewN q4) := below_drewN hb2 q4
  have hs45 : (w4.drewN q4).heap.size = w4.heap.size := rfl
  have hbI : Below w.heap.size w ((w4.drewN q4).iter ES 0) := hb5.alloc hb5.size _
  have hB5 : w.heap.size ≤ w4.heap.size := hb5.size
  have hit0 : ((w4.drewN q4).iter ES 0).heap[w4.heap.size]? = some (.stringIter ES 0) := World.iter_heap (w4.drewN q4) ES 0
  clear hs45
  replace hesz := Lib.hid hesz
  go_loopw [10, 13] (fun v10 v13 wr => ∃ k : Nat, k ≤ es.length ∧ v10 = .int .i64 (powF (es.take k) : Int) ∧ wr.heap[w4.heap.size]? = some (.stringIter ES k) ∧ Below w.heap.size w wr) (fun _ _ wr => es.length + 1 - wr.iterPos w4.heap.size)
  case atStart => exact ⟨0, Nat.zero_le _, by rw [hp0.out]; rfl, hit0, hbI⟩
  case round =>
    obtain ⟨k, hk, rfl, hit, hbw⟩ := hrel
    have hm : wr.iterPos w4.heap.size = k := by simp [World.iterPos, hit]
    have hpbk := hpb.out k
    by_cases hkl : k < es.length
    · obtain ⟨c, hc⟩ : ∃ c, es[k]? = some c := ⟨es[k], List.getElem?_eq_getElem hkl⟩
      have hcd := hesd.out k c hc
      have hjs : k < ES.size := by have := hesz.out; omega
      have hg := hget.out k c hc hjs
      have hnx : ∀ ty, (Instr.next (.pointer (some ⟨w4.heap.size, 0, none⟩)) true ty).run Tryz.prog wr = .ok (.tuple #[.bool true, .int .i64 (k : Int), .int .i32 (c : Int)]) (wr.iterAt w4.heap.size ES (k + 1)) := fun ty => by
        have := Lib.run_next_ascii_at (P := Tryz.prog) wr w4.heap.size ES k ty hit hjs (by rw [hg]; omega)
        rw [hg] at this
        exact this
      have hit2 := Lib.iterAt_heap wr w4.heap.size ES k (k + 1) hit
      have hbw2 := Lib.below_iterAt hbw (k := w4.heap.size) hB5 ES (k + 1)
      have hm2 : (wr.iterAt w4.heap.size ES (k + 1)).iterPos w4.heap.size = k + 1 := by simp [World.iterPos, hit2]
      have hpk := Lib.hid (hpt.out k c hc)
      generalize wr.iterAt w4.heap.size ES (k + 1) = w6 at *
      have hmin : min (10 * (powF (es.take k) : Int) + ((c : Int) - 48)) 1073741824 = ((min (10 * powF (es.take k) + (c - 48)) 1073741824 : Nat) : Int) := by omega
      rw [← hpk.out] at hmin
      clear hit hbw hc hg hjs
      replace hm := Lib.hid hm
      generalize powF (es.take k) = pk at *
      have hpbk2 : (pk : Int) ≤ 1073741824 := by omega
      generalize hq : powF (es.take (k + 1)) = pk1 at *
      replace hq := Lib.hid hq
      go_wp2_with fail
      go_roundw
      case rel => exact ⟨k + 1, by omega, by rw [hq.out], hit2, hbw2⟩
      case measure => rw [hm2, hm.out]; omega
    · obtain rfl : k = es.length := by omega
      have hnx : ∀ ty, (Instr.next (.pointer (some ⟨w4.heap.size, 0, none⟩)) true ty).run Tryz.prog wr = _ := fun ty => Lib.run_next_end_at wr w4.heap.size ES es.length ty hit (by have := hesz.out; omega)
      rw [hpe.out] at hpbk ⊢
      clear hit hm hpt hpb hget hesd hkl hp0 hpe
      obtain ⟨hg1, hg2⟩ := hsgb.out
      have hpw2 : sgI neg * (powF es : Int) + (d.length : Int) - (ps.length : Int) = pwF ws ps neg es := hpw.out.symm
      generalize pwF ws ps neg es = pw at *
      generalize hPE : (powF es : Int) = pe at *
      generalize hsgi : sgI neg = si at *
      generalize hsp : si * pe = sp at *
      clear hpw hsgb
      generalize hpl : ps.length = pl at *
      generalize hdl2 : d.length = dl at *
      by_cases hd0 : d = []
      · have hr := Lib.hid (hFV.out.trans (if_pos hd0))
        replace hdem := hdem.trans (decide_eq_true hd0)
        replace hdem2 := hdem2.trans (decide_eq_true hd0)
        go_wp2_with fail
        go_ret
        exact ⟨by rw [hr.out]; rfl, hbw⟩
      have hr := hFV.out.trans (if_neg hd0)
      replace hdem := hdem.trans (decide_eq_false hd0)
      replace hdem2 := hdem2.trans (decide_eq_false hd0)
      by_cases h4 : pw < -400
      · replace hr := Lib.hid (hr.trans (if_pos h4))
        go_wp2_with fail
        go_ret
        exact ⟨by rw [hr.out]; rfl, hbw⟩
      replace hr := hr.trans (if_neg h4)
      by_cases h5 : 400 < pw
      · replace hr := Lib.hid (hr.trans (if_pos h5))
        go_wp2_with (go_at_call 44; refine (c_mInf _).mono ?_; rintro e w' ⟨rfl, rfl⟩)
        go_ret
        exact ⟨by rw [hr.out]; rfl, hbw⟩
      replace hr := Lib.hid (hr.trans (if_neg h5))
      have hI1 := Lib.hid (hIt.out (by omega) (by omega) wr (hLk.out _ hbw))
      have hiz1 := hiz.out (by omega) (by omega)
      go_wp2_with fail
      refine hI1.out.mono ?_
      rintro e w7 ⟨rfl, hb7⟩
      have hbA := hbw.trans (hb7.mono hbw.size)
      have hP := Lib.hid (hPF.out hd0 (by omega) (by omega) w7 (hLk.out _ hbA))
      rw [← ht.out] at hP
      go_wp2_with fail
      refine hP.out.mono ?_
      rintro e w8 ⟨⟨er, rfl⟩, hb8⟩
      go_wp2_with fail
      go_ret
      exact ⟨by rw [hr.out]; rfl, hbA.trans (hb8.mono hbA.size)⟩
theorem c_dfloatE (ws ps : List Nat) (pt : Bool) (e : Nat) (sg es : List Nat) (neg : Bool) (hw : ∀ c ∈ ws, 48 ≤ c ∧ c ≤ 57) (hps : ∀ c ∈ ps, 48 ≤ c ∧ c ≤ 57) (hp : pt = false → ps = []) (he : e = 101 ∨ e = 69) (hsg : ∀ c ∈ sg, c < 128) (hes : ∀ c ∈ es, 48 ≤ c ∧ c ≤ 57) (hS : sgnL (sg ++ es) = (oneB neg, es))
    (hlen : (mantL ws ps pt ++ e :: (sg ++ es)).length ≤ 80000) (w : World) (hL : LibW w) :
    Calls Tryz.prog 45 #[.string (u8sG (mantL ws ps pt ++ e :: (sg ++ es)))] w fun r w' => r = .returned (.float .f64 (fltV ws ps neg es)) ∧ Below w.heap.size w w' := by
  have hall : ∀ c ∈ mantL ws ps pt ++ e :: (sg ++ es), c < 128 := by
    intro c hc
    rcases List.mem_append.1 hc with hc | hc
    · exact (mantL_mem hw hps c hc).1
    · rcases List.mem_cons.1 hc with rfl | hc
      · omega
      · rcases List.mem_append.1 hc with hc | hc
        · exact hsg c hc
        · have := hes c hc; omega
  have hlM : (mantL ws ps pt).length ≤ 80000 := by simp only [List.length_append] at hlen; omega
  have hlE : es.length ≤ 80000 := by simp only [List.length_append, List.length_cons] at hlen; omega
  have hlX : (sg ++ es).length ≤ 80000 := by simp only [List.length_append, List.length_cons] at hlen ⊢; omega
  have e1 : Lib.indexAny (u8sG (mantL ws ps pt ++ e :: (sg ++ es))).data.toList (⟨#[101, 69]⟩ : ByteArray).data.toList = ((mantL ws ps pt).length : Int) := by
    rw [uG_data]; exact any_some _ _ e (mantL_mem hw hps) he
  have hx1 : (u8sG (mantL ws ps pt ++ e :: (sg ++ es))).extract 0 (mantL ws ps pt).length = u8sG (mantL ws ps pt) := uG_extract0 _ _ _ rfl
  have hx2 : (u8sG (mantL ws ps pt ++ e :: (sg ++ es))).extract ((mantL ws ps pt).length + 1) (u8sG (mantL ws ps pt ++ e :: (sg ++ es))).size = u8sG (sg ++ es) := by
    have h := uG_extract (mantL ws ps pt ++ [e]) (sg ++ es) (mantL ws ps pt ++ e :: (sg ++ es)).length ((mantL ws ps pt).length + 1) (by simp) (by simp)
    rw [List.append_assoc, List.singleton_append] at h
    rw [uG_size]; exact h
  have hsz : (u8sG (mantL ws ps pt ++ e :: (sg ++ es))).size = (mantL ws ps pt).length + 1 + (sg ++ es).length := by rw [uG_size]; simp; omega
  have hSg0 := fun W => c_dsigned (sg ++ es) (app_all (P := fun c => c < 256) (fun c h => by have := hsg c h; omega) (fun c h => by have := hes c h; omega)) (by omega) W
  rw [hS] at hSg0
  generalize hML : (mantL ws ps pt).length = ml at *
  have hlW : ws.length + ps.length ≤ 80000 := by
    have hm : (mantL ws ps pt).length ≤ 80000 := by first | exact hlen | (rw [hML]; exact hlM)
    unfold mantL at hm; rw [List.length_append] at hm
    cases pt with
    | true => simp at hm; omega
    | false => rw [hp rfl]; simp at hm ⊢; omega
  have hIA := Lib.hid (fun W => s_IndexAny (u8sG (mantL ws ps pt ++ e :: (sg ++ es))) ⟨#[101, 69]⟩ W (by rw [uG_size]; omega) (by decide) (fun j b h => by
    rw [uG_data] at h
    obtain ⟨c, hc, rfl⟩ := List.mem_map.1 (List.mem_of_getElem? h)
    have := hall c hc
    simp; omega) (fun j b h => by have : ∀ b ∈ (⟨#[101, 69]⟩ : ByteArray).data.toList, b.toNat < 128 := by decide +kernel
                                  exact this b (List.mem_of_getElem? h)))
  rw [e1] at hIA
  have hLk := Lib.hid (fun W (hb : Below w.heap.size w W) => hL.keep hb)
  have hCut := Lib.hid (fun W (hW : LibW W) => by
    obtain ⟨mx, hml⟩ := hW.ml
    have h := s_Cut (u8sG (mantL ws ps pt)) ⟨#[46]⟩ mx W (by rw [uG_size]; omega) hml
    rw [cut_mant ws ps pt hw hp] at h
    exact h)
  have hCut : Hid (∀ W, LibW W → Calls Tryz.prog 61 #[.string (u8sG (mantL ws ps pt)), .string ⟨#[46]⟩] W fun e w' => e = .returned (.tuple #[.string (u8sG ws), .string (u8sG ps), .bool pt]) ∧ ∃ n, w' = W.drewN n) := hCut
  have hTL := Lib.hid (fun W => s_TrimLeft (u8sG (ws ++ ps)) 48 (by decide) W)
  rw [uG_data, trim_zero (ws ++ ps) (fun c hc => by rcases List.mem_append.1 hc with h | h; · have := hw c h; omega
                                                    · have := hps c h; omega)] at hTL
  have hTL : Hid (∀ W, Calls Tryz.prog 80 #[.string (u8sG (ws ++ ps)), .string ⟨#[48]⟩] W fun e w' => e = .returned (.string (u8sG ((ws ++ ps).dropWhile (· == 48)))) ∧ w' = W) := hTL
  have hSg := Lib.hid hSg0
  have hcv := cvt_sg neg
  have hd := drop_dig (ws ++ ps) (fun c hc => by rcases List.mem_append.1 hc with h | h; · exact hw c h
                                                 · exact hps c h)
  have hh := drop_head (ws ++ ps) (fun c hc => by rcases List.mem_append.1 hc with h | h; · exact hw c h
                                                  · exact hps c h)
  have hdl : ((ws ++ ps).dropWhile (· == 48)).length ≤ 80000 := by
    have := (List.dropWhile_sublist (fun c : Nat => c == 48) (l := ws ++ ps)).length_le
    rw [List.length_append] at this; omega
  have hF := fltV_eq ws ps neg es
  have hpw : pwF ws ps neg es = sgI neg * (powF es : Int) + (((ws ++ ps).dropWhile (· == 48)).length : Int) - (ps.length : Int) := rfl
  have hpl := powF_le es es.length
  rw [List.take_length] at hpl
  have hsgb : sgI neg * (powF es : Int) ≤ 1073741824 ∧ -1073741824 ≤ sgI neg * (powF es : Int) := by unfold sgI; cases neg <;> simp <;> omega
  have happ : u8sG ws ++ u8sG ps = u8sG (ws ++ ps) := uG_app _ _
  generalize (ws ++ ps).dropWhile (· == 48) = d at *
  generalize hFV : fltV ws ps neg es = FV at *
  replace hFV := Lib.hid hF
  have hIt := Lib.hid (fun (h1 : -400 ≤ pwF ws ps neg es) (h2 : pwF ws ps neg es ≤ 400) W hW => c_itoaP (pwF ws ps neg es) h1 h2 W hW)
  have hPF := Lib.hid (fun (hne : d ≠ []) (h1 : -400 ≤ pwF ws ps neg es) (h2 : pwF ws ps neg es ≤ 400) W hW => c_PFD d (pwF ws ps neg es) hd hne hh h1 h2 (by omega) W hW)
  have ht := Lib.hid (tL_app d (pwF ws ps neg es))
  have hdsz : (u8sG d).size = d.length := uG_size d
  have hpsz : (u8sG ps).size = ps.length := uG_size ps
  have hwsz : (u8sG ws).size = ws.length := uG_size ws
  have hesz : (u8sG es).size = es.length := uG_size es
  have hiz : Hid (-400 ≤ pwF ws ps neg es → pwF ws ps neg es ≤ 400 → (u8sG (powL (pwF ws ps neg es))).size ≤ 100) := fun h1 h2 => by
    obtain ⟨k1, k2, k3, k4⟩ := itG_k (k := (pwF ws ps neg es).natAbs) (by omega)
    rw [uG_size]; unfold powL; split
    · rw [List.length_cons]; omega
    · omega
  have hdem : (u8sG d).toList.isEmpty = decide (d = []) := by
    rw [ByteArray.toList_eq, uG_data]; cases d <;> simp
  have hdem2 : ((u8sG d).toList == []) = decide (d = []) := by
    rw [ByteArray.toList_eq, uG_data]; cases d <;> simp
  have hget := Lib.hid (fun j c (h1 : es[j]? = some c) h3 => uG_get es j c h1 (by have := hes c (List.mem_of_getElem? h1); omega) h3)
  have hesd := Lib.hid (fun j c (h1 : es[j]? = some c) => hes c (List.mem_of_getElem? h1))
  have hpt := Lib.hid (fun k c (h : es[k]? = some c) => powF_take h)
  have hpb := Lib.hid (powF_le es)
  have hp0 : Hid (powF (es.take 0) = 0) := rfl
  have hpe : Hid (powF (es.take es.length) = powF es) := by show _ = _; rw [List.take_length]
  have hi1 : (ml : Int) ≤ ((u8sG (mantL ws ps pt ++ e :: (sg ++ es))).size : Int) := by omega
  have hi2 : (ml : Int) + 1 ≤ ((u8sG (mantL ws ps pt ++ e :: (sg ++ es))).size : Int) := by omega
  have hs80 : (u8sG (mantL ws ps pt ++ e :: (sg ++ es))).size ≤ 80000 := by rw [uG_size]; exact hlen
  have hmt : ((ml : Int)).toNat = ml := rfl
  have hmt1 : ((ml : Int) + 1).toNat = ml + 1 := rfl
  have hi0 : (0 : Int) ≤ (ml : Int) := by omega
  have hsN : ml + 1 ≤ (u8sG (mantL ws ps pt ++ e :: (sg ++ es))).size := by omega
  clear hsz
  replace hx2 := Lib.hid hx2
  generalize u8sG (mantL ws ps pt ++ e :: (sg ++ es)) = S at *
  generalize u8sG (sg ++ es) = XS at *
  generalize u8sG (mantL ws ps pt) = M at *
  have hws80 : ws.length ≤ 80000 := by omega
  have hps80 : ps.length ≤ 80000 := by omega
  clear hF
  clear hall hlen hlM hlW e1 hSg0 hes hw hps hp hd hh hpl hlX he hsg hS hML
  replace hL := Lib.hid hL
  replace hpw := Lib.hid hpw
  replace hsgb := Lib.hid hsgb
  replace happ := Lib.hid happ
  generalize hWS : u8sG ws = WS at *
  generalize hPS : u8sG ps = PS at *
  generalize hES : u8sG es = ES at *
  generalize hDD : u8sG d = DD at *
  generalize hIP : u8sG (powL (pwF ws ps neg es)) = IP at *
  generalize hNT : u8sG (numT d (pwF ws ps neg es)) = NT at *
  clear hWS hPS hES hDD hIP hNT
  generalize hWP : u8sG (ws ++ ps) = WP at *
  clear hWP
  replace happ := happ.out
  go_enter Tryz.func45, Tryz.ntmps45
  go_wp2_with fail
  refine (hIA.out _).mono ?_
  rintro e w1 ⟨rfl, hb1⟩
  clear hIA
  go_wp2_with fail
  go_quiet (fail)
  rw [hx2.out] at *
  go_wp2_with fail
  refine (hCut.out _ (hLk.out _ (below_drewN hb1 _))).mono ?_
  rintro e w2 ⟨rfl, q2, rfl⟩
  have hb2 := below_drewN (below_drewN hb1 nq) q2
  generalize (w1.drewN nq).drewN q2 = w3 at *
  clear hb1 hCut
  go_wp2_with fail
  refine (hTL.out _).mono ?_
  rintro e w4 ⟨rfl, rfl⟩
  clear hTL
  go_wp2_with fail
  refine (hSg.out _).mono ?_
  rintro e w5 ⟨rfl, q4, rfl⟩
  clear hSg
  go_wp2_with fail
  have hb5 : Below w.heap.size w (w4.drewN q4) := below_drewN hb2 q4
  have hs45 : (w4.drewN q4).heap.size = w4.heap.size := rfl
  have hbI : Below w.heap.size w ((w4.drewN q4).iter ES 0) := hb5.alloc hb5.size _
  have hB5 : w.heap.size ≤ w4.heap.size := hb5.size
  have hit0 : ((w4.drewN q4).iter ES 0).heap[w4.heap.size]? = some (.stringIter ES 0) := World.iter_heap (w4.drewN q4) ES 0
  clear hs45
  replace hesz := Lib.hid hesz
  go_loopw [10, 13] (fun v10 v13 wr => ∃ k : Nat, k ≤ es.length ∧ v10 = .int .i64 (powF (es.take k) : Int) ∧ wr.heap[w4.heap.size]? = some (.stringIter ES k) ∧ Below w.heap.size w wr) (fun _ _ wr => es.length + 1 - wr.iterPos w4.heap.size)
  case atStart => exact ⟨0, Nat.zero_le _, by rw [hp0.out]; rfl, hit0, hbI⟩
  case round =>
    obtain ⟨k, hk, rfl, hit, hbw⟩ := hrel
    have hm : wr.iterPos w4.heap.size = k := by simp [World.iterPos, hit]
    have hpbk := hpb.out k
    by_cases hkl : k < es.length
    · obtain ⟨c, hc⟩ : ∃ c, es[k]? = some c := ⟨es[k], List.getElem?_eq_getElem hkl⟩
      have hcd := hesd.out k c hc
      have hjs : k < ES.size := by have := hesz.out; omega
      have hg := hget.out k c hc hjs
      have hnx : ∀ ty, (Instr.next (.pointer (some ⟨w4.heap.size, 0, none⟩)) true ty).run Tryz.prog wr = .ok (.tuple #[.bool true, .int .i64 (k : Int), .int .i32 (c : Int)]) (wr.iterAt w4.heap.size ES (k + 1)) := fun ty => by
        have := Lib.run_next_ascii_at (P := Tryz.prog) wr w4.heap.size ES k ty hit hjs (by rw [hg]; omega)
        rw [hg] at this
        exact this
      have hit2 := Lib.iterAt_heap wr w4.heap.size ES k (k + 1) hit
      have hbw2 := Lib.below_iterAt hbw (k := w4.heap.size) hB5 ES (k + 1)
      have hm2 : (wr.iterAt w4.heap.size ES (k + 1)).iterPos w4.heap.size = k + 1 := by simp [World.iterPos, hit2]
      have hpk := Lib.hid (hpt.out k c hc)
      generalize wr.iterAt w4.heap.size ES (k + 1) = w6 at *
      have hmin : min (10 * (powF (es.take k) : Int) + ((c : Int) - 48)) 1073741824 = ((min (10 * powF (es.take k) + (c - 48)) 1073741824 : Nat) : Int) := by omega
      rw [← hpk.out] at hmin
      clear hit hbw hc hg hjs
      replace hm := Lib.hid hm
      generalize powF (es.take k) = pk at *
      have hpbk2 : (pk : Int) ≤ 1073741824 := by omega
      generalize hq : powF (es.take (k + 1)) = pk1 at *
      replace hq := Lib.hid hq
      go_wp2_with fail
      go_roundw
      case rel => exact ⟨k + 1, by omega, by rw [hq.out], hit2, hbw2⟩
      case measure => rw [hm2, hm.out]; omega
    · obtain rfl : k = es.length := by omega
      have hnx : ∀ ty, (Instr.next (.pointer (some ⟨w4.heap.size, 0, none⟩)) true ty).run Tryz.prog wr = _ := fun ty => Lib.run_next_end_at wr w4.heap.size ES es.length ty hit (by have := hesz.out; omega)
      rw [hpe.out] at hpbk ⊢
      clear hit hm hpt hpb hget hesd hkl hp0 hpe
      obtain ⟨hg1, hg2⟩ := hsgb.out
      have hpw2 : sgI neg * (powF es : Int) + (d.length : Int) - (ps.length : Int) = pwF ws ps neg es := hpw.out.symm
      generalize pwF ws ps neg es = pw at *
      generalize hPE : (powF es : Int) = pe at *
      generalize hsgi : sgI neg = si at *
      generalize hsp : si * pe = sp at *
      clear hpw hsgb
      generalize hpl : ps.length = pl at *
      generalize hdl2 : d.length = dl at *
      by_cases hd0 : d = []
      · have hr := Lib.hid (hFV.out.trans (if_pos hd0))
        replace hdem := hdem.trans (decide_eq_true hd0)
        replace hdem2 := hdem2.trans (decide_eq_true hd0)
        go_wp2_with fail
        go_ret
        exact ⟨by rw [hr.out]; rfl, hbw⟩
      have hr := hFV.out.trans (if_neg hd0)
      replace hdem := hdem.trans (decide_eq_false hd0)
      replace hdem2 := hdem2.trans (decide_eq_false hd0)
      by_cases h4 : pw < -400
      · replace hr := Lib.hid (hr.trans (if_pos h4))
        go_wp2_with fail
        go_ret
        exact ⟨by rw [hr.out]; rfl, hbw⟩
      replace hr := hr.trans (if_neg h4)
      by_cases h5 : 400 < pw
      · replace hr := Lib.hid (hr.trans (if_pos h5))
        go_wp2_with (go_at_call 44; refine (c_mInf _).mono ?_; rintro e w' ⟨rfl, rfl⟩)
        go_ret
        exact ⟨by rw [hr.out]; rfl, hbw⟩
      replace hr := Lib.hid (hr.trans (if_neg h5))
      have hI1 := Lib.hid (hIt.out (by omega) (by omega) wr (hLk.out _ hbw))
      have hiz1 := hiz.out (by omega) (by omega)
      go_wp2_with fail
      refine hI1.out.mono ?_
      rintro e w7 ⟨rfl, hb7⟩
      have hbA := hbw.trans (hb7.mono hbw.size)
      have hP := Lib.hid (hPF.out hd0 (by omega) (by omega) w7 (hLk.out _ hbA))
      rw [← ht.out] at hP
      go_wp2_with fail
      refine hP.out.mono ?_
      rintro e w8 ⟨⟨er, rfl⟩, hb8⟩
      go_wp2_with fail
      go_ret
      exact ⟨by rw [hr.out]; rfl, hbA.trans (hb8.mono hbA.size)⟩
end Go.Proofs.YtbakbikilbaafaaGreatDoor
namespace Go.Proofs.YtbakbikilbaafaaGreatDoor
open Go.RowKit F64 Ieee
set_option linter.unusedVariables false
set_option maxHeartbeats 4000000
set_option maxRecDepth 100000

/-- with a bit that tells whether something is left below -/
def stk (q R : Nat) : Nat := if R = 0 then q else q ||| 1
theorem stk_le (q R : Nat) : q ≤ stk q R ∧ stk q R ≤ q / 2 * 2 + 1 := by
  unfold stk
  split
  · omega
  · rw [or_one]; omega
theorem half_stk {K m R n v : Nat} (hn : 0 < n) (hR : R < n) (hv : 2 ≤ v) (h : Half K (stk m R) (2 ^ v)) : Half K (m * n + R) (n * 2 ^ v) := by
  by_cases h0 : R = 0
  · subst h0
    have h : Half K m (2 ^ v) := by unfold stk at h; rw [if_pos rfl] at h; exact h
    refine half_cross (Nat.two_pow_pos v) (Nat.mul_pos hn (Nat.two_pow_pos v)) ?_ h
    rw [Nat.add_zero]; ac_rfl
  · unfold stk at h
    rw [if_neg h0, or_one] at h
    obtain ⟨w, rfl⟩ : ∃ w, v = w + 2 := ⟨v - 2, by omega⟩
    have e4 : (2 : Nat) ^ (w + 2) = 4 * 2 ^ w := by rw [Nat.pow_add, Nat.mul_comm]
    rw [e4] at h ⊢
    generalize (2 : Nat) ^ w = P at *
    obtain ⟨h1, h2⟩ := h
    have up : m + 1 ≤ 2 * (P * (2 * K + 1)) := by
      have e : 4 * P * (2 * K + 1) = 4 * (P * (2 * K + 1)) := by rw [Nat.mul_assoc]
      rw [e] at h1
      generalize P * (2 * K + 1) = T at *
      omega
    have eu : n * (4 * P) * (2 * K + 1) = 2 * (2 * (P * (2 * K + 1)) * n) := by
      rw [show (4 : Nat) = 2 * 2 from rfl]; ac_rfl
    have mu := Nat.mul_le_mul_right n up
    rw [Nat.add_mul, Nat.one_mul] at mu
    refine ⟨.inl (by rw [eu]; omega), ?_⟩
    rcases Nat.eq_zero_or_pos K with hK | hK
    · exact .inl hK
    · right; left
      have dn : 2 * (P * (2 * K - 1)) ≤ m := by
        have e : 4 * P * (2 * K - 1) = 4 * (P * (2 * K - 1)) := by rw [Nat.mul_assoc]
        rw [e] at h2
        generalize P * (2 * K - 1) = T at *
        omega
      have ed : n * (4 * P) * (2 * K - 1) = 2 * (2 * (P * (2 * K - 1)) * n) := by
        rw [show (4 : Nat) = 2 * 2 from rfl]; ac_rfl
      have md := Nat.mul_le_mul_right n dn
      rw [ed]; omega
theorem rnd_half (m : Nat) : Half (rnd m) m (2 ^ 11) := by
  rw [show (2 : Nat) ^ 11 = 2048 from rfl]
  unfold Half rnd
  split <;> omega
/-- the float nearest to a whole number -/
noncomputable def nN (N : Nat) : Nat := nearV (N * F64.U) 1
theorem nN_zero : nN 0 = 0 := by unfold nN; rw [Nat.zero_mul]; exact nearV_eq (by decide) (near_zero (by decide))
theorem wEK_min (E K : Nat) : wEK (E : Int) K = min (E * 4503599627370496 + K) 9218868437227405312 := by
  unfold wEK
  rw [show ((E : Nat) : Int).toNat = E from rfl]
  split <;> omega
/-- K, N in 2^z's, rounded -/
theorem nN_of {N K a z E : Nat} (hH : Half K (N * 2 ^ a) (2 ^ z)) (hE : E + a = 1074 + z) (hlo : 4503599627370496 * 2 ^ z ≤ N * 2 ^ a) (hK : K ≤ 9007199254740992) : wEK (E : Int) K = nN N := by
  have hU : F64.U = 2 ^ PL := rfl
  have hPL : E + a = PL + z := hE
  have he : (2 : Nat) ^ E * 2 ^ a = F64.U * 2 ^ z := by rw [hU, ← Nat.pow_add, ← Nat.pow_add, hPL]
  have hc : N * 2 ^ a * (1 * 2 ^ E) = N * F64.U * 2 ^ z := by
    calc N * 2 ^ a * (1 * 2 ^ E) = N * (2 ^ E * 2 ^ a) := by ac_rfl
      _ = N * F64.U * 2 ^ z := by rw [he]; ac_rfl
  have h2 : Half K (N * F64.U) (1 * 2 ^ E) := half_cross (Nat.two_pow_pos z) (by rw [Nat.one_mul]; exact Nat.two_pow_pos E) hc hH
  have h3 : 1 * 2 ^ E * 4503599627370496 ≤ N * F64.U := by
    refine Nat.le_of_mul_le_mul_right (c := 2 ^ z) ?_ (Nat.two_pow_pos z)
    rw [← hc]
    calc 1 * 2 ^ E * 4503599627370496 * 2 ^ z = 4503599627370496 * 2 ^ z * (1 * 2 ^ E) := by ac_rfl
      _ ≤ N * 2 ^ a * (1 * 2 ^ E) := Nat.mul_le_mul_right _ hlo
  rw [wEK_min]
  exact (nearV_eq (by decide) (near_round (by decide) h2 (.inr h3) hK)).symm
/-- by 64 bits -/
theorem nN_64 {N m R s k : Nat} (h : N * 2 ^ s = m * 2 ^ k + R) (hR : R < 2 ^ k) (h1 : 9223372036854775808 ≤ m) (h2 : m < 18446744073709551616) (hs : s ≤ 1000) : wEK (1085 + (k : Int) - (s : Int)) (rnd (stk m R)) = nN N := by
  obtain ⟨s1, s2⟩ := stk_le m R
  obtain ⟨r1, r2⟩ := rnd_le (m := stk m R) (by omega) (by omega)
  have hH := half_stk (Nat.two_pow_pos k) hR (by decide) (rnd_half (stk m R))
  rw [← h, ← Nat.pow_add] at hH
  have := nN_of (E := 1085 + k - s) hH (by omega) (by
    rw [Nat.pow_add, h]
    have e : 4503599627370496 * (2 ^ k * 2 ^ 11) = 9223372036854775808 * 2 ^ k := by
      rw [show (9223372036854775808 : Nat) = 4503599627370496 * 2 ^ 11 from rfl]; ac_rfl
    rw [e]
    have := Nat.mul_le_mul_right (2 ^ k) h1
    omega) r2
  rw [← this]
  congr 1
  omega
/-- digits to a base -/
def numB (base : Nat) (l : List Nat) : Nat := l.foldl (fun n c => n * base + wth c) 0
theorem valW_stk (base : Nat) (l : List Nat) : valW (stkW base l) = numB base l := by
  have key : ∀ (l ws : List Nat) (n : Nat), valW ws = n → valW (l.foldl (fun ws c => stepW base ws (wth c)) ws) = l.foldl (fun n c => n * base + wth c) n := by
    intro l
    induction l with
    | nil => intro ws n h; exact h
    | cons c l ih =>
      intro ws n h
      simp only [List.foldl_cons]
      exact ih _ _ (by rw [stepW_val, h])
  exact key l [] 0 rfl
/-- the last word is not nought -/
def LastNZ (ws : List Nat) : Prop := ∀ t, ws.getLast? = some t → t ≠ 0
theorem mulA_last {base : Nat} (hb : 1 ≤ base) : ∀ (ws : List Nat) (c : Nat), (∀ x ∈ ws, x < B64) → LastNZ ws → (mulA base ws c).2 = 0 → LastNZ (mulA base ws c).1
  | [], c, _, _, _ => by intro t ht; simp [mulA] at ht
  | [x], c, hw, hl, h0 => by
    intro t ht
    simp only [mulA, List.getLast?_singleton, Option.some.injEq] at ht h0
    have hx := hl x rfl
    have hxb : 1 ≤ x * base := Nat.mul_pos (by omega) (by omega)
    generalize x * base = y at *
    unfold B64 at *
    omega
  | x :: y :: ws, c, hw, hl, h0 => by
    have ih := mulA_last hb (y :: ws) ((x * base + c) / B64) (fun z hz => hw z (List.mem_cons_of_mem _ hz)) (fun t ht => hl t (by rw [List.getLast?_cons_cons]; exact ht)) h0
    intro t ht
    refine ih t ?_
    have e : mulA base (x :: y :: ws) c = ((x * base + c) % B64 :: (mulA base (y :: ws) ((x * base + c) / B64)).1, (mulA base (y :: ws) ((x * base + c) / B64)).2) := rfl
    rw [e] at ht
    have ln : (mulA base (y :: ws) ((x * base + c) / B64)).1.length = ws.length + 1 := by rw [mulA_len]; rfl
    generalize (mulA base (y :: ws) ((x * base + c) / B64)).1 = q at *
    cases q with
    | nil => simp at ln
    | cons a q => simp only [List.getLast?_cons_cons] at ht; exact ht
theorem stepW_last {base : Nat} (hb : 1 ≤ base) {ws : List Nat} {d : Nat} (hw : ∀ x ∈ ws, x < B64) (hl : LastNZ ws) : LastNZ (stepW base ws d) := by
  unfold stepW
  split
  · rename_i h0
    exact mulA_last hb ws d hw hl h0
  · rename_i h0
    intro t ht
    simp at ht
    omega
theorem stkW_last {base : Nat} (hb : 1 ≤ base) (hb2 : base ≤ 36) {l : List Nat} (hl : ∀ c ∈ l, wth c < base) : LastNZ (stkW base l) := by
  have key : ∀ k, LastNZ (stkW base (l.take k)) := by
    intro k
    induction k with
    | zero => intro t ht; simp [stkW] at ht
    | succ k ih =>
      rcases Nat.lt_or_ge k l.length with h | h
      · have hx : l[k]? = some l[k] := List.getElem?_eq_getElem h
        rw [stkW_snoc base l k _ hx]
        exact stepW_last hb (stkW_lt hb hb2 hl k) ih
      · rw [List.take_of_length_le (by omega)] at ih ⊢
        exact ih
  have := key l.length
  rwa [List.take_length] at this
theorem valW_lt : ∀ (l : List Nat), (∀ x ∈ l, x < B64) → valW l < B64 ^ l.length
  | [], _ => by simp [valW]
  | x :: l, h => by
    have ih := valW_lt l (fun y hy => h y (List.mem_cons_of_mem _ hy))
    have hx := h x (List.mem_cons_self ..)
    simp only [valW, List.length_cons, Nat.pow_succ]
    rw [Nat.mul_comm (B64 ^ l.length) B64]
    have := Nat.mul_le_mul_left B64 (show valW l + 1 ≤ B64 ^ l.length by omega)
    rw [Nat.mul_add] at this
    omega
theorem nat_or_zero {a b : Nat} : a ||| b = 0 ↔ a = 0 ∧ b = 0 := by
  constructor
  · intro h
    have h1 := Nat.left_le_or (n := a) (m := b)
    have h2 := Nat.right_le_or (n := a) (m := b)
    omega
  · rintro ⟨rfl, rfl⟩; rfl
/-- words or'ed together -/
def orL (l : List Nat) (a : Nat) : Nat := l.foldl (· ||| ·) a
theorem orL_zero : ∀ (l : List Nat) (a : Nat), orL l a = 0 ↔ a = 0 ∧ valW l = 0
  | [], a => by simp [orL, valW]
  | x :: l, a => by
    show orL l (a ||| x) = 0 ↔ _
    rw [orL_zero l, nat_or_zero]
    simp only [valW]
    unfold B64
    omega
theorem orL_take {l : List Nat} {k x a : Nat} (h : l[k]? = some x) : orL (l.take (k + 1)) a = orL (l.take k) a ||| x := by
  unfold orL
  rw [List.take_add_one, h, List.foldl_append]; rfl
theorem B64_pow (k : Nat) : B64 ^ k = 2 ^ (64 * k) := by
  have : B64 = 2 ^ 64 := by decide
  rw [this, ← Nat.pow_mul]
/-- two words at the top, and those below -/
theorem two_words {lo : List Nat} {u t s : Nat} (hlo : ∀ x ∈ lo, x < B64) (hu : u < B64) (hs : s ≤ 63) (ht : t * 2 ^ s < B64) :
    valW (lo ++ [u, t]) * 2 ^ s = (t * 2 ^ s + u / 2 ^ (64 - s)) * 2 ^ (64 * (lo.length + 1)) + (u * 2 ^ s % B64 * B64 ^ lo.length + valW lo * 2 ^ s) ∧
    u * 2 ^ s % B64 * B64 ^ lo.length + valW lo * 2 ^ s < 2 ^ (64 * (lo.length + 1)) ∧ u / 2 ^ (64 - s) < 2 ^ s := by
  have hB : B64 = 2 ^ (64 - s) * 2 ^ s := by
    rw [← Nat.pow_add, show 64 - s + s = 64 by omega]; decide
  have hpa : 0 < 2 ^ (64 - s) := Nat.two_pow_pos _
  have hps : 0 < 2 ^ s := Nat.two_pow_pos _
  have e1 : u * 2 ^ s = u / 2 ^ (64 - s) * B64 + u * 2 ^ s % B64 := by
    have hd := Nat.div_add_mod (u * 2 ^ s) B64
    have : u * 2 ^ s / B64 = u / 2 ^ (64 - s) := by
      rw [hB, Nat.mul_div_mul_right _ _ hps]
    rw [this] at hd
    rw [Nat.mul_comm (u / 2 ^ (64 - s)) B64]
    omega
  have hlv := valW_lt lo hlo
  have hq : u / 2 ^ (64 - s) < 2 ^ s := by
    rw [Nat.div_lt_iff_lt_mul hpa, Nat.mul_comm, ← hB]; exact hu
  have hmod : u * 2 ^ s % B64 + 2 ^ s ≤ B64 := by
    have h1 : u * 2 ^ s % B64 = u % 2 ^ (64 - s) * 2 ^ s := by
      rw [hB, Nat.mul_mod_mul_right]
    have h2 := Nat.mod_lt u hpa
    have h3 := Nat.mul_le_mul_right (2 ^ s) (show u % 2 ^ (64 - s) + 1 ≤ 2 ^ (64 - s) by omega)
    rw [Nat.add_mul, Nat.one_mul, ← hB] at h3
    omega
  refine ⟨?_, ?_, hq⟩
  · rw [valW_app]
    simp only [valW, Nat.mul_zero, Nat.add_zero]
    rw [← B64_pow, Nat.pow_succ]
    generalize u * 2 ^ s % B64 = r at *
    generalize u / 2 ^ (64 - s) = q at *
    generalize B64 ^ lo.length = P at *
    generalize valW lo = V0 at *
    calc (V0 + P * (u + B64 * t)) * 2 ^ s = V0 * 2 ^ s + P * (u * 2 ^ s) + t * 2 ^ s * (P * B64) := by
          rw [Nat.add_mul, Nat.mul_add, Nat.add_mul]; simp only [Nat.add_assoc]; congr 1; congr 1 <;> ac_rfl
      _ = V0 * 2 ^ s + P * (q * B64 + r) + t * 2 ^ s * (P * B64) := by rw [← e1]
      _ = (t * 2 ^ s + q) * (P * B64) + (r * P + V0 * 2 ^ s) := by
          rw [Nat.mul_add, Nat.add_mul, show P * (q * B64) = q * (P * B64) by ac_rfl, Nat.mul_comm P r]; omega
  · rw [← B64_pow, Nat.pow_succ]
    generalize u * 2 ^ s % B64 = r at *
    generalize B64 ^ lo.length = P at *
    have h1 := Nat.mul_le_mul_left P hmod
    rw [Nat.mul_add, Nat.mul_comm P r] at h1
    have h2 : valW lo * 2 ^ s < P * 2 ^ s := Nat.mul_lt_mul_of_pos_right hlv hps
    omega
end Go.Proofs.YtbakbikilbaafaaGreatDoor
