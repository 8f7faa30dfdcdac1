/-
  CodeWrites: any module is written as bytes just as the document says, or refused, and read back as it; where what it reads is of bulk at most 1048576 (the card ties the library's tables to its text).
-/
import Derived.Test.YtjjogaenejdliaaGreatDoorY12
import Derived.Test.YtjjogaenejdliaaGreatDoorY9
import Derived.Test.YtjjogaenejdliaaGreatDoorY11
import Derived.Test.YtjjogaenejdliaaGreatDoorY10
import Derived.Test.YtjjogaenejdliaaGreatDoorCards
import Derived.Test.YtjjogaenejdliaaGreatDoorTie
import Derived.ProofKit
import Derived.OpenShut
import Derived.Lay
import Derived.Deep.DeepHandedRow
import Derived.ChangeMaps5
import Derived.LaidMore
import Derived.SevenTiedAt
namespace Go.Proofs.YtjjogaenejdliaaGreatDoor
open Go.RowKit Go.Lib
set_option linter.unusedVariables false
set_option linter.unusedSimpArgs false
set_option maxHeartbeats 4000000
set_option maxRecDepth 100000

theorem args_at (x : IV) (k : Nat) (hk : k < 4) : ∃ z l, (argsI x).drop k = z :: l ∧ (argsI x).drop (k + 1) = l ∧ (argsI x)[k]? = some z := by
  match k, hk with
  | 0, _ => exact ⟨x.a, _, rfl, rfl, rfl⟩
  | 1, _ => exact ⟨x.b, _, rfl, rfl, rfl⟩
  | 2, _ => exact ⟨x.c, _, rfl, rfl, rfl⟩
  | 3, _ => exact ⟨x.d, _, rfl, rfl, rfl⟩
theorem c_Qgood (fs : List FV) (v : Value) (w : World) (hF : RdFs w v fs) : Calls Tryz.prog 18 #[.agg #[v]] w fun e w' => e = .returned (.bool (goodMb fs)) ∧ Below w.heap.size w w' := by
  obtain ⟨p, c, rfl, hlc, hcm, hz⟩ := hF
  unfold maxLen at hcm
  obtain ⟨W1, hW1⟩ : ∃ W1, w.alloc (.cells #[.slice p fs.length c] 24) = W1 := ⟨_, rfl⟩
  have hb1 : Below w.heap.size w W1 := by rw [← hW1]; exact (Below.refl _ w).alloc (Nat.le_refl _) _
  have d1 : W1.heap[w.heap.size]? = some (.cells #[.slice p fs.length c] 24 (0, 0)) := by rw [← hW1]; exact heap_alloc_new w _
  have m0 : W1.cell? ⟨w.heap.size, 0, none⟩ = some (.slice p fs.length c) := by rw [cell_of_row _ _ 0 _ _ _ d1]; rfl
  have rsf := fun (w : World) (a : Addr) (x : Nat) => run_store Tryz.prog w a (.float .f64 x) .plain rfl
  replace hz := Lib.hid hz
  clear d1
  by_cases h0 : 0 < fs.length
  rotate_left
  · have hg : goodMb fs = false := by unfold goodMb; rw [decide_eq_false h0, Bool.false_and]
    have hl : fs.length = 0 := by omega
    rw [hg]
    rw [hl] at m0 hW1 ⊢
    replace hb1 := Lib.hid hb1
    clear hlc hcm h0 hg hl
    go_enter Tryz.func18, Tryz.ntmps18
    go_wp2
    go_ret
    exact ⟨rfl, hb1.out⟩
  have hgm : goodMb fs = fs.all goodFb := by unfold goodMb; rw [decide_eq_true h0, Bool.true_and]
  have hl0 : ((fs.length : Int) == 0) = false := by rw [beq_eq_false_iff_ne]; omega
  rw [hgm]
  replace hb1 := Lib.hid hb1
  clear hgm
  go_enter Tryz.func18, Tryz.ntmps18
  go_wp2_with fail
  go_loopg [22] fs.length (fun g v22 wr => ∃ k : Nat, k + g = fs.length ∧ v22 = .int .i64 (k : Int) ∧ Below w.heap.size w wr ∧ (fs.take k).all goodFb = true)
  case atStart => exact ⟨0, by simp, rfl, hb1.out, rfl⟩
  case round =>
    obtain ⟨k, hkg, rfl, hB, hal⟩ := hrel
    rcases gk with _ | g
    · obtain rfl : k = fs.length := by omega
      rw [List.take_length] at hal
      replace hal := Lib.hid hal
      clear m0 hkg
      go_wp2
      go_ret
      exact ⟨by rw [hal.out]; rfl, hB⟩
    obtain ⟨f, hf⟩ : ∃ f, fs[k]? = some f := ⟨_, List.getElem?_eq_getElem (by omega)⟩
    obtain ⟨bx, ox, cx, rfl, hFC, hyx⟩ := hz.out k f hf
    have hyw := fun (j : Nat) (u : Value) (hu : cx[j]? = some u) => (hB.cell (cell_lt (hyx j u hu))).trans (hyx j u hu)
    obtain ⟨W9, hW9⟩ : ∃ W, wr.alloc (.cells cx.toArray 47) = W := ⟨_, rfl⟩
    have hb9 : Below w.heap.size w W9 := by rw [← hW9]; exact hB.alloc hB.size _
    have d9 : W9.heap[wr.heap.size]? = some (.cells cx.toArray 47 (0, 0)) := by rw [← hW9]; exact heap_alloc_new wr _
    have hs9 : w.heap.size ≤ W9.heap.size := hb9.size
    have hall := Lib.hid (fun hg => all_take (p := goodFb) hf hal hg)
    have hbad := Lib.hid (fun hg => all_bad (p := goodFb) hf hg)
    have hkg2 : (k + 1) + g = fs.length := by omega
    obtain ⟨vc, vi, vt, vk, rfl, ⟨⟨p5, k5, rfl, m5, M5, z5⟩, ⟨p6, k6, rfl, m6, M6, z6⟩⟩, ⟨p7, k7, rfl, m7, M7, z7⟩, ⟨p8, k8, rfl, m8, M8, z8⟩⟩ := hFC
    unfold maxLen at M5 M6 M7 M8
    obtain ⟨cA0, cA1, cA2, cA3, cA4, cA5, cA6, cA7, cA8⟩ := at_F hyw
    obtain ⟨⟨e0, e1, e2, e3, e4, e5, e6, e7, e8⟩, -⟩ := row9 d9
    have q1 : (0 : Int) ≤ (k : Int) := by omega
    have q2 : (k : Int) < (fs.length : Int) := by omega
    have hgd : goodFb f = ((f.name.size % 2 == 0) && (decide (0 ≤ f.params) && (decide (0 ≤ f.regs) && (f.consts.all goodCb && (f.code.all goodIb && (f.tries.all goodTb && f.caps.all goodKb)))))) := rfl
    generalize hGF : goodFb f = GF at *
    obtain ⟨nm, pa, re, ar, rg, lc, li, lt, lk⟩ := f
    dsimp only at *
    replace z5 := Lib.hid z5
    replace z6 := Lib.hid z6
    replace z7 := Lib.hid z7
    replace z8 := Lib.hid z8
    replace hgd := Lib.hid hgd
    replace hb9 := Lib.hid hb9
    clear hyx hyw hal hf hkg hB hb1 m0 hGF
    by_cases h1 : nm.size % 2 = 0
    rotate_left
    · have t1 : ((nm.size : Int) % 2 == 1) = true := by rw [beq_iff_eq]; omega
      have hgF : GF = false := by rw [hgd.out]; simp [h1]
      have hgM := hbad.out hgF
      replace hgM := Lib.hid hgM
      clear h1 hgF
      go_wp2
      go_ret
      exact ⟨by rw [hgM.out]; rfl, hb9.out⟩
    have t1 : ((nm.size : Int) % 2 == 1) = false := by rw [beq_eq_false_iff_ne]; omega
    by_cases h2 : 0 ≤ pa
    rotate_left
    · have t2 : decide (pa < 0) = true := by simp; omega
      have hgF : GF = false := by rw [hgd.out]; simp [h2]
      have hgM := hbad.out hgF
      replace hgM := Lib.hid hgM
      clear h1 h2 hgF
      go_wp2
      go_ret
      exact ⟨by rw [hgM.out]; rfl, hb9.out⟩
    have t2 : decide (pa < 0) = false := by simp; omega
    by_cases h3 : 0 ≤ rg
    rotate_left
    · have t3 : decide (rg < 0) = true := by simp; omega
      have hgF : GF = false := by rw [hgd.out]; simp [h3]
      have hgM := hbad.out hgF
      replace hgM := Lib.hid hgM
      clear h1 h2 h3 hgF
      go_wp2
      go_ret
      exact ⟨by rw [hgM.out]; rfl, hb9.out⟩
    have t3 : decide (rg < 0) = false := by simp; omega
    have hg1 : GF = (lc.all goodCb && (li.all goodIb && (lt.all goodTb && lk.all goodKb))) := by rw [hgd.out]; simp [h1, h2, h3]
    replace hg1 := Lib.hid hg1
    have hB9 : Below W9.heap.size W9 W9 := Below.refl _ _
    obtain ⟨wf, hwf⟩ : ∃ n : Nat, wr.heap.size = n := ⟨_, rfl⟩
    rw [hwf] at d9 e0 e1 e2 e3 e4 e5 e6 e7 e8
    have hd9 := Lib.hid d9
    clear h1 h2 h3 hgd d9
    subst hwf
    go_wp2_with fail
    obtain ⟨woV, rfl⟩ : ∃ W : World, W = wr := ⟨_, rfl⟩
    go_loopg [44] lc.length (fun g5 v44 w5 => ∃ q : Nat, q + g5 = lc.length ∧ v44 = .int .i64 (q : Int) ∧ Below W9.heap.size W9 w5 ∧ (lc.take q).all goodCb = true)
    case atStart => exact ⟨0, by simp, rfl, hB9, rfl⟩
    case round =>
      obtain ⟨q, hq, rfl, hB5, hal5⟩ := hrel
      have hbw : Below w.heap.size w wr := hb9.out.trans (hB5.mono hs9)
      rcases gk with _ | g5
      rotate_left
      · obtain ⟨x, hx⟩ : ∃ x, lc[q]? = some x := ⟨_, List.getElem?_eq_getElem (by omega)⟩
        obtain ⟨by5, oy5, rfl, hyx⟩ := z5.out q x hx
        have hcx := at_V (w := wr) (b := by5) (o := oy5) (k := q) (x := x) (fun j u hu => (hbw.cell (cell_lt (hyx j u hu))).trans (hyx j u hu))
        obtain ⟨cx0, cx1, cx2, cx3⟩ := hcx
        have q3 : (0 : Int) ≤ (q : Int) := by omega
        have q4 : (q : Int) < (lc.length : Int) := by omega
        obtain ⟨Wx, hWx⟩ : ∃ W, wr.alloc (.cells (encVV x).toArray 51) = W := ⟨_, rfl⟩
        have hbx : Below W9.heap.size W9 Wx := by rw [← hWx]; exact hB5.alloc hB5.size _
        have dx : Wx.heap[wr.heap.size]? = some (.cells (encVV x).toArray 51 (0, 0)) := by rw [← hWx]; exact heap_alloc_new wr _
        have hbxw := Lib.hid (hb9.out.trans (hbx.mono hs9))
        have hat5 := Lib.hid (fun hg => all_take (p := goodCb) hx hal5 hg)
        have hbd5 := Lib.hid (fun hg => all_bad (p := goodCb) hx hg)
        have hq2 : (q + 1) + g5 = lc.length := by omega
        obtain ⟨x0, x1, x2, x3⟩ := (row4 dx).1
        replace hbx := Lib.hid hbx
        replace dx := Lib.hid dx
        clear hyx hx hq hal5 hB5 hbw hB9
        obtain ⟨xk, xx, xs, xr⟩ := x
        dsimp only at *
        unfold encVV at hWx
        have hgx0 : goodCb ⟨xk, xx, xs, xr⟩ = (xk == 3 || (xk == 4 && xs.size % 2 == 0)) := rfl
        by_cases h3 : xk = 3
        · subst h3
          have hgc : goodCb ⟨3, xx, xs, xr⟩ = true := by rw [hgx0]; rfl
          clear hgx0
          have hgx := hat5.out hgc
          replace hgx := Lib.hid hgx
          have hBx := Lib.hid hbx.out
          go_wp2_with fail
          go_roundg g5
          case measure => exact Nat.lt_succ_self _
          case rel => exact ⟨q + 1, hq2, by go_num, hBx.out, hgx.out⟩
        · have u3 : (xk != 3) = true := by simp [h3]
          by_cases h4 : xk = 4
          · subst h4
            by_cases hev : xs.size % 2 = 0
            · have u4 : ((xs.size : Int) % 2 == 1) = false := by rw [beq_eq_false_iff_ne]; omega
              have hgc : goodCb ⟨4, xx, xs, xr⟩ = true := by rw [hgx0]; simp [hev]
              clear hgx0 hev h3
              have hgx := hat5.out hgc
              replace hgx := Lib.hid hgx
              have hBx := Lib.hid hbx.out
              go_wp2_with fail
              go_roundg g5
              case measure => exact Nat.lt_succ_self _
              case rel => exact ⟨q + 1, hq2, by go_num, hBx.out, hgx.out⟩
            · have u4 : ((xs.size : Int) % 2 == 1) = true := by rw [beq_iff_eq]; omega
              have hgc : goodCb ⟨4, xx, xs, xr⟩ = false := by rw [hgx0]; simp [hev]
              clear hgx0 hev h3
              have hgF : GF = false := by rw [hg1.out, hbd5.out hgc]; simp
              have hgM := hbad.out hgF
              replace hgM := Lib.hid hgM
              clear hgF hgc
              go_wp2
              go_ret
              exact ⟨by rw [hgM.out]; rfl, hbxw.out⟩
          · have u4 : (xk != 4) = true := by simp [h4]
            have hgc : goodCb ⟨xk, xx, xs, xr⟩ = false := by rw [hgx0]; simp [h3, h4]
            clear hgx0 h3 h4
            have hgF : GF = false := by rw [hg1.out, hbd5.out hgc]; simp
            have hgM := hbad.out hgF
            replace hgM := Lib.hid hgM
            clear hgF hgc
            go_wp2
            go_ret
            exact ⟨by rw [hgM.out]; rfl, hbxw.out⟩
      · obtain rfl : q = lc.length := by omega
        rw [List.take_length] at hal5
        obtain ⟨y9, rfl⟩ : ∃ W : World, W = wr := ⟨_, rfl⟩
        clear hB9
        have hB9 := hB5
        obtain ⟨⟨e0, e1, e2, e3, e4, e5, e6, e7, e8⟩, -⟩ := row9 ((hB5.block _ (row_lt hd9.out)).trans hd9.out)
        have hllc := Lib.hid hal5
        clear hq hal5 hB5 hbw
        go_wp2_with fail
        skip
        go_loopg [67] li.length (fun g5 v44 w5 => ∃ q : Nat, q + g5 = li.length ∧ v44 = .int .i64 (q : Int) ∧ Below W9.heap.size W9 w5 ∧ (li.take q).all goodIb = true)
        case atStart => exact ⟨0, by simp, rfl, hB9, rfl⟩
        case round =>
          obtain ⟨q, hq, rfl, hB5, hal5⟩ := hrel
          have hbw : Below w.heap.size w wr := hb9.out.trans (hB5.mono hs9)
          rcases gk with _ | g5
          rotate_left
          · obtain ⟨x, hx⟩ : ∃ x, li[q]? = some x := ⟨_, List.getElem?_eq_getElem (by omega)⟩
            obtain ⟨by5, oy5, rfl, hyx⟩ := z6.out q x hx
            have hcx := at_I (w := wr) (b := by5) (o := oy5) (k := q) (x := x) (fun j u hu => (hbw.cell (cell_lt (hyx j u hu))).trans (hyx j u hu))
            obtain ⟨cx0, cx1, cx2, cx3, cx4⟩ := hcx
            have q3 : (0 : Int) ≤ (q : Int) := by omega
            have q4 : (q : Int) < (li.length : Int) := by omega
            obtain ⟨Wx, hWx⟩ : ∃ W, wr.alloc (.cells (encI x).toArray 40) = W := ⟨_, rfl⟩
            have hbx : Below W9.heap.size W9 Wx := by rw [← hWx]; exact hB5.alloc hB5.size _
            have dx : Wx.heap[wr.heap.size]? = some (.cells (encI x).toArray 40 (0, 0)) := by rw [← hWx]; exact heap_alloc_new wr _
            have hbxw := Lib.hid (hb9.out.trans (hbx.mono hs9))
            have hat5 := Lib.hid (fun hg => all_take (p := goodIb) hx hal5 hg)
            have hbd5 := Lib.hid (fun hg => all_bad (p := goodIb) hx hg)
            have hq2 : (q + 1) + g5 = li.length := by omega
            obtain ⟨x0, x1, x2, x3, x4⟩ := (row5 dx).1
            replace hbx := Lib.hid hbx
            replace dx := Lib.hid dx
            clear hyx hx hq hal5 hB5 hbw hB9
            have hgx0 : goodIb x = (decide (0 ≤ x.op ∧ x.op ≤ 70) && argsOk (nlOf x.op.toNat) 0 (argsI x)) := rfl
            have hA := Lib.hid (fun y => c_QArgs x y)
            have haa := Lib.hid (fun k hk => args_at x k hk)
            have hav := Lib.hid (fun (y : World) (b k : Nat) (z : Int) (h : y.heap[b]? = some (.cells (argV x) 3 (0, 0))) (hz : (argsI x)[k]? = some z) => argV_at h hz)
            by_cases hp : 0 ≤ x.op
            rotate_left
            · have u1 : decide (x.op < 0) = true := by simp; omega
              have hgc : goodIb x = false := by rw [hgx0, decide_eq_false (by omega), Bool.false_and]
              unfold encI at hWx
              clear hgx0 hp hA
              have hgF : GF = false := by rw [hg1.out, hllc.out, hbd5.out hgc]; simp
              have hgM := hbad.out hgF
              replace hgM := Lib.hid hgM
              clear hgF hgc
              go_wp2
              go_ret
              exact ⟨by rw [hgM.out]; rfl, hbxw.out⟩
            have u1 : decide (x.op < 0) = false := by simp; omega
            by_cases hp2 : x.op ≤ 70
            rotate_left
            · have u2 : decide (70 < x.op) = true := by simp; omega
              have hgc : goodIb x = false := by rw [hgx0, decide_eq_false (by omega), Bool.false_and]
              unfold encI at hWx
              clear hgx0 hp hp2 hA
              have hgF : GF = false := by rw [hg1.out, hllc.out, hbd5.out hgc]; simp
              have hgM := hbad.out hgF
              replace hgM := Lib.hid hgM
              clear hgF hgc
              go_wp2
              go_ret
              exact ⟨by rw [hgM.out]; rfl, hbxw.out⟩
            have u2 : decide (70 < x.op) = false := by simp; omega
            obtain ⟨m, hm⟩ := Int.eq_ofNat_of_zero_le hp
            rw [hm, Int.toNat_natCast, decide_eq_true (by omega), Bool.true_and] at hgx0
            have hm70 : m ≤ 70 := by omega
            have hO := Lib.hid (fun y => c_QOperands m y hm70)
            have hsz := Lib.hid (ltT_size m hm70)
            obtain ⟨GI, hGI⟩ : ∃ G, goodIb x = G := ⟨_, rfl⟩
            rw [hGI] at hgx0 hat5 hbd5
            generalize ltT m = ops at *
            generalize nlOf m = n at *
            obtain ⟨op, xa, xb, xc, xd⟩ := x
            dsimp only at *
            obtain rfl : op = (m : Int) := hm
            have dxe : Wx.heap[wr.heap.size]? = some (.cells #[.int .i64 (m : Int), .int .i64 xa, .int .i64 xb, .int .i64 xc, .int .i64 xd] 40 (0, 0)) := dx.out
            unfold encI at hWx hA
            obtain ⟨wi, rfl⟩ : ∃ W : World, W = wr := ⟨_, rfl⟩
            replace dxe := Lib.hid dxe
            replace hgx0 := Lib.hid hgx0
            clear hp hp2 hGI
            go_wp2_with fail
            refine (hA.out _).mono ?_
            rintro e y ⟨rfl, hra, hba⟩
            have hbay := Lib.hid (hbx.out.trans (hba.mono hbx.out.size))
            have dxy := Lib.hid ((hba.block _ (row_lt dxe.out)).trans dxe.out)
            obtain ⟨ab, hab⟩ : ∃ ab, Wx.heap.size + 1 = ab := ⟨_, rfl⟩
            rw [hab] at hra ⊢
            replace hra := Lib.hid hra
            clear hba dx x0 x1 x2 x3 x4 cx0 cx1 cx2 cx3 cx4
            go_wp2_with fail
            go_loopg [82] 4 (fun g4 v82 w4 => ∃ j : Nat, j + g4 = 4 ∧ v82 = .int .i64 (j : Int) ∧ Below W9.heap.size W9 w4 ∧ w4.heap[ab]? = some (.cells (argV ⟨(m : Int), xa, xb, xc, xd⟩) 3 (0, 0)) ∧ w4.heap[wi.heap.size]? = some (.cells #[.int .i64 (m : Int), .int .i64 xa, .int .i64 xb, .int .i64 xc, .int .i64 xd] 40 (0, 0)) ∧ GI = argsOk n j ((argsI ⟨(m : Int), xa, xb, xc, xd⟩).drop j))
            case atStart => exact ⟨0, rfl, rfl, hbay.out, hra.out, dxy.out, hgx0.out⟩
            case round =>
              obtain ⟨j, hj, rfl, hB4, hr4, hd4, hg4⟩ := hrel
              rcases gk with _ | g4
              · obtain rfl : j = 4 := by omega
                have hgc : GI = true := by rw [hg4]; rfl
                obtain ⟨yz, rfl⟩ : ∃ W : World, W = wr := ⟨_, rfl⟩
                have hgx := hat5.out hgc
                replace hgx := Lib.hid hgx
                have hBx := Lib.hid hB4
                clear hg4 hgc hr4 hd4 hB4 hj
                go_wp2_with fail
                go_roundg g5
                case measure => exact Nat.lt_succ_self _
                case rel => exact ⟨q + 1, hq2, by go_num, hBx.out, hgx.out⟩
              · have hj4 : j < 4 := by omega
                obtain ⟨z, l, l1, l2, l3⟩ := haa.out j hj4
                rw [l1, argsOk, ← l2] at hg4
                have hc := hav.out _ _ _ _ hr4 l3
                have j1 : (0 : Int) ≤ (j : Int) := by omega
                have j2 : (j : Int) < 4 := by omega
                have hj2 : (j + 1) + g4 = 4 := by omega
                have hbw4 := Lib.hid (hb9.out.trans (hB4.mono hs9))
                obtain ⟨x0, x1, x2, x3, x4⟩ := (row5 hd4).1
                replace hr4 := Lib.hid hr4
                replace hd4 := Lib.hid hd4
                replace hB4 := Lib.hid hB4
                clear l1 l2 l3 hj hj4
                by_cases hz0 : 0 ≤ z
                rotate_left
                · have u3 : decide (z < 0) = true := by simp; omega
                  have hgc : GI = false := by rw [hg4]; unfold okAt; split <;> simp <;> omega
                  clear hg4 hz0
                  have hgF : GF = false := by rw [hg1.out, hllc.out, hbd5.out hgc]; simp
                  have hgM := hbad.out hgF
                  replace hgM := Lib.hid hgM
                  clear hgF hgc
                  go_wp2
                  go_ret
                  exact ⟨by rw [hgM.out]; rfl, hbw4.out⟩
                have u3 : decide (z < 0) = false := by simp; omega
                by_cases hjn : j < n
                · have u4 : decide ((ops.size : Int) ≤ (j : Int)) = false := by have := hsz.out; simp; omega
                  have u4' : decide (ops.size ≤ j) = false := by have := hsz.out; simp; omega
                  have hg5 : GI = argsOk n (j + 1) ((argsI ⟨(m : Int), xa, xb, xc, xd⟩).drop (j + 1)) := by rw [hg4]; unfold okAt; rw [if_pos hjn, decide_eq_true hz0, Bool.true_and]
                  replace hg5 := Lib.hid hg5
                  clear hg4 hz0 hjn
                  go_wp2_with fail
                  refine (hO.out _).mono ?_
                  rintro e y5 ⟨rfl, hb5⟩
                  have hall5 := Lib.hid (show Below W9.heap.size W9 y5 ∧ y5.heap[ab]? = _ ∧ y5.heap[wi.heap.size]? = _ from ⟨hB4.out.trans (hb5.mono hB4.out.size), (hb5.block _ (row_lt hr4.out)).trans hr4.out, (hb5.block _ (row_lt hd4.out)).trans hd4.out⟩)
                  clear hb5
                  go_wp2_with fail
                  go_roundg g4
                  case measure => exact Nat.lt_succ_self _
                  case rel => exact ⟨j + 1, hj2, by go_num, hall5.out.1, hall5.out.2.1, hall5.out.2.2, hg5.out⟩
                · have u4 : decide ((ops.size : Int) ≤ (j : Int)) = true := by have := hsz.out; simp; omega
                  have u4' : decide (ops.size ≤ j) = true := by have := hsz.out; simp; omega
                  by_cases hz1 : z = 0
                  · subst hz1
                    have hg5 : GI = argsOk n (j + 1) ((argsI ⟨(m : Int), xa, xb, xc, xd⟩).drop (j + 1)) := by rw [hg4]; unfold okAt; rw [if_neg hjn]; simp
                    replace hg5 := Lib.hid hg5
                    clear hg4 hz0 hjn
                    go_wp2_with fail
                    refine (hO.out _).mono ?_
                    rintro e y5 ⟨rfl, hb5⟩
                    have hall5 := Lib.hid (show Below W9.heap.size W9 y5 ∧ y5.heap[ab]? = _ ∧ y5.heap[wi.heap.size]? = _ from ⟨hB4.out.trans (hb5.mono hB4.out.size), (hb5.block _ (row_lt hr4.out)).trans hr4.out, (hb5.block _ (row_lt hd4.out)).trans hd4.out⟩)
                    clear hb5
                    go_wp2_with fail
                    go_roundg g4
                    case measure => exact Nat.lt_succ_self _
                    case rel => exact ⟨j + 1, hj2, by go_num, hall5.out.1, hall5.out.2.1, hall5.out.2.2, hg5.out⟩
                  · have u5 : (z != 0) = true := by simp [hz1]
                    have hgc : GI = false := by rw [hg4]; unfold okAt; rw [if_neg hjn]; simp [hz1]
                    clear hg4 hz0 hjn hz1
                    go_wp2_with fail
                    refine (hO.out _).mono ?_
                    rintro e y5 ⟨rfl, hb5⟩
                    have hbw5 := Lib.hid (hbw4.out.trans (hb5.mono hbw4.out.size))
                    clear hb5
                    have hgF : GF = false := by rw [hg1.out, hllc.out, hbd5.out hgc]; simp
                    have hgM := hbad.out hgF
                    replace hgM := Lib.hid hgM
                    clear hgF hgc
                    go_wp2
                    go_ret
                    exact ⟨by rw [hgM.out]; rfl, hbw5.out⟩
          · obtain rfl : q = li.length := by omega
            rw [List.take_length] at hal5
            obtain ⟨y9, rfl⟩ : ∃ W : World, W = wr := ⟨_, rfl⟩
            clear hB9
            have hB9 := hB5
            obtain ⟨⟨e0, e1, e2, e3, e4, e5, e6, e7, e8⟩, -⟩ := row9 ((hB5.block _ (row_lt hd9.out)).trans hd9.out)
            have hlli := Lib.hid hal5
            clear hq hal5 hB5 hbw
            go_wp2_with fail
            skip
            go_loopg [106] lt.length (fun g5 v44 w5 => ∃ q : Nat, q + g5 = lt.length ∧ v44 = .int .i64 (q : Int) ∧ Below W9.heap.size W9 w5 ∧ (lt.take q).all goodTb = true)
            case atStart => exact ⟨0, by simp, rfl, hB9, rfl⟩
            case round =>
              obtain ⟨q, hq, rfl, hB5, hal5⟩ := hrel
              have hbw : Below w.heap.size w wr := hb9.out.trans (hB5.mono hs9)
              rcases gk with _ | g5
              rotate_left
              · obtain ⟨x, hx⟩ : ∃ x, lt[q]? = some x := ⟨_, List.getElem?_eq_getElem (by omega)⟩
                obtain ⟨by5, oy5, rfl, hyx⟩ := z7.out q x hx
                have hcx := at_T (w := wr) (b := by5) (o := oy5) (k := q) (x := x) (fun j u hu => (hbw.cell (cell_lt (hyx j u hu))).trans (hyx j u hu))
                obtain ⟨cx0, cx1, cx2, cx3⟩ := hcx
                have q3 : (0 : Int) ≤ (q : Int) := by omega
                have q4 : (q : Int) < (lt.length : Int) := by omega
                obtain ⟨Wx, hWx⟩ : ∃ W, wr.alloc (.cells (encT x).toArray 96) = W := ⟨_, rfl⟩
                have hbx : Below W9.heap.size W9 Wx := by rw [← hWx]; exact hB5.alloc hB5.size _
                have dx : Wx.heap[wr.heap.size]? = some (.cells (encT x).toArray 96 (0, 0)) := by rw [← hWx]; exact heap_alloc_new wr _
                have hbxw := Lib.hid (hb9.out.trans (hbx.mono hs9))
                have hat5 := Lib.hid (fun hg => all_take (p := goodTb) hx hal5 hg)
                have hbd5 := Lib.hid (fun hg => all_bad (p := goodTb) hx hg)
                have hq2 : (q + 1) + g5 = lt.length := by omega
                obtain ⟨x0, x1, x2, x3⟩ := (row4 dx).1
                replace hbx := Lib.hid hbx
                replace dx := Lib.hid dx
                clear hyx hx hq hal5 hB5 hbw hB9
                obtain ⟨xf, xt, xa, xg⟩ := x
                dsimp only at *
                unfold encT at hWx
                have hgx0 : goodTb ⟨xf, xt, xa, xg⟩ = (decide (0 ≤ xf) && (decide (0 ≤ xt) && (decide (0 ≤ xa) && decide (0 ≤ xg)))) := rfl
                by_cases hxf : 0 ≤ xf
                rotate_left
                · have uxf : decide (xf < 0) = true := by simp; omega
                  have hgc : goodTb ⟨xf, xt, xa, xg⟩ = false := by rw [hgx0]; simp [hxf]
                  clear hgx0 hxf
                  have hgF : GF = false := by rw [hg1.out, hllc.out, hlli.out, hbd5.out hgc]; simp
                  have hgM := hbad.out hgF
                  replace hgM := Lib.hid hgM
                  clear hgF hgc
                  go_wp2
                  go_ret
                  exact ⟨by rw [hgM.out]; rfl, hbxw.out⟩
                have uxf : decide (xf < 0) = false := by simp; omega
                by_cases hxt : 0 ≤ xt
                rotate_left
                · have uxt : decide (xt < 0) = true := by simp; omega
                  have hgc : goodTb ⟨xf, xt, xa, xg⟩ = false := by rw [hgx0]; simp [hxt]
                  clear hgx0 hxf hxt
                  have hgF : GF = false := by rw [hg1.out, hllc.out, hlli.out, hbd5.out hgc]; simp
                  have hgM := hbad.out hgF
                  replace hgM := Lib.hid hgM
                  clear hgF hgc
                  go_wp2
                  go_ret
                  exact ⟨by rw [hgM.out]; rfl, hbxw.out⟩
                have uxt : decide (xt < 0) = false := by simp; omega
                by_cases hxa : 0 ≤ xa
                rotate_left
                · have uxa : decide (xa < 0) = true := by simp; omega
                  have hgc : goodTb ⟨xf, xt, xa, xg⟩ = false := by rw [hgx0]; simp [hxa]
                  clear hgx0 hxf hxt hxa
                  have hgF : GF = false := by rw [hg1.out, hllc.out, hlli.out, hbd5.out hgc]; simp
                  have hgM := hbad.out hgF
                  replace hgM := Lib.hid hgM
                  clear hgF hgc
                  go_wp2
                  go_ret
                  exact ⟨by rw [hgM.out]; rfl, hbxw.out⟩
                have uxa : decide (xa < 0) = false := by simp; omega
                by_cases hxg : 0 ≤ xg
                rotate_left
                · have uxg : decide (xg < 0) = true := by simp; omega
                  have hgc : goodTb ⟨xf, xt, xa, xg⟩ = false := by rw [hgx0]; simp [hxg]
                  clear hgx0 hxf hxt hxa hxg
                  have hgF : GF = false := by rw [hg1.out, hllc.out, hlli.out, hbd5.out hgc]; simp
                  have hgM := hbad.out hgF
                  replace hgM := Lib.hid hgM
                  clear hgF hgc
                  go_wp2
                  go_ret
                  exact ⟨by rw [hgM.out]; rfl, hbxw.out⟩
                have uxg : decide (xg < 0) = false := by simp; omega
                have hgc : goodTb ⟨xf, xt, xa, xg⟩ = true := by rw [hgx0]; simp [hxf, hxt, hxa, hxg]
                clear hgx0 hxf hxt hxa hxg
                have hgx := hat5.out hgc
                replace hgx := Lib.hid hgx
                have hBx := Lib.hid hbx.out
                go_wp2_with fail
                go_roundg g5
                case measure => exact Nat.lt_succ_self _
                case rel => exact ⟨q + 1, hq2, by go_num, hBx.out, hgx.out⟩
              · obtain rfl : q = lt.length := by omega
                rw [List.take_length] at hal5
                obtain ⟨y9, rfl⟩ : ∃ W : World, W = wr := ⟨_, rfl⟩
                clear hB9
                have hB9 := hB5
                obtain ⟨⟨e0, e1, e2, e3, e4, e5, e6, e7, e8⟩, -⟩ := row9 ((hB5.block _ (row_lt hd9.out)).trans hd9.out)
                have hllt := Lib.hid hal5
                clear hq hal5 hB5 hbw
                go_wp2_with fail
                skip
                go_loopg [132] lk.length (fun g5 v44 w5 => ∃ q : Nat, q + g5 = lk.length ∧ v44 = .int .i64 (q : Int) ∧ Below W9.heap.size W9 w5 ∧ (lk.take q).all goodKb = true)
                case atStart => exact ⟨0, by simp, rfl, hB9, rfl⟩
                case round =>
                  obtain ⟨q, hq, rfl, hB5, hal5⟩ := hrel
                  have hbw : Below w.heap.size w wr := hb9.out.trans (hB5.mono hs9)
                  rcases gk with _ | g5
                  rotate_left
                  · obtain ⟨x, hx⟩ : ∃ x, lk[q]? = some x := ⟨_, List.getElem?_eq_getElem (by omega)⟩
                    obtain ⟨by5, oy5, rfl, hyx⟩ := z8.out q x hx
                    have hcx := at_K (w := wr) (b := by5) (o := oy5) (k := q) (x := x) (fun j u hu => (hbw.cell (cell_lt (hyx j u hu))).trans (hyx j u hu))
                    obtain ⟨cx0, cx1⟩ := hcx
                    have q3 : (0 : Int) ≤ (q : Int) := by omega
                    have q4 : (q : Int) < (lk.length : Int) := by omega
                    obtain ⟨Wx, hWx⟩ : ∃ W, wr.alloc (.cells (encK x).toArray 98) = W := ⟨_, rfl⟩
                    have hbx : Below W9.heap.size W9 Wx := by rw [← hWx]; exact hB5.alloc hB5.size _
                    have dx : Wx.heap[wr.heap.size]? = some (.cells (encK x).toArray 98 (0, 0)) := by rw [← hWx]; exact heap_alloc_new wr _
                    have hbxw := Lib.hid (hb9.out.trans (hbx.mono hs9))
                    have hat5 := Lib.hid (fun hg => all_take (p := goodKb) hx hal5 hg)
                    have hbd5 := Lib.hid (fun hg => all_bad (p := goodKb) hx hg)
                    have hq2 : (q + 1) + g5 = lk.length := by omega
                    obtain ⟨x0, x1⟩ := (row2 dx).1
                    replace hbx := Lib.hid hbx
                    replace dx := Lib.hid dx
                    clear hyx hx hq hal5 hB5 hbw hB9
                    obtain ⟨xu, xn⟩ := x
                    dsimp only at *
                    unfold encK at hWx
                    have hgx0 : goodKb ⟨xu, xn⟩ = decide (0 ≤ xn) := rfl
                    by_cases hxn : 0 ≤ xn
                    rotate_left
                    · have u1 : decide (xn < 0) = true := by simp; omega
                      have hgc : goodKb ⟨xu, xn⟩ = false := by rw [hgx0]; simp [hxn]
                      clear hgx0 hxn
                      have hgF : GF = false := by rw [hg1.out, hllc.out, hlli.out, hllt.out, hbd5.out hgc]; simp
                      have hgM := hbad.out hgF
                      replace hgM := Lib.hid hgM
                      clear hgF hgc
                      go_wp2
                      go_ret
                      exact ⟨by rw [hgM.out]; rfl, hbxw.out⟩
                    have u1 : decide (xn < 0) = false := by simp; omega
                    have hgc : goodKb ⟨xu, xn⟩ = true := by rw [hgx0]; simp [hxn]
                    clear hgx0 hxn
                    have hgx := hat5.out hgc
                    replace hgx := Lib.hid hgx
                    have hBx := Lib.hid hbx.out
                    go_wp2_with fail
                    go_roundg g5
                    case measure => exact Nat.lt_succ_self _
                    case rel => exact ⟨q + 1, hq2, by go_num, hBx.out, hgx.out⟩
                  · obtain rfl : q = lk.length := by omega
                    rw [List.take_length] at hal5
                    obtain ⟨y9, rfl⟩ : ∃ W : World, W = wr := ⟨_, rfl⟩
                    clear hB9
                    have hB9 := hB5
                    obtain ⟨⟨e0, e1, e2, e3, e4, e5, e6, e7, e8⟩, -⟩ := row9 ((hB5.block _ (row_lt hd9.out)).trans hd9.out)
                    have hllk := Lib.hid hal5
                    clear hq hal5 hB5 hbw
                    have hgF : GF = true := by rw [hg1.out, hllc.out, hlli.out, hllt.out, hllk.out]; rfl
                    have hgx := Lib.hid (hall.out hgF)
                    have hBz := Lib.hid (hb9.out.trans (hB9.mono hs9))
                    clear hgF hB9
                    go_wp2_with fail
                    go_roundg g
                    case measure => exact Nat.lt_succ_self _
                    case rel => exact ⟨k + 1, hkg2, by go_num, hBz.out, hgx.out⟩
end Go.Proofs.YtjjogaenejdliaaGreatDoor
namespace Go.Proofs.YtjjogaenejdliaaGreatDoor
open Go.RowKit Go.Lib
set_option linter.unusedVariables false
set_option linter.unusedSimpArgs false
set_option maxHeartbeats 4000000
set_option maxRecDepth 100000

theorem c_QEncode (fs : List FV) (v : Value) (w : World) (hF : RdFs w v fs) (hG : goodMb fs = true → ∀ f ∈ fs, GoodF f ∧ SizedF f) (hN : (wrMod fs).length ≤ 1099511627000) : Calls Tryz.prog 8 #[.agg #[v]] w fun e w' => Below w.heap.size w w' ∧ EncR fs w e w' := by
  obtain ⟨Wa, hWa⟩ : ∃ W, w.alloc (.cells #[v] 24) = W := ⟨_, rfl⟩
  have ba : Below w.heap.size w Wa := by rw [← hWa]; exact (Below.refl _ w).alloc (Nat.le_refl _) _
  have da : Wa.heap[w.heap.size]? = some (.cells #[v] 24 (0, 0)) := by rw [← hWa]; exact heap_alloc_new w _
  have sa : Wa.heap.size = w.heap.size + 1 := by rw [← hWa]; exact Array.size_push _
  have hgood := c_Qgood fs v Wa (hF.below ba)
  obtain ⟨p, c, rfl, hlc, hcm, hz⟩ := hF
  unfold maxLen at hcm
  have m0 : Wa.cell? ⟨w.heap.size, 0, none⟩ = some (.slice p fs.length c) := by rw [cell_of_row _ _ 0 _ _ _ da]; rfl
  have rsf := fun (w : World) (a : Addr) (x : Nat) => run_store Tryz.prog w a (.float .f64 x) .plain rfl
  have hlm : (wrMod fs).length = 4 + ((leb fs.length).length + (fs.flatMap wrFn).length) := by unfold wrMod wrMany; rw [List.length_append, List.length_append]; rfl
  rw [hlm] at hN
  replace hgood := Lib.hid hgood
  replace hN := Lib.hid hN
  replace hlm := Lib.hid hlm
  replace hz := Lib.hid hz
  replace ba := Lib.hid ba
  replace da := Lib.hid da
  cases hgm : goodMb fs with
  | false =>
    rw [hgm] at hgood
    clear hG
    go_enter Tryz.func8, Tryz.ntmps8
    go_wp2_with fail
    refine hgood.out.mono ?_
    rintro e y ⟨rfl, hb⟩
    have hB := Lib.hid (ba.out.trans (hb.mono (by omega)))
    replace hgm := Lib.hid hgm
    clear hb
    go_wp2
    go_ret2
    exact ⟨hB.out, .inr (.inr ⟨hgm.out, rfl⟩)⟩
  | true =>
    rw [hgm] at hgood
    have hG1 := Lib.hid (hG hgm)
    replace hgm := Lib.hid hgm
    clear hG
    go_enter Tryz.func8, Tryz.ntmps8
    go_wp2_with fail
    refine hgood.out.mono ?_
    rintro e y ⟨rfl, hb⟩
    have hbw := ba.out.trans (hb.mono (by omega))
    have dy := (hb.block _ (row_lt da.out)).trans da.out
    obtain ⟨Wb, hWb⟩ : ∃ W, y.alloc (.cells #[.int .u8 76, .int .u8 78, .int .u8 84, .int .u8 49] 5 (4, 5)) = W := ⟨_, rfl⟩
    have bb : Below y.heap.size y Wb := by rw [← hWb]; exact (Below.refl _ y).alloc (Nat.le_refl _) _
    have db : Wb.heap[y.heap.size]? = some (.cells #[.int .u8 76, .int .u8 78, .int .u8 84, .int .u8 49] 5 (4, 5)) := by rw [← hWb]; exact heap_alloc_new y _
    have kc : (convert 27 27 (.slice (some ⟨y.heap.size, 0, none⟩) 4 4)).run Tryz.prog (y.alloc (.cells #[.int .u8 76, .int .u8 78, .int .u8 84, .int .u8 49] 5)) = .ok (.slice (some ⟨y.heap.size, 0, none⟩) 4 4) Wb := by
      have := Lib.run_convert_bytes_const (P := Tryz.prog) y 27 5 #[.int .u8 76, .int .u8 78, .int .u8 84, .int .u8 49] 4 4 Tryz.underlying27 Tryz.underlying5
      rw [← hWb]
      exact this
    have dmb := (bb.block _ (row_lt dy)).trans dy
    have hC := Lib.hid (c_QnumW0 db fs.length (by omega) (by have := hN.out; omega))
    have hbwb := Lib.hid (hbw.trans (bb.mono hbw.size))
    have hsy := Lib.hid (show w.heap.size < y.heap.size from by have := row_lt dy; omega)
    have m1 : Wb.cell? ⟨w.heap.size, 0, none⟩ = some (.slice p fs.length c) := by rw [cell_of_row _ _ 0 _ _ _ dmb]; rfl
    replace dmb := Lib.hid dmb
    clear hb bb db m0 dy hbw
    go_wp2_with fail
    refine hC.out.mono ?_
    rintro e y2 ⟨o2, v2, rfl, hL2, hT2⟩
    have hb2 := Lib.hid (hT2.below0 (B := w.heap.size) (fun k hk => by injection hk with hk; have := hsy.out; omega) (Nat.le_refl _) hbwb.out hbwb.out.size)
    have ho2 := Lib.hid (hT2.from0 (B := w.heap.size) (fun k hk => by injection hk with hk; have := hsy.out; omega) hbwb.out.size)
    have dm2 := Lib.hid (hT2.keep dmb.out (fun e => by injection e with e; have := hsy.out; omega))
    have m2 : y2.cell? ⟨w.heap.size, 0, none⟩ = some (.slice p fs.length c) := by rw [cell_of_row _ _ 0 _ _ _ dm2.out]; rfl
    replace hL2 := Lib.hid hL2
    clear hT2 hC m1
    go_wp2_with fail
    go_loopg [4, 19] fs.length (fun g v4 v19 wr => ∃ (k : Nat) (o3 : Option Nat), k + g = fs.length ∧ v19 = .int .i64 (k : Int) ∧ LS o3 v4 wr ((magic ++ leb fs.length) ++ (fs.take k).flatMap wrFn) ∧ Below w.heap.size w wr ∧ ∀ j, o3 = some j → w.heap.size ≤ j)
    case atStart => exact ⟨0, o2, by simp, rfl, by simpa using hL2.out, hb2.out, ho2.out⟩
    case round =>
      obtain ⟨k, o3, hkg, rfl, hL3, hB3, ho3⟩ := hrel
      rcases gk with _ | g
      · obtain rfl : k = fs.length := by omega
        rw [List.take_length] at hL3
        have hM : (magic ++ leb fs.length) ++ fs.flatMap wrFn = wrMod fs := by unfold wrMod wrMany; rw [List.append_assoc]
        rw [hM] at hL3
        obtain ⟨rfl, hown⟩ := hL3
        obtain ⟨q, d, rfl⟩ := own_form2 hown
        have hob := Lib.hid (own_base hown ho3)
        obtain ⟨N, hNe⟩ : ∃ N, (wrMod fs).length = N := ⟨_, rfl⟩
        have hNe' := Lib.hid hNe
        rw [hNe] at hob ho3 ⊢
        replace hB3 := Lib.hid hB3
        clear hown ho3 hM m2 hkg hNe
        by_cases hL : N ≤ 4194304
        · have hd : decide ((4194304 : Int) < (N : Int)) = false := by simp; omega
          have hL' := Lib.hid hL
          clear hL
          go_wp2
          go_ret2
          exact ⟨hB3.out, .inl ⟨hgm.out, by rw [hNe'.out]; exact hL'.out, _, rfl, by rw [hNe'.out]; exact hob.out⟩⟩
        · have hd : decide ((4194304 : Int) < (N : Int)) = true := by simp; omega
          have hL' := Lib.hid hL
          clear hL hob
          go_wp2
          go_ret2
          exact ⟨hB3.out, .inr (.inl ⟨hgm.out, by rw [hNe'.out]; have := hL'.out; omega, rfl⟩)⟩
      · obtain ⟨f, hf⟩ : ∃ f, fs[k]? = some f := ⟨_, List.getElem?_eq_getElem (by omega)⟩
        obtain ⟨bx, ox, cx, rfl, hFC, hyx⟩ := hz.out k f hf
        obtain ⟨hg1, hg2⟩ := hG1.out f (List.mem_of_getElem? hf)
        have hyw := fun (j : Nat) (u : Value) (hu : cx[j]? = some u) => (hB3.cell (cell_lt (hyx j u hu))).trans (hyx j u hu)
        obtain ⟨W9, hW9⟩ : ∃ W, wr.alloc (.cells cx.toArray 47) = W := ⟨_, rfl⟩
        have hb9 : Below wr.heap.size wr W9 := by rw [← hW9]; exact (Below.refl _ wr).alloc (Nat.le_refl _) _
        have d9 : W9.heap[wr.heap.size]? = some (.cells cx.toArray 47 (0, 0)) := by rw [← hW9]; exact heap_alloc_new wr _
        have hlx := flat_take_le (wr := wrFn) hf
        have hm4 : magic.length = 4 := rfl
        have hB9 := Lib.hid (hB3.trans (hb9.mono hB3.size))
        have hCx := c_QfnW f cx hFC hg1 hg2 hB9.out ho3 (hL3.below hb9) (by have := hN.out; simp only [List.length_append]; omega)
        have hft := Lib.hid (flat_take (wr := wrFn) hf)
        have hkg2 : (k + 1) + g = fs.length := by omega
        obtain ⟨xa5, xa6, xa7, xa8, rfl, ⟨⟨ha5, na5, rfl, _⟩, ⟨ha6, na6, rfl, _⟩⟩, ⟨ha7, na7, rfl, _⟩, ⟨ha8, na8, rfl, _⟩⟩ := hFC
        obtain ⟨cA0, cA1, cA2, cA3, cA4, cA5, cA6, cA7, cA8⟩ := at_F hyw
        obtain ⟨⟨e0, e1, e2, e3, e4, e5, e6, e7, e8⟩, -⟩ := row9 d9
        have q1 : (0 : Int) ≤ (k : Int) := by omega
        have q2 : (k : Int) < (fs.length : Int) := by omega
        replace hCx := Lib.hid hCx
        replace ho3 := Lib.hid ho3
        clear hyx hyw hlx hb9 d9 hL3 hB3 hf hkg hg1 hg2 m2
        go_wp2_with fail
        refine hCx.out.mono ?_
        rintro e y9 ⟨o9, v9, rfl, hL9, hT9⟩
        have hfin := Lib.hid (show LS o9 v9 y9 ((magic ++ leb fs.length) ++ (fs.take (k + 1)).flatMap wrFn) ∧ Below w.heap.size w y9 ∧ ∀ j, o9 = some j → w.heap.size ≤ j from ⟨by rw [hft.out, ← List.append_assoc]; exact hL9, hT9.below0 ho3.out (Nat.le_refl _) hB9.out hB9.out.size, hT9.from0 ho3.out hB9.out.size⟩)
        clear hL9 hT9 hCx
        go_wp2_with fail
        go_roundg g
        case measure => exact Nat.lt_succ_self _
        case rel => exact ⟨k + 1, o9, hkg2, by go_num, hfin.out⟩
end Go.Proofs.YtjjogaenejdliaaGreatDoor
namespace Go.Proofs.YtjjogaenejdliaaGreatDoor
open Go.RowKit Go.Lib
set_option linter.unusedVariables false
set_option linter.unusedSimpArgs false
set_option maxHeartbeats 4000000
set_option maxRecDepth 100000

theorem c_few (fs : List FV) (v : Value) (w : World) (hF : RdFs w v fs) : Calls Tryz.prog 6 #[.agg #[v]] w fun e w' => (∃ b, e = .returned (.bool b)) ∧ Below w.heap.size w w' := by
  obtain ⟨p, c, rfl, hlc, hcm, hz⟩ := hF
  unfold maxLen at hcm
  obtain ⟨W1, hW1⟩ : ∃ W1, w.alloc (.cells #[.slice p fs.length c] 24) = W1 := ⟨_, rfl⟩
  have hb1 : Below w.heap.size w W1 := by rw [← hW1]; exact (Below.refl _ w).alloc (Nat.le_refl _) _
  have d1 : W1.heap[w.heap.size]? = some (.cells #[.slice p fs.length c] 24 (0, 0)) := by rw [← hW1]; exact heap_alloc_new w _
  have m0 : W1.cell? ⟨w.heap.size, 0, none⟩ = some (.slice p fs.length c) := by rw [cell_of_row _ _ 0 _ _ _ d1]; rfl
  have rsf := fun (w : World) (a : Addr) (x : Nat) => run_store Tryz.prog w a (.float .f64 x) .plain rfl
  replace hz := Lib.hid hz
  replace hb1 := Lib.hid hb1
  clear d1
  go_enter Tryz.func6, Tryz.ntmps6
  go_wp2_with fail
  go_loopg [3, 14] fs.length (fun g v3 v14 wr => ∃ (k : Nat) (z : Int), k + g = fs.length ∧ v3 = .int .i64 z ∧ v14 = .int .i64 (k : Int) ∧ Below w.heap.size w wr)
  case atStart => exact ⟨0, fs.length, by simp, rfl, rfl, hb1.out⟩
  case round =>
    obtain ⟨k, z, hkg, rfl, rfl, hB⟩ := hrel
    rcases gk with _ | g
    · obtain rfl : k = fs.length := by omega
      clear m0 hkg
      go_wp2
      go_ret
      exact ⟨⟨_, rfl⟩, hB⟩
    obtain ⟨f, hf⟩ : ∃ f, fs[k]? = some f := ⟨_, List.getElem?_eq_getElem (by omega)⟩
    obtain ⟨bx, ox, cx, rfl, hFC, hyx⟩ := hz.out k f hf
    have hyw := fun (j : Nat) (u : Value) (hu : cx[j]? = some u) => (hB.cell (cell_lt (hyx j u hu))).trans (hyx j u hu)
    obtain ⟨W9, hW9⟩ : ∃ W, wr.alloc (.cells cx.toArray 47) = W := ⟨_, rfl⟩
    have hb9 : Below w.heap.size w W9 := by rw [← hW9]; exact hB.alloc hB.size _
    have d9 : W9.heap[wr.heap.size]? = some (.cells cx.toArray 47 (0, 0)) := by rw [← hW9]; exact heap_alloc_new wr _
    have hs9 : w.heap.size ≤ W9.heap.size := hb9.size
    have hkg2 : (k + 1) + g = fs.length := by omega
    obtain ⟨vc, vi, vt, vk, rfl, ⟨⟨p5, k5, rfl, m5, M5, z5⟩, ⟨p6, k6, rfl, m6, M6, z6⟩⟩, ⟨p7, k7, rfl, m7, M7, z7⟩, ⟨p8, k8, rfl, m8, M8, z8⟩⟩ := hFC
    unfold maxLen at M5 M6 M7 M8
    obtain ⟨cA0, cA1, cA2, cA3, cA4, cA5, cA6, cA7, cA8⟩ := at_F hyw
    obtain ⟨⟨e0, e1, e2, e3, e4, e5, e6, e7, e8⟩, -⟩ := row9 d9
    have q1 : (0 : Int) ≤ (k : Int) := by omega
    have q2 : (k : Int) < (fs.length : Int) := by omega
    replace z5 := Lib.hid z5
    replace hb9 := Lib.hid hb9
    clear hyx hyw hf hkg hB hb1 m0 d9 z6 z7 z8
    obtain ⟨wo, rfl⟩ : ∃ W : World, W = wr := ⟨_, rfl⟩
    go_wp2_with fail
    go_loopg [3, 43] f.consts.length (fun g5 v3 v43 w5 => ∃ (q : Nat) (z : Int), q + g5 = f.consts.length ∧ v3 = .int .i64 z ∧ v43 = .int .i64 (q : Int) ∧ Below w.heap.size w w5)
    case atStart => exact ⟨0, _, by simp, rfl, rfl, hb9.out⟩
    case round =>
      obtain ⟨q, z5', hq, rfl, rfl, hB5⟩ := hrel
      rcases gk with _ | g5
      · obtain rfl : q = f.consts.length := by omega
        obtain ⟨y9, rfl⟩ : ∃ W : World, W = wr := ⟨_, rfl⟩
        clear hq
        go_wp2_with fail
        go_roundg g
        case measure => exact Nat.lt_succ_self _
        case rel => exact ⟨k + 1, _, hkg2, rfl, by go_num, hB5⟩
      · obtain ⟨x, hx⟩ : ∃ x, f.consts[q]? = some x := ⟨_, List.getElem?_eq_getElem (by omega)⟩
        obtain ⟨by5, oy5, rfl, hyx⟩ := z5.out q x hx
        have hcx := at_V (w := wr) (b := by5) (o := oy5) (k := q) (x := x) (fun j u hu => (hB5.cell (cell_lt (hyx j u hu))).trans (hyx j u hu))
        obtain ⟨cx0, cx1, cx2, cx3⟩ := hcx
        have q3 : (0 : Int) ≤ (q : Int) := by omega
        have q4 : (q : Int) < (f.consts.length : Int) := by omega
        obtain ⟨Wx, hWx⟩ : ∃ W, wr.alloc (.cells (encVV x).toArray 51) = W := ⟨_, rfl⟩
        have hbx : Below w.heap.size w Wx := by rw [← hWx]; exact hB5.alloc hB5.size _
        have dx : Wx.heap[wr.heap.size]? = some (.cells (encVV x).toArray 51 (0, 0)) := by rw [← hWx]; exact heap_alloc_new wr _
        obtain ⟨x0, x1, x2, x3⟩ := (row4 dx).1
        have hq2 : (q + 1) + g5 = f.consts.length := by omega
        replace hbx := Lib.hid hbx
        unfold encVV at hWx
        clear hyx hx hq hB5 dx
        go_wp2_with fail
        go_roundg g5
        case measure => exact Nat.lt_succ_self _
        case rel => exact ⟨q + 1, _, hq2, rfl, by go_num, hbx.out⟩
end Go.Proofs.YtjjogaenejdliaaGreatDoor
namespace Go.Proofs.YtjjogaenejdliaaGreatDoor
open Go.RowKit Go.Lib
set_option linter.unusedVariables false
set_option linter.unusedSimpArgs false
set_option maxHeartbeats 4000000
set_option maxRecDepth 100000

section
variable {fs : List FV} {w w' : World} {e : Ending}
theorem EncR.fine (h : EncR fs w e w') (hg : goodMb fs = true) (hl : (wrMod fs).length ≤ 4194304) : ∃ u, e = .returned (.tuple #[u, .int .i64 0]) ∧ w'.ownsRow w.heap.size 5 1 u (wrMod fs).length ((wrMod fs).map byteV) := by
  rcases h with ⟨_, _, h⟩ | ⟨_, h2, _⟩ | ⟨h2, _⟩
  · exact h
  · omega
  · rw [hg] at h2; cases h2
theorem EncR.long (h : EncR fs w e w') (hg : goodMb fs = true) (hl : ¬ (wrMod fs).length ≤ 4194304) : e = .returned (.tuple #[.slice none 0 0, .int .i64 2]) := by
  rcases h with ⟨_, h2, _⟩ | ⟨_, _, h⟩ | ⟨h2, _⟩
  · omega
  · exact h
  · rw [hg] at h2; cases h2
theorem EncR.bad (h : EncR fs w e w') (hg : goodMb fs = false) : e = .returned (.tuple #[.slice none 0 0, .int .i64 110]) := by
  rcases h with ⟨h2, _⟩ | ⟨h2, _⟩ | ⟨_, h⟩
  · rw [hg] at h2; cases h2
  · rw [hg] at h2; cases h2
  · exact h
theorem own_blk8 {B n : Nat} {t : TypeId} {u : Value} {xs : List Value} (h : w.ownsRow B t 1 u n xs) (h0 : 0 < w.heap.size) : ∃ bb, Blk bb u ∧ bb < w.heap.size := by
  rcases h.2 with ⟨rfl, _⟩ | ⟨g, cap, cur, rfl, _, hg, _⟩
  · exact ⟨0, (fun p n c h => by cases h), h0⟩
  · exact ⟨g, (fun p n c h => by injection h with h; injection h with h; rw [← h]), row_lt hg⟩
theorem c_CodeWrites (fs : List FV) (u : Value) (w : World) (hF : RdFs w u fs) (hS : Spc w) (hR : ∀ f ∈ fs, RgF f) (hz : (fs.map szF).sum ≤ 1048576) : Calls Tryz.prog 3 #[.agg #[u]] w fun e w' => e = .returned (.bool true) ∧ Below w.heap.size w w' := by
  have hN := wrMod_len hR hz
  have hall := good_all hR hz
  have hag := fun hg => again (fs := fs) hg hR hz
  have hlt := mod_lt fs
  obtain ⟨W1, hW1⟩ : ∃ W1, w.alloc (.cells #[u] 24) = W1 := ⟨_, rfl⟩
  have hb1 : Below w.heap.size w W1 := by rw [← hW1]; exact (Below.refl _ w).alloc (Nat.le_refl _) _
  have d1 : W1.heap[w.heap.size]? = some (.cells #[u] 24 (0, 0)) := by rw [← hW1]; exact heap_alloc_new w _
  have hA := Lib.hid (c_awake W1 (hS.keep hb1))
  have hu : u = u := rfl
  obtain ⟨p, c, rfl⟩ : ∃ p c, u = .slice p fs.length c := by
    obtain ⟨p, c, h, _⟩ := hF
    exact ⟨p, c, h⟩
  have hs1 : w.heap.size < W1.heap.size := row_lt d1
  have hnil : ∀ y : World, (convert 27 9 (.slice none 0 0)).run Tryz.prog y = .ok (.string ⟨#[]⟩) y := fun y => rdB_strS (bs := []) ⟨none, 0, rfl, by simp, by simp, fun k x hx => by simp at hx⟩
  replace hF := Lib.hid hF
  replace hS := Lib.hid hS
  replace hb1 := Lib.hid hb1
  replace d1 := Lib.hid d1
  replace hall := Lib.hid hall
  replace hag := Lib.hid hag
  replace hlt := Lib.hid hlt
  replace hN := Lib.hid hN
  clear hR hz hu
  go_enter Tryz.func3, Tryz.ntmps3
  go_wp2_with fail
  refine hA.out.mono ?_
  rintro e y1 ⟨rfl, hby1⟩
  have b1 := hb1.out.trans (hby1.mono (by omega))
  have e1 := (hby1.block _ (row_lt d1.out)).trans d1.out
  have k1 : y1.cell? ⟨w.heap.size, 0, none⟩ = some (.slice p fs.length c) := by rw [cell_of_row _ _ 0 _ _ _ e1]; rfl
  have hFw := Lib.hid (c_few fs _ y1 (hF.out.below b1))
  replace b1 := Lib.hid b1
  replace e1 := Lib.hid e1
  clear hby1 hA
  go_wp2_with fail
  refine hFw.out.mono ?_
  rintro e y2 ⟨⟨bf, rfl⟩, hby2⟩
  have hs2 := row_lt e1.out
  have b2 := b1.out.trans (hby2.mono (by omega))
  cases bf with
  | false =>
    replace b2 := Lib.hid b2
    clear hby2 hFw
    go_wp2
    go_ret
    exact ⟨rfl, b2.out⟩
  | true =>
    have e2 := (hby2.block _ (row_lt e1.out)).trans e1.out
    have k2 : y2.cell? ⟨w.heap.size, 0, none⟩ = some (.slice p fs.length c) := by rw [cell_of_row _ _ 0 _ _ _ e2]; rfl
    have hE := Lib.hid (c_Encode fs _ y2 (hF.out.below b2) (hS.out.keep b2) hN.out)
    replace b2 := Lib.hid b2
    replace e2 := Lib.hid e2
    clear hby2 hFw k1
    go_wp2_with fail
    refine hE.out.mono ?_
    rintro e y3 ⟨hby3, hR3⟩
    have hs3 := row_lt e2.out
    have b3 := b2.out.trans (hby3.mono (by omega))
    have e3 := (hby3.block _ (row_lt e2.out)).trans e2.out
    have k3 : y3.cell? ⟨w.heap.size, 0, none⟩ = some (.slice p fs.length c) := by rw [cell_of_row _ _ 0 _ _ _ e3]; rfl
    have hQ := Lib.hid (c_QEncode fs _ y3 (hF.out.below b3) hall.out hN.out)
    have l3 := hby3.size
    replace b3 := Lib.hid b3
    replace e3 := Lib.hid e3
    clear hby3 hE k2
    cases hg : goodMb fs with
    | false =>
      obtain rfl := hR3.bad hg
      go_wp2_with fail
      refine hQ.out.mono ?_
      rintro e y4 ⟨hby4, hR4⟩
      obtain rfl := hR4.bad hg
      have hs4 := row_lt e3.out
      have b4 := Lib.hid (b3.out.trans (hby4.mono (by omega)))
      replace hg := Lib.hid hg
      clear hby4 hR4 hQ k3
      go_wp2
      go_ret
      exact ⟨rfl, b4.out⟩
    | true =>
      by_cases hl : (wrMod fs).length ≤ 4194304
      rotate_left
      · obtain rfl := hR3.long hg hl
        go_wp2_with fail
        refine hQ.out.mono ?_
        rintro e y4 ⟨hby4, hR4⟩
        obtain rfl := hR4.long hg hl
        have hs4 := row_lt e3.out
        have b4 := Lib.hid (b3.out.trans (hby4.mono (by omega)))
        replace hg := Lib.hid hg
        clear hby4 hR4 hQ k3 hl
        go_wp2
        go_ret
        exact ⟨rfl, b4.out⟩
      · obtain ⟨u1, rfl, ho1⟩ := hR3.fine hg hl
        obtain ⟨hrd, hg2, hw2⟩ := hag.out hg
        have hc1 := rdB_own ho1 hlt.out (by omega)
        obtain ⟨bb, hblk, hbb⟩ := own_blk8 ho1 (by omega)
        obtain ⟨p1, c1, rfl⟩ := own_form2 ho1
        obtain ⟨bs, hbs⟩ : ∃ bs, wrMod fs = bs := ⟨_, rfl⟩
        rw [hbs] at hc1 hl hrd hw2 hlt hblk
        have hlb : bs.length = (wrMod fs).length := by rw [hbs]
        rw [← hlb]
        obtain ⟨gs, hgs⟩ : ∃ gs, fs.map normF = gs := ⟨_, rfl⟩
        rw [hgs] at hrd hg2 hw2
        replace hblk := Lib.hid hblk
        replace hc1 := Lib.hid hc1
        replace hrd := Lib.hid hrd
        replace hw2 := Lib.hid hw2
        replace hbs := Lib.hid hbs
        replace hg2 := Lib.hid hg2
        replace hl := Lib.hid hl
        clear ho1 hlb hgs
        go_wp2_with fail
        refine hQ.out.mono ?_
        rintro e y4 ⟨hby4, hR4⟩
        obtain ⟨u2, rfl, ho2⟩ := hR4.fine hg (by rw [hbs.out]; exact hl.out)
        have hc2 := rdB_own ho2 (by rw [hbs.out]; exact hlt.out) (by rw [hbs.out]; have := hl.out; omega)
        obtain ⟨p2, c2, rfl⟩ := own_form2 ho2
        rw [hbs.out] at hc2 ⊢
        have hs4 := row_lt e3.out
        have b4 := b3.out.trans (hby4.mono (by omega))
        have hc14 := hc1.out.below hby4
        have st1 := rdB_strS hc14
        have st2 := rdB_strS hc2
        have hD := Lib.hid (c_Decode _ y4 hc14 hblk.out (Nat.lt_of_lt_of_le hbb hby4.size) (hS.out.keep b4) hl.out)
        replace hc14 := Lib.hid hc14
        have hs34 := hby4.size
        replace b4 := Lib.hid b4
        replace hg := Lib.hid hg
        clear hby4 hR4 hQ k3 ho2 hc2 hR3
        go_wp2_with fail
        refine hD.out.mono ?_
        rintro e y5 ⟨hby5, ⟨fs2, u5, cs5, hr5, rfl, ho5, hL5⟩ | ⟨hr5, rfl⟩⟩
        rotate_left
        · rw [hrd.out] at hr5; cases hr5
        rw [hrd.out] at hr5
        injection hr5 with hr5
        subst hr5
        have hR5 := RdFs.of_own ho5 hL5
        obtain ⟨p5, c5, rfl⟩ := own_form2 ho5
        obtain ⟨W6, hW6⟩ : ∃ W, y5.alloc (.cells #[.slice p5 gs.length c5] 24) = W := ⟨_, rfl⟩
        have q6 : Below y5.heap.size y5 W6 := by rw [← hW6]; exact (Below.refl _ y5).alloc (Nat.le_refl _) _
        have d6 : W6.heap[y5.heap.size]? = some (.cells #[.slice p5 gs.length c5] 24 (0, 0)) := by rw [← hW6]; exact heap_alloc_new y5 _
        have hs5 := hby5.size
        have b5 := b4.out.trans (hby5.mono (by omega))
        have b6 := b5.trans (q6.mono (by omega))
        have q46 := hby5.trans (q6.mono hby5.size)
        have k6 : W6.cell? ⟨y5.heap.size, 0, none⟩ = some (.slice p5 gs.length c5) := by rw [cell_of_row _ _ 0 _ _ _ d6]; rfl
        have hE2 := Lib.hid (c_Encode gs _ W6 (hR5.below q6) (hS.out.keep b6) (by rw [hw2.out]; have := hl.out; omega))
        have hs6 := row_lt d6
        have hc16 := Lib.hid (hc14.out.below q46)
        replace b6 := Lib.hid b6
        clear hby5 ho5 hL5 hR5 q6 d6 b5 q46 hD st1 st2
        go_wp2_with fail
        refine hE2.out.mono ?_
        rintro e y7 ⟨hby7, hR7⟩
        obtain ⟨u7, rfl, ho7⟩ := hR7.fine hg2.out (by rw [hw2.out]; exact hl.out)
        rw [hw2.out] at ho7
        have hc7 := rdB_own ho7 hlt.out (by have := hl.out; omega)
        obtain ⟨p7, c7, rfl⟩ := own_form2 ho7
        have st7 := rdB_strS hc7
        have st1 := rdB_strS (hc16.out.below hby7)
        have b7 := Lib.hid (b6.out.trans (hby7.mono (by omega)))
        clear hby7 hR7 ho7 hc7 hE2 k6
        go_wp2
        go_ret
        exact ⟨rfl, b7.out⟩
end
end Go.Proofs.YtjjogaenejdliaaGreatDoor
namespace Go.Proofs.YtjjogaenejdliaaGreatDoor.codeWrites
open Go.ChangeShapes Go.WideShapes Go.ChangeAt Go.RowKit Go.ChangeMaps
set_option linter.unusedVariables false

def laidL : List (String × DataW Unit) := Rows.codeWritesUptoRow.laid
theorem own : ownKnob Tryz.prog.godebug = none := by kernel_rfl
set_option maxRecDepth 100000 in
theorem contract (H : Type) (enc : TypeId × Value → H) (W : World) (base : Nat) (args : Array Value) (ds gs : List (DataW H)) (before : List MemPlace)
    (hval : ∀ (j : Nat) t v, Tryz.f3.params[j]? = some t → args[j]? = some v → Value.okWide Tryz.prog W .any base t v)
    (hW : DataW.Whole enc Tryz.prog Tryz.f3.params.toList Rows.codeWritesSpec.vars false W args.toList ds gs before) (hk : Rows.uptoSmall H (ds ++ gs) = true) (hL : laidMetH Tryz.prog laidL W) :
    Calls Tryz.prog 3 args W fun e W' => ∃ v, e = .returned v ∧ Rows.codeWritesSpec.post enc Tryz.prog Tryz.f3 false true false false W args v W' := by
  have hW' := hW
  obtain ⟨p, q, hA0, hV, rfl, hfz, hnd⟩ := hW
  have hA : DataW.TrodAll enc Tryz.prog W 0 (fun _ => true) true Tryz.f3.params.toList args.toList ds p := hA0
  rw [Tryz.params3] at hA hval
  obtain ⟨v0, vs0, d0, ds0, p0, q0, hargs, rfl, rfl, h0, r0⟩ := trodAll_cons hA
  obtain ⟨rfl, rfl, rfl⟩ := trodAll_nil r0
  obtain rfl : args = #[v0] := by cases args; simp_all
  obtain ⟨rfl, rfl⟩ := trodVars_none hV
  have hb := bulk_small hk
  simp only [List.append_nil] at hW' hb
  rw [MakeChecks.laidMetH_plain _ _ _ (by kernel_rfl)] at hL
  have hT := spc_of_reads (Lib.laidMet.reads hL (n := "strings.asciiSpace") (d := Rows.laid_strings_asciiSpace) (.tail _ (.tail _ (.tail _ (.tail _ (.tail _ (.tail _ (.tail _ (.tail _ (.head _))))))))))
  obtain ⟨u, fs, rfl, hr, hR, hz⟩ := module_open (hval 0 24 v0 rfl rfl) h0
  have hz' := Nat.le_trans hz (Nat.le_trans (bulk_part (l := [d0]) (by simp)) hb)
  have hlt0 : ∀ x ∈ p0, x.block < W.heap.size := fun x hx => by simpa using hW'.lt x (by simp [hx])
  clear hA0
  refine (c_CodeWrites fs u W hr hT hR hz').mono fun e W' ⟨he, hg⟩ => ?_
  subst he
  exact ⟨_, rfl, [d0], [], _, [], p0 ++ ([]), [], by simpa using hW', trodAll_mk1 (shut_bool Tryz.underlying4 _), trodAll_cons_mk (Below.trod laidOut (by kernel_rfl) (of_decide_eq_true (by kernel_rfl)) h0 hg hlt0) trodAll_mk0, rfl, hg.frame _, fun h => by cases h⟩
theorem laid_met (os : Os) : laidMet Tryz.prog laidL ((World.laidAll Tryz.prog os laidL).forCall (fun _ _ => 0) ⟨#[], #[.agg #[.slice none 0 0]], []⟩).memory :=
  laidMet_laidAll _ (by kernel_rfl) (by kernel_rfl)
set_option maxRecDepth 100000 in
theorem reads (os : Os) {H : Type} (enc : TypeId × Value → H) : ∃ places, DataW.whole enc Tryz.prog ((World.laidAll Tryz.prog os laidL).forCall (fun _ _ => 0) ⟨#[], #[.agg #[.slice none 0 0]], []⟩).memory Tryz.f3.params.toList Rows.codeWritesSpec.vars false #[Value.agg #[.slice none 0 0]].toList 8 = some ([.agg [.nil]], [], places) :=
  ⟨[], by kernel_rfl⟩
set_option maxRecDepth 100000 in
theorem lifted (os : Os) (started : os.Started) (H : Type) (enc : TypeId × Value → H) (F : Stop.Interp) :
    ReturnsInHanded {} Tryz.checked os 3 .any ((Rows.OpenSpec.upto Rows.codeWritesSpec).preRow enc Tryz.prog Tryz.f3 Rows.codeWritesUptoRow.domain false laidL) (((Rows.OpenSpec.upto Rows.codeWritesSpec).at F).post enc Tryz.prog Tryz.f3 false true false false) := by
  obtain ⟨places, hx⟩ := reads os enc
  refine returnsInHanded_of_row (C := Tryz.checked) (s := Rows.OpenSpec.upto Rows.codeWritesSpec) own started (by kernel_rfl) Tryz.func3
    ⟨World.laidAll Tryz.prog os laidL, fun _ _ => 0, ⟨#[], #[.agg #[.slice none 0 0]], []⟩, World.laidAll_os _ _ _, World.shaped_of_ZipB (by kernel_rfl) (by kernel_rfl),
      rfl, (Input.okWide_of_okWideB (by kernel_rfl)).2,
      OpenSpec.preRow_of_cond 8 hx (by kernel_rfl) (fun k hk => by cases hk; kernel_rfl) (by kernel_rfl) (by rw [MakeChecks.laidMetH_plain _ _ _ (by kernel_rfl)]; exact laid_met os),
      by
        simp only [Assume.holds]
        exact ⟨by simp, by simp, fun _ => Modest.zero, by simp, by simp⟩⟩ ?_
  intro W base args ds gs before hval hW _ hcond _ hL _ _
  exact contract H enc W base args ds gs before hval hW (hcond _ rfl) hL
theorem over : Rows.CodeWritesUptoSaid :=
  OpenClaim.holds_of_cond 3 Tryz.f3 rfl rfl rfl rfl rfl rfl rfl ⟨rfl, rfl, rfl, rfl, rfl⟩ rfl rfl rfl rfl rfl (by kernel_rfl) Tryz.func3 (by kernel_rfl)
    (of_decide_eq_true (by kernel_rfl)) (by unfold Func.isWrapper; first | (rw [if_pos (by decide +kernel)]; kernel_rfl) | (rw [if_neg (by decide +kernel)]; exact ⟨rfl, rfl⟩))
    (fun os started H enc _ F => by rw [OpenClaim.pre_eq_preRow]; exact lifted os started H enc F)
theorem plain (f : FuncId) (fn : Func) (hf : Tryz.pinned.checked.prog.funcNamed "lintel/lintellaw11.CodeWrites" = some f) (hfn : Tryz.pinned.checked.prog.funcs[f]? = some fn) :
    true = Tryz.pinned.checked.prog.looks [] ∧ ∀ (j : Nat) t, fn.params[j]? = some t → Tryz.pinned.checked.prog.wantsStandIn t = false := by
  obtain rfl : f = 3 := Option.some.inj ((show Tryz.prog.funcNamed "lintel/lintellaw11.CodeWrites" = some 3 by kernel_rfl).symm.trans hf) |>.symm
  obtain rfl : fn = Tryz.f3 := (Option.some.inj (Tryz.func3.symm.trans hfn)).symm
  refine ⟨by kernel_rfl, fun j t ht => ?_⟩
  rw [Tryz.params3] at ht
  have hm : t ∈ [24] := by simpa using Array.mem_of_getElem? ht
  have hall : ([24].all fun u => !Tryz.prog.wantsStandIn u) = true := by kernel_rfl
  exact (show Tryz.prog.wantsStandIn t = false by simpa using List.all_eq_true.1 hall t hm)
theorem proved : Rows.CodeWritesUptoCardSaid :=
  Claim7.holds_tied_plain_at .later [] _ _ _ _ over (fun _ h => by cases h) (by kernel_rfl) (fun _ h => by cases h) codeWritesUpto_row_tie rfl ⟨rfl, rfl⟩ (by kernel_rfl) rfl plain (by kernel_rfl)
end Go.Proofs.YtjjogaenejdliaaGreatDoor.codeWrites
