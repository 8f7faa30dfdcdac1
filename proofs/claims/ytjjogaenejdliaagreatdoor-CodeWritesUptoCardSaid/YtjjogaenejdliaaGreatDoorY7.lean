/-
  Contracts: The contract of the reference's Decode (printed by gen_XQJ.py). How functions are read in memory; the reference's SameValue. The reference's SameFn and Same: what reads alike is alike (printed by gen_XQL.py). The writer's state: a block that owns bytes; its num, flag, text.
-/
import Derived.Test.YtjjogaenejdliaaGreatDoorY6
import Derived.Deep.RegionHeld3
import Derived.BigQuiet
import Derived.Deep.QuietTactic
import Derived.Laws.StructEq
import Derived.WalkSmall
import Derived.Lib.AppendStr
namespace Go.Proofs.YtjjogaenejdliaaGreatDoor
open Go.RowKit Go.Lib
set_option linter.unusedVariables false
set_option linter.unusedSimpArgs false
set_option maxHeartbeats 4000000
set_option maxRecDepth 100000

theorem q_app2 {rb bb fb B i size n : Nat} {Y0 y8 w5 : World} {r2 : List Nat} {ok3 : Bool} {o : Obj} {row : Option Nat} {e t : TypeId} {u : Value} {cs cs' : Array Value} {xs : List Value}
    (hQ8 : QS rb bb y8 r2 ok3) (hX : KB (fun r => r = rb ∨ r = fb) Y0 y8) (hown5 : w5.ownsRow B e size u n xs) (hg5 : (y8.alloc o).grownBy w5 row) (hrow : ∀ k, row = some k → B ≤ k)
    (hB : (rb < B ∧ bb < B) ∧ fb < B ∧ B ≤ Y0.heap.size ∧ fb ≠ rb) (hB0 : Y0.heap.size ≤ B) (d10 : w5.heap[fb]? = some (.cells cs t (0, 0))) (hn : ∀ v ∈ cs.toList, ∀ x, v ≠ .int .u8 x) (hs : cs.setIfInBounds i u = cs') :
    QS rb bb (w5.setCell ⟨fb, i, none⟩ u) r2 ok3 ∧ KB (fun r => r = rb ∨ r = fb) Y0 (w5.setCell ⟨fb, i, none⟩ u) ∧ (w5.setCell ⟨fb, i, none⟩ u).ownsRow B e size u n xs ∧ (w5.setCell ⟨fb, i, none⟩ u).heap[fb]? = some (.cells cs' t (0, 0)) := by
  obtain ⟨⟨h1, h2⟩, h3, h4, h5⟩ := hB
  have hsz := hX.size
  have hq9 := (hQ8.below ((Below.refl _ y8).alloc (Nat.le_refl _) o)).grown hg5 hrow h1 h2 (by simp; omega)
  obtain ⟨a1, a2⟩ := qs_put (i := i) (v := u) hq9 h5 d10 hn hs
  have hk9 : KB (fun r => r = rb ∨ r = fb) Y0 w5 := (hX.trans (KB.alloc o)).grown hg5 (fun k hk => Nat.le_trans hB0 (hrow k hk))
  exact ⟨a1, hk9.trans (KB.setCell (.inr rfl)), own_set hown5 h3 (fun r hr => Below.heap_setCell _ _ _ _ hr), a2⟩
theorem sz8 (w : World) : (Go.sizeOf 5).run Tryz.prog w = .ok 1 w := by kernel_rfl
theorem el8 : Tryz.prog.elem 27 = 5 := by kernel_rfl
theorem sl_to {p : Option Addr} {n c k : Nat} (hk : k ≤ c) (W : World) : (Instr.slice 27 (.slice p n c) none (some (.int .i64 (k : Int))) none).run Tryz.prog W = .ok (.slice p k c) W := by
  have h := run_slice_h (P := Tryz.prog) W 27 p n c (by rw [el8]; exact Tryz.underlying27) .i64 (k : Int) (by omega) (by omega)
  rw [h, el8, sz8]
  simp only [Result.andThen, sliced, Int.toNat_natCast, Nat.zero_mul, Nat.sub_zero]
  congr 2
  split
  · rfl
  · cases p with
    | none => rfl
    | some a => simp [Addr.add]
theorem sl_from {p : Option Addr} {n c k : Nat} (hk : k ≤ n) (W : World) : (Instr.slice 27 (.slice p n c) (some (.int .i64 (k : Int))) none none).run Tryz.prog W = .ok (.slice (if c = k then p else p.map (fun x => x.add k)) (n - k) (c - k)) W := by
  have h := run_slice_l (P := Tryz.prog) W 27 p n c (by rw [el8]; exact Tryz.underlying27) .i64 (k : Int) (by omega) (by omega)
  rw [h, el8, sz8]
  simp only [Result.andThen, sliced, Int.toNat_natCast, Nat.mul_one]
theorem rdB_drop {w : World} {bb : Nat} {bs : List Nat} {p : Option Addr} {c k : Nat} (h : RdB w (.slice p bs.length c) bs) (hblk : Blk bb (.slice p bs.length c)) (hk : k ≤ bs.length) :
    RdB w (.slice (if c = k then p else p.map (fun x => x.add k)) (bs.length - k) (c - k)) (bs.drop k) ∧ Blk bb (.slice (if c = k then p else p.map (fun x => x.add k)) (bs.length - k) (c - k)) := by
  obtain ⟨q, d, e1, e2, e3, e4⟩ := h
  injection e1 with e1 _ e5
  subst e1 e5
  constructor
  · refine ⟨_, _, by rw [List.length_drop], by rw [List.length_drop]; omega, by omega, fun j x hx => ?_⟩
    rw [List.getElem?_drop] at hx
    have hj := (List.getElem?_eq_some_iff.1 hx).1
    obtain ⟨g1, b, o, rfl, g2⟩ := e4 (k + j) x hx
    refine ⟨g1, b, o + k, ?_, by rw [show o + k + j = o + (k + j) by omega]; exact g2⟩
    rw [if_neg (by omega)]
    simp only [Option.map_some, Addr.add]
    split
    · rename_i hz; subst hz; rfl
    · rfl
  · intro q n' c'' h
    injection h with h _ _
    split at h
    · exact hblk q _ _ (by rw [h])
    · cases p with
      | none => cases h
      | some a =>
        have := hblk a _ _ rfl
        injection h with h
        rw [← h]
        unfold Addr.add
        split <;> exact this
theorem rdB_take {w : World} {bs : List Nat} {p : Option Addr} {c k : Nat} (h : RdB w (.slice p bs.length c) bs) (hk : k ≤ bs.length) : RdB w (.slice p k c) (bs.take k) := by
  obtain ⟨q, d, e1, e2, e3, e4⟩ := h
  injection e1 with e1 _ e5
  subst e1 e5
  refine ⟨_, _, by rw [List.length_take, Nat.min_eq_left hk], by rw [List.length_take]; omega, e3, fun j x hx => ?_⟩
  have hj : j < k := by have := (List.getElem?_eq_some_iff.1 hx).1; simp at this; omega
  rw [List.getElem?_take, if_pos hj] at hx
  exact e4 j x hx
section
variable {bb : Nat} {w w' : World} {bs : List Nat}
theorem c_QDecode (v : Value) (w : World) (hv : RdB w v bs) (hblk : Blk bb v) (hbb : bb < w.heap.size) (hlen : bs.length ≤ 4194304) :
    Calls Tryz.prog 10 #[v] w fun e w' => Below w.heap.size w w' ∧ ((∃ fs u cs, rdMod bs = some fs ∧ e = .returned (.tuple #[.agg #[u], .int .i64 0]) ∧ w'.ownsRow w.heap.size 47 9 u fs.length cs.flatten ∧ FnL w.heap.size u.ownBlock w' fs cs) ∨ (rdMod bs = none ∧ e = .returned (.tuple #[.agg #[.slice none 0 0], .int .i64 110]))) := by
  have hlz : decide ((4194304 : Int) < (bs.length : Int)) = false := by simp; omega
  have hall : ∀ x ∈ bs, x < 256 := by
    obtain ⟨_, _, _, _, _, hc⟩ := hv
    intro x hx
    obtain ⟨k, hk⟩ := List.getElem?_of_mem hx
    exact (hc k x hk).1
  obtain ⟨p, c, rfl⟩ : ∃ p c, v = .slice p bs.length c := by
    obtain ⟨p, c, rfl, _⟩ := hv
    exact ⟨_, _, rfl⟩
  have e1 : (w.alloc (.cells #[.slice none 0 0] 24)).heap[w.heap.size]? = some (.cells #[.slice none 0 0] 24 (0, 0)) := heap_alloc_new w _
  have hbe : Below w.heap.size w (w.alloc (.cells #[.slice none 0 0] 24)) := (Below.refl _ w).alloc (Nat.le_refl _) _
  obtain ⟨W0, hW0⟩ : ∃ W, w.alloc (.cells #[.slice none 0 0] 24) = W := ⟨_, rfl⟩
  rw [hW0] at e1 hbe
  have hdef : rdMod bs = if bs.take 4 = [76, 78, 84, 49] then (match rdMany rdFn (bs.drop 4) with
      | none => none
      | some (l, r) => if r = [] ∧ l ≠ [] then some l else none) else none := rfl
  have b0 : W0.cell? ⟨w.heap.size, 0, none⟩ = some (.slice none 0 0) := by rw [cell_of_row _ _ 0 _ _ _ e1]; rfl
  have g0 : W0.frozen? ⟨w.heap.size, 0, none⟩ = false := by simp [World.frozen?, e1]
  have herr : Below w.heap.size w (W0.setCell ⟨w.heap.size, 0, none⟩ (.slice none 0 0)) := hbe.setCell (p := ⟨w.heap.size, 0, none⟩) (Nat.le_refl _) _
  have here := heap_setCell_same W0 w.heap.size 0 _ _ (.slice none 0 0) e1
  by_cases h4 : 4 ≤ bs.length
  · have hd4 : decide ((bs.length : Int) < 4) = false := by simp; omega
    have hcv := rdB_strS (rdB_take hv h4)
    have hcv' : ∀ W : World, (∀ (b o : Nat) (x : Int), w.cell? ⟨b, o, none⟩ = some (.int .u8 x) → W.cell? ⟨b, o, none⟩ = some (.int .u8 x)) → (convert 27 9 (.slice p 4 c)).run Tryz.prog W = .ok (.string (strOf (bs.take 4))) W := fun W hk => rdB_strS ((rdB_take hv h4).keep hk)
    have hcvW := hcv' W0 (fun b o x hx => hbe.cell (p := ⟨b, o, none⟩) (cell_lt hx) |>.trans hx)
    have hc4 : 4 ≤ c := by
      obtain ⟨q, d, e1, e2, _⟩ := hv
      injection e1 with _ _ e5
      omega
    have hs4 : ∀ W : World, (Instr.slice 27 (.slice p bs.length c) none (some (.int .i64 4)) none).run Tryz.prog W = .ok (.slice p 4 c) W := fun W => sl_to (k := 4) hc4 W
    have hs5 : ∀ W : World, (Instr.slice 27 (.slice p bs.length c) (some (.int .i64 4)) none none).run Tryz.prog W = .ok (.slice (if c = 4 then p else p.map (fun x => x.add 4)) (bs.length - 4) (c - 4)) W := fun W => sl_from (k := 4) h4 W
    obtain ⟨hv4, hblk4⟩ := rdB_drop hv hblk h4
    clear hcv hcv'
    by_cases hmag : bs.take 4 = [76, 78, 84, 49]
    · rw [hmag] at hcvW
      have hst : strOf [76, 78, 84, 49] = magB := by decide +kernel
      rw [hst] at hcvW
      have hml' := mag_list
      rw [if_pos hmag] at hdef
      obtain ⟨i0, hi0, hz0, hz1, hz2⟩ := info_parts infoFnX
      obtain ⟨p', hp'⟩ : ∃ q, (if c = 4 then p else p.map (fun x => x.add 4)) = q := ⟨_, rfl⟩
      rw [hp'] at hs5 hv4 hblk4
      obtain ⟨n4, hn4⟩ : ∃ n, bs.length - 4 = n := ⟨_, rfl⟩
      rw [hn4] at hs5 hv4 hblk4
      obtain ⟨c4, hc4'⟩ : ∃ n, c - 4 = n := ⟨_, rfl⟩
      rw [hc4'] at hs5 hv4 hblk4
      obtain ⟨W3, hW3⟩ : ∃ W, (W0.alloc (.cells #[.slice p' n4 c4, .bool true] 68)).alloc (.cells #[.slice none 0 0] 24) = W := ⟨_, rfl⟩
      have hs0 : W0.heap.size = w.heap.size + 1 := by rw [← hW0]; exact Array.size_push _
      have hb3 : Below w.heap.size w W3 := by rw [← hW3]; exact (hbe.alloc (by omega) _).alloc (by simp; omega) _
      have d1 : W3.heap[w.heap.size + 1]? = some (.cells #[.slice p' n4 c4, .bool true] 68 (0, 0)) := by
        rw [← hW3, Below.heap_alloc _ _ _ (by simp; omega), ← hs0]
        exact heap_alloc_new W0 _
      have d2 : W3.heap[w.heap.size + 1 + 1]? = some (.cells #[.slice none 0 0] 24 (0, 0)) := by
        rw [← hW3]
        have := heap_alloc_new (W0.alloc (.cells #[.slice p' n4 c4, .bool true] 68)) (.cells #[.slice none 0 0] 24)
        simpa [hs0] using this
      have d0 : W3.heap[w.heap.size]? = some (.cells #[.slice none 0 0] 24 (0, 0)) := by
        rw [← hW3, Below.heap_alloc _ _ _ (by simp; omega), Below.heap_alloc _ _ _ (by omega)]
        exact e1
      have hs3 : W3.heap.size = w.heap.size + 3 := by rw [← hW3]; simp; omega
      have hQ3 : QS (w.heap.size + 1) bb W3 (bs.drop 4) true := ⟨_, hblk4, d1, hv4.below hb3⟩
      have hN := Lib.hid (m_Qnum hQ3 (by omega))
      have hld := Lib.hid (show (bs.drop 4).length ≤ 4194304 by simp; omega)
      have hbb' := Lib.hid hbb
      have hz0' := Lib.hid hs0
      replace hs3 := Lib.hid hs3
      replace hb3 := Lib.hid hb3
      replace d0 := Lib.hid d0
      replace d2 := Lib.hid d2
      replace hdef := Lib.hid hdef
      have hsW : W0.heap.size = w.heap.size + 1 := hs0
      clear hv hblk hbb hlen hall hbe herr here hv4 hblk4 hQ3 d1 hp' hn4 hc4' h4 hmag hs0 e1
      go_enter Tryz.func10, Tryz.ntmps10
      go_wp2_with fail
      refine hN.out.mono ?_
      rintro e y0 ⟨hK0, n0, r0, ok0, rfl, hQ0, q0⟩
      have e2 := (hK0.block _ (row_lt d2.out) (fun e : w.heap.size + 1 + 1 = w.heap.size + 1 => by omega)).trans d2.out
      have hB3 := Lib.hid (show w.heap.size + 3 ≤ y0.heap.size ∧ bb < w.heap.size by have := hK0.size; have := hs3.out; have := hbb'.out; omega)
      have hmr := Lib.hid (show w.heap.size + 1 + 1 ≠ w.heap.size + 1 by omega)
      have hT0 := Lib.hid (show r0.length ≤ 4194304 by have h1 := QRes.len (fun b v r h => rdNum_len h) q0; have h2 := hld.out; omega)
      have hX0 := Lib.hid hK0
      replace e2 := Lib.hid e2
      replace q0 := Lib.hid q0
      replace hQ0 := Lib.hid hQ0
      clear hK0 hN d2 hW3 hcvW hs4 hs5 hW0 b0 g0
      go_upto_block 0 with fail
      go_cut [6] from 27 to 43 (fun sl6 wx => ∃ (acc : List FV) (r1 : List Nat) (ok2 : Bool) (u : Value) (cs : List (List Value)), QS (w.heap.size + 1) bb wx r1 ok2 ∧ KB (fun r => r = w.heap.size + 1 ∨ r = w.heap.size + 1 + 1) y0 wx ∧ wx.ownsRow y0.heap.size 47 9 u acc.length (List.flatten cs) ∧ FnL y0.heap.size u.ownBlock wx acc cs ∧ wx.heap[w.heap.size + 1 + 1]? = some (.cells #[u] 24 (0, 0)) ∧ QRes (rdMany rdFn) (bs.drop 4) true acc r1 ok2)
      case first =>
        go_wp2_with fail
        go_loopg [6] n0 (fun g sl6 wr => ∃ (acc : List FV) (r1 : List Nat) (ok2 : Bool) (u : Value) (cs : List (List Value)), sl6 = .int .i64 (g : Int) ∧ QS (w.heap.size + 1) bb wr r1 ok2 ∧ KB (fun r => r = w.heap.size + 1 ∨ r = w.heap.size + 1 + 1) y0 wr ∧ wr.ownsRow y0.heap.size 47 9 u acc.length (List.flatten cs) ∧ FnL y0.heap.size u.ownBlock wr acc cs ∧ wr.heap[w.heap.size + 1 + 1]? = some (.cells #[u] 24 (0, 0)) ∧ LRes rdFn n0 r0 ok0 g acc r1 ok2)
        case atStart => exact ⟨[], r0, ok0, _, [], rfl, hQ0.out, KB.refl _ _, World.ownsRow_nil _ _ _ _, .nil, e2.out, lres_start (fun _ => trivial)⟩
        case round =>
          obtain ⟨acc, r1, ok2, u, cs, rfl, hQr, hKr, hown, hFL, hrow, hL⟩ := hrel
          obtain ⟨ka, kb⟩ := hQr.facts
          cases ok2 with
          | false =>
            have hex := Lib.hid (hL.exit (.inl rfl) q0.out)
            replace hown := Lib.hid hown
            replace hrow := Lib.hid hrow
            replace hFL := Lib.hid hFL
            replace hL := Lib.hid hL
            go_wp2_with fail
            go_meet
            case rel => exact ⟨acc, r1, false, u, cs, hQr, hKr, hown.out, hFL.out, hrow.out, hex.out⟩
          | true =>
            cases gk with
            | zero =>
              have hex := Lib.hid (hL.exit (.inr rfl) q0.out)
              replace hown := Lib.hid hown
              replace hrow := Lib.hid hrow
              replace hFL := Lib.hid hFL
              replace hL := Lib.hid hL
              go_wp2_with fail
              go_meet
              case rel => exact ⟨acc, r1, true, u, cs, hQr, hKr, hown.out, hFL.out, hrow.out, hex.out⟩
            | succ g =>
              have hg63 := hL.lt q0.out
              have p0 : (0 : Int) < ((g + 1 : Nat) : Int) := by omega
              have hw1 : IntKind.i64.wrap (((g + 1 : Nat) : Int) - 1) = (g : Int) := by rw [IntKind.wrap_i64]; omega
              obtain ⟨pv, cv, rfl⟩ := own_form2 hown
              obtain ⟨hla1, hla2⟩ := hL.len
              have hle9 := Lib.hid (show acc.length ≤ 4194305 by have := hT0.out; omega)
              have hob : ∀ j, (Value.slice pv acc.length cv).ownBlock = some j → y0.heap.size ≤ j := own_blk hown
              have hls := hKr.size
              have hord1 := Lib.hid (show y0.heap.size ≤ wr.heap.size from hls)
              have hr1 := Lib.hid (show r1.length ≤ 4194304 by have := hT0.out; omega)
              replace hown := Lib.hid hown
              replace hrow := Lib.hid hrow
              replace hL := Lib.hid hL
              replace hKr := Lib.hid hKr
              replace hob := Lib.hid hob
              replace hFL := Lib.hid hFL
              have hnw : ∀ (y : World) (cs : Array Value), _ := fun y cs => World.news_of_block (cs := cs) (t := 47) (fr := (0, 0)) (heap_alloc_new y _)
              replace hnw := Lib.hid hnw
              have hB := Lib.hid (show (w.heap.size + 1 < y0.heap.size ∧ bb < y0.heap.size) ∧ w.heap.size + 1 + 1 < y0.heap.size ∧ y0.heap.size ≤ y0.heap.size ∧ w.heap.size + 1 + 1 ≠ w.heap.size + 1 by have := hB3.out; omega)
              clear hla1 hla2 hls
              have hQd : QS (w.heap.size + 1) bb wr.drew r1 true := hQr
              have hOne := Lib.hid (c_Qfn hQd (by have := hB3.out; omega) (show bb < wr.heap.size by have := hB3.out; have := hord1.out; omega) hr1.out)
              have hst : wr.drew.cell? ⟨w.heap.size + 1 + 1, 0, none⟩ = some (.slice pv acc.length cv) := by rw [cell_of_row _ _ 0 _ _ _ (show wr.drew.heap[w.heap.size + 1 + 1]? = _ from hrow.out)]; rfl
              clear hQr hQd
              go_wp2_with fail
              refine regionK 7 (fun y => y.cell? ⟨w.heap.size + 1 + 1, 0, none⟩ = some (.slice pv acc.length cv)) (by kernel_rfl) hst (fun hHeld => ?_)
              simp only [List.size_toArray, List.length_cons, List.length_nil, Nat.reduceAdd, Array.replicate_succ]
              refine AnyK.take 0 (v := ?_) rfl (by kernel_rfl) (by kernel_rfl) (by kernel_rfl) (by kernel_rfl) (fun _ _ _ h => h) (by rfl) ?_ (by assumption) ?_
              rotate_left
              · intro y hSy; (try dsimp only at hSy); go_simp; (try with_reducible rfl)
              try simp only [Act.put, List.setIfInBounds_toArray, List.set_cons_zero, List.set_cons_succ]
              refine AnyK.take 1 (v := ?_) rfl (by kernel_rfl) (by kernel_rfl) (by kernel_rfl) (by kernel_rfl) (fun _ _ _ h => h) (by rfl) ?_ (by assumption) ?_
              rotate_left
              · intro y hSy; (try dsimp only at hSy); go_simp; (try with_reducible rfl)
              try simp only [Act.put, List.setIfInBounds_toArray, List.set_cons_zero, List.set_cons_succ]
              refine AnyK.take 2 (v := ?_) rfl (by kernel_rfl) (by kernel_rfl) (by kernel_rfl) (by kernel_rfl) (fun _ _ _ h => h) (by rfl) ?_ (by assumption) ?_
              rotate_left
              · intro y hSy; (try dsimp only at hSy); go_simp; (try with_reducible rfl)
              try simp only [Act.put, List.setIfInBounds_toArray, List.set_cons_zero, List.set_cons_succ]
              refine AnyK.one 3 rfl (by kernel_rfl) (fun K' hK => ?_)
              go_simp
              refine hOne.out.mono ?_
              rintro e y8 ⟨hK8, x, r2, ok3, cx, rfl, hFx, hQ8, hq8⟩
              have hk8 := hK8.cell (p := ⟨w.heap.size + 1 + 1, 0, none⟩) hmr.out hHeld
              have d8 := Lib.hid ((hK8.block (w.heap.size + 1 + 1) (row_lt (show wr.drew.heap[w.heap.size + 1 + 1]? = _ from hrow.out)) hmr.out).trans hrow.out)
              have hQ0 := Lib.hid (hFx.quiet (B' := y0.heap.size) (o := (Value.slice pv acc.length cv).ownBlock) (by have := hord1.out; simp; omega) (fun k h1 h2 he => by have := own_lt hown.out k he; simp at h1; omega))
              have hL8 := Lib.hid (hFL.out.turn (o' := (Value.slice pv acc.length cv).ownBlock) (y' := y8) (fun k hB he hl => hK8.block k hl (fun (e : k = w.heap.size + 1) => by have := hB3.out; omega)) (fun k _ h => h))
              have hown8 := Lib.hid ((own_kb (show wr.drew.ownsRow y0.heap.size 47 9 _ acc.length _ from hown.out) hK8 (fun r hr => by have := hB3.out; omega)).alloc (.cells cx.toArray 47))
              have d9 := Lib.hid ((Below.heap_alloc y8 (.cells cx.toArray 47) _ (row_lt d8.out)).trans d8.out)
              have hnx := Lib.hid (hnw.out y8 cx.toArray)
              have h1x := Lib.hid hQ0.out.cells.2
              have hl9 := Lib.hid hQ0.out.cells.1
              have hform : ∃ a0 a1 a2 a3 a4 q5 q6 q7 q8 q9 q10 q11 q12 q13 q14 q15 q16, cx = [.string a0, .int .i64 a1, .bool a2, .bool a3, .int .i64 a4, .slice q5 q6 q7, .slice q8 q9 q10, .slice q11 q12 q13, .slice q14 q15 q16] := by
                obtain ⟨vc, vi, vt, vk, rfl, ⟨h1, h2⟩, h3, h4⟩ := hFx
                obtain ⟨_, _, _, rfl⟩ := own_form h1
                obtain ⟨_, _, _, rfl⟩ := own_form h2
                obtain ⟨_, _, _, rfl⟩ := own_form h3
                obtain ⟨_, _, _, rfl⟩ := own_form h4
                exact ⟨_, _, _, _, _, _, _, _, _, _, _, _, _, _, _, _, _, rfl⟩
              clear hFx
              obtain ⟨a0, a1, a2, a3, a4, q5, q6, q7, q8, q9, q10, q11, q12, q13, q14, q15, q16, rfl⟩ := hform
              go_simp
              refine hK.out _ _ hk8 (fun hHeld8 => ?_)
              clear hK K'
              try simp only [Act.put, List.setIfInBounds_toArray, List.set_cons_zero, List.set_cons_succ]
              clear hHeld hst
              refine AnyK.one 4 rfl (by kernel_rfl) (fun K' hK => ?_)
              go_simp
              refine hK.out _ _ (by rw [cell_of_row _ _ 0 _ _ _ d9.out]; rfl) (fun hHeld9 => ?_)
              clear hK K'
              try simp only [Act.put, List.setIfInBounds_toArray, List.set_cons_zero, List.set_cons_succ]
              refine AnyK.one 5 rfl (by kernel_rfl) (fun K' hK => ?_)
              refine step_append_lies _ rfl _ _ _ rfl y0.heap.size 47 i0 _ 9 136 Tryz.underlying22 hi0 hz0 hz1 hz2 rfl (by omega) (.slice pv acc.length cv) acc.length (List.flatten cs) rfl hown8.out ⟨y8.heap.size, 0, none⟩ 1 1 _ rfl rfl hnx.out h1x.out (by omega) (by have := hle9.out; unfold maxLen; omega) (by have := hle9.out; omega) (by have := hK8.size; have := hord1.out; simp at *; omega) (y8.heap.size + 1) (by simp) ?_
              intro gg cap w5 hown5 hg5 hat5 hlt5
              have d10 := (hg5.block (w.heap.size + 1 + 1) (row_lt d9.out) (fun e => by have := hob.out _ e.symm; have := hB3.out; omega)).trans d9.out
              refine hK.out _ _ (by rw [cell_of_row _ _ 0 _ _ _ d10]; rfl) (fun hHeld10 => ?_)
              clear hK K'
              try simp only [Act.put, List.setIfInBounds_toArray, List.set_cons_zero, List.set_cons_succ]
              clear hHeld8 hHeld9
              refine AnyK.one 6 rfl (by kernel_rfl) (fun K' hK => ?_)
              go_simp
              refine hK.out _ _ hHeld10 (fun hHeld11 => ?_)
              clear hK K'
              try simp only [Act.put, List.setIfInBounds_toArray, List.set_cons_zero, List.set_cons_succ]
              have f10 : w5.frozen? ⟨w.heap.size + 1 + 1, 0, none⟩ = false := by simp [World.frozen?, d10]
              have hfin := Lib.hid (q_app2 (i := 0) (cs' := #[.slice (some ⟨gg, 0, none⟩) (acc.length + 1) cap]) hQ8 (show KB (fun r => r = w.heap.size + 1 ∨ r = w.heap.size + 1 + 1) y0 y8 from KB.trans (show KB _ y0 wr.drew from ⟨hKr.out.os, hKr.out.tape, hKr.out.output, hKr.out.size, hKr.out.block⟩) hK8.wide2) hown5 hg5 hob.out hB.out (Nat.le_refl _) d10 (fun v hv x => by simp at hv; subst hv; simp) rfl)
              have hkeep : ∀ k, y0.heap.size ≤ k → (Value.slice pv acc.length cv).ownBlock ≠ some k → k < y8.heap.size → (w5.setCell ⟨w.heap.size + 1 + 1, 0, none⟩ (.slice (some ⟨gg, 0, none⟩) (acc.length + 1) cap)).heap[k]? = y8.heap[k]? := fun k hBk hne hl => by
                rw [Below.heap_setCell _ _ _ _ (show k ≠ w.heap.size + 1 + 1 by have := hB3.out; omega)]
                exact (hg5.block k (by simp; omega) (fun e => hne e.symm)).trans (Below.heap_alloc _ _ _ hl)
              have hnew : ∀ k, k < y8.heap.size → (Value.slice pv acc.length cv).ownBlock ≠ some k → (Value.slice (some ⟨gg, 0, none⟩) (acc.length + 1) cap).ownBlock ≠ some k := fun k hk hne he => by
                have : gg = k := by simpa [Value.ownBlock] using he
                subst this
                rcases hat5 with h | h
                · exact hne h
                · omega
              have hLf := Lib.hid (FnL.snoc (hL8.out.turn hkeep hnew) (hQ0.out.turn hkeep hnew))
              have hLn := Lib.hid (hL.out.next (fun b v r h => rdFn_len h) hq8)
              have hfl : ∀ l : List Value, cs.flatten ++ l = (cs ++ [l]).flatten := fun l => by simp
              have hln : acc.length + 1 = (acc ++ [x]).length := by simp
              replace hfl := Lib.hid hfl
              replace hln := Lib.hid hln
              refine AnyK.last rfl (by kernel_rfl) (fun K' hK => ?_)
              go_simp
              refine hK.out _ _ ?_
              clear hK K'
              try simp only [Act.put, List.setIfInBounds_toArray, List.set_cons_zero, List.set_cons_succ]
              refine AnyK.done (by kernel_rfl) ?_ _
              clear d10 hg5 hown5 hK8 hQ8 hq8 hkeep hnew
              go_wp2_with fail
              go_roundg g
              case measure => exact Nat.lt_succ_self _
              case rel => exact ⟨acc ++ [x], r2, ok3, _, cs ++ [_], rfl, hfin.out.1, hfin.out.2.1, by rw [← hfl.out, ← hln.out]; exact hfin.out.2.2.1, hLf.out, hfin.out.2.2.2, hLn.out⟩
      obtain ⟨acc, r1, ok2, u, cs, hQr, hKr, hown, hFL, hrow, hres⟩ := hcut
      obtain ⟨x, rfl⟩ : ∃ x : World, x = wc := ⟨_, rfl⟩
      obtain ⟨ka, kb⟩ := hQr.facts
      obtain ⟨pv, cv, rfl⟩ := own_form2 hown
      obtain ⟨vv, -, hr, p2, c2, rfl, -⟩ := hQr
      have hB4 := hB3.out
      have hs4 := hs3.out
      have hsx := hKr.size
      have k0 : x.cell? ⟨w.heap.size + 1, 0, none⟩ = some (.slice p2 r1.length c2) := by rw [cell_of_row _ _ 0 _ _ _ hr]; rfl
      have km : x.cell? ⟨w.heap.size + 1 + 1, 0, none⟩ = some (.slice pv acc.length cv) := by rw [cell_of_row _ _ 0 _ _ _ hrow]; rfl
      have ew := (hKr.block w.heap.size (by omega) (fun e => e.elim (fun (e : w.heap.size = w.heap.size + 1) => by omega) (fun (e : w.heap.size = w.heap.size + 1 + 1) => by omega))).trans ((hX0.out.block w.heap.size (by omega) (fun (e : w.heap.size = w.heap.size + 1) => by omega)).trans d0.out)
      have t0 : x.cell? ⟨w.heap.size, 0, none⟩ = some (.slice none 0 0) := by rw [cell_of_row _ _ 0 _ _ _ ew]; rfl
      have tf : x.frozen? ⟨w.heap.size, 0, none⟩ = false := by simp [World.frozen?, ew]
      have hBw : Below w.heap.size w x := (hb3.out.trans (hX0.out.below (by omega) (fun r (e : r = w.heap.size + 1) => by omega))).trans (hKr.below (by omega) (fun r e => e.elim (fun (e : r = w.heap.size + 1) => by omega) (fun (e : r = w.heap.size + 1 + 1) => by omega)))
      have hset := Lib.hid (fun (u : Value) => heap_setCell_same x w.heap.size 0 _ _ u ew)
      have hbel := Lib.hid (fun (u : Value) => hBw.setCell (p := ⟨w.heap.size, 0, none⟩) (Nat.le_refl _) u)
      have hne : ∀ u r, r ≠ w.heap.size → (x.setCell ⟨w.heap.size, 0, none⟩ u).heap[r]? = x.heap[r]? := fun u r hr => Below.heap_setCell _ _ _ _ hr
      have ho4 := Lib.hid (own_le (B' := w.heap.size) (own_set (b := w.heap.size) hown (by omega) (hne (.slice pv acc.length cv))) (by omega))
      have hL4 := Lib.hid ((hFL.turn (o' := (Value.slice pv acc.length cv).ownBlock) (fun k hk _ _ => hne (.slice pv acc.length cv) k (by omega)) (fun k _ h => h)).le (B' := w.heap.size) (by omega))
      clear hB4 hs4 hsx hne ew hBw hown hFL hrow hr hKr
      cases ok2 with
      | false =>
        have hnone : rdMod bs = none := by
          rw [hdef.out]
          rcases hres with ⟨_, h, _⟩ | ⟨_, h | h, _⟩
          · cases h
          · cases h
          · rw [h]
        replace hnone := Lib.hid hnone
        clear hres
        go_wp2
        refine bodyPost_ret (results_cell_tmp_mod rfl _ _ w.heap.size 24 _ (0, 0) (.int .i64 110) rfl rfl (hset.out _) infoMod) rfl ?_
        exact ⟨hbel.out _, .inr ⟨hnone.out, rfl⟩⟩
      | true =>
        have hmn : rdMany rdFn (bs.drop 4) = some (acc, r1) := by
          rcases hres with ⟨_, _, h⟩ | ⟨h, _⟩
          · exact h
          · cases h
        have hdef2 := hdef.out
        rw [hmn] at hdef2
        dsimp only at hdef2
        clear hres hmn
        by_cases hr0 : r1 = []
        · have hd0 : decide (0 < r1.length) = false := by rw [hr0]; rfl
          by_cases hf0 : acc = []
          · have hres : rdMod bs = none := by rw [hdef2]; simp [hf0]
            have hd : ((acc.length : Int) == 0) = true := by rw [hf0]; rfl
            replace hres := Lib.hid hres
            clear hdef2 hf0 hr0
            go_wp2
            refine bodyPost_ret (results_cell_tmp_mod rfl _ _ w.heap.size 24 _ (0, 0) (.int .i64 110) rfl rfl (hset.out _) infoMod) rfl ?_
            exact ⟨hbel.out _, .inr ⟨hres.out, rfl⟩⟩
          · have hres : rdMod bs = some acc := by rw [hdef2]; simp [hf0, hr0]
            have hd : ((acc.length : Int) == 0) = false := by simp; exact hf0
            replace hres := Lib.hid hres
            clear hdef2 hf0 hr0
            go_wp2
            refine bodyPost_ret (results_cell_tmp_mod rfl _ _ w.heap.size 24 _ (0, 0) (.int .i64 0) rfl rfl (hset.out _) infoMod) rfl ?_
            exact ⟨hbel.out _, .inl ⟨acc, _, cs, hres.out, rfl, ho4.out, hL4.out⟩⟩
        · have hres : rdMod bs = none := by rw [hdef2]; simp [hr0]
          have hd0 : decide (0 < r1.length) = true := by simp; exact List.length_pos_iff.2 hr0
          replace hres := Lib.hid hres
          clear hdef2 hr0
          go_wp2
          refine bodyPost_ret (results_cell_tmp_mod rfl _ _ w.heap.size 24 _ (0, 0) (.int .i64 110) rfl rfl (hset.out _) infoMod) rfl ?_
          exact ⟨hbel.out _, .inr ⟨hres.out, rfl⟩⟩
    · have hne : strOf (bs.take 4) ≠ magB := fun h => hmag (strOf_inj (fun x hx => hall x (List.mem_of_mem_take hx)) (by decide) (h.trans (by decide +kernel)))
      have hres : rdMod bs = none := by rw [hdef, if_neg hmag]
      generalize strOf (bs.take 4) = ss at *
      have hsf : (ss.toList == [76, 78, 84, 49]) = false := by
        rw [beq_eq_false_iff_ne]
        intro e
        have h2 := mag_list
        rw [beq_iff_eq] at h2
        exact hne (ba_eq (e.trans h2.symm))
      replace hres := Lib.hid hres
      replace herr := Lib.hid herr
      replace here := Lib.hid here
      clear hv hblk hbb hlen hall hbe hv4 hblk4 h4 hmag e1 hne hdef
      go_enter Tryz.func10, Tryz.ntmps10
      go_wp2
      refine bodyPost_ret (results_cell_tmp_mod rfl _ _ w.heap.size 24 _ (0, 0) (.int .i64 110) rfl rfl here.out infoMod) rfl ?_
      exact ⟨herr.out, .inr ⟨hres.out, rfl⟩⟩
  · have hd4 : decide ((bs.length : Int) < 4) = true := by simp; omega
    have hres : rdMod bs = none := by
      rw [hdef, if_neg (fun e => by have := congrArg List.length e; simp at this; omega)]
    replace hres := Lib.hid hres
    replace herr := Lib.hid herr
    replace here := Lib.hid here
    clear hv hblk hbb hlen hall hbe h4 e1 hdef
    go_enter Tryz.func10, Tryz.ntmps10
    go_wp2
    refine bodyPost_ret (results_cell_tmp_mod rfl _ _ w.heap.size 24 _ (0, 0) (.int .i64 110) rfl rfl here.out infoMod) rfl ?_
    exact ⟨herr.out, .inr ⟨hres.out, rfl⟩⟩
end
end Go.Proofs.YtjjogaenejdliaaGreatDoor
namespace Go.Proofs.YtjjogaenejdliaaGreatDoor
open Go.RowKit Go.Lib
set_option linter.unusedVariables false
set_option linter.unusedSimpArgs false
set_option maxHeartbeats 2000000
set_option maxRecDepth 100000

/-- a slice reads as a list -/
def RdL {α : Type} (sz : Nat) (enc : α → List Value) (w : World) (v : Value) (l : List α) : Prop := ∃ (p : Option Addr) (c : Nat), v = .slice p l.length c ∧ l.length ≤ c ∧ c ≤ maxLen ∧ ∀ (k : Nat) x, l[k]? = some x → ∃ b o, p = some ⟨b, o, none⟩ ∧ ∀ (j : Nat) u, (enc x)[j]? = some u → w.cell? ⟨b, o + k * sz + j, none⟩ = some u
theorem RdL.keep {α : Type} {sz : Nat} {enc : α → List Value} {w w' : World} {v : Value} {l : List α} (h : RdL sz enc w v l) (hk : ∀ (a : Addr) u, w.cell? a = some u → w'.cell? a = some u) : RdL sz enc w' v l := by
  obtain ⟨p, c, h1, h2, h3, h4⟩ := h
  refine ⟨p, c, h1, h2, h3, fun k x hx => ?_⟩
  obtain ⟨b, o, g1, g2⟩ := h4 k x hx
  exact ⟨b, o, g1, fun j u hu => hk _ _ (g2 j u hu)⟩
theorem RdL.below {α : Type} {sz : Nat} {enc : α → List Value} {w w' : World} {v : Value} {l : List α} (h : RdL sz enc w v l) (hb : Below w.heap.size w w') : RdL sz enc w' v l :=
  h.keep fun a u hc => (hb.cell (p := a) (cell_lt hc)).trans hc
theorem flat_at {α : Type} {sz : Nat} {enc : α → List Value} (he : ∀ x, (enc x).length = sz) : ∀ (l : List α) (k j : Nat) (x : α) (u : Value), l[k]? = some x → (enc x)[j]? = some u → (l.flatMap enc)[k * sz + j]? = some u
  | [], k, j, x, u, h, _ => by simp at h
  | a :: l, 0, j, x, u, h, hu => by
    simp at h; subst h
    rw [List.flatMap_cons, Nat.zero_mul, Nat.zero_add, List.getElem?_append_left (List.getElem?_eq_some_iff.1 hu).1]
    exact hu
  | a :: l, k + 1, j, x, u, h, hu => by
    rw [List.flatMap_cons, List.getElem?_append_right (by rw [he, Nat.add_mul]; omega), he]
    have e : (k + 1) * sz + j - sz = k * sz + j := by rw [Nat.add_mul]; omega
    rw [e]
    exact flat_at he l k j x u (by simpa using h) hu
theorem RdL.of_own {α : Type} {sz B : Nat} {enc : α → List Value} {w : World} {v : Value} {l : List α} {t : TypeId} (he : ∀ x, (enc x).length = sz) (h : w.ownsRow B t sz v l.length (l.flatMap enc)) : RdL sz enc w v l := by
  rcases h.2 with ⟨rfl, h0⟩ | ⟨g, cap, cur, rfl, _, hg, hc, hm, hsz, hcur⟩
  · have : l = [] := by cases l with | nil => rfl | cons => simp at h0
    subst this
    exact ⟨none, 0, rfl, by simp, by simp, fun k x hx => by simp at hx⟩
  · refine ⟨_, cap, rfl, hc, hm, fun k x hx => ⟨g, 0, rfl, fun j u hu => ?_⟩⟩
    have hj : j < sz := by rw [← he x]; exact (List.getElem?_eq_some_iff.1 hu).1
    have hk := (List.getElem?_eq_some_iff.1 hx).1
    have h1 := flat_at he l k j x u hx hu
    rw [← hcur, List.getElem?_take] at h1
    split at h1
    · rw [cell_of_row _ _ _ _ _ _ hg, Nat.zero_add]
      simpa using h1
    · cases h1
/-- a function's nine cells, read -/
def FnC (w : World) (f : FV) (c : List Value) : Prop := ∃ vc vi vt vk, c = [.string f.name, .int .i64 f.params, .bool f.rest, .bool f.arrow, .int .i64 f.regs, vc, vi, vt, vk] ∧
  (RdL 4 encVV w vc f.consts ∧ RdL 5 encI w vi f.code) ∧ RdL 4 encT w vt f.tries ∧ RdL 2 encK w vk f.caps
theorem FnC.below {w w' : World} {f : FV} {c : List Value} (h : FnC w f c) (hb : Below w.heap.size w w') : FnC w' f c := by
  obtain ⟨vc, vi, vt, vk, h0, ⟨h1, h2⟩, h3, h4⟩ := h
  exact ⟨vc, vi, vt, vk, h0, ⟨h1.below hb, h2.below hb⟩, h3.below hb, h4.below hb⟩
theorem FnC.len {w : World} {f : FV} {c : List Value} (h : FnC w f c) : c.length = 9 := by
  obtain ⟨vc, vi, vt, vk, rfl, _⟩ := h
  rfl
theorem FnC.of_own {B : Nat} {o : Option Nat} {w : World} {f : FV} {c : List Value} (h : FnQ B o w f c) : FnC w f c := by
  obtain ⟨vc, vi, vt, vk, rfl, ⟨⟨h1, h2⟩, h3, h4⟩, _⟩ := h
  exact ⟨vc, vi, vt, vk, rfl, ⟨RdL.of_own (fun _ => rfl) h1, RdL.of_own (fun _ => rfl) h2⟩, RdL.of_own (fun _ => rfl) h3, RdL.of_own (fun _ => rfl) h4⟩
/-- a slice reads as functions -/
def RdFs (w : World) (v : Value) (fs : List FV) : Prop := ∃ (p : Option Addr) (c : Nat), v = .slice p fs.length c ∧ fs.length ≤ c ∧ c ≤ maxLen ∧ ∀ (k : Nat) f, fs[k]? = some f → ∃ b o cs, p = some ⟨b, o, none⟩ ∧ FnC w f cs ∧ ∀ (j : Nat) u, cs[j]? = some u → w.cell? ⟨b, o + k * 9 + j, none⟩ = some u
theorem RdFs.below {w w' : World} {v : Value} {fs : List FV} (h : RdFs w v fs) (hb : Below w.heap.size w w') : RdFs w' v fs := by
  obtain ⟨p, c, h1, h2, h3, h4⟩ := h
  refine ⟨p, c, h1, h2, h3, fun k f hf => ?_⟩
  obtain ⟨b, o, cs, g1, g2, g3⟩ := h4 k f hf
  exact ⟨b, o, cs, g1, g2.below hb, fun j u hu => (hb.cell (cell_lt (g3 j u hu))).trans (g3 j u hu)⟩
theorem FnL.get {B : Nat} {o : Option Nat} {w : World} {fs : List FV} {cs : List (List Value)} (h : FnL B o w fs cs) : cs.length = fs.length ∧ ∀ (k : Nat) f, fs[k]? = some f → ∃ c, cs[k]? = some c ∧ FnC w f c := by
  induction h with
  | nil => exact ⟨rfl, fun k f hf => by simp at hf⟩
  | @snoc fs cs f c _ hq ih =>
    obtain ⟨h1, h2⟩ := ih
    refine ⟨by simp [h1], fun k f' hf => ?_⟩
    by_cases hk : k < fs.length
    · rw [List.getElem?_append_left hk] at hf
      obtain ⟨c', g1, g2⟩ := h2 k f' hf
      exact ⟨c', by rw [List.getElem?_append_left (by omega)]; exact g1, g2⟩
    · rw [List.getElem?_append_right (by omega)] at hf
      have e : k - fs.length = 0 := by
        have := (List.getElem?_eq_some_iff.1 hf).1
        simp at this
        omega
      rw [e] at hf
      simp at hf
      subst hf
      exact ⟨c, by rw [List.getElem?_append_right (by omega), h1, e]; rfl, FnC.of_own hq⟩
theorem RdFs.of_own {B B' : Nat} {w : World} {v : Value} {fs : List FV} {cs : List (List Value)} {o : Option Nat} {t : TypeId} (h : w.ownsRow B t 9 v fs.length cs.flatten) (hL : FnL B' o w fs cs) : RdFs w v fs := by
  obtain ⟨hl, hg⟩ := hL.get
  have h9 : ∀ c ∈ cs, c.length = 9 := fun c hc => by
    obtain ⟨k, hk⟩ := List.getElem?_of_mem hc
    have hlt := (List.getElem?_eq_some_iff.1 hk).1
    obtain ⟨c', g1, g2⟩ := hg k _ (List.getElem?_eq_getElem (by omega))
    rw [hk] at g1
    injection g1 with g1
    rw [g1]
    exact g2.len
  rcases h.2 with ⟨rfl, h0⟩ | ⟨g, cap, cur, rfl, _, hgg, hc, hm, hsz, hcur⟩
  · have : fs = [] := by cases fs with | nil => rfl | cons => simp at h0
    subst this
    exact ⟨none, 0, rfl, by simp, by simp, fun k x hx => by simp at hx⟩
  · refine ⟨_, cap, rfl, hc, hm, fun k f hf => ?_⟩
    obtain ⟨c, g1, g2⟩ := hg k f hf
    refine ⟨g, 0, c, rfl, g2, fun j u hu => ?_⟩
    have hkl := (List.getElem?_eq_some_iff.1 hf).1
    have h1 : cs.flatten[k * 9 + j]? = some u := by
      clear h hgg hcur hg hL hc
      induction cs generalizing k fs with
      | nil => simp at g1
      | cons a cs ih =>
        cases k with
        | zero =>
          simp at g1; subst g1
          rw [List.flatten_cons, Nat.zero_mul, Nat.zero_add, List.getElem?_append_left (List.getElem?_eq_some_iff.1 hu).1]
          exact hu
        | succ k =>
          have ha := h9 a (by simp)
          rw [List.flatten_cons, List.getElem?_append_right (by omega), ha, show (k + 1) * 9 + j - 9 = k * 9 + j by omega]
          exact ih (fs := fs.tail) (by simp; simp at hl; omega) (fun c hc => h9 c (by simp [hc])) k (by simpa using hf) (by simpa using g1) (by simp; omega)
    rw [← hcur, List.getElem?_take] at h1
    split at h1
    · rw [cell_of_row _ _ _ _ _ _ hgg, Nat.zero_add]
      simpa using h1
    · cases h1
theorem onto_drew (W : World) : (∀ a : Addr, a.block < W.heap.size → W.drew.cell? a = W.cell? a) ∧ (∀ b : Nat, b < W.heap.size → W.drew.heap[b]? = W.heap[b]?) ∧ Below W.heap.size W W.drew := ⟨fun _ _ => rfl, fun _ _ => rfl, (Below.refl _ W).drew⟩
theorem onto_below {W y y' : World} (h : (∀ a : Addr, a.block < W.heap.size → y.cell? a = W.cell? a) ∧ (∀ b : Nat, b < W.heap.size → y.heap[b]? = W.heap[b]?) ∧ Below W.heap.size W y) (hb : Below y.heap.size y y') :
    (∀ a : Addr, a.block < W.heap.size → y'.cell? a = W.cell? a) ∧ (∀ b : Nat, b < W.heap.size → y'.heap[b]? = W.heap[b]?) ∧ Below W.heap.size W y' := by
  have hs := h.2.2.size
  exact ⟨fun a ha => (hb.cell (p := a) (by omega)).trans (h.1 a ha), fun b hl => (hb.block b (by omega)).trans (h.2.1 b hl), h.2.2.trans (hb.mono hs)⟩
/-- is a number equal to itself? -/
def oE (x : Nat) : Bool := (FloatKind.f64.format.order x x == some Ordering.eq)
theorem v_bad (x : Nat) (w : World) : Calls Tryz.prog 83 #[.float .f64 x] w fun e w' => e = .returned (.bool (!oE x)) ∧ w' = w := by
  go_enter Tryz.func83, Tryz.ntmps83
  go_wp2
  go_ret
  exact ⟨rfl, rfl⟩
theorem v_bits (x : Nat) (w : World) : (callFunc 68 #[.float .f64 x]).run Tryz.prog w = .ok (.value (.int .u64 x)) w := by kernel_rfl
attribute [local go_sem] v_bits
theorem v_sign (x : Nat) : ∃ s : Bool, ∀ w : World, Calls Tryz.prog 84 #[.float .f64 x] w fun e w' => e = .returned (.bool s) ∧ w' = w := by
  refine ⟨decide (wrap64 (x : Int) < 0), fun w => ?_⟩
  go_enter Tryz.func84, Tryz.ntmps84
  go_wp2
  go_ret
  exact ⟨rfl, rfl⟩
theorem v_Same2 (x : Nat) (w : World) : Calls Tryz.prog 71 #[.float .f64 x, .float .f64 x, .int .i64 2] w fun e w' => e = .returned (.bool true) ∧ w' = w := by
  obtain ⟨s, hs⟩ := v_sign x
  have hb := v_bad x
  cases he : oE x with
  | true =>
    rw [he] at hb
    have he' : (FloatKind.f64.format.order x x == some Ordering.eq) = true := he
    replace hs := Lib.hid hs
    replace hb := Lib.hid hb
    clear he
    go_enter Tryz.func71, Tryz.ntmps71
    go_wp2_with (first | (go_at_call 83; refine (hb.out _).mono ?_; rintro e w1 ⟨rfl, rfl⟩) | (go_at_call 84; refine (hs.out _).mono ?_; rintro e w1 ⟨rfl, rfl⟩))
    go_ret
    exact ⟨by cases s <;> rfl, rfl⟩
  | false =>
    rw [he] at hb
    have he' : (FloatKind.f64.format.order x x == some Ordering.eq) = false := he
    replace hs := Lib.hid hs
    replace hb := Lib.hid hb
    clear he
    go_enter Tryz.func71, Tryz.ntmps71
    go_wp2_with (first | (go_at_call 83; refine (hb.out _).mono ?_; rintro e w1 ⟨rfl, rfl⟩) | (go_at_call 84; refine (hs.out _).mono ?_; rintro e w1 ⟨rfl, rfl⟩))
    go_ret
    exact ⟨rfl, rfl⟩
theorem two_belowQ (w : World) (o o' : Obj) : Below w.heap.size w ((w.alloc o).alloc o') := ((Below.refl _ w).alloc (Nat.le_refl _) _).alloc (by simp) _
theorem v_SameValue (v : VV) (w : World) : Calls Tryz.prog 60 #[.agg (encVV v).toArray, .agg (encVV v).toArray] w fun e w' => e = .returned (.bool true) ∧ Below w.heap.size w w' := by
  have hS := v_Same2 v.x
  obtain ⟨W2, hW2⟩ : ∃ W2, (w.alloc (.cells (encVV v).toArray 51)).alloc (.cells (encVV v).toArray 51) = W2 := ⟨_, rfl⟩
  have hb2 : Below w.heap.size w W2 := by rw [← hW2]; exact two_belowQ w _ _
  unfold encVV
  obtain ⟨vk, vx, vs, vr⟩ := v
  dsimp only at *
  replace hS := Lib.hid hS
  replace hb2 := Lib.hid hb2
  go_enter Tryz.func60, Tryz.ntmps60
  go_wp2_with (first | (go_at_call 71; refine (hS.out _).mono ?_; rintro e w1 ⟨rfl, rfl⟩))
  go_ret
  exact ⟨rfl, by first | exact hb2.out | (have := hb2.out; rw [← hW2] at this; exact this)⟩
end Go.Proofs.YtjjogaenejdliaaGreatDoor
namespace Go.Proofs.YtjjogaenejdliaaGreatDoor
open Go.RowKit Go.Lib
set_option linter.unusedVariables false
set_option linter.unusedSimpArgs false
set_option maxHeartbeats 4000000
set_option maxRecDepth 100000

theorem neq_I (x : IV) (W : World) : (binOp .neq 40 (.agg (encI x).toArray) (.agg (encI x).toArray)).run Tryz.prog W = .ok (.bool false) W := by
  unfold encI
  rw [run_neq_struct, run_equalIn_agg _ _ _ _ _ (by kernel_rfl) (by kernel_rfl)]
  go_simp
theorem neq_T (x : TV4) (W : World) : (binOp .neq 96 (.agg (encT x).toArray) (.agg (encT x).toArray)).run Tryz.prog W = .ok (.bool false) W := by
  unfold encT
  rw [run_neq_struct, run_equalIn_agg _ _ _ _ _ (by kernel_rfl) (by kernel_rfl)]
  go_simp
theorem neq_K (x : PV2) (W : World) : (binOp .neq 98 (.agg (encK x).toArray) (.agg (encK x).toArray)).run Tryz.prog W = .ok (.bool false) W := by
  unfold encK
  rw [run_neq_struct, run_equalIn_agg _ _ _ _ _ (by kernel_rfl) (by kernel_rfl)]
  go_simp
theorem at_V {w : World} {b o k : Nat} {x : VV} (h : ∀ (j : Nat) u, (encVV x)[j]? = some u → w.cell? ⟨b, o + k * 4 + j, none⟩ = some u) : w.cell? ⟨b, o + k * 4, none⟩ = some (.int .i64 x.k) ∧ w.cell? ⟨b, o + k * 4 + 1, none⟩ = some (.float .f64 x.x) ∧ w.cell? ⟨b, o + k * 4 + 2, none⟩ = some (.string x.s) ∧ w.cell? ⟨b, o + k * 4 + 3, none⟩ = some (.int .i64 x.r) := ⟨h 0 _ rfl, h 1 _ rfl, h 2 _ rfl, h 3 _ rfl⟩
theorem at_I {w : World} {b o k : Nat} {x : IV} (h : ∀ (j : Nat) u, (encI x)[j]? = some u → w.cell? ⟨b, o + k * 5 + j, none⟩ = some u) : w.cell? ⟨b, o + k * 5, none⟩ = some (.int .i64 x.op) ∧ w.cell? ⟨b, o + k * 5 + 1, none⟩ = some (.int .i64 x.a) ∧ w.cell? ⟨b, o + k * 5 + 2, none⟩ = some (.int .i64 x.b) ∧ w.cell? ⟨b, o + k * 5 + 3, none⟩ = some (.int .i64 x.c) ∧ w.cell? ⟨b, o + k * 5 + 4, none⟩ = some (.int .i64 x.d) := ⟨h 0 _ rfl, h 1 _ rfl, h 2 _ rfl, h 3 _ rfl, h 4 _ rfl⟩
theorem at_T {w : World} {b o k : Nat} {x : TV4} (h : ∀ (j : Nat) u, (encT x)[j]? = some u → w.cell? ⟨b, o + k * 4 + j, none⟩ = some u) : w.cell? ⟨b, o + k * 4, none⟩ = some (.int .i64 x.f) ∧ w.cell? ⟨b, o + k * 4 + 1, none⟩ = some (.int .i64 x.t) ∧ w.cell? ⟨b, o + k * 4 + 2, none⟩ = some (.int .i64 x.a) ∧ w.cell? ⟨b, o + k * 4 + 3, none⟩ = some (.int .i64 x.g) := ⟨h 0 _ rfl, h 1 _ rfl, h 2 _ rfl, h 3 _ rfl⟩
theorem at_K {w : World} {b o k : Nat} {x : PV2} (h : ∀ (j : Nat) u, (encK x)[j]? = some u → w.cell? ⟨b, o + k * 2 + j, none⟩ = some u) : w.cell? ⟨b, o + k * 2, none⟩ = some (.bool x.up) ∧ w.cell? ⟨b, o + k * 2 + 1, none⟩ = some (.int .i64 x.n) := ⟨h 0 _ rfl, h 1 _ rfl⟩
theorem at_F {w : World} {b o k : Nat} {v0 v1 v2 v3 v4 v5 v6 v7 v8 : Value} (h : ∀ (j : Nat) u, [v0, v1, v2, v3, v4, v5, v6, v7, v8][j]? = some u → w.cell? ⟨b, o + k * 9 + j, none⟩ = some u) :
    w.cell? ⟨b, o + k * 9, none⟩ = some v0 ∧ w.cell? ⟨b, o + k * 9 + 1, none⟩ = some v1 ∧ w.cell? ⟨b, o + k * 9 + 2, none⟩ = some v2 ∧ w.cell? ⟨b, o + k * 9 + 3, none⟩ = some v3 ∧ w.cell? ⟨b, o + k * 9 + 4, none⟩ = some v4 ∧ w.cell? ⟨b, o + k * 9 + 5, none⟩ = some v5 ∧ w.cell? ⟨b, o + k * 9 + 6, none⟩ = some v6 ∧ w.cell? ⟨b, o + k * 9 + 7, none⟩ = some v7 ∧ w.cell? ⟨b, o + k * 9 + 8, none⟩ = some v8 :=
  ⟨h 0 _ rfl, h 1 _ rfl, h 2 _ rfl, h 3 _ rfl, h 4 _ rfl, h 5 _ rfl, h 6 _ rfl, h 7 _ rfl, h 8 _ rfl⟩
theorem c_SameFn (w : World) (f : FV) (ca cb : List Value) (hA : FnC w f ca) (hB : FnC w f cb) : Calls Tryz.prog 27 #[.agg ca.toArray, .agg cb.toArray] w fun e w' => e = .returned (.bool true) ∧ Below w.heap.size w w' := by
  obtain ⟨W2, hW2⟩ : ∃ W, (w.alloc (.cells ca.toArray 47)).alloc (.cells cb.toArray 47) = W := ⟨_, rfl⟩
  have hb2 : Below w.heap.size w W2 := by rw [← hW2]; exact two_belowQ w _ _
  have dA : W2.heap[w.heap.size]? = some (.cells ca.toArray 47 (0, 0)) := by
    rw [← hW2, Below.heap_alloc _ _ _ (by simp)]
    exact heap_alloc_new w _
  have dB : W2.heap[w.heap.size + 1]? = some (.cells cb.toArray 47 (0, 0)) := by
    rw [← hW2]
    have := heap_alloc_new (w.alloc (.cells ca.toArray 47)) (.cells cb.toArray 47)
    simpa using this
  have hA2 := hA.below hb2
  have hB2 := hB.below hb2
  obtain ⟨va5, va6, va7, va8, rfl, ⟨rA5, rA6⟩, rA7, rA8⟩ := hA2
  obtain ⟨vb5, vb6, vb7, vb8, rfl, ⟨rB5, rB6⟩, rB7, rB8⟩ := hB2
  obtain ⟨pa5, ka5, rfl, ma5, Ma5, zA5⟩ := rA5
  unfold maxLen at Ma5
  obtain ⟨pb5, kb5, rfl, mb5, Mb5, zB5⟩ := rB5
  unfold maxLen at Mb5
  obtain ⟨pa6, ka6, rfl, ma6, Ma6, zA6⟩ := rA6
  unfold maxLen at Ma6
  obtain ⟨pb6, kb6, rfl, mb6, Mb6, zB6⟩ := rB6
  unfold maxLen at Mb6
  obtain ⟨pa7, ka7, rfl, ma7, Ma7, zA7⟩ := rA7
  unfold maxLen at Ma7
  obtain ⟨pb7, kb7, rfl, mb7, Mb7, zB7⟩ := rB7
  unfold maxLen at Mb7
  obtain ⟨pa8, ka8, rfl, ma8, Ma8, zA8⟩ := rA8
  unfold maxLen at Ma8
  obtain ⟨pb8, kb8, rfl, mb8, Mb8, zB8⟩ := rB8
  unfold maxLen at Mb8
  have hcl : ∀ y : World, Below W2.heap.size W2 y → y.heap[w.heap.size]? = W2.heap[w.heap.size]? ∧ y.heap[w.heap.size + 1]? = W2.heap[w.heap.size + 1]? := fun y hy => ⟨hy.block _ (row_lt dA), hy.block _ (row_lt dB)⟩
  have hlA := row_lt dA
  have hlB := row_lt dB
  obtain ⟨nm, pa, re, ar, rg, lc, li, lt, lk⟩ := f
  dsimp only at *
  have hs : (nm.toList == nm.toList) = true := by simp
  have e1 : (pa == pa) = true := by simp
  have e2 : (re == re) = true := by simp
  have e3 : (ar == ar) = true := by simp
  have e4 : (rg == rg) = true := by simp
  have hb2' := Lib.hid hb2
  replace hcl := Lib.hid hcl
  replace zA5 := Lib.hid zA5
  replace zB5 := Lib.hid zB5
  replace zA6 := Lib.hid zA6
  replace zB6 := Lib.hid zB6
  replace zA7 := Lib.hid zA7
  replace zB7 := Lib.hid zB7
  replace zA8 := Lib.hid zA8
  replace zB8 := Lib.hid zB8
  obtain ⟨⟨a0, a1, a2, a3, a4, a5, a6, a7, a8⟩, -⟩ := row9 dA
  obtain ⟨⟨b0, b1, b2, b3, b4, b5, b6, b7, b8⟩, -⟩ := row9 dB
  replace dA := Lib.hid dA
  replace dB := Lib.hid dB
  clear hA hB hb2
  go_enter Tryz.func27, Tryz.ntmps27
  go_wp2
  go_loopw [79] (fun v9 wr => ∃ k : Nat, k ≤ lc.length ∧ v9 = .int .i64 (k : Int) ∧ Below W2.heap.size W2 wr) (fun v9 _ => lc.length - (Lib.intOf v9).toNat)
  case atStart => exact ⟨0, by omega, rfl, Below.refl _ _⟩
  case round =>
    obtain ⟨k, hk, rfl, hbel⟩ := hrel
    obtain ⟨W1, rfl⟩ : ∃ W1, W1 = wr := ⟨_, rfl⟩
    obtain ⟨gA, gB⟩ := hcl.out W1 hbel
    obtain ⟨⟨_, _, _, _, _, a5, a6, a7, a8⟩, -⟩ := row9 (gA.trans dA.out)
    obtain ⟨⟨_, _, _, _, _, b5, b6, b7, b8⟩, -⟩ := row9 (gB.trans dB.out)
    have l1 : w.heap.size < W1.heap.size := Nat.lt_of_lt_of_le hlA hbel.size
    have l2 : w.heap.size + 1 < W1.heap.size := Nat.lt_of_lt_of_le hlB hbel.size
    clear gA gB
    rcases Nat.lt_or_ge k lc.length with hlt | hge
    · obtain ⟨x, hx⟩ : ∃ x, lc[k]? = some x := ⟨_, List.getElem?_eq_getElem hlt⟩
      obtain ⟨bA, oA, rfl, hyA⟩ := zA5.out k x hx
      obtain ⟨bB, oB, rfl, hyB⟩ := zB5.out k x hx
      have l3 := Nat.lt_of_lt_of_le (cell_lt (hyA 0 _ rfl)) hbel.size
      have l4 := Nat.lt_of_lt_of_le (cell_lt (hyB 0 _ rfl)) hbel.size
      have hyA1 := at_V (w := W1) (b := bA) (o := oA) (k := k) (x := x) (fun j u hu => (hbel.cell (cell_lt (hyA j u hu))).trans (hyA j u hu))
      have hyB1 := at_V (w := W1) (b := bB) (o := oB) (k := k) (x := x) (fun j u hu => (hbel.cell (cell_lt (hyB j u hu))).trans (hyB j u hu))
      obtain ⟨cA0, cA1, cA2, cA3⟩ := hyA1
      obtain ⟨cB0, cB1, cB2, cB3⟩ := hyB1
      have q1 : (0 : Int) ≤ (k : Int) := by omega
      have q2 : (k : Int) < (lc.length : Int) := by omega
      have hbw := Lib.hid hbel
      have hS := fun (y : World) => v_SameValue x y
      unfold encVV at hS
      replace hS := Lib.hid hS
      have hst := onto_drew W1
      clear hyA hyB hx hbel
      go_wp2_with fail
      go_region_held3 (fun y => (∀ a : Addr, a.block < W1.heap.size → y.cell? a = W1.cell? a) ∧ (∀ b : Nat, b < W1.heap.size → y.heap[b]? = W1.heap[b]?) ∧ Below W1.heap.size W1 y) (first | with_reducible assumption | with_reducible exact hst | with_reducible exact onto_below (by assumption) (by assumption)) (first | (go_at_call 60; refine (hS.out _).mono ?_; rintro e y3 ⟨rfl, hb6⟩))
      have hb7 := Lib.hid (hbw.out.trans ((Below.refl _ W1).drew.trans (hb6.mono (Nat.le_refl _)) |>.mono hbw.out.size))
      clear hb6 hst cA0 cA1 cA2 cA3 cB0 cB1 cB2 cB3 l1 l2 l3 l4 a5 a6 a7 a8 b5 b6 b7 b8
      go_wp2
      exact ⟨⟨k + 1, by omega, by go_num, hb7.out⟩, by simp [Lib.intOf]; omega⟩
    · obtain rfl : k = lc.length := by omega
      replace hbel := Lib.hid hbel
      clear hge hk
      go_wp2
      go_loopw [98] (fun v9 wr => ∃ k : Nat, k ≤ li.length ∧ v9 = .int .i64 (k : Int) ∧ Below W2.heap.size W2 wr) (fun v9 _ => li.length - (Lib.intOf v9).toNat)
      case atStart => exact ⟨0, by omega, rfl, hbel.out⟩
      case round =>
        obtain ⟨k, hk, rfl, hbel⟩ := hrel
        obtain ⟨W1, rfl⟩ : ∃ W1, W1 = wr := ⟨_, rfl⟩
        obtain ⟨gA, gB⟩ := hcl.out W1 hbel
        obtain ⟨⟨_, _, _, _, _, a5, a6, a7, a8⟩, -⟩ := row9 (gA.trans dA.out)
        obtain ⟨⟨_, _, _, _, _, b5, b6, b7, b8⟩, -⟩ := row9 (gB.trans dB.out)
        have l1 : w.heap.size < W1.heap.size := Nat.lt_of_lt_of_le hlA hbel.size
        have l2 : w.heap.size + 1 < W1.heap.size := Nat.lt_of_lt_of_le hlB hbel.size
        clear gA gB
        rcases Nat.lt_or_ge k li.length with hlt | hge
        · obtain ⟨x, hx⟩ : ∃ x, li[k]? = some x := ⟨_, List.getElem?_eq_getElem hlt⟩
          obtain ⟨bA, oA, rfl, hyA⟩ := zA6.out k x hx
          obtain ⟨bB, oB, rfl, hyB⟩ := zB6.out k x hx
          have l3 := Nat.lt_of_lt_of_le (cell_lt (hyA 0 _ rfl)) hbel.size
          have l4 := Nat.lt_of_lt_of_le (cell_lt (hyB 0 _ rfl)) hbel.size
          have hyA1 := at_I (w := W1) (b := bA) (o := oA) (k := k) (x := x) (fun j u hu => (hbel.cell (cell_lt (hyA j u hu))).trans (hyA j u hu))
          have hyB1 := at_I (w := W1) (b := bB) (o := oB) (k := k) (x := x) (fun j u hu => (hbel.cell (cell_lt (hyB j u hu))).trans (hyB j u hu))
          obtain ⟨cA0, cA1, cA2, cA3, cA4⟩ := hyA1
          obtain ⟨cB0, cB1, cB2, cB3, cB4⟩ := hyB1
          have q1 : (0 : Int) ≤ (k : Int) := by omega
          have q2 : (k : Int) < (li.length : Int) := by omega
          have hbw := Lib.hid hbel
          have hneq := fun (W : World) => neq_I x W
          unfold encI at hneq
          clear hyA hyB hx hbel
          go_wp2_with fail
          go_quiet (fail)
          have hb7 := Lib.hid (below_drewN hbw.out nq)
          go_wp2
          exact ⟨⟨k + 1, by omega, by go_num, hb7.out⟩, by simp [Lib.intOf]; omega⟩
        · obtain rfl : k = li.length := by omega
          replace hbel := Lib.hid hbel
          clear hge hk
          go_wp2
          go_loopw [116] (fun v9 wr => ∃ k : Nat, k ≤ lt.length ∧ v9 = .int .i64 (k : Int) ∧ Below W2.heap.size W2 wr) (fun v9 _ => lt.length - (Lib.intOf v9).toNat)
          case atStart => exact ⟨0, by omega, rfl, hbel.out⟩
          case round =>
            obtain ⟨k, hk, rfl, hbel⟩ := hrel
            obtain ⟨W1, rfl⟩ : ∃ W1, W1 = wr := ⟨_, rfl⟩
            obtain ⟨gA, gB⟩ := hcl.out W1 hbel
            obtain ⟨⟨_, _, _, _, _, a5, a6, a7, a8⟩, -⟩ := row9 (gA.trans dA.out)
            obtain ⟨⟨_, _, _, _, _, b5, b6, b7, b8⟩, -⟩ := row9 (gB.trans dB.out)
            have l1 : w.heap.size < W1.heap.size := Nat.lt_of_lt_of_le hlA hbel.size
            have l2 : w.heap.size + 1 < W1.heap.size := Nat.lt_of_lt_of_le hlB hbel.size
            clear gA gB
            rcases Nat.lt_or_ge k lt.length with hlt | hge
            · obtain ⟨x, hx⟩ : ∃ x, lt[k]? = some x := ⟨_, List.getElem?_eq_getElem hlt⟩
              obtain ⟨bA, oA, rfl, hyA⟩ := zA7.out k x hx
              obtain ⟨bB, oB, rfl, hyB⟩ := zB7.out k x hx
              have l3 := Nat.lt_of_lt_of_le (cell_lt (hyA 0 _ rfl)) hbel.size
              have l4 := Nat.lt_of_lt_of_le (cell_lt (hyB 0 _ rfl)) hbel.size
              have hyA1 := at_T (w := W1) (b := bA) (o := oA) (k := k) (x := x) (fun j u hu => (hbel.cell (cell_lt (hyA j u hu))).trans (hyA j u hu))
              have hyB1 := at_T (w := W1) (b := bB) (o := oB) (k := k) (x := x) (fun j u hu => (hbel.cell (cell_lt (hyB j u hu))).trans (hyB j u hu))
              obtain ⟨cA0, cA1, cA2, cA3⟩ := hyA1
              obtain ⟨cB0, cB1, cB2, cB3⟩ := hyB1
              have q1 : (0 : Int) ≤ (k : Int) := by omega
              have q2 : (k : Int) < (lt.length : Int) := by omega
              have hbw := Lib.hid hbel
              have hneq := fun (W : World) => neq_T x W
              unfold encT at hneq
              clear hyA hyB hx hbel
              go_wp2_with fail
              go_quiet (fail)
              have hb7 := Lib.hid (below_drewN hbw.out nq)
              go_wp2
              exact ⟨⟨k + 1, by omega, by go_num, hb7.out⟩, by simp [Lib.intOf]; omega⟩
            · obtain rfl : k = lt.length := by omega
              replace hbel := Lib.hid hbel
              clear hge hk
              go_wp2
              go_loopw [134] (fun v9 wr => ∃ k : Nat, k ≤ lk.length ∧ v9 = .int .i64 (k : Int) ∧ Below W2.heap.size W2 wr) (fun v9 _ => lk.length - (Lib.intOf v9).toNat)
              case atStart => exact ⟨0, by omega, rfl, hbel.out⟩
              case round =>
                obtain ⟨k, hk, rfl, hbel⟩ := hrel
                obtain ⟨W1, rfl⟩ : ∃ W1, W1 = wr := ⟨_, rfl⟩
                obtain ⟨gA, gB⟩ := hcl.out W1 hbel
                obtain ⟨⟨_, _, _, _, _, a5, a6, a7, a8⟩, -⟩ := row9 (gA.trans dA.out)
                obtain ⟨⟨_, _, _, _, _, b5, b6, b7, b8⟩, -⟩ := row9 (gB.trans dB.out)
                have l1 : w.heap.size < W1.heap.size := Nat.lt_of_lt_of_le hlA hbel.size
                have l2 : w.heap.size + 1 < W1.heap.size := Nat.lt_of_lt_of_le hlB hbel.size
                clear gA gB
                rcases Nat.lt_or_ge k lk.length with hlt | hge
                · obtain ⟨x, hx⟩ : ∃ x, lk[k]? = some x := ⟨_, List.getElem?_eq_getElem hlt⟩
                  obtain ⟨bA, oA, rfl, hyA⟩ := zA8.out k x hx
                  obtain ⟨bB, oB, rfl, hyB⟩ := zB8.out k x hx
                  have l3 := Nat.lt_of_lt_of_le (cell_lt (hyA 0 _ rfl)) hbel.size
                  have l4 := Nat.lt_of_lt_of_le (cell_lt (hyB 0 _ rfl)) hbel.size
                  have hyA1 := at_K (w := W1) (b := bA) (o := oA) (k := k) (x := x) (fun j u hu => (hbel.cell (cell_lt (hyA j u hu))).trans (hyA j u hu))
                  have hyB1 := at_K (w := W1) (b := bB) (o := oB) (k := k) (x := x) (fun j u hu => (hbel.cell (cell_lt (hyB j u hu))).trans (hyB j u hu))
                  obtain ⟨cA0, cA1⟩ := hyA1
                  obtain ⟨cB0, cB1⟩ := hyB1
                  have q1 : (0 : Int) ≤ (k : Int) := by omega
                  have q2 : (k : Int) < (lk.length : Int) := by omega
                  have hbw := Lib.hid hbel
                  have hneq := fun (W : World) => neq_K x W
                  unfold encK at hneq
                  clear hyA hyB hx hbel
                  go_wp2_with fail
                  go_quiet (fail)
                  have hb7 := Lib.hid (below_drewN hbw.out nq)
                  go_wp2
                  exact ⟨⟨k + 1, by omega, by go_num, hb7.out⟩, by simp [Lib.intOf]; omega⟩
                · obtain rfl : k = lk.length := by omega
                  replace hbel := Lib.hid hbel
                  clear hge hk
                  go_wp2
                  go_ret
                  exact ⟨rfl, hb2'.out.trans (hbel.out.mono hb2'.out.size)⟩
theorem c_QSame (w : World) (fs : List FV) (va vb : Value) (hA : RdFs w va fs) (hB : RdFs w vb fs) : Calls Tryz.prog 11 #[.agg #[va], .agg #[vb]] w fun e w' => e = .returned (.bool true) ∧ Below w.heap.size w w' := by
  obtain ⟨W2, hW2⟩ : ∃ W, (w.alloc (.cells #[va] 24)).alloc (.cells #[vb] 24) = W := ⟨_, rfl⟩
  have hb2 : Below w.heap.size w W2 := by rw [← hW2]; exact two_belowQ w _ _
  have dA : W2.heap[w.heap.size]? = some (.cells #[va] 24 (0, 0)) := by
    rw [← hW2, Below.heap_alloc _ _ _ (by simp)]
    exact heap_alloc_new w _
  have dB : W2.heap[w.heap.size + 1]? = some (.cells #[vb] 24 (0, 0)) := by
    rw [← hW2]
    have := heap_alloc_new (w.alloc (.cells #[va] 24)) (.cells #[vb] 24)
    simpa using this
  have hA2 := hA.below hb2
  have hB2 := hB.below hb2
  obtain ⟨pa, ka, rfl, ma, Ma, zA⟩ := hA2
  obtain ⟨pb, kb, rfl, mb, Mb, zB⟩ := hB2
  unfold maxLen at Ma Mb
  have hcl : ∀ y : World, Below W2.heap.size W2 y → y.cell? ⟨w.heap.size, 0, none⟩ = some (.slice pa fs.length ka) ∧ y.cell? ⟨w.heap.size + 1, 0, none⟩ = some (.slice pb fs.length kb) := fun y hy => ⟨by rw [cell_of_row _ _ 0 _ _ _ ((hy.block _ (row_lt dA)).trans dA)]; rfl, by rw [cell_of_row _ _ 0 _ _ _ ((hy.block _ (row_lt dB)).trans dB)]; rfl⟩
  have hlA := row_lt dA
  have hlB := row_lt dB
  obtain ⟨a0, b0⟩ := hcl W2 (Below.refl _ _)
  have hb2' := Lib.hid hb2
  replace hcl := Lib.hid hcl
  replace zA := Lib.hid zA
  replace zB := Lib.hid zB
  clear hA hB hb2 dA dB
  go_enter Tryz.func11, Tryz.ntmps11
  go_wp2
  go_loopw [16] (fun v9 wr => ∃ k : Nat, k ≤ fs.length ∧ v9 = .int .i64 (k : Int) ∧ Below W2.heap.size W2 wr) (fun v9 _ => fs.length - (Lib.intOf v9).toNat)
  case atStart => exact ⟨0, by omega, rfl, Below.refl _ _⟩
  case round =>
    obtain ⟨k, hk, rfl, hbel⟩ := hrel
    obtain ⟨W1, rfl⟩ : ∃ W1, W1 = wr := ⟨_, rfl⟩
    obtain ⟨a0, b0⟩ := hcl.out W1 hbel
    have l1 : w.heap.size < W1.heap.size := Nat.lt_of_lt_of_le hlA hbel.size
    have l2 : w.heap.size + 1 < W1.heap.size := Nat.lt_of_lt_of_le hlB hbel.size
    rcases Nat.lt_or_ge k fs.length with hlt | hge
    · obtain ⟨f, hf⟩ : ∃ f, fs[k]? = some f := ⟨_, List.getElem?_eq_getElem hlt⟩
      obtain ⟨bA, oA, ca, rfl, hFA, hyA⟩ := zA.out k f hf
      obtain ⟨bB, oB, cb, rfl, hFB, hyB⟩ := zB.out k f hf
      have hS := fun (y : World) (hy : Below W1.heap.size W1 y) => c_SameFn y f ca cb (hFA.below (hbel.trans (hy.mono hbel.size))) (hFB.below (hbel.trans (hy.mono hbel.size)))
      have hA1 := fun (j : Nat) (u : Value) (hu : ca[j]? = some u) => (hbel.cell (cell_lt (hyA j u hu))).trans (hyA j u hu)
      have hB1 := fun (j : Nat) (u : Value) (hu : cb[j]? = some u) => (hbel.cell (cell_lt (hyB j u hu))).trans (hyB j u hu)
      have l3 : bA < W1.heap.size := by
        have h9 := hFA.len
        exact cell_lt (hA1 0 _ (List.getElem?_eq_getElem (by omega)))
      have l4 : bB < W1.heap.size := by
        have h9 := hFB.len
        exact cell_lt (hB1 0 _ (List.getElem?_eq_getElem (by omega)))
      obtain ⟨xa5, xa6, xa7, xa8, rfl, ⟨⟨ha5, na5, rfl, _⟩, ⟨ha6, na6, rfl, _⟩⟩, ⟨ha7, na7, rfl, _⟩, ⟨ha8, na8, rfl, _⟩⟩ := hFA
      obtain ⟨xb5, xb6, xb7, xb8, rfl, ⟨⟨hb5, nb5, rfl, _⟩, ⟨hb6, nb6, rfl, _⟩⟩, ⟨hb7, nb7, rfl, _⟩, ⟨hb8, nb8, rfl, _⟩⟩ := hFB
      obtain ⟨cA0, cA1, cA2, cA3, cA4, cA5, cA6, cA7, cA8⟩ := at_F hA1
      obtain ⟨cB0, cB1, cB2, cB3, cB4, cB5, cB6, cB7, cB8⟩ := at_F hB1
      have q1 : (0 : Int) ≤ (k : Int) := by omega
      have q2 : (k : Int) < (fs.length : Int) := by omega
      have hbw := Lib.hid hbel
      have hst := onto_drew W1
      replace hS := Lib.hid hS
      clear hyA hyB hA1 hB1 hf hbel
      go_wp2_with fail
      go_region_held3 (fun y => (∀ a : Addr, a.block < W1.heap.size → y.cell? a = W1.cell? a) ∧ (∀ b : Nat, b < W1.heap.size → y.heap[b]? = W1.heap[b]?) ∧ Below W1.heap.size W1 y) (first | with_reducible assumption | with_reducible exact hst | with_reducible exact onto_below (by assumption) (by assumption)) (first | (go_at_call 27; refine (hS.out _ (And.right (And.right (by assumption)))).mono ?_; rintro e y3 ⟨rfl, hb6⟩))
      have hb7 := Lib.hid (hbw.out.trans ((Below.refl _ W1).drew.trans (hb6.mono (Nat.le_refl _)) |>.mono hbw.out.size))
      clear hb6 hst cA0 cA1 cA2 cA3 cA4 cA5 cA6 cA7 cA8 cB0 cB1 cB2 cB3 cB4 cB5 cB6 cB7 cB8 l1 l2 l3 l4 a0 b0
      go_wp2
      exact ⟨⟨k + 1, by omega, by go_num, hb7.out⟩, by simp [Lib.intOf]; omega⟩
    · obtain rfl : k = fs.length := by omega
      replace hbel := Lib.hid hbel
      clear hge hk
      go_wp2
      go_ret
      exact ⟨rfl, hb2'.out.trans (hbel.out.mono hb2'.out.size)⟩
end Go.Proofs.YtjjogaenejdliaaGreatDoor
namespace Go.Proofs.YtjjogaenejdliaaGreatDoor
open Go.RowKit Go.Lib
set_option linter.unusedVariables false
set_option linter.unusedSimpArgs false
set_option maxHeartbeats 2000000
set_option maxRecDepth 100000

def byteV (b : Nat) : Value := .int .u8 (b : Int)
/-- the writer in block wb has written bs; its bytes lie in the block o -/
def WS (wb : Nat) (o : Option Nat) (w : World) (bs : List Nat) : Prop := ∃ v, w.heap[wb]? = some (.cells #[v] 54 (0, 0)) ∧ v.ownBlock = o ∧ w.ownsRow 0 5 1 v bs.length (bs.map byteV) ∧ o ≠ some wb
/-- what a writer's step turns -/
structure WT (wb : Nat) (o o' : Option Nat) (w w' : World) : Prop where
  kb : KB (fun r => r = wb ∨ o = some r) w w'
  own : o' = o ∨ ∃ k, o' = some k ∧ w.heap.size ≤ k
section
variable {wb : Nat} {o o' o1 o2 : Option Nat} {w w' w1 w2 : World} {bs : List Nat}
theorem WS.lt (h : WS wb o w bs) : wb < w.heap.size := by
  obtain ⟨v, h1, _⟩ := h
  exact row_lt h1
theorem WS.own_lt (h : WS wb o w bs) : ∀ k, o = some k → k < w.heap.size := by
  obtain ⟨v, _, rfl, h3, _⟩ := h
  exact Go.Proofs.YtjjogaenejdliaaGreatDoor.own_lt h3
theorem WT.refl (wb : Nat) (o : Option Nat) (w : World) : WT wb o o w w := ⟨KB.refl _ _, .inl rfl⟩
theorem WT.trans (h : WT wb o o1 w w1) (h' : WT wb o1 o2 w1 w2) : WT wb o o2 w w2 := by
  refine ⟨⟨h'.kb.os.trans h.kb.os, h'.kb.tape.trans h.kb.tape, h'.kb.output.trans h.kb.output, Nat.le_trans h.kb.size h'.kb.size, fun r hr hn => ?_⟩, ?_⟩
  · refine (h'.kb.block r (Nat.lt_of_lt_of_le hr h.kb.size) (fun e => ?_)).trans (h.kb.block r hr hn)
    rcases e with e | e
    · exact hn (.inl e)
    · rcases h.own with g | ⟨k, g, hk⟩
      · rw [g] at e; exact hn (.inr e)
      · rw [g] at e; injection e with e; omega
  · rcases h'.own with g | ⟨k, g, hk⟩
    · rw [g]; exact h.own
    · exact .inr ⟨k, g, Nat.le_trans h.kb.size hk⟩
theorem WT.of_below (hb : Below w.heap.size w w') : WT wb o o w w' := ⟨KB.of_below hb, .inl rfl⟩
theorem WT.keep (h : WT wb o o' w w') {b : Nat} {x : Obj} (hx : w.heap[b]? = some x) (h1 : b ≠ wb) (h2 : o ≠ some b) : w'.heap[b]? = some x := (h.kb.block b (row_lt hx) (fun e => e.elim h1 h2)).trans hx
/-- a block apart from the writer's stays so -/
theorem WT.apart (h : WT wb o o' w w') {b : Nat} (hb : b < w.heap.size) (h2 : o ≠ some b) : o' ≠ some b := by
  rcases h.own with g | ⟨k, g, hk⟩
  · rw [g]; exact h2
  · rw [g]; intro e; injection e with e; omega
theorem WS.below (h : WS wb o w bs) (hb : Below w.heap.size w w') : WS wb o w' bs := by
  obtain ⟨v, h1, h2, h3, h4⟩ := h
  exact ⟨v, (hb.block _ (row_lt h1)).trans h1, h2, own_turn h3 (fun k _ _ hl => hb.block k hl), h4⟩
/-- new bytes, and their store -/
theorem ws_app {news : List Nat} {n : Nat} {y w5 : World} {v u : Value} {ob : Obj} (h0 : y.heap[wb]? = some (.cells #[v] 54 (0, 0))) (ho : v.ownBlock ≠ some wb) (hl : bs.length = n)
    (hown5 : w5.ownsRow 0 5 1 u (n + news.length) (bs.map byteV ++ news.map byteV)) (hg5 : (y.alloc ob).grownBy w5 v.ownBlock) (hat : u.ownBlock = v.ownBlock ∨ ∃ k, u.ownBlock = some k ∧ y.heap.size ≤ k) :
    WS wb u.ownBlock (w5.setCell ⟨wb, 0, none⟩ u) (bs ++ news) ∧ WT wb v.ownBlock u.ownBlock y (w5.setCell ⟨wb, 0, none⟩ u) := by
  have hlt := row_lt h0
  have h5 : w5.heap[wb]? = some (.cells #[v] 54 (0, 0)) := (hg5.block wb (by simp; omega) (fun e => ho e.symm)).trans ((Below.heap_alloc _ _ _ hlt).trans h0)
  have hou : u.ownBlock ≠ some wb := by
    rcases hat with h | ⟨k, h, hk⟩
    · rw [h]; exact ho
    · rw [h]; intro e; injection e with e; omega
  have hk9 : KB (fun r => v.ownBlock = some r) y w5 := ⟨hg5.os, hg5.tape, hg5.output, by have := hg5.size; simp at this; omega, fun r hr hn => (hg5.block r (by simp; omega) (fun e => hn e.symm)).trans (Below.heap_alloc _ _ _ hr)⟩
  refine ⟨⟨u, heap_setCell_same w5 wb 0 _ _ u h5, rfl, ?_, hou⟩, ⟨⟨hk9.os, hk9.tape, hk9.output, by simpa [World.setCell] using hk9.size, fun r hr hn => ?_⟩, hat⟩⟩
  · rw [List.map_append, List.length_append, hl]
    exact own_turn hown5 (fun k _ he _ => Below.heap_setCell _ _ _ _ (fun e => hou (by rw [he, e])))
  · exact (Below.heap_setCell _ _ _ _ (fun e => hn (.inl e))).trans (hk9.block r hr (fun e => hn (.inr e)))
theorem ws_app1 {X n gg cap : Nat} {y w5 : World} {v : Value} {ob : Obj} (h0 : y.heap[wb]? = some (.cells #[v] 54 (0, 0))) (ho : v.ownBlock ≠ some wb) (hl : bs.length = n)
    (hown5 : w5.ownsRow 0 5 1 (.slice (some ⟨gg, 0, none⟩) (n + 1) cap) (n + 1) (bs.map byteV ++ [.int .u8 (X : Int)])) (hg5 : (y.alloc ob).grownBy w5 v.ownBlock) (hat : v.ownBlock = some gg ∨ gg = y.heap.size + 1) :
    (w5.cell? ⟨wb, 0, none⟩ = some v ∧ w5.frozen? ⟨wb, 0, none⟩ = false) ∧ WS wb (some gg) (w5.setCell ⟨wb, 0, none⟩ (.slice (some ⟨gg, 0, none⟩) (n + 1) cap)) (bs ++ [X]) ∧ WT wb v.ownBlock (some gg) y (w5.setCell ⟨wb, 0, none⟩ (.slice (some ⟨gg, 0, none⟩) (n + 1) cap)) := by
  have hlt := row_lt h0
  have h5 : w5.heap[wb]? = some (.cells #[v] 54 (0, 0)) := (hg5.block wb (by simp; omega) (fun e => ho e.symm)).trans ((Below.heap_alloc _ _ _ hlt).trans h0)
  refine ⟨⟨by rw [cell_of_row _ _ 0 _ _ _ h5]; rfl, by simp [World.frozen?, h5]⟩, ?_⟩
  exact ws_app (news := [X]) h0 ho hl hown5 hg5 (by
    rcases hat with h | h
    · exact .inl h.symm
    · exact .inr ⟨gg, rfl, by omega⟩)
/-- what a writing function does: it writes l, or it refuses -/
def WPost (wb : Nat) (o : Option Nat) (w : World) (bs : List Nat) (good : Bool) (l : List Nat) (e : Ending) (w' : World) : Prop :=
  (good = true ∧ e = .returned (.tuple #[]) ∧ ∃ o', WS wb o' w' (bs ++ l) ∧ WT wb o o' w w') ∨ (good = false ∧ e = .panicked wrongV ∧ KB (fun r => r = wb ∨ o = some r) w w')
theorem kb_panic (h : WT wb o o1 w w1) (h' : KB (fun r => r = wb ∨ o1 = some r) w1 w2) : KB (fun r => r = wb ∨ o = some r) w w2 := (h.trans (⟨h', .inl rfl⟩ : WT wb o1 o1 w1 w2)).kb
end
theorem or128 : ∀ c : Fin 256, bits BinOp.or IntKind.u8 ((c.val : Nat) : Int) 128 = ((c.val % 128 + 128 : Nat) : Int) := by decide +kernel
theorem infoU8 : (Tryz.prog.info? 5).map (fun i => (i.zero, i.size, i.bytes)) = some (some (.int .u8 0), 1, 1) := by kernel_rfl
theorem leb_len_le (n : Nat) : 0 < (leb n).length := by unfold leb; split <;> simp
section
variable {wb : Nat} {o : Option Nat} {w : World} {bs : List Nat}
theorem c_wnum (h : WS wb o w bs) (n : Int) (hN : bs.length + (leb n.toNat).length ≤ 1099511627776) : Calls Tryz.prog 16 #[.pointer (some ⟨wb, 0, none⟩), .int .i64 n] w (WPost wb o w bs (decide (0 ≤ n)) (leb n.toNat)) := by
  have hT := Lib.hid (fun (w : World) => c_mustT w)
  have hF := Lib.hid (fun (w : World) => c_mustF w)
  by_cases h0 : 0 ≤ n
  · obtain ⟨m, rfl⟩ := Int.eq_ofNat_of_zero_le h0
    have hd : decide (0 ≤ (m : Int)) = true := by simp
    rw [hd]
    rw [Int.toNat_natCast] at *
    obtain ⟨i0, hi0, hz0, hz1, hz2⟩ := info_parts infoU8
    replace h := Lib.hid h
    replace hN := Lib.hid hN
    have hd' := hd
    clear h0
    go_enter Tryz.func16, Tryz.ntmps16
    go_wp2_with (go_at_call 15; refine (hT.out _).mono ?_; rintro e y ⟨rfl, rfl⟩)
    go_loopg [1] m (fun g v1 wr => ∃ (k : Nat) (acc : List Nat) (o' : Option Nat), k ≤ g ∧ v1 = .int .i64 (k : Int) ∧ leb m = acc ++ leb k ∧ WS wb o' wr (bs ++ acc) ∧ WT wb o o' y wr)
    case atStart => exact ⟨m, [], o, Nat.le_refl _, rfl, rfl, by rw [List.append_nil]; exact h.out, WT.refl _ _ _⟩
    case round =>
      obtain ⟨k, acc, o', hkg, rfl, hacc, hWS, hWT⟩ := hrel
      have hlen := hN.out
      rw [hacc, List.length_append] at hlen
      have hpos := leb_len_le k
      obtain ⟨v, r0, rfl, hown, hne⟩ := hWS
      have k0 : wr.cell? ⟨wb, 0, none⟩ = some v := by rw [cell_of_row _ _ 0 _ _ _ r0]; rfl
      have f0 : wr.frozen? ⟨wb, 0, none⟩ = false := by simp [World.frozen?, r0]
      obtain ⟨p, c, rfl⟩ := own_form2 hown
      have hnl : (bs ++ acc).length ≤ 1099511627776 := by rw [List.length_append]; omega
      have hor := or128 ⟨k % 256, Nat.mod_lt _ (by decide)⟩
      simp only at hor
      have hmm : k % 256 % 128 = k % 128 := by omega
      rw [hmm, show ((k % 256 : Nat) : Int) = (k : Int) % 256 by omega] at hor
      have hlw := row_lt r0
      obtain ⟨N, hN2⟩ : ∃ N, (bs ++ acc).length = N := ⟨_, rfl⟩
      rw [hN2] at hown k0 r0 hnl hne hWT
      replace hmm := Lib.hid hmm
      replace hN2 := Lib.hid hN2
      replace hacc := Lib.hid hacc
      replace hWT := Lib.hid hWT
      have hr0 := Lib.hid r0
      have hne' := Lib.hid hne
      clear hne r0 hlen
      by_cases h128 : 128 ≤ k
      · have hd1 : decide ((128 : Int) ≤ (k : Int)) = true := by simp; omega
        have hstep : leb k = (k % 128 + 128) :: leb (k / 128) := by rw [leb, if_neg (by omega)]
        replace hstep := Lib.hid hstep
        generalize hX : k % 128 + 128 = X at *
        replace hX := Lib.hid hX
        have hown8 := hown.alloc (.cells #[byteV X] 5)
        have hnx := World.news_of_block (cs := #[byteV X]) (t := 5) (fr := (0, 0)) (heap_alloc_new wr (.cells #[byteV X] 5))
        unfold byteV at hown8 hnx
        go_wp2_with (at_builtin; refine wpList_append_lies _ (by rfl) _ _ _ (by rfl) 0 5 i0 _ 1 1 Tryz.underlying27 hi0 hz0 hz1 hz2 rfl (by omega) (.slice p N c) N ((bs ++ acc).map byteV) (by rfl) hown8 ⟨wr.heap.size, 0, none⟩ 1 1 _ (by rfl) (by rfl) hnx (fun u hu => by simp at hu; subst hu; rfl) (by omega) (by unfold maxLen; omega) (by omega) (by omega) (wr.heap.size + 1) (by simp) ?_; intro gg cap w5 hown5 hg5 hat5 hlt5; obtain ⟨⟨c10, f10⟩, hfin⟩ := ws_app1 hr0.out hne'.out hN2.out hown5 hg5 hat5; replace hfin := Lib.hid hfin; clear hg5 hown5 hat5 hlt5 hown8 hnx)
        go_roundg (k / 128)
        case measure => omega
        case rel => exact ⟨k / 128, acc ++ [X], _, Nat.le_refl _, congrArg _ (by omega), by rw [hacc.out, hstep.out]; simp, by rw [← List.append_assoc]; exact hfin.out.1, hWT.out.trans hfin.out.2⟩
      · have hd1 : decide ((128 : Int) ≤ (k : Int)) = false := by simp; omega
        have hstep : leb k = [k] := by rw [leb, if_pos (by omega)]
        replace hstep := Lib.hid hstep
        have hmod : (k : Int) % 256 = (k : Int) := by omega
        have hown8 := hown.alloc (.cells #[byteV k] 5)
        have hnx := World.news_of_block (cs := #[byteV k]) (t := 5) (fr := (0, 0)) (heap_alloc_new wr (.cells #[byteV k] 5))
        unfold byteV at hown8 hnx
        clear hor
        go_wp2_with (at_builtin; refine wpList_append_lies _ (by rfl) _ _ _ (by rfl) 0 5 i0 _ 1 1 Tryz.underlying27 hi0 hz0 hz1 hz2 rfl (by omega) (.slice p N c) N ((bs ++ acc).map byteV) (by rfl) hown8 ⟨wr.heap.size, 0, none⟩ 1 1 _ (by rfl) (by rfl) hnx (fun u hu => by simp at hu; subst hu; rfl) (by omega) (by unfold maxLen; omega) (by omega) (by omega) (wr.heap.size + 1) (by simp) ?_; intro gg cap w5 hown5 hg5 hat5 hlt5; obtain ⟨⟨c10, f10⟩, hfin⟩ := ws_app1 hr0.out hne'.out hN2.out hown5 hg5 hat5; replace hfin := Lib.hid hfin; clear hg5 hown5 hat5 hlt5 hown8 hnx)
        go_end0
        exact .inl ⟨rfl, rfl, _, by rw [hacc.out, hstep.out, ← List.append_assoc]; exact hfin.out.1, hWT.out.trans hfin.out.2⟩
  · have hd : decide (0 ≤ n) = false := by simp; omega
    rw [hd]
    clear h0
    replace h := Lib.hid h
    go_enter Tryz.func16, Tryz.ntmps16
    go_wp2_with (go_at_call 15; refine (hF.out _).mono ?_; rintro e y ⟨rfl, rfl⟩)
    exact ⟨rfl, .inr ⟨rfl, rfl, KB.refl _ _⟩⟩
end
end Go.Proofs.YtjjogaenejdliaaGreatDoor
