/-
  Contracts: An entry of the reference's table. The reference's readers in one form; its instruction. The reference's loops: what a round leaves. A law for a region that draws its order and ends with a store: what yields under S is taken first; behind the operation n, for which what is taken is waited, S is not asked.
-/
import Derived.Test.YtjjogaenejdliaaGreatDoorY4
import Derived.Laws.Strings
import Derived.Laws.Strings3
import Derived.Lib.Strings
import Derived.Lib.ItoaWalk
import Derived.BigRegion
import Derived.Deep.RegionHeld
import Derived.Test.YtjjogaenejdliaaGreatDoorProg
namespace Go.Proofs.YtjjogaenejdliaaGreatDoor
open Go.RowKit Go.Lib
set_option linter.unusedVariables false
set_option linter.unusedSimpArgs false
set_option maxHeartbeats 4000000
set_option maxRecDepth 1000000

def entV (op : Int) : Value := if 0 ≤ op ∧ op ≤ 70 then .tuple #[.string (nmT op.toNat), .string (ltT op.toNat)] else .tuple #[.string ⟨#[]⟩, .string ⟨#[]⟩]
theorem c_Qentry (op : Int) (w : World) : Calls Tryz.prog 69 #[.int .i64 op] w fun e w' => e = .returned (entV op) ∧ Below w.heap.size w w' := by
  have hT := Lib.hid (c_Qtable w)
  have hO := Lib.hid (fun (y : World) => c_Operators6 y)
  by_cases hin : 0 ≤ op ∧ op ≤ 70
  · obtain ⟨n, rfl⟩ := Int.eq_ofNat_of_zero_le hin.1
    have hn : n ≤ 70 := by omega
    have hv : entV (n : Int) = .tuple #[.string (nmT n), .string (ltT n)] := by unfold entV; rw [if_pos hin, Int.toNat_natCast]
    replace hv := Lib.hid hv
    clear hin
    have p0 : (0 : Int) ≤ (n : Int) := by omega
    have p1 : decide ((70 : Int) < (n : Int)) = false := by simp; omega
    have p3 : decide ((n : Int) < 0) = false := by simp
    by_cases h49 : n < 49
    · have hs := tab_at h49
      have hno : ∀ x ∈ (nmT n).data.toList, x ≠ 32 := nm_no32 ⟨n, h49⟩
      have hsh : (nmT n).size ≤ 10 := nm_short ⟨n, h49⟩
      obtain ⟨s, hsd⟩ : ∃ s : ByteArray, (⟨(nmT n).data ++ #[32] ++ (ltT n).data⟩ : ByteArray) = s := ⟨_, rfl⟩
      rw [hsd] at hs
      obtain ⟨r1, r2, r3, r4, r5⟩ := row_cut hsd.symm
      have p2 : decide ((49 : Int) ≤ (n : Int)) = false := by simp; omega
      have p4 : (n : Int) < 49 := by omega
      have hcell : ∀ y : World, y.heap[w.heap.size]? = some (.cells (tabT.map Value.string).toArray 9 (0, 0)) → y.cell? ⟨w.heap.size, n, none⟩ = some (.string s) := fun y hy => by
        rw [cell_of_row _ _ _ _ _ _ hy]
        simp [hs]
      generalize nmT n = nm at *
      generalize ltT n = lt at *
      have hnm := Lib.hid (show nm.size = nm.data.toList.length from Lib.size_eq nm)
      replace hno := Lib.hid hno
      replace hcell := Lib.hid hcell
      replace r4 := Lib.hid r4
      clear hsd hs h49
      go_enter Tryz.func69, Tryz.ntmps69
      go_wp2_with fail
      refine hT.out.mono ?_
      rintro e y ⟨rfl, hy, hb⟩
      have k0 := hcell.out y hy
      have hsl1 : ∀ (k : Nat) W, k = nm.size → (Instr.slice 9 (.string s) none (some (.int .i64 (k : Int))) none).run Tryz.prog W = .ok (.string nm) W := fun k W hk => by
        rw [run_slice_string_to_if W 9 s .i64 _ Tryz.underlying9, if_pos ⟨by omega, by omega⟩, Int.toNat_natCast, hk, r2]
      have hsl2 : ∀ (k : Nat) W, k = nm.size → (Instr.slice 9 (.string s) (some (.int .i64 ((k : Int) + 1))) none none).run Tryz.prog W = .ok (.string lt) W := fun k W hk => by
        rw [run_slice_string_from_if W 9 s .i64 _ Tryz.underlying9, if_pos ⟨by omega, by omega⟩, show ((k : Int) + 1).toNat = nm.size + 1 by omega, r3]
      replace hsl1 := Lib.hid hsl1
      replace hsl2 := Lib.hid hsl2
      replace hb := Lib.hid hb
      clear hT hO hy
      go_wp2
      go_loopw [5] (fun v5 wr => ∃ k : Nat, k ≤ nm.size ∧ v5 = .int .i64 (k : Int) ∧ wr = y) (fun v5 _ => nm.size - (Lib.intOf v5).toNat)
      case atStart => exact ⟨0, by omega, rfl, rfl⟩
      case round =>
        obtain ⟨k, hk, rfl, rfl⟩ := hrel
        rcases Nat.lt_or_ge k nm.size with hlt | hge
        · have hx : s.data.toList.getD k 0 ≠ 32 := by
            rw [r4.out k hlt]
            have hm : nm.data.toList.getD k 0 ∈ nm.data.toList := by
              rw [List.getD_eq_getElem?_getD, List.getElem?_eq_getElem (by rw [← hnm.out]; exact hlt)]
              exact List.getElem_mem _
            exact hno.out _ hm
          obtain ⟨x, hxe⟩ : ∃ x, s.data.toList.getD k 0 = x := ⟨_, rfl⟩
          have hix : ∀ W, (Instr.index 9 (.string s) (.int .i64 (k : Int))).run Tryz.prog W = .ok (.int .u8 (x.toNat : Int)) W := fun W => by
            rw [run_index_string (w := W) 9 s .i64 _ Tryz.underlying9, dif_pos ⟨by omega, by omega⟩]
            have h2 : s[((k : Int)).toNat]'(by omega) = x := (Lib.getD_at s k (by omega)).trans hxe
            rw [h2]
          rw [hxe] at hx
          have hne : ((x.toNat : Int) == 32) = false := by
            rw [Bool.eq_false_iff]
            intro h
            have h1 : (x.toNat : Int) = 32 := by simpa using h
            exact hx (by apply UInt8.toNat_inj.1; have : x.toNat = 32 := by omega
                         rw [this]; rfl)
          have hlt2 : decide (k < s.size) = true := by simp; omega
          clear hx
          go_wp2
          exact ⟨⟨k + 1, by omega, by go_num, trivial⟩, by simp [Lib.intOf]; omega⟩
        · obtain rfl : k = nm.size := by omega
          have hix : ∀ W, (Instr.index 9 (.string s) (.int .i64 (nm.size : Int))).run Tryz.prog W = .ok (.int .u8 32) W := fun W => by
            rw [run_index_string (w := W) 9 s .i64 _ Tryz.underlying9, dif_pos ⟨by omega, by omega⟩]
            have h2 : s[((nm.size : Int)).toNat]'(by omega) = 32 := (Lib.getD_at s nm.size (by omega)).trans r5
            rw [h2]
            rfl
          have hlt2 : decide (nm.size < s.size) = true := by simp; omega
          have q1 := fun W => hsl1.out nm.size W rfl
          have q2 := fun W => hsl2.out nm.size W rfl
          go_wp2
          go_region
          all_goals
            go_wp2
            go_ret2
            exact ⟨by rw [hv.out]; rfl, hb.out.drew⟩
    · have hnm : nmT n = binL.getD (n - 49) ⟨#[]⟩ := by unfold nmT; rw [if_neg h49]
      have hlt : ltT n = rrrB := by unfold ltT; rw [if_neg h49]
      have hv2 := hv.out
      rw [hnm, hlt] at hv2
      obtain ⟨m, rfl⟩ : ∃ m, n = m + 49 := ⟨n - 49, by omega⟩
      rw [Nat.add_sub_cancel] at hv2
      have hm : m < 22 := by omega
      have hml : m < binL.length := by unfold binL; rw [List.length_map, binL_len]; exact hm
      obtain ⟨x, hx⟩ : ∃ x, binL[m]? = some x := ⟨_, List.getElem?_eq_getElem hml⟩
      have hcell : ∀ (y : World) (g : Nat), y.heap[g]? = some (.cells (binL.map Value.string).toArray 9 (0, 0)) → y.cell? ⟨g, m, none⟩ = some (.string x) := fun y g hy => by
        rw [cell_of_row _ _ _ _ _ _ hy]
        simp [hx]
      have hv3 : entV ((m + 49 : Nat) : Int) = .tuple #[.string x, .string rrrB] := by rw [hv2, List.getD_eq_getElem?_getD, hx]; rfl
      have p2 : decide ((49 : Int) ≤ (m : Int) + 49) = true := by simp; omega
      have p4 : (0 : Int) ≤ (m : Int) := by omega
      have p5 : (m : Int) < 22 := by omega
      replace hcell := Lib.hid hcell
      replace hv3 := Lib.hid hv3
      clear hnm hlt hx hml hv2 hv h49
      go_enter Tryz.func69, Tryz.ntmps69
      go_wp2_with fail
      refine hT.out.mono ?_
      rintro e y ⟨rfl, hy, hb⟩
      have hO2 := Lib.hid (hO.out y)
      clear hT hy
      go_wp2_with fail
      refine hO2.out.mono ?_
      rintro e y2 ⟨rfl, hy2, hb2⟩
      have c2 := hcell.out y2 _ hy2
      have hbb := Lib.hid (hb.trans (hb2.mono hb.size))
      clear hO2 hy2 hb2 hb
      go_wp2
      go_ret2
      exact ⟨by rw [hv3.out]; rfl, hbb.out⟩
  · have hv : entV op = .tuple #[.string ⟨#[]⟩, .string ⟨#[]⟩] := by unfold entV; rw [if_neg hin]
    replace hv := Lib.hid hv
    by_cases h0 : op < 0
    · have hd : decide (op < 0) = true := by simp; omega
      clear hin
      go_enter Tryz.func69, Tryz.ntmps69
      go_wp2_with fail
      refine hT.out.mono ?_
      rintro e y ⟨rfl, hy, hb⟩
      replace hb := Lib.hid hb
      clear hT hy
      go_wp2
      go_ret2
      exact ⟨by rw [hv.out]; rfl, hb.out⟩
    · have hd : decide (op < 0) = false := by simp; omega
      have hd2 : decide (70 < op) = true := by simp; omega
      clear hin
      go_enter Tryz.func69, Tryz.ntmps69
      go_wp2_with fail
      refine hT.out.mono ?_
      rintro e y ⟨rfl, hy, hb⟩
      replace hb := Lib.hid hb
      clear hT hy
      go_wp2
      go_ret2
      exact ⟨by rw [hv.out]; rfl, hb.out⟩
theorem c_QOperands (op : Nat) (w : World) (h : op ≤ 70) : Calls Tryz.prog 41 #[.int .i64 (op : Int)] w fun e w' => e = .returned (.string (ltT op)) ∧ Below w.heap.size w w' := by
  have hE := c_Qentry (op : Int) w
  have hv : entV (op : Int) = .tuple #[.string (nmT op), .string (ltT op)] := by unfold entV; rw [if_pos (by omega), Int.toNat_natCast]
  rw [hv] at hE
  clear hv
  generalize nmT op = nm at *
  generalize ltT op = lt at *
  replace hE := Lib.hid hE
  go_enter Tryz.func41, Tryz.ntmps41
  go_wp2_with fail
  refine hE.out.mono ?_
  rintro e y ⟨rfl, hb⟩
  replace hb := Lib.hid hb
  clear hE
  go_wp2
  go_ret
  exact ⟨rfl, hb.out⟩
end Go.Proofs.YtjjogaenejdliaaGreatDoor
namespace Go.Proofs.YtjjogaenejdliaaGreatDoor
open Go.RowKit Go.Lib
set_option linter.unusedVariables false
set_option linter.unusedSimpArgs false
set_option maxHeartbeats 4000000
set_option maxRecDepth 100000

/-- what a reading of the reference's leaves: what came, or anything and ok is off -/
def QRes {α : Type} (rd : List Nat → Option (α × List Nat)) (bs : List Nat) (ok : Bool) (v : α) (r : List Nat) (ok' : Bool) : Prop :=
  (ok = true ∧ ok' = true ∧ rd bs = some (v, r)) ∨ (ok' = false ∧ (ok = false ∨ rd bs = none) ∧ r.length ≤ bs.length)
section
variable {rb bb : Nat} {w w' y y' : World} {bs r : List Nat} {ok : Bool}
theorem m_Qnum (h : QS rb bb w bs ok) (hrb : bb ≠ rb) : Calls Tryz.prog 25 #[.pointer (some ⟨rb, 0, none⟩)] w fun e w' => KB (fun r => r = rb) w w' ∧ ∃ n r ok', e = .returned (.int .i64 ((n : Nat) : Int)) ∧ QS rb bb w' r ok' ∧ QRes rdNum bs ok n r ok' := by
  refine (c_Qnum h hrb).mono ?_
  rintro e y ⟨hK, ⟨n, r, h1, h2, rfl, h3⟩ | ⟨h1, rfl, r, h2, h3⟩⟩
  · exact ⟨hK, n, r, true, rfl, h3, .inl ⟨h1, rfl, h2⟩⟩
  · exact ⟨hK, 0, r, false, rfl, h2, .inr ⟨rfl, h1, h3⟩⟩
theorem m_Qflag (h : QS rb bb w bs ok) (hrb : bb ≠ rb) : Calls Tryz.prog 57 #[.pointer (some ⟨rb, 0, none⟩)] w fun e w' => KB (fun r => r = rb) w w' ∧ ∃ b r ok', e = .returned (.bool b) ∧ QS rb bb w' r ok' ∧ QRes rdFlag bs ok b r ok' := by
  refine (c_Qflag h hrb).mono ?_
  rintro e y ⟨hK, ⟨n, r, h1, h2, rfl, h3⟩ | ⟨h1, rfl, r, h2, h3⟩⟩
  · exact ⟨hK, n, r, true, rfl, h3, .inl ⟨h1, rfl, h2⟩⟩
  · exact ⟨hK, _, r, false, rfl, h2, .inr ⟨rfl, h1, h3⟩⟩
theorem m_Qtext (h : QS rb bb w bs ok) (hrb : bb ≠ rb) : Calls Tryz.prog 56 #[.pointer (some ⟨rb, 0, none⟩)] w fun e w' => KB (fun r => r = rb) w w' ∧ ∃ s r ok', e = .returned (.string s) ∧ QS rb bb w' r ok' ∧ QRes rdText bs ok s r ok' := by
  refine (c_Qtext h hrb).mono ?_
  rintro e y ⟨hK, ⟨n, r, h1, h2, rfl, h3⟩ | ⟨h1, rfl, r, h2, h3⟩⟩
  · exact ⟨hK, n, r, true, rfl, h3, .inl ⟨h1, rfl, h2⟩⟩
  · exact ⟨hK, _, r, false, rfl, h2, .inr ⟨rfl, h1, h3⟩⟩
theorem m_Qconst (h : QS rb bb w bs ok) (hrb : bb ≠ rb) : Calls Tryz.prog 58 #[.pointer (some ⟨rb, 0, none⟩)] w fun e w' => KB (fun r => r = rb) w w' ∧ ∃ v r ok', e = .returned (.agg (encVV v).toArray) ∧ QS rb bb w' r ok' ∧ QRes rdConst bs ok v r ok' := by
  refine (c_Qconst h hrb).mono ?_
  rintro e y ⟨hK, ⟨n, r, h1, h2, rfl, h3⟩ | ⟨h1, ⟨v, rfl⟩, r, h2, h3⟩⟩
  · exact ⟨hK, n, r, true, rfl, h3, .inl ⟨h1, rfl, h2⟩⟩
  · exact ⟨hK, v, r, false, rfl, h2, .inr ⟨rfl, h1, h3⟩⟩
theorem QS.other {b : Nat} (hq : QS rb bb y r ok) (hb : b ≠ rb) (hn : ∀ (o : Nat) (x : Int), y.cell? ⟨b, o, none⟩ ≠ some (.int .u8 x)) (hne : ∀ r', r' ≠ b → y'.heap[r']? = y.heap[r']?) : QS rb bb y' r ok := by
  obtain ⟨v0, h0, h1, h2⟩ := hq
  refine ⟨v0, h0, (hne rb (fun e => hb e.symm)).trans h1, h2.keep fun b' o x hc => ?_⟩
  have hb' : b' ≠ b := fun e => by subst e; exact hn o x hc
  rw [World.cell?_of_block (w := y) (a := ⟨b', o, none⟩) (hne b' hb')]
  exact hc
theorem QS.set5 {a0 a1 a2 a3 a4 : Int} {b : Nat} (hq : QS rb bb y r ok) (hb : b ≠ rb) (h : y.heap[b]? = some (.cells #[.int .i64 a0, .int .i64 a1, .int .i64 a2, .int .i64 a3, .int .i64 a4] 40 (0, 0))) (i : IV) :
    QS rb bb (((((y.setCell ⟨b, 0, none⟩ (.int .i64 i.op)).setCell ⟨b, 1, none⟩ (.int .i64 i.a)).setCell ⟨b, 2, none⟩ (.int .i64 i.b)).setCell ⟨b, 3, none⟩ (.int .i64 i.c)).setCell ⟨b, 4, none⟩ (.int .i64 i.d)) r ok := by
  refine hq.other hb (noU8 h (fun v hv x => ?_)) (fun r' hr => ?_)
  · simp at hv
    rcases hv with rfl | rfl | rfl | rfl | rfl <;> simp
  · rw [Below.heap_setCell _ _ _ _ hr, Below.heap_setCell _ _ _ _ hr, Below.heap_setCell _ _ _ _ hr, Below.heap_setCell _ _ _ _ hr, Below.heap_setCell _ _ _ _ hr]
/-- the operands that have come -/
def argR (acc : List Nat) : List Value := [.int .i64 ((acc.getD 0 0 : Nat) : Int), .int .i64 ((acc.getD 1 0 : Nat) : Int), .int .i64 ((acc.getD 2 0 : Nat) : Int), .int .i64 ((acc.getD 3 0 : Nat) : Int)]
theorem argR_next {acc : List Nat} (h : acc.length < 4) (n : Nat) : argR (acc ++ [n]) = (argR acc).set acc.length (.int .i64 (n : Int)) := by
  rcases acc with _ | ⟨a, _ | ⟨b, _ | ⟨c, _ | ⟨d, acc⟩⟩⟩⟩
  · rfl
  · rfl
  · rfl
  · rfl
  · simp at h; omega
theorem argR_no (acc : List Nat) : ∀ v ∈ (argR acc).toArray.toList, ∀ x, v ≠ .int .u8 x := fun v hv x => by
  simp [argR] at hv
  rcases hv with rfl | rfl | rfl | rfl <;> simp
theorem row5 {y : World} {b : Nat} {v0 v1 v2 v3 v4 : Value} {t : TypeId} (h : y.heap[b]? = some (.cells #[v0, v1, v2, v3, v4] t (0, 0))) :
    (y.cell? ⟨b, 0, none⟩ = some v0 ∧ y.cell? ⟨b, 1, none⟩ = some v1 ∧ y.cell? ⟨b, 2, none⟩ = some v2 ∧ y.cell? ⟨b, 3, none⟩ = some v3 ∧ y.cell? ⟨b, 4, none⟩ = some v4) ∧
    y.frozen? ⟨b, 0, none⟩ = false ∧ y.frozen? ⟨b, 1, none⟩ = false ∧ y.frozen? ⟨b, 2, none⟩ = false ∧ y.frozen? ⟨b, 3, none⟩ = false ∧ y.frozen? ⟨b, 4, none⟩ = false :=
  ⟨⟨by rw [cell_of_row _ _ 0 _ _ _ h]; rfl, by rw [cell_of_row _ _ 1 _ _ _ h]; rfl, by rw [cell_of_row _ _ 2 _ _ _ h]; rfl, by rw [cell_of_row _ _ 3 _ _ _ h]; rfl, by rw [cell_of_row _ _ 4 _ _ _ h]; rfl⟩, by simp [World.frozen?, h], by simp [World.frozen?, h], by simp [World.frozen?, h], by simp [World.frozen?, h], by simp [World.frozen?, h]⟩
theorem c_Qins (h : QS rb bb w bs ok) (hrb : bb ≠ rb) : Calls Tryz.prog 59 #[.pointer (some ⟨rb, 0, none⟩)] w fun e w' => KB (fun r => r = rb) w w' ∧ ∃ v r ok', e = .returned (.agg (encI v).toArray) ∧ QS rb bb w' r ok' ∧ QRes rdIns bs ok v r ok' := by
  obtain ⟨W1, hW1⟩ : ∃ W1, w.alloc (.cells #[.int .i64 0, .int .i64 0, .int .i64 0, .int .i64 0, .int .i64 0] 40) = W1 := ⟨_, rfl⟩
  have hb1 : Below w.heap.size w W1 := by rw [← hW1]; exact (Below.refl _ w).alloc (Nat.le_refl _) _
  have d1 : W1.heap[w.heap.size]? = some (.cells #[.int .i64 0, .int .i64 0, .int .i64 0, .int .i64 0, .int .i64 0] 40 (0, 0)) := by rw [← hW1]; exact heap_alloc_new w _
  have hR1 := h.below hb1
  have hlr := h.lt
  have hN := m_Qnum hR1 hrb
  have hdef : rdIns bs = match rdNum bs with
      | none => none
      | some (op, r) => if op ≤ 70 then (match rdTimes rdNum (nlOf op) r with
        | none => none
        | some (l, r) => some (⟨(op : Int), ((l.getD 0 0 : Nat) : Int), ((l.getD 1 0 : Nat) : Int), ((l.getD 2 0 : Nat) : Int), ((l.getD 3 0 : Nat) : Int)⟩, r)) else none := rfl
  have hkw : ∀ y, KB (fun r => r = rb) W1 y → KB (fun r => r = rb) w y := fun y hy => (KB.of_below hb1).trans hy
  replace hN := Lib.hid hN
  replace hdef := Lib.hid hdef
  replace hkw := Lib.hid hkw
  have hlr' := Lib.hid hlr
  replace d1 := Lib.hid d1
  replace hb1 := Lib.hid hb1
  clear h hR1 hlr
  go_enter Tryz.func59, Tryz.ntmps59
  go_wp2_with fail
  refine hN.out.mono ?_
  rintro e y ⟨hK, op, r, ok1, rfl, hQ, hres⟩
  have hle : r.length ≤ bs.length := by
    rcases hres with ⟨_, _, h⟩ | ⟨_, _, h⟩
    · exact Nat.le_of_lt (rdNum_len h)
    · exact h
  obtain ⟨W3, hW3⟩ : ∃ W3, y.alloc (.cells #[.int .i64 (op : Int), .int .i64 0, .int .i64 0, .int .i64 0, .int .i64 0] 40) = W3 := ⟨_, rfl⟩
  have hb3 : Below y.heap.size y W3 := by rw [← hW3]; exact (Below.refl _ y).alloc (Nat.le_refl _) _
  have d3 : W3.heap[y.heap.size]? = some (.cells #[.int .i64 (op : Int), .int .i64 0, .int .i64 0, .int .i64 0, .int .i64 0] 40 (0, 0)) := by rw [← hW3]; exact heap_alloc_new y _
  have hK3 := hK.trans (KB.of_below hb3)
  have hR3 := hQ.below (hb3.mono (Nat.le_refl _))
  have hKy := hK.size
  have hs1 := row_lt d1.out
  have s3 := (hK3.block _ hs1 (by have := hlr'.out; omega)).trans d1.out
  have hn1 : w.heap.size ≠ rb := by have := hlr'.out; omega
  have hn2 : y.heap.size ≠ rb := by have := hlr'.out; omega
  by_cases h70 : op ≤ 70
  · have hO := fun y => Lib.hid (c_QOperands op y h70)
    have hsz := ltT_size op h70
    have hasc := ltT_ascii ⟨op, by omega⟩
    simp only at hasc
    have h4 := nlOf_le op h70
    have hres0 : (ok = true ∧ ok1 = true ∧ rdIns bs = match rdTimes rdNum (nlOf op) r with
        | none => none
        | some (l, r) => some (⟨(op : Int), ((l.getD 0 0 : Nat) : Int), ((l.getD 1 0 : Nat) : Int), ((l.getD 2 0 : Nat) : Int), ((l.getD 3 0 : Nat) : Int)⟩, r)) ∨ (ok1 = false ∧ (ok = false ∨ rdIns bs = none) ∧ r.length ≤ bs.length) := by
      rcases hres with ⟨h1, h2, h⟩ | ⟨h1, h | h, h3⟩
      · exact .inl ⟨h1, h2, by rw [hdef.out, h]; dsimp only; rw [if_pos h70]⟩
      · exact .inr ⟨h1, .inl h, h3⟩
      · exact .inr ⟨h1, .inr (by rw [hdef.out, h]), h3⟩
    have hd : decide ((70 : Int) < (op : Int)) = false := by simp; omega
    have k0 : W3.cell? ⟨y.heap.size, 0, none⟩ = some (.int .i64 (op : Int)) := (row5 d3).1.1
    have hms : ∀ y : World, (Instr.makeSlice 99 (.int .i64 4) (.int .i64 4)).run Tryz.prog y = .ok (.slice (some ⟨y.heap.size, 0, none⟩) 4 4) (y.alloc (.cells #[.int .i64 0, .int .i64 0, .int .i64 0, .int .i64 0] 3)) := fun y => by kernel_rfl
    generalize ltT op = lt at *
    generalize nlOf op = L at *
    obtain ⟨W4, hW4⟩ : ∃ W4, W3.alloc (.cells #[.int .i64 0, .int .i64 0, .int .i64 0, .int .i64 0] 3) = W4 := ⟨_, rfl⟩
    have hz : W3.heap.size = y.heap.size + 1 := by rw [← hW3]; exact Array.size_push _
    have hb4 : Below W3.heap.size W3 W4 := by rw [← hW4]; exact (Below.refl _ W3).alloc (Nat.le_refl _) _
    have a4 : W4.heap[W3.heap.size]? = some (.cells (argR []).toArray 3 (0, 0)) := by rw [← hW4]; exact heap_alloc_new W3 _
    have d4 := (hb4.block _ (row_lt d3)).trans d3
    have s4 := (hb4.block _ (row_lt s3)).trans s3
    have hK4 := hK3.trans (KB.of_below hb4)
    have hR4 := hR3.below hb4
    have k4 : W4.cell? ⟨y.heap.size, 0, none⟩ = some (.int .i64 (op : Int)) := (row5 d4).1.1
    replace hsz := Lib.hid hsz
    replace hasc := Lib.hid hasc
    replace h4 := Lib.hid h4
    replace hres0 := Lib.hid hres0
    replace hK4 := Lib.hid hK4
    replace hR4 := Lib.hid hR4
    replace s4 := Lib.hid s4
    replace a4 := Lib.hid a4
    replace d4 := Lib.hid d4
    replace hz := Lib.hid hz
    have hle6 := Lib.hid hle
    clear hres hQ hb3 d3 hK3 hR3 s3 hN hdef hK hs1 hle h70 hb4
    subst hW3
    go_wp2_with fail
    refine (hO W4).out.mono ?_
    rintro e y5 ⟨rfl, hb5⟩
    go_wp2_with fail
    obtain ⟨W6, hW6⟩ : ∃ W6, y5.iter lt 0 = W6 := ⟨_, rfl⟩
    rw [hW6]
    have hb6 : Below y5.heap.size y5 W6 := by rw [← hW6]; exact (Below.refl _ y5).alloc (Nat.le_refl _) _
    have i6 : W6.heap[y5.heap.size]? = some (.stringIter lt 0) := by rw [← hW6]; exact World.iter_heap y5 lt 0
    have hb46 := hb5.trans (hb6.mono hb5.size)
    have hz4 := row_lt a4.out
    rw [hz.out] at hz4
    have a6 : W6.heap[y.heap.size + 1]? = some (.cells (argR []).toArray 3 (0, 0)) := by
      have := a4.out
      rw [hz.out] at this
      exact (hb46.block _ hz4).trans this
    have d6 := (hb46.block _ (row_lt d4.out)).trans d4.out
    have s6 := (hb46.block _ (row_lt s4.out)).trans s4.out
    have hK6 := hK4.out.trans (KB.of_below hb46)
    have hR6 := hR4.out.below (hb46.mono (Nat.le_refl _))
    have hpre := rdPre_start rdNum L r
    have h5 := hb5.size
    have hs1 := row_lt d1.out
    have hord := Lib.hid (show (rb < w.heap.size ∧ w.heap.size < y.heap.size) ∧ y.heap.size + 1 < y5.heap.size ∧ W1.heap.size ≤ y.heap.size from ⟨⟨hlr'.out, by omega⟩, by omega, hKy⟩)
    obtain ⟨ib, hib⟩ : ∃ ib, y5.heap.size = ib := ⟨_, rfl⟩
    rw [hib] at i6 hord ⊢
    obtain ⟨ab, hab⟩ : ∃ ab, y.heap.size + 1 = ab := ⟨_, rfl⟩
    rw [hab] at a6 hord ⊢
    replace i6 := Lib.hid i6
    replace a6 := Lib.hid a6
    replace d6 := Lib.hid d6
    replace s6 := Lib.hid s6
    replace hK6 := Lib.hid hK6
    replace hR6 := Lib.hid hR6
    replace hpre := Lib.hid hpre
    clear hW6 hb6 hb46 hs1 hz4 h5 hib hb5 hO hms hz a4 d4 s4 hK4 hR4 k0 k4 hd
    go_loopg [] L (fun g wr => ∃ acc r1 ok2, acc.length + g = L ∧ QS rb bb wr r1 ok2 ∧ r1.length ≤ bs.length ∧ ((ok = true ∧ ok1 = true ∧ ok2 = true ∧ rdPre rdNum L r g acc r1) ∨ (ok2 = false ∧ (ok = false ∨ rdIns bs = none))) ∧ KB (fun r => r = rb) W1 wr ∧ wr.heap[ib]? = some (.stringIter lt acc.length) ∧ wr.heap[ab]? = some (.cells (argR acc).toArray 3 (0, 0)) ∧ wr.heap[y.heap.size]? = some (.cells #[.int .i64 (op : Int), .int .i64 0, .int .i64 0, .int .i64 0, .int .i64 0] 40 (0, 0)) ∧ wr.heap[w.heap.size]? = some (.cells #[.int .i64 0, .int .i64 0, .int .i64 0, .int .i64 0, .int .i64 0] 40 (0, 0)))
    case atStart =>
      refine ⟨[], r, ok1, by simp, hR6.out, hle6.out, ?_, hK6.out, i6.out, a6.out, d6.out, s6.out⟩
      rcases hres0.out with ⟨h1, h2, _⟩ | h
      · exact .inl ⟨h1, h2, h2, hpre.out⟩
      · exact .inr ⟨h.1, h.2.1⟩
    case round =>
      obtain ⟨acc, r1, ok2, hacc, hQr, hl1, hor, hKr, hir, har, hdr, hsr⟩ := hrel
      have hord2 := hord.out
      cases gk with
      | zero =>
        have hk : ¬ acc.length < lt.size := by have := hsz.out; omega
        have hnx := fun (ty : TypeId) => run_next_no wr ib lt acc.length ty hir hk
        obtain ⟨IV0, hIV⟩ : ∃ IV0 : IV, IV0 = ⟨(op : Int), ((acc.getD 0 0 : Nat) : Int), ((acc.getD 1 0 : Nat) : Int), ((acc.getD 2 0 : Nat) : Int), ((acc.getD 3 0 : Nat) : Int)⟩ := ⟨_, rfl⟩
        have hres2 : QRes rdIns bs ok IV0 r1 ok2 := by
          rcases hor with ⟨g1, g2, g3, g4⟩ | ⟨g1, g2⟩
          · rcases hres0.out with ⟨_, _, h⟩ | ⟨h, _⟩
            · exact .inl ⟨g1, g3, by rw [h, rdPre_end g4, hIV]⟩
            · rw [g2] at h; cases h
          · exact .inr ⟨g1, g2, hl1⟩
        have l0 : wr.cell? ⟨ab, 0, none⟩ = some (.int .i64 ((acc.getD 0 0 : Nat) : Int)) := by rw [cell_of_row _ _ 0 _ _ _ har]; rfl
        have l1 : wr.cell? ⟨ab, 1, none⟩ = some (.int .i64 ((acc.getD 1 0 : Nat) : Int)) := by rw [cell_of_row _ _ 1 _ _ _ har]; rfl
        have l2 : wr.cell? ⟨ab, 2, none⟩ = some (.int .i64 ((acc.getD 2 0 : Nat) : Int)) := by rw [cell_of_row _ _ 2 _ _ _ har]; rfl
        have l3 : wr.cell? ⟨ab, 3, none⟩ = some (.int .i64 ((acc.getD 3 0 : Nat) : Int)) := by rw [cell_of_row _ _ 3 _ _ _ har]; rfl
        obtain ⟨⟨c0, c1, c2, c3, c4⟩, f0, f1, f2, f3, f4⟩ := row5 hdr
        obtain ⟨⟨t0, t1, t2, t3, t4⟩, e0, e1, e2, e3, e4⟩ := row5 hsr
        have hKw := hkw.out _ hKr
        have hna : y.heap.size ≠ ab := by omega
        have hnw : y.heap.size ≠ w.heap.size := by omega
        have hna' : ab ≠ y.heap.size := by omega
        have hnw' : w.heap.size ≠ y.heap.size := by omega
        replace hres2 := Lib.hid hres2
        replace hKw := Lib.hid hKw
        replace hsr := Lib.hid hsr
        replace hdr := Lib.hid hdr
        replace hQr := Lib.hid hQr
        replace hIV := Lib.hid hIV
        generalize acc.getD 0 0 = g0 at *
        generalize acc.getD 1 0 = g1 at *
        generalize acc.getD 2 0 = g2 at *
        generalize acc.getD 3 0 = g3 at *
        clear hir har hKr hk hacc hor hl1 hres0 hord2
        go_wp2
        go_region
        go_wp2
        obtain ⟨Z, hZ⟩ : ∃ Z, (((wr.setCell ⟨y.heap.size, 1, none⟩ (.int .i64 (g0 : Int))).setCell ⟨y.heap.size, 2, none⟩ (.int .i64 (g1 : Int))).setCell ⟨y.heap.size, 3, none⟩ (.int .i64 (g2 : Int))).setCell ⟨y.heap.size, 4, none⟩ (.int .i64 (g3 : Int)) = Z := ⟨_, rfl⟩
        rw [hZ]
        have hne : ∀ r', r' ≠ y.heap.size → Z.heap[r']? = wr.heap[r']? := fun r' hr => by
          rw [← hZ, Below.heap_setCell _ _ _ _ hr, Below.heap_setCell _ _ _ _ hr, Below.heap_setCell _ _ _ _ hr, Below.heap_setCell _ _ _ _ hr]
        have hQz : QS rb bb Z r1 ok2 := hQr.out.other (b := y.heap.size) hn2 (noU8 hdr.out (fun v hv x => by simp at hv; rcases hv with rfl | rfl <;> simp)) hne
        have hsz' : Z.heap[w.heap.size]? = _ := (hne w.heap.size hnw').trans hsr.out
        have hws := hKw.out.size
        have hKz : KB (fun r => r = rb) w Z := by
          rw [← hZ]
          have hws0 : w.heap.size ≤ y.heap.size := by have := hord.out; omega
          exact (((hKw.out.set hws0).set hws0).set hws0).set hws0
        obtain ⟨q1, q2, _⟩ := set5 hsz' ⟨(op : Int), (g0 : Int), (g1 : Int), (g2 : Int), (g3 : Int)⟩
        have q4 := hQz.set5 hn1 hsz' ⟨(op : Int), (g0 : Int), (g1 : Int), (g2 : Int), (g3 : Int)⟩
        have q5 := q2 _ w (Nat.le_refl _) hKz
        obtain ⟨Z5, hZ5⟩ : ∃ Z5, ((((Z.setCell ⟨w.heap.size, 0, none⟩ (.int .i64 (op : Int))).setCell ⟨w.heap.size, 1, none⟩ (.int .i64 (g0 : Int))).setCell ⟨w.heap.size, 2, none⟩ (.int .i64 (g1 : Int))).setCell ⟨w.heap.size, 3, none⟩ (.int .i64 (g2 : Int))).setCell ⟨w.heap.size, 4, none⟩ (.int .i64 (g3 : Int)) = Z5 := ⟨_, rfl⟩
        rw [hZ5]
        dsimp only at q1 q4 q5
        rw [hZ5] at q1 q4 q5
        have q1' : Z5.drew.heap[w.heap.size]? = some (.cells (encI ⟨(op : Int), (g0 : Int), (g1 : Int), (g2 : Int), (g3 : Int)⟩).toArray 40 (0, 0)) := q1
        have q4' : QS rb bb Z5.drew r1 ok2 := q4
        have q5' : KB (fun r => r = rb) w Z5.drew := ⟨q5.os, q5.tape, q5.output, q5.size, q5.block⟩
        have hres3 := hres2.out
        rw [hIV.out] at hres3
        refine bodyPost_ret (results_cell_row rfl _ _ w.heap.size 40 _ (0, 0) _ rfl q1' Tryz.underlying40 rfl infoIns) rfl ?_
        exact ⟨q5', ⟨(op : Int), (g0 : Int), (g1 : Int), (g2 : Int), (g3 : Int)⟩, r1, ok2, rfl, q4', hres3⟩
      | succ g =>
        have hk : acc.length < lt.size := by have := hsz.out; omega
        have hnx := fun (ty : TypeId) => run_next_at wr ib lt acc.length ty hir hk
        have hd := decode_one lt acc.length hk hasc.out
        rw [hd] at hnx
        obtain ⟨W7, hW7⟩ : ∃ W7, putO wr ib (.stringIter lt (acc.length + 1)) = W7 := ⟨_, rfl⟩
        rw [hW7] at hnx
        have i7 : W7.heap[ib]? = some (.stringIter lt (acc.length + 1)) := by rw [← hW7]; exact putO_same hir
        have n7 : ∀ r', r' ≠ ib → W7.heap[r']? = wr.heap[r']? := fun r' hr => by rw [← hW7]; exact putO_ne hr
        have hR7 : QS rb bb W7 r1 ok2 := hQr.other (b := ib) (by omega) (fun o x => by simp [World.cell?, hir]) n7
        have hK7 : KB (fun r => r = rb) W1 W7 := by rw [← hW7]; exact hKr.putO (by omega)
        have hNm := m_Qnum hR7 hrb
        replace hNm := Lib.hid hNm
        replace hK7 := Lib.hid hK7
        replace hor := Lib.hid hor
        replace hacc := Lib.hid hacc
        have a7 := Lib.hid ((n7 ab (by omega)).trans har)
        have d7 := Lib.hid ((n7 y.heap.size (by omega)).trans hdr)
        have s7 := Lib.hid ((n7 w.heap.size (by omega)).trans hsr)
        replace i7 := Lib.hid i7
        clear hW7 n7 hR7 hQr hKr hir har hdr hsr hord2 hd
        go_wp2_with fail
        refine hNm.out.mono ?_
        rintro e W8 ⟨hK8, n, r2, ok3, rfl, hR8, hres8⟩
        have hord2 := hord.out
        have a8 := (hK8.block ab (row_lt a7.out) (by omega)).trans a7.out
        have d8 := (hK8.block y.heap.size (row_lt d7.out) (by omega)).trans d7.out
        have s8 := (hK8.block w.heap.size (row_lt s7.out) (by omega)).trans s7.out
        have i8 := (hK8.block ib (row_lt i7.out) (by omega)).trans i7.out
        have hKK := hK7.out.trans hK8
        have hal : acc.length < 4 := by have := hacc.out; have := h4.out; omega
        have hset := argR_next hal n
        have hln : (acc ++ [n]).length = acc.length + 1 := by simp
        have hor8 : (ok = true ∧ ok1 = true ∧ ok3 = true ∧ rdPre rdNum L r g (acc ++ [n]) r2) ∨ (ok3 = false ∧ (ok = false ∨ rdIns bs = none)) := by
          rcases hor.out with ⟨g1, g2, g3, g4⟩ | ⟨g1, g2⟩
          · rcases hres8 with ⟨_, q2, q3⟩ | ⟨q1, q2 | q2, q3⟩
            · exact .inl ⟨g1, g2, q2, rdPre_next g4 q3⟩
            · rw [g3] at q2; cases q2
            · refine .inr ⟨q1, .inr ?_⟩
              rcases hres0.out with ⟨_, _, h⟩ | ⟨h, _⟩
              · rw [h, rdPre_none g4 q2]
              · rw [g2] at h; cases h
          · rcases hres8 with ⟨q1, q2, q3⟩ | ⟨q1, _, q3⟩
            · rw [g1] at q1; cases q1
            · exact .inr ⟨q1, g2⟩
        have hl2 : r2.length ≤ bs.length := by
          rcases hres8 with ⟨_, _, h⟩ | ⟨_, _, h⟩
          · have := rdNum_len h; omega
          · omega
        have hfin : ∀ Y : World, Y = W8.setCell ⟨ab, acc.length, none⟩ (.int .i64 (n : Int)) → QS rb bb Y r2 ok3 ∧ KB (fun r => r = rb) W1 Y ∧ Y.heap[ib]? = some (.stringIter lt (acc ++ [n]).length) ∧ Y.heap[ab]? = some (.cells (argR (acc ++ [n])).toArray 3 (0, 0)) ∧ Y.heap[y.heap.size]? = some (.cells #[.int .i64 (op : Int), .int .i64 0, .int .i64 0, .int .i64 0, .int .i64 0] 40 (0, 0)) ∧ Y.heap[w.heap.size]? = some (.cells #[.int .i64 0, .int .i64 0, .int .i64 0, .int .i64 0, .int .i64 0] 40 (0, 0)) := by
          rintro Y rfl
          have hne : ∀ r', r' ≠ ab → (W8.setCell ⟨ab, acc.length, none⟩ (.int .i64 (n : Int))).heap[r']? = W8.heap[r']? := fun r' hr => Below.heap_setCell _ _ _ _ hr
          refine ⟨hR8.other (b := ab) (by omega) (noU8 a8 (argR_no acc)) hne, hKK.set (by omega), by rw [hne ib (by omega), i8, hln], ?_, by rw [hne y.heap.size (by omega), d8], by rw [hne w.heap.size (by omega), s8]⟩
          have := heap_setCell_same W8 ab acc.length _ _ (.int .i64 (n : Int)) a8
          rw [this, hset]
          simp
        have hg : (acc ++ [n]).length + g = L := by rw [hln]; have := hacc.out; omega
        have hall : ∀ Y : World, Y = W8.setCell ⟨ab, acc.length, none⟩ (.int .i64 (n : Int)) → ∃ acc r1 ok2, acc.length + g = L ∧ QS rb bb Y r1 ok2 ∧ r1.length ≤ bs.length ∧ ((ok = true ∧ ok1 = true ∧ ok2 = true ∧ rdPre rdNum L r g acc r1) ∨ (ok2 = false ∧ (ok = false ∨ rdIns bs = none))) ∧ KB (fun r => r = rb) W1 Y ∧ Y.heap[ib]? = some (.stringIter lt acc.length) ∧ Y.heap[ab]? = some (.cells (argR acc).toArray 3 (0, 0)) ∧ Y.heap[y.heap.size]? = some (.cells #[.int .i64 (op : Int), .int .i64 0, .int .i64 0, .int .i64 0, .int .i64 0] 40 (0, 0)) ∧ Y.heap[w.heap.size]? = some (.cells #[.int .i64 0, .int .i64 0, .int .i64 0, .int .i64 0, .int .i64 0] 40 (0, 0)) := fun Y hY => by
          obtain ⟨q1, q2, q3, q4, q5, q6⟩ := hfin Y hY
          exact ⟨_, _, _, hg, q1, hl2, hor8, q2, q3, q4, q5, q6⟩
        have hk4 : (argR acc).length = 4 := rfl
        have ck : ∃ v, W8.cell? ⟨ab, acc.length, none⟩ = some v := ⟨(argR acc)[acc.length]'(by rw [hk4]; exact hal), by rw [cell_of_row _ _ _ _ _ _ a8]; simp [hk4, hal]⟩
        have fk : W8.frozen? ⟨ab, acc.length, none⟩ = false := by simp [World.frozen?, a8]
        obtain ⟨vk, ck⟩ := ck
        have p1 : (0 : Int) ≤ (acc.length : Int) := by omega
        have p2 : (acc.length : Int) < 4 := by omega
        generalize acc.length = k at *
        replace hall := Lib.hid hall
        clear hfin hg hset hln hKK hR8 a8 d8 s8 i8 hNm hK8 hk hnx hord2 hor8 hl2 hl1 hres8 hal hk4
        go_wp2
        go_roundg g
        case measure => exact Nat.lt_succ_self _
        case rel => exact hall.out _ rfl
  · have hres2 : ok = false ∨ rdIns bs = none := by
      rcases hres with ⟨_, _, h⟩ | ⟨_, h | h, _⟩
      · right
        rw [hdef.out, h]
        dsimp only
        rw [if_neg h70]
      · exact .inl h
      · right
        rw [hdef.out, h]
    have hd : decide ((70 : Int) < (op : Int)) = true := by simp; omega
    obtain ⟨k1, f1⟩ := hR3.facts
    have hq4 := hR3.set false
    have hK4 : KB (fun r => r = rb) W1 (W3.setCell ⟨rb, 1, none⟩ (.bool false)) := hK3.trans (KB.setCell rfl)
    have d4 : (W3.setCell ⟨rb, 1, none⟩ (.bool false)).heap[y.heap.size]? = _ := (Below.heap_setCell _ _ _ _ hn2).trans d3
    have s4 : (W3.setCell ⟨rb, 1, none⟩ (.bool false)).heap[w.heap.size]? = _ := (Below.heap_setCell _ _ _ _ hn1).trans s3
    obtain ⟨⟨k0', k1', k2', k3', k4'⟩, _⟩ := row5 d4
    obtain ⟨⟨j0, j1, j2, j3, j4⟩, e0, e1, e2, e3, e4⟩ := row5 s4
    have k0 : W3.cell? ⟨y.heap.size, 0, none⟩ = some (.int .i64 (op : Int)) := (row5 d3).1.1
    have hs4 := Lib.hid s4
    have hKw := Lib.hid (hkw.out _ hK4)
    have hle' := Lib.hid hle
    replace hres2 := Lib.hid hres2
    replace hq4 := Lib.hid hq4
    clear hres hQ hb3 d3 hK3 hR3 s3 d4 s4 hK4 hN hdef hK hs1 hle h70
    subst hW3
    go_wp2
    obtain ⟨q1, q2, _⟩ := set5 hs4.out ⟨(op : Int), 0, 0, 0, 0⟩
    refine bodyPost_ret (results_cell_row rfl _ _ w.heap.size 40 _ (0, 0) _ rfl q1 Tryz.underlying40 rfl infoIns) rfl ?_
    have q4 := hq4.out.set5 hn1 hs4.out ⟨(op : Int), 0, 0, 0, 0⟩
    exact ⟨q2 _ w (Nat.le_refl _) hKw.out, ⟨(op : Int), 0, 0, 0, 0⟩, r, false, rfl, q4, .inr ⟨rfl, hres2.out, hle'.out⟩⟩
end
end Go.Proofs.YtjjogaenejdliaaGreatDoor
namespace Go.Proofs.YtjjogaenejdliaaGreatDoor
open Go.RowKit Go.Lib
set_option linter.unusedVariables false
set_option linter.unusedSimpArgs false
set_option maxHeartbeats 2000000
set_option maxRecDepth 100000

/-- behind some rounds of the reference's -/
def LRes {α : Type} (rd : List Nat → Option (α × List Nat)) (n : Nat) (r0 : List Nat) (ok0 : Bool) (g : Nat) (acc : List α) (r1 : List Nat) (ok2 : Bool) : Prop :=
  (ok0 = true ∧ ok2 = true ∧ rdPre rd n r0 g acc r1 ∧ acc.length + r1.length ≤ r0.length ∧ g ≤ n) ∨ (ok2 = false ∧ (ok0 = false ∨ rdTimes rd n r0 = none) ∧ r1.length ≤ r0.length ∧ acc.length ≤ r0.length + 1)
section
variable {α : Type} {rd : List Nat → Option (α × List Nat)} {n g : Nat} {bs r0 r1 r2 : List Nat} {ok ok0 ok2 ok3 : Bool} {acc : List α} {x : α}
theorem LRes.len (h : LRes rd n r0 ok0 g acc r1 ok2) : acc.length ≤ r0.length + 1 ∧ r1.length ≤ r0.length := by
  rcases h with ⟨_, _, _, h, _⟩ | ⟨_, _, h1, h2⟩
  · omega
  · exact ⟨h2, h1⟩
theorem lres_start (h : ok0 = true → True) : LRes rd n r0 ok0 n [] r0 ok0 := by
  cases ok0 with
  | true => exact .inl ⟨rfl, rfl, rdPre_start rd n r0, by simp, Nat.le_refl _⟩
  | false => exact .inr ⟨rfl, .inl rfl, Nat.le_refl _, by simp⟩
theorem LRes.next (ho : ∀ b v r, rd b = some (v, r) → r.length < b.length) (h : LRes rd n r0 ok0 (g + 1) acc r1 true) (hr : QRes rd r1 true x r2 ok3) : LRes rd n r0 ok0 g (acc ++ [x]) r2 ok3 := by
  rcases h with ⟨h1, _, h3, h4, h5⟩ | ⟨h, _⟩
  · rcases hr with ⟨_, g2, g3⟩ | ⟨g1, g2 | g2, g3⟩
    · have := ho _ _ _ g3
      exact .inl ⟨h1, g2, rdPre_next h3 g3, by simp; omega, by omega⟩
    · cases g2
    · exact .inr ⟨g1, .inr (rdPre_none h3 g2), by omega, by simp; omega⟩
  · cases h
theorem QRes.len (ho : ∀ b v r, rd b = some (v, r) → r.length < b.length) (hr : QRes rd bs ok x r2 ok3) : r2.length ≤ bs.length := by
  rcases hr with ⟨_, _, h⟩ | ⟨_, _, h⟩
  · exact Nat.le_of_lt (ho _ _ _ h)
  · exact h
theorem LRes.exit (h : LRes rd n r0 ok0 g acc r1 ok2) (he : ok2 = false ∨ g = 0) (hn : QRes rdNum bs ok n r0 ok0) : QRes (rdMany rd) bs ok acc r1 ok2 := by
  rcases h with ⟨h1, h2, h3, h4, _⟩ | ⟨h1, h2, h3, h4⟩
  · rcases he with he | rfl
    · rw [he] at h2; cases h2
    · rcases hn with ⟨g1, _, g3⟩ | ⟨g1, _⟩
      · refine .inl ⟨g1, h2, ?_⟩
        unfold rdMany
        rw [g3]
        exact rdPre_end h3
      · rw [h1] at g1; cases g1
  · have hl := QRes.len (fun b v r h => rdNum_len h) hn
    refine .inr ⟨h1, ?_, by omega⟩
    rcases hn with ⟨g1, g2, g3⟩ | ⟨g1, g2 | g2, g3⟩
    · rcases h2 with h2 | h2
      · rw [g2] at h2; cases h2
      · right
        unfold rdMany
        rw [g3]
        exact h2
    · exact .inl g2
    · right
      unfold rdMany
      rw [g2]
theorem LRes.lt (h : LRes rd n r0 ok0 g acc r1 true) (hn : QRes rdNum bs ok n r0 ok0) : g < 9223372036854775808 := by
  rcases h with ⟨h1, _, _, _, h5⟩ | ⟨h, _⟩
  · rcases hn with ⟨_, _, g3⟩ | ⟨g1, _⟩
    · have := (rdNum_some g3).1
      have e63 : (2 : Nat) ^ 63 = 9223372036854775808 := by decide
      omega
    · rw [h1] at g1; cases g1
  · cases h
theorem QRes.off (hr : QRes rd bs false x r2 ok3) : ok3 = false ∧ r2.length ≤ bs.length := by
  rcases hr with ⟨h, _⟩ | ⟨h, _, h2⟩
  · cases h
  · exact ⟨h, h2⟩
end
theorem fn_res {bs r1 r2 r3 r4 r5 r6 r7 r8 r9 : List Nat} {ok ok1 ok2 ok3 ok4 ok5 ok6 ok7 ok8 ok9 : Bool} {s : ByteArray} {p g : Nat} {re ar : Bool} {c : List VV} {i : List IV} {t : List TV4} {k : List PV2}
    (h1 : QRes rdText bs ok s r1 ok1) (h2 : QRes rdNum r1 ok1 p r2 ok2) (h3 : QRes rdFlag r2 ok2 re r3 ok3) (h4 : QRes rdFlag r3 ok3 ar r4 ok4) (h5 : QRes rdNum r4 ok4 g r5 ok5)
    (h6 : QRes (rdMany rdConst) r5 ok5 c r6 ok6) (h7 : QRes (rdMany rdIns) r6 ok6 i r7 ok7) (h8 : QRes (rdMany rdTry) r7 ok7 t r8 ok8) (h9 : QRes (rdMany rdCap) r8 ok8 k r9 ok9) :
    QRes rdFn bs ok ⟨s, (p : Int), re, ar, (g : Int), c, i, t, k⟩ r9 ok9 := by
  rcases h1 with ⟨a1, rfl, e1⟩ | ⟨rfl, e1, l1⟩
  · have l1 := rdText_len e1
    rcases h2 with ⟨_, rfl, e2⟩ | ⟨rfl, e2, l2⟩
    · have l2 := rdNum_len e2
      rcases h3 with ⟨_, rfl, e3⟩ | ⟨rfl, e3, l3⟩
      · have l3 := rdFlag_len e3
        rcases h4 with ⟨_, rfl, e4⟩ | ⟨rfl, e4, l4⟩
        · have l4 := rdFlag_len e4
          rcases h5 with ⟨_, rfl, e5⟩ | ⟨rfl, e5, l5⟩
          · have l5 := rdNum_len e5
            rcases h6 with ⟨_, rfl, e6⟩ | ⟨rfl, e6, l6⟩
            · have l6 := rdConst_many e6
              rcases h7 with ⟨_, rfl, e7⟩ | ⟨rfl, e7, l7⟩
              · have l7 := rdIns_many e7
                rcases h8 with ⟨_, rfl, e8⟩ | ⟨rfl, e8, l8⟩
                · have l8 := rdTry_many e8
                  rcases h9 with ⟨_, rfl, e9⟩ | ⟨rfl, e9, l9⟩
                  · exact .inl ⟨a1, rfl, by unfold rdFn; simp [e1, e2, e3, e4, e5, e6, e7, e8, e9]⟩
                  · rcases e9 with e9 | e9
                    · cases e9
                    · exact .inr ⟨rfl, .inr (by unfold rdFn; simp [e1, e2, e3, e4, e5, e6, e7, e8, e9]), by omega⟩
                · have z9 := h9.off
                  rcases e8 with e8 | e8
                  · cases e8
                  · exact .inr ⟨z9.1, .inr (by unfold rdFn; simp [e1, e2, e3, e4, e5, e6, e7, e8]), by omega⟩
              · have z8 := h8.off
                obtain ⟨rfl, y8⟩ := z8
                have z9 := h9.off
                rcases e7 with e7 | e7
                · cases e7
                · exact .inr ⟨z9.1, .inr (by unfold rdFn; simp [e1, e2, e3, e4, e5, e6, e7]), by omega⟩
            · obtain ⟨rfl, y7⟩ := h7.off
              obtain ⟨rfl, y8⟩ := h8.off
              have z9 := h9.off
              rcases e6 with e6 | e6
              · cases e6
              · exact .inr ⟨z9.1, .inr (by unfold rdFn; simp [e1, e2, e3, e4, e5, e6]), by omega⟩
          · obtain ⟨rfl, y6⟩ := h6.off
            obtain ⟨rfl, y7⟩ := h7.off
            obtain ⟨rfl, y8⟩ := h8.off
            have z9 := h9.off
            rcases e5 with e5 | e5
            · cases e5
            · exact .inr ⟨z9.1, .inr (by unfold rdFn; simp [e1, e2, e3, e4, e5]), by omega⟩
        · obtain ⟨rfl, y5⟩ := h5.off
          obtain ⟨rfl, y6⟩ := h6.off
          obtain ⟨rfl, y7⟩ := h7.off
          obtain ⟨rfl, y8⟩ := h8.off
          have z9 := h9.off
          rcases e4 with e4 | e4
          · cases e4
          · exact .inr ⟨z9.1, .inr (by unfold rdFn; simp [e1, e2, e3, e4]), by omega⟩
      · obtain ⟨rfl, y4⟩ := h4.off
        obtain ⟨rfl, y5⟩ := h5.off
        obtain ⟨rfl, y6⟩ := h6.off
        obtain ⟨rfl, y7⟩ := h7.off
        obtain ⟨rfl, y8⟩ := h8.off
        have z9 := h9.off
        rcases e3 with e3 | e3
        · cases e3
        · exact .inr ⟨z9.1, .inr (by unfold rdFn; simp [e1, e2, e3]), by omega⟩
    · obtain ⟨rfl, y3⟩ := h3.off
      obtain ⟨rfl, y4⟩ := h4.off
      obtain ⟨rfl, y5⟩ := h5.off
      obtain ⟨rfl, y6⟩ := h6.off
      obtain ⟨rfl, y7⟩ := h7.off
      obtain ⟨rfl, y8⟩ := h8.off
      have z9 := h9.off
      rcases e2 with e2 | e2
      · cases e2
      · exact .inr ⟨z9.1, .inr (by unfold rdFn; simp [e1, e2]), by omega⟩
  · obtain ⟨rfl, y2⟩ := h2.off
    obtain ⟨rfl, y3⟩ := h3.off
    obtain ⟨rfl, y4⟩ := h4.off
    obtain ⟨rfl, y5⟩ := h5.off
    obtain ⟨rfl, y6⟩ := h6.off
    obtain ⟨rfl, y7⟩ := h7.off
    obtain ⟨rfl, y8⟩ := h8.off
    have z9 := h9.off
    refine .inr ⟨z9.1, e1.imp id (fun e1 => by unfold rdFn; simp [e1]), by omega⟩
theorem try_res {bs r1 r2 r3 r4 : List Nat} {ok ok1 ok2 ok3 ok4 : Bool} {a b c d : Nat}
    (h1 : QRes rdNum bs ok a r1 ok1) (h2 : QRes rdNum r1 ok1 b r2 ok2) (h3 : QRes rdNum r2 ok2 c r3 ok3) (h4 : QRes rdNum r3 ok3 d r4 ok4) : QRes rdTry bs ok ⟨(a : Int), (b : Int), (c : Int), (d : Int)⟩ r4 ok4 := by
  rcases h1 with ⟨a1, rfl, e1⟩ | ⟨rfl, e1, l1⟩
  · have l1 := rdNum_len e1
    rcases h2 with ⟨_, rfl, e2⟩ | ⟨rfl, e2, l2⟩
    · have l2 := rdNum_len e2
      rcases h3 with ⟨_, rfl, e3⟩ | ⟨rfl, e3, l3⟩
      · have l3 := rdNum_len e3
        rcases h4 with ⟨_, rfl, e4⟩ | ⟨rfl, e4, l4⟩
        · exact .inl ⟨a1, rfl, by unfold rdTry; simp [rdTimes, e1, e2, e3, e4]⟩
        · rcases e4 with e4 | e4
          · cases e4
          · exact .inr ⟨rfl, .inr (by unfold rdTry; simp [rdTimes, e1, e2, e3, e4]), by omega⟩
      · have z4 := h4.off
        rcases e3 with e3 | e3
        · cases e3
        · exact .inr ⟨z4.1, .inr (by unfold rdTry; simp [rdTimes, e1, e2, e3]), by omega⟩
    · obtain ⟨rfl, y3⟩ := h3.off
      have z4 := h4.off
      rcases e2 with e2 | e2
      · cases e2
      · exact .inr ⟨z4.1, .inr (by unfold rdTry; simp [rdTimes, e1, e2]), by omega⟩
  · obtain ⟨rfl, y2⟩ := h2.off
    obtain ⟨rfl, y3⟩ := h3.off
    have z4 := h4.off
    exact .inr ⟨z4.1, e1.imp id (fun e1 => by unfold rdTry; simp [rdTimes, e1]), by omega⟩
theorem cap_res {bs r1 r2 : List Nat} {ok ok1 ok2 : Bool} {a : Bool} {b : Nat}
    (h1 : QRes rdFlag bs ok a r1 ok1) (h2 : QRes rdNum r1 ok1 b r2 ok2) : QRes rdCap bs ok ⟨a, (b : Int)⟩ r2 ok2 := by
  rcases h1 with ⟨a1, rfl, e1⟩ | ⟨rfl, e1, l1⟩
  · have l1 := rdFlag_len e1
    rcases h2 with ⟨_, rfl, e2⟩ | ⟨rfl, e2, l2⟩
    · exact .inl ⟨a1, rfl, by unfold rdCap; simp [e1, e2]⟩
    · rcases e2 with e2 | e2
      · cases e2
      · exact .inr ⟨rfl, .inr (by unfold rdCap; simp [e1, e2]), by omega⟩
  · have z2 := h2.off
    exact .inr ⟨z2.1, e1.imp id (fun e1 => by unfold rdCap; simp [e1]), by omega⟩
section
variable {rb bb fb : Nat} {w w' y y' : World} {bs r : List Nat} {ok : Bool}
theorem QS.grown {B : Nat} {row : Option Nat} (h : QS rb bb y r ok) (hg : y.grownBy y' row) (hr : ∀ k, row = some k → B ≤ k) (h1 : rb < B) (h2 : bb < B) (hB : B ≤ y.heap.size) : QS rb bb y' r ok :=
  h.turn (hg.block rb (by omega) (fun e => by have := hr rb e.symm; omega)) (hg.block bb (by omega) (fun e => by have := hr bb e.symm; omega))
theorem KB.grow {ex : Nat → Prop} (h : KB ex w y) {row : Option Nat} (hg : y.grownBy y' row) (hr : ∀ k, row = some k → w.heap.size ≤ k) : KB ex w y' := h.grown hg hr
theorem kb_mix {W : World} {f : Nat} (h : KB (fun r => r = rb) W y) (h2 : KB (fun r => r = rb ∨ r = f) y y') (hf : W.heap.size ≤ f) : KB (fun r => r = rb) W y' :=
  ⟨h2.os.trans h.os, h2.tape.trans h.tape, h2.output.trans h.output, Nat.le_trans h.size h2.size, fun r hr hn => (h2.block r (Nat.lt_of_lt_of_le hr h.size) (fun e => e.elim hn (by omega))).trans (h.block r hr hn)⟩
theorem KB.wide2 {f : Nat} (h : KB (fun r => r = rb) y y') : KB (fun r => r = rb ∨ r = f) y y' := ⟨h.os, h.tape, h.output, h.size, fun r hr hn => h.block r hr (fun e => hn (.inl e))⟩
/-- a function's nine cells -/
theorem row9 {y : World} {b : Nat} {v0 v1 v2 v3 v4 v5 v6 v7 v8 : Value} {t : TypeId} (h : y.heap[b]? = some (.cells #[v0, v1, v2, v3, v4, v5, v6, v7, v8] t (0, 0))) :
    (y.cell? ⟨b, 0, none⟩ = some v0 ∧ y.cell? ⟨b, 1, none⟩ = some v1 ∧ y.cell? ⟨b, 2, none⟩ = some v2 ∧ y.cell? ⟨b, 3, none⟩ = some v3 ∧ y.cell? ⟨b, 4, none⟩ = some v4 ∧ y.cell? ⟨b, 5, none⟩ = some v5 ∧ y.cell? ⟨b, 6, none⟩ = some v6 ∧ y.cell? ⟨b, 7, none⟩ = some v7 ∧ y.cell? ⟨b, 8, none⟩ = some v8) ∧ ∀ i, y.frozen? ⟨b, i, none⟩ = false :=
  ⟨⟨by rw [cell_of_row _ _ 0 _ _ _ h]; rfl, by rw [cell_of_row _ _ 1 _ _ _ h]; rfl, by rw [cell_of_row _ _ 2 _ _ _ h]; rfl, by rw [cell_of_row _ _ 3 _ _ _ h]; rfl, by rw [cell_of_row _ _ 4 _ _ _ h]; rfl, by rw [cell_of_row _ _ 5 _ _ _ h]; rfl, by rw [cell_of_row _ _ 6 _ _ _ h]; rfl, by rw [cell_of_row _ _ 7 _ _ _ h]; rfl, by rw [cell_of_row _ _ 8 _ _ _ h]; rfl⟩, fun i => by simp [World.frozen?, h]⟩
/-- a store into a row that holds no byte -/
theorem qs_put {b i : Nat} {cs cs' : Array Value} {t : TypeId} {v : Value} (hQ : QS rb bb y r ok) (hb : b ≠ rb) (h : y.heap[b]? = some (.cells cs t (0, 0))) (hn : ∀ v ∈ cs.toList, ∀ x, v ≠ .int .u8 x) (hs : cs.setIfInBounds i v = cs') :
    QS rb bb (y.setCell ⟨b, i, none⟩ v) r ok ∧ (y.setCell ⟨b, i, none⟩ v).heap[b]? = some (.cells cs' t (0, 0)) :=
  ⟨hQ.other hb (noU8 h hn) (fun r' hr => Below.heap_setCell _ _ _ _ hr), by rw [← hs]; exact heap_setCell_same y b i _ _ v h⟩
end
end Go.Proofs.YtjjogaenejdliaaGreatDoor
namespace Go.Proofs.YtjjogaenejdliaaGreatDoor
open Go
set_option maxHeartbeats 400000

section
variable {P : Program} {ops : Array Oper} {Q : Exit → Act → World → Prop} {md : Region.Mode} {S : World → Prop} {n : Nat}
/-- whatever comes up next: S holds behind it, unless it is the operation n -/
def AnyK (P : Program) (md : Region.Mode) (ops : Array Oper) (Q : Exit → Act → World → Prop) (S : World → Prop) (n : Nat) : Nat → Array Bool → Act → World → Prop
  | 0, ls, a, w => Region.ready md ops ls = [] ∧ Q .normal a w
  | k + 1, ls, a, w => (Region.ready md ops ls = [] → Q .normal a w) ∧
    ∀ i ∈ Region.ready md ops ls, wpOp P ops Q i (fun a' w' => (i ≠ n → S w') ∧ AnyK P md ops Q S n k (ls.setIfInBounds i true) a' w') a w
theorem AnyK.any : ∀ (k : Nat) (ls : Array Bool) (a : Act) (w : World), AnyK P md ops Q S n k ls a w → wpAny P md ops Q k ls a w
  | 0, _, _, _, h => h
  | k + 1, _, _, _, h => ⟨h.1, fun i hi => wpOp_mono (fun a' w' g => AnyK.any k _ a' w' g.2) (h.2 i hi)⟩
/-- the operation n waits for i -/
def waitsK (md : Region.Mode) (ops : Array Oper) (n i : Nat) : Bool := match ops[n]? with | some o => o.after.any fun e => Region.binds md e && e.on == i | none => false
theorem AnyK.first {i : Nat} {o : Oper} {v : Value} (hi : ops[i]? = some o) (hsel : ∀ (j : Nat) (o : Oper) cs b, ops[j]? = some o → o.op ≠ .select cs b)
    (hQ : ∀ c a w, Q (.panic c) (a.put o.dst v) w → Q (.panic c) a w) (hw : waitsK md ops n i = true) : ∀ (k : Nat) (ls : Array Bool) (a : Act) (w : World),
      (∀ j oj, ops[j]? = some oj → j ≠ i → ls.getD j true = false → (∀ e ∈ oj.after, Region.binds md e = true → e.on ≠ i) → o.apart ops oj = true) →
      i ∈ Region.ready md ops ls → YieldsIf P ops S o v a → S w → AnyK P md ops Q S n k (ls.setIfInBounds i true) (a.put o.dst v) w → AnyK P md ops Q S n (k + 1) ls a w
  | 0, ls, a, w, _, hr, hy, hS, H => by
    refine ⟨fun h => absurd hr (by rw [h]; simp), fun j hj => ?_⟩
    by_cases e : j = i
    · subst e; exact hy.wpOp hi hS ⟨fun _ => hS, H⟩
    · have h1 := ready_mono hj e
      rw [H.1] at h1
      cases h1
  | k + 1, ls, a, w, hf, hr, hy, hS, H => by
    refine ⟨fun h => absurd hr (by rw [h]; simp), fun j hj => ?_⟩
    by_cases e : j = i
    · subst e; exact hy.wpOp hi hS ⟨fun _ => hS, H⟩
    · obtain ⟨hju, oj, hoj, hall⟩ := mem_ready.1 hj
      have hiu := (mem_ready.1 hr).1
      have hno : ∀ e ∈ oj.after, Region.binds md e = true → e.on ≠ i := fun e he hb heq => by
        have h1 := hall e he hb
        rw [heq] at h1
        by_cases hlt : i < ls.size
        · simp [hlt] at hiu h1; rw [hiu] at h1; cases h1
        · simp [Array.getElem?_eq_none (Nat.le_of_not_lt hlt)] at h1
      have hjn : j ≠ n := fun hjn => by
        unfold waitsK at hw
        rw [← hjn, hoj] at hw
        simp only [Array.any_eq_true'] at hw
        obtain ⟨x, hx, h1⟩ := hw
        simp only [Bool.and_eq_true, beq_iff_eq] at h1
        exact hno x hx h1.1 h1.2
      have h2 := wpOp_putIf hoj (hf j oj hoj e hju hno) (fun cs b => hsel i o cs b hi) (fun cs b => hsel j oj cs b hoj) hQ hy (H.2 j (ready_mono hj e))
      refine wpOp_mono (fun a' w' g => ⟨fun _ => g.2.1 hjn, ?_⟩) h2
      refine AnyK.first hi hsel hQ hw k (ls.setIfInBounds j true) a' w' (fun q oq hq hqi hqu hqn => hf q oq hq hqi ?_ hqn) (ready_mono hr (Ne.symm e)) g.1 (g.2.1 hjn) ?_
      · by_cases hjq : j = q
        · subst hjq; exact hju
        · rw [getD_set_ne true hjq] at hqu; exact hqu
      · rw [Array.setIfInBounds_comm _ _ e]; exact g.2.2
theorem drop_at {i : Nat} {o : Oper} {r : List Oper} (h : ops.toList.drop i = o :: r) : ops[i]? = some o := by
  have h1 : (ops.toList.drop i)[0]? = some o := by rw [h]; rfl
  simpa using h1
theorem AnyK.take (i : Nat) {o : Oper} {r : List Oper} {v : Value} {k : Nat} {ls : Array Bool} {a : Act} {w : World} (hi : ops.toList.drop i = o :: r) (hs : Region.noSelect ops = true) (hf : Region.free md ops ls i = true) (hr : (Region.ready md ops ls).contains i = true) (hw : waitsK md ops n i = true)
    (hQ : ∀ c a w, Q (.panic c) (a.put o.dst v) w → Q (.panic c) a w) (hg : Region.wanted o (yielded ops a.tmps) = true) (hy : ∀ w, S w → (execOp a.eval o).run P w = .ok (.value v) w) (hS : S w) (h : AnyK P md ops Q S n k (ls.setIfInBounds i true) (a.put o.dst v) w) : AnyK P md ops Q S n (k + 1) ls a w :=
  AnyK.first (drop_at hi) (Region.noSelect_spec hs) hQ hw k ls a w (Region.free_spec (drop_at hi) hf) (by simpa using hr) (.inl ⟨hg, hy⟩) hS h
/-- one operation alone may come up -/
theorem AnyK.one (i : Nat) {o : Oper} {r : List Oper} {k : Nat} {ls : Array Bool} {a : Act} {w : World} (hi : ops.toList.drop i = o :: r) (hr : Region.ready md ops ls = [i])
    (h : ∀ K' : Act → World → Prop, Shut (∀ a' w', S w' → (S w' → AnyK P md ops Q S n k (ls.setIfInBounds i true) a' w') → K' a' w') → if Region.wanted o (yielded ops a.tmps) = true then Oper.wp P o a w K' Q else K' (a.put o.dst undef) w) : AnyK P md ops Q S n (k + 1) ls a w := by
  refine ⟨fun h0 => absurd (hr ▸ h0) (by simp), fun j hj => ?_⟩
  rw [hr] at hj
  obtain rfl : j = i := by simpa using hj
  exact wpOp_step (drop_at hi) (fun K' hK => h K' (fun a w hS hW => hK a w ⟨fun _ => hS, hW hS⟩))
/-- the operation n alone is left -/
theorem AnyK.last {o : Oper} {r : List Oper} {k : Nat} {ls : Array Bool} {a : Act} {w : World} (hi : ops.toList.drop n = o :: r) (hr : Region.ready md ops ls = [n])
    (h : ∀ K' : Act → World → Prop, Shut (∀ a' w', AnyK P md ops Q S n k (ls.setIfInBounds n true) a' w' → K' a' w') → if Region.wanted o (yielded ops a.tmps) = true then Oper.wp P o a w K' Q else K' (a.put o.dst undef) w) : AnyK P md ops Q S n (k + 1) ls a w := by
  refine ⟨fun h0 => absurd (hr ▸ h0) (by simp), fun j hj => ?_⟩
  rw [hr] at hj
  obtain rfl : j = n := by simpa using hj
  exact wpOp_step (drop_at hi) (fun K' hK => h K' (fun a w hW => hK a w ⟨fun hne => absurd rfl hne, hW⟩))
theorem AnyK.done {ls : Array Bool} {a : Act} {w : World} (hr : Region.ready md ops ls = []) (h : Q .normal a w) : ∀ k, AnyK P md ops Q S n k ls a w
  | 0 => ⟨hr, h⟩
  | _ + 1 => ⟨fun _ => h, by rw [hr]; simp⟩
theorem regionK (n : Nat) (S : World → Prop) {id : Nat} {a : Act} {w : World} (hm : P.follows .mixedOrders = true) (hS : S w.drew) (h : S w.drew → AnyK P .any ops Q S n ops.size (Array.replicate ops.size false) a w.drew) : (Code.region id ops true).wp P Q a w :=
  wp_region_any hm (AnyK.any _ _ _ _ (h hS))
end
end Go.Proofs.YtjjogaenejdliaaGreatDoor
