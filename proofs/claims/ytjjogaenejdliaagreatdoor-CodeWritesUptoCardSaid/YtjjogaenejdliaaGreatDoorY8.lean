/-
  Contracts: The writer's flag and text. The writer's constant (printed by gen_XQO.py). The writer's operands and instruction.
-/
import Derived.Test.YtjjogaenejdliaaGreatDoorY7
import Derived.Test.YtjjogaenejdliaaGreatDoorY5
namespace Go.Proofs.YtjjogaenejdliaaGreatDoor
open Go.RowKit Go.Lib
set_option linter.unusedVariables false
set_option linter.unusedSimpArgs false
set_option maxHeartbeats 2000000
set_option maxRecDepth 100000

section
variable {P : Program} {w : World}
/-- appending a string's bytes: and where they lie -/
theorem app_str_lies (base : Nat) (t u ty e : TypeId) (i : TypeInfo) (ht : P.underlying t = some (.slice e)) (hu : P.underlying u = some .string) (hi : P.info? e = some i) (hz : i.zero = some (.int .u8 0))
    (hsize : i.size = 1) (hby : i.bytes = 1) (v : Value) (n : Nat) (xs : List Value) (hown : w.ownsRow base e 1 v n xs) (s : ByteArray)
    (h63 : n + s.size ≤ maxLen) (hbytes : n + s.size ≤ 140737488355328) (hbase : base ≤ w.heap.size) :
    ∃ v' w', (Builtin.append_ #[t, u] ty #[v, .string s]).run P w = .ok v' w' ∧ w'.ownsRow base e 1 v' (n + s.size) (xs ++ strCells s) ∧ w.grownBy w' v.ownBlock ∧ (v'.ownBlock = v.ownBlock ∨ v'.ownBlock = some w.heap.size) := by
  have hsmall : n + s.size ≤ 9223372036854775807 := by simp only [maxLen] at h63; omega
  obtain ⟨v', w', hr, h2, h3, h4⟩ := run_append_own_string (P := P) w base t u ty e i ht hu hi hz hsize hby v n xs hown s h63 hbytes hbase
  refine ⟨v', w', hr, h2, h3, ?_⟩
  have hxl : xs.length = n := by simpa using hown.1
  rcases hown.2 with ⟨rfl, rfl⟩ | ⟨g, cap, cur, rfl, hbg, hg, hnc, hcm, hcs, htake⟩
  · by_cases hm : s.size = 0
    · left
      rw [h4.2 ⟨rfl, hm⟩]
    · have hr' := run_append_nil_string (P := P) w t u ty e i (.int .u8 0) ht hu hi hz s (by omega) (by omega) (by rw [hby]; omega)
      rw [hr] at hr'
      injection hr' with e1 _
      rw [e1]
      exact .inr rfl
  · by_cases hroom : n + s.size ≤ cap
    · have hr' := run_append_room_string (P := P) w t u ty e i ht hu hi hsize g n cap cur hg s hroom (by omega)
      rw [hr] at hr'
      injection hr' with e1 _
      rw [e1]
      exact .inl rfl
    · have holds : ∀ j u, xs[j]? = some u → w.cell? ((⟨g, 0, none⟩ : Addr).add j) = some u := hown.cells (g := g) rfl
      have hr' := run_append_grow_string (P := P) w t u ty e i (.int .u8 0) ht hu hi hz ⟨g, 0, none⟩ n cap xs (by rw [hsize]; simpa using hxl) holds s (by omega) (by omega) (by rw [hby]; exact growslice_fits (by omega) (by omega))
      rw [hr] at hr'
      injection hr' with e1 _
      rw [e1]
      exact .inr rfl
theorem wpList_append_lies_string {ops : Array Oper} {rest : List Oper} {o : Oper} {a : Act} {Q : Exit → Act → World → Prop} (hgd : o.guard = none) (sl x : Operand) (t u : TypeId)
    (ho : o.op = .call { callee := .builtin .append, args := #[sl, x], argTypes := #[t, u] })
    (base : Nat) (e : TypeId) (i : TypeInfo) (ht : P.underlying t = some (.slice e)) (hu : P.underlying u = some .string) (hi : P.info? e = some i) (hz : i.zero = some (.int .u8 0))
    (hsize : i.size = 1) (hby : i.bytes = 1)
    (v : Value) (n : Nat) (xs : List Value) (hs : a.eval sl = v) (hown : w.ownsRow base e 1 v n xs) (s : ByteArray) (hx : a.eval x = .string s)
    (h63 : n + s.size ≤ maxLen) (hbytes : n + s.size ≤ 140737488355328) (hbase : base ≤ w.heap.size)
    (h : ∀ v' w', w'.ownsRow base e 1 v' (n + s.size) (xs ++ strCells s) → w.grownBy w' v.ownBlock → (v'.ownBlock = v.ownBlock ∨ v'.ownBlock = some w.heap.size) → wpList P ops Q rest (a.put o.dst v') w') : wpList P ops Q (o :: rest) a w := by
  refine wpList_plain hgd fun K hK => ?_
  obtain ⟨v', w', hr, h2, h3, h4⟩ := app_str_lies (P := P) (w := w) base t u o.type e i ht hu hi hz hsize hby v n xs hown s h63 hbytes hbase
  unfold Oper.wp execOp
  simp only [ho, resolve, invoke, builtin, Sem.run_bind, Sem.run_pure, Result.andThen_ok, List.map_toArray, List.map_cons, List.map_nil, hs, hx, hr]
  exact hK _ _ (h v' w' h2 h3 h4)
end
theorem strCells_codes (s : ByteArray) : strCells s = (codesB s).map byteV := by
  unfold strCells codesB byteV
  rw [List.map_map]
  rfl
section
variable {wb : Nat} {o : Option Nat} {w : World} {bs : List Nat}
theorem ws_appS {news : List Nat} {n : Nat} {y w5 : World} {v u : Value} (h0 : y.heap[wb]? = some (.cells #[v] 54 (0, 0))) (ho : v.ownBlock ≠ some wb) (hl : bs.length = n)
    (hown5 : w5.ownsRow 0 5 1 u (n + news.length) (bs.map byteV ++ news.map byteV)) (hg5 : y.grownBy w5 v.ownBlock) (hat : u.ownBlock = v.ownBlock ∨ u.ownBlock = some y.heap.size) :
    (w5.cell? ⟨wb, 0, none⟩ = some v ∧ w5.frozen? ⟨wb, 0, none⟩ = false) ∧ WS wb u.ownBlock (w5.setCell ⟨wb, 0, none⟩ u) (bs ++ news) ∧ WT wb v.ownBlock u.ownBlock y (w5.setCell ⟨wb, 0, none⟩ u) := by
  have hlt := row_lt h0
  have h5 : w5.heap[wb]? = some (.cells #[v] 54 (0, 0)) := (hg5.block wb hlt (fun e => ho e.symm)).trans h0
  have hou : u.ownBlock ≠ some wb := by
    rcases hat with h | h
    · rw [h]; exact ho
    · rw [h]; intro e; injection e with e; omega
  refine ⟨⟨by rw [cell_of_row _ _ 0 _ _ _ h5]; rfl, by simp [World.frozen?, h5]⟩, ⟨u, heap_setCell_same w5 wb 0 _ _ u h5, rfl, ?_, hou⟩, ⟨⟨hg5.os, hg5.tape, hg5.output, by simpa [World.setCell] using hg5.size, fun r hr hn => ?_⟩, ?_⟩⟩
  · rw [List.map_append, List.length_append, hl]
    exact own_turn hown5 (fun k _ he _ => Below.heap_setCell _ _ _ _ (fun e => hou (by rw [he, e])))
  · exact (Below.heap_setCell _ _ _ _ (fun e => hn (.inl e))).trans (hg5.block r hr (fun e => hn (.inr e.symm)))
  · rcases hat with h | h
    · exact .inl h
    · exact .inr ⟨_, h, Nat.le_refl _⟩
theorem c_wflag (h : WS wb o w bs) (b : Bool) (hN : bs.length + 1 ≤ 1099511627776) : Calls Tryz.prog 37 #[.pointer (some ⟨wb, 0, none⟩), .bool b] w (WPost wb o w bs true (wrFlag b)) := by
  have e0 : (leb 0).length = 1 := by rw [leb, if_pos (by decide)]; rfl
  have e1 : (leb 1).length = 1 := by rw [leb, if_pos (by decide)]; rfl
  cases b with
  | true =>
    have hC := Lib.hid (c_wnum h 1 (by show bs.length + (leb 1).length ≤ _; omega))
    clear h e0 e1
    go_enter Tryz.func37, Tryz.ntmps37
    go_wp2_with fail
    refine hC.out.mono ?_
    rintro e y (⟨_, rfl, o', hW, hT⟩ | ⟨h, _⟩)
    · replace hW := Lib.hid hW
      replace hT := Lib.hid hT
      go_wp2
      go_end0
      exact .inl ⟨rfl, rfl, o', hW.out, hT.out⟩
    · cases h
  | false =>
    have hC := Lib.hid (c_wnum h 0 (by show bs.length + (leb 0).length ≤ _; omega))
    clear h e0 e1
    go_enter Tryz.func37, Tryz.ntmps37
    go_wp2_with fail
    refine hC.out.mono ?_
    rintro e y (⟨_, rfl, o', hW, hT⟩ | ⟨h, _⟩)
    · replace hW := Lib.hid hW
      replace hT := Lib.hid hT
      go_wp2
      go_end0
      exact .inl ⟨rfl, rfl, o', hW.out, hT.out⟩
    · cases h
theorem c_wtext (h : WS wb o w bs) (s : ByteArray) (hN : bs.length + (wrText s).length ≤ 1099511627776) : Calls Tryz.prog 36 #[.pointer (some ⟨wb, 0, none⟩), .string s] w (WPost wb o w bs (s.size % 2 == 0) (wrText s)) := by
  have hT := Lib.hid (fun (w : World) => c_mustT w)
  have hF := Lib.hid (fun (w : World) => c_mustF w)
  have hlen : (wrText s).length = (leb s.size).length + s.size := by unfold wrText; rw [List.length_append, codesB_len]
  rw [hlen] at hN
  have hm : ((s.size : Int) % 2 == 0) = (s.size % 2 == 0) := by rw [Bool.eq_iff_iff]; simp; omega
  cases hg : (s.size % 2 == 0) with
  | true =>
    rw [hg] at hm
    have hC := c_wnum h (s.size : Int) (by rw [Int.toNat_natCast]; omega)
    rw [Int.toNat_natCast] at hC
    obtain ⟨i0, hi0, hz0, hz1, hz2⟩ := info_parts infoU8
    replace hN := Lib.hid hN
    replace hC := Lib.hid hC
    clear h hg hlen
    go_enter Tryz.func36, Tryz.ntmps36
    go_wp2_with (go_at_call 15; refine (hT.out _).mono ?_; rintro e y ⟨rfl, rfl⟩)
    refine hC.out.mono ?_
    rintro e y (⟨_, rfl, o', hW, hWT⟩ | ⟨h, _⟩)
    · have hlw := hW.lt
      obtain ⟨v, r0, rfl, hown, hne⟩ := hW
      have k0 : y.cell? ⟨wb, 0, none⟩ = some v := by rw [cell_of_row _ _ 0 _ _ _ r0]; rfl
      have f0 : y.frozen? ⟨wb, 0, none⟩ = false := by simp [World.frozen?, r0]
      obtain ⟨p, c, rfl⟩ := own_form2 hown
      obtain ⟨N, hN2⟩ : ∃ N, (bs ++ leb s.size).length = N := ⟨_, rfl⟩
      rw [hN2] at hown k0 r0 hne hWT
      have hNs : N + s.size ≤ 1099511627776 := by have := hN.out; rw [← hN2, List.length_append]; omega
      replace hN2 := Lib.hid hN2
      replace hWT := Lib.hid hWT
      have hr0 := Lib.hid r0
      have hne' := Lib.hid hne
      have hNs' := Lib.hid hNs
      clear hne r0 hC
      go_wp2_with (at_builtin; refine wpList_append_lies_string (by rfl) _ _ _ _ (by rfl) 0 5 i0 Tryz.underlying27 Tryz.underlying42 hi0 hz0 hz1 hz2 (.slice p N c) N ((bs ++ leb s.size).map byteV) (by rfl) hown s (by rfl) (by unfold maxLen; omega) (by omega) (by omega) ?_; intro u w5 hown5 hg5 hat5; obtain ⟨pu, cu, rfl⟩ := own_form2 hown5; obtain ⟨⟨c10, f10⟩, hfin⟩ := ws_appS (news := codesB s) (n := N) (u := .slice pu (N + s.size) cu) hr0.out hne'.out hN2.out (by rw [codesB_len, ← strCells_codes]; exact hown5) hg5 hat5; replace hfin := Lib.hid hfin; clear hg5 hown5 hat5 hown)
      go_end0
      refine .inl ⟨rfl, rfl, _, ?_, hWT.out.trans hfin.out.2⟩
      have := hfin.out.1
      rw [List.append_assoc] at this
      exact this
    · simp at h
  | false =>
    rw [hg] at hm
    clear h hlen hN hg
    go_enter Tryz.func36, Tryz.ntmps36
    go_wp2_with (go_at_call 15; refine (hF.out _).mono ?_; rintro e y ⟨rfl, rfl⟩)
    exact ⟨rfl, .inr ⟨rfl, rfl, KB.refl _ _⟩⟩
end
end Go.Proofs.YtjjogaenejdliaaGreatDoor
namespace Go.Proofs.YtjjogaenejdliaaGreatDoor
open Go.RowKit Go.Lib
set_option linter.unusedVariables false
set_option linter.unusedSimpArgs false
set_option maxHeartbeats 4000000
set_option maxRecDepth 100000

theorem wr8_at (u j : Nat) (hj : j < 8) : wr8 u = (wr8 u).take (7 - j) ++ (u / 2 ^ (8 * j) % 256) :: (wr8 u).drop (8 - j) := by
  match j, hj with
  | 0, _ => simp [wr8]
  | 1, _ => simp [wr8]
  | 2, _ => simp [wr8]
  | 3, _ => simp [wr8]
  | 4, _ => simp [wr8]
  | 5, _ => simp [wr8]
  | 6, _ => simp [wr8]
  | 7, _ => simp [wr8]
theorem wr8_take (u j : Nat) (hj : j < 8) : (wr8 u).take (8 - j) = (wr8 u).take (7 - j) ++ [u / 2 ^ (8 * j) % 256] := by
  match j, hj with
  | 0, _ => simp [wr8]
  | 1, _ => simp [wr8]
  | 2, _ => simp [wr8]
  | 3, _ => simp [wr8]
  | 4, _ => simp [wr8]
  | 5, _ => simp [wr8]
  | 6, _ => simp [wr8]
  | 7, _ => simp [wr8]
theorem WT.of_drew {wb : Nat} {o o' : Option Nat} {w w' : World} (h : WT wb o o' w.drew w') : WT wb o o' w w' := ⟨⟨h.kb.os, h.kb.tape, h.kb.output, h.kb.size, h.kb.block⟩, h.own⟩
def goodCb (v : VV) : Bool := v.k == 3 || (v.k == 4 && v.s.size % 2 == 0)
section
variable {wb : Nat} {o : Option Nat} {w : World} {bs : List Nat}
theorem c_wconst (h : WS wb o w bs) (v : VV) (hN : bs.length + (wrConst v).length ≤ 1099511627776) : Calls Tryz.prog 38 #[.pointer (some ⟨wb, 0, none⟩), .agg (encVV v).toArray] w (WPost wb o w bs (goodCb v) (wrConst v)) := by
  have hT := Lib.hid (fun (w : World) => c_mustT w)
  have hF := Lib.hid (fun (w : World) => c_mustF w)
  have hb2 : ∀ y : World, (callFunc 68 #[.float .f64 v.x]).run Tryz.prog y = .ok (.value (.int .u64 v.x)) y := fun y => v_bits v.x y
  obtain ⟨W1, hW1⟩ : ∃ W1, w.alloc (.cells (encVV v).toArray 51) = W1 := ⟨_, rfl⟩
  have hb1 : Below w.heap.size w W1 := by rw [← hW1]; exact (Below.refl _ w).alloc (Nat.le_refl _) _
  have d1 : W1.heap[w.heap.size]? = some (.cells (encVV v).toArray 51 (0, 0)) := by rw [← hW1]; exact heap_alloc_new w _
  have h1 := h.below hb1
  have hwb : w.heap.size ≠ wb := by have := h.lt; omega
  have how : o ≠ some w.heap.size := fun e => by have := h.own_lt _ e; omega
  have hWT1 : WT wb o o w W1 := WT.of_below hb1
  have hcl : ∀ y : World, y.heap[w.heap.size]? = some (.cells (encVV v).toArray 51 (0, 0)) → y.cell? ⟨w.heap.size, 0, none⟩ = some (.int .i64 v.k) ∧ y.cell? ⟨w.heap.size, 1, none⟩ = some (.float .f64 v.x) ∧ y.cell? ⟨w.heap.size, 2, none⟩ = some (.string v.s) ∧ y.cell? ⟨w.heap.size, 3, none⟩ = some (.int .i64 v.r) := fun y hy => (row4 hy).1
  obtain ⟨i0, hi0, hz0, hz1, hz2⟩ := info_parts infoU8
  have q1 := hcl W1 d1
  obtain ⟨vk, vx, vs, vr⟩ := v
  dsimp only at *
  have hxb : (nanB vx) = nanB vx := rfl
  unfold encVV at hW1 ⊢
  dsimp only at hW1
  have hWT1' := Lib.hid hWT1
  replace hcl := Lib.hid hcl
  have hb1' := Lib.hid hb1
  by_cases h4 : vk = 4
  · subst h4
    have hl : wrConst ⟨4, vx, vs, vr⟩ = wrFlag true ++ wrText vs := by unfold wrConst; rw [if_pos rfl]
    have hg : goodCb ⟨4, vx, vs, vr⟩ = (vs.size % 2 == 0) := by unfold goodCb; simp
    rw [hl, hg]
    rw [hl] at hN
    have hl1 : (wrFlag true).length = 1 := by show (leb 1).length = 1; rw [leb, if_pos (by decide)]; rfl
    rw [List.length_append, hl1] at hN
    have hC := Lib.hid (c_wflag h1 true (by omega))
    replace hN := Lib.hid hN
    replace hl1 := Lib.hid hl1
    replace d1 := Lib.hid d1
    obtain ⟨q1, q2, q3, q4⟩ := q1
    clear h h1 hb1 hWT1 hl hg hxb
    go_enter Tryz.func38, Tryz.ntmps38
    go_wp2_with (go_at_call 15; refine (hT.out _).mono ?_; rintro e y ⟨rfl, rfl⟩)
    refine hC.out.mono ?_
    rintro e y (⟨_, rfl, o', hW, hWT⟩ | ⟨h, _⟩)
    · have d2 := hWT.keep d1.out hwb how
      have hC2 := Lib.hid (c_wtext hW vs (by rw [List.length_append, hl1.out]; have := hN.out; omega))
      obtain ⟨q1, q2, q3, q4⟩ := hcl.out y d2
      replace hWT := Lib.hid hWT
      clear hW d2
      go_wp2_with fail
      refine hC2.out.mono ?_
      rintro e y2 (⟨hge, rfl, o2, hW2, hWT2⟩ | ⟨hge, rfl, hKB⟩)
      · have hfin := Lib.hid (hWT1'.out.trans (hWT.out.trans hWT2))
        replace hW2 := Lib.hid hW2
        clear hWT2
        replace hge := Lib.hid hge
        go_wp2
        go_end0
        exact .inl ⟨hge.out, rfl, o2, by rw [← List.append_assoc]; exact hW2.out, hfin.out⟩
      · have hfin := Lib.hid (kb_panic (hWT1'.out.trans hWT.out) hKB)
        clear hKB
        replace hge := Lib.hid hge
        go_wp2
        exact ⟨rfl, .inr ⟨hge.out, rfl, hfin.out⟩⟩
    · cases h
  · by_cases h3 : vk = 3
    · subst h3
      have hl : wrConst ⟨3, vx, vs, vr⟩ = wrFlag false ++ wr8 (nanB vx) := by unfold wrConst; rw [if_neg (by simp)]
      have hg : goodCb ⟨3, vx, vs, vr⟩ = true := by unfold goodCb; simp
      rw [hl, hg]
      rw [hl] at hN
      have hl1 : (wrFlag false).length = 1 := by show (leb 0).length = 1; rw [leb, if_pos (by decide)]; rfl
      rw [List.length_append, hl1] at hN
      have hC := Lib.hid (c_wflag h1 false (by omega))
      have hN' : bs.length + 9 ≤ 1099511627776 := by have : (wr8 (nanB vx)).length = 8 := rfl; omega
      replace hN := Lib.hid hN'
      replace hl1 := Lib.hid hl1
      replace d1 := Lib.hid d1
      obtain ⟨q1, q2, q3, q4⟩ := q1
      obtain ⟨U, hU⟩ : ∃ U, nanB vx = U := ⟨_, rfl⟩
      rw [hU]
      clear h h1 hb1 hWT1 hl hg hxb hN'
      have hor : (FloatKind.f64.format.order vx vx == some Ordering.eq) = true ∧ vx = U ∨ (FloatKind.f64.format.order vx vx == some Ordering.eq) = false ∧ 9221120237041090560 = U := by
        unfold nanB at hU
        cases ho : (FloatKind.f64.format.order vx vx == some Ordering.eq) with
        | true => rw [ho] at hU; exact .inl ⟨rfl, hU⟩
        | false => rw [ho] at hU; exact .inr ⟨rfl, hU⟩
      replace hor := Lib.hid hor
      clear hU
      go_enter Tryz.func38, Tryz.ntmps38
      go_wp2_with (go_at_call 15; refine (hT.out _).mono ?_; rintro e y ⟨rfl, rfl⟩)
      refine hC.out.mono ?_
      rintro e y (⟨_, rfl, o', hW, hWT⟩ | ⟨h, _⟩)
      · have d2 := hWT.keep d1.out hwb how
        obtain ⟨q1, q2, q3, q4⟩ := hcl.out y d2
        replace hWT := Lib.hid hWT
        replace hW := Lib.hid hW
        clear d2 hC
        rcases hor.out with ⟨ho, hU⟩ | ⟨ho, hU⟩
        · have hne : (FloatKind.f64.format.order vx vx != some Ordering.eq) = false := by rw [bne, ho]; rfl
          subst hU
          clear hor
          go_wp2_with fail
          go_loopg [5] 8 (fun g v5 wr => ∃ (z : Int) (o2 : Option Nat), g ≤ 8 ∧ v5 = .int .i64 z ∧ z = 8 * (g : Int) - 8 ∧ WS wb o2 wr ((bs ++ wrFlag false) ++ (wr8 vx).take (8 - g)) ∧ WT wb o' o2 y wr)
          case atStart => exact ⟨56, o', by decide, rfl, by decide, by simp only [Nat.sub_self, List.take_zero, List.append_nil]; exact hW.out, WT.refl _ _ _⟩
          case round =>
            obtain ⟨z, o2, hg8, rfl, hz, hWS, hWT2⟩ := hrel
            replace hWT2 := Lib.hid hWT2
            cases gk with
            | zero =>
              obtain rfl : z = -8 := by omega
              simp only [Nat.sub_zero] at hWS
              have h8 : (wr8 vx).take 8 = wr8 vx := rfl
              rw [h8] at hWS
              have hfin := Lib.hid (hWT1'.out.trans (hWT.out.trans hWT2.out))
              replace hWS := Lib.hid hWS
              clear h8 hz
              go_wp2
              go_end0
              exact .inl ⟨rfl, rfl, o2, by rw [← List.append_assoc]; exact hWS.out, hfin.out⟩
            | succ j =>
              obtain rfl : z = 8 * (j : Int) := by omega
              have hj : j < 8 := by omega
              obtain ⟨v, r0, rfl, hown, hne1⟩ := hWS
              have k0 : wr.cell? ⟨wb, 0, none⟩ = some v := by rw [cell_of_row _ _ 0 _ _ _ r0]; rfl
              obtain ⟨p, c, rfl⟩ := own_form2 hown
              have hlw := row_lt r0
              have htk := wr8_take vx j hj
              obtain ⟨X, hX⟩ : ∃ X, vx / 2 ^ (8 * j) % 256 = X := ⟨_, rfl⟩
              rw [hX] at htk
              have hXi : IntKind.u8.wrap ((vx : Int) / 2 ^ (8 * (j : Int)).toNat) = (X : Int) := by
                rw [show (8 * (j : Int)).toNat = 8 * j by omega, IntKind.wrap_u8, ← hX]
                simp
              have hjj : 8 - (j + 1) = 7 - j := by omega
              rw [hjj] at hown k0 r0 hne1 hWT2
              obtain ⟨BS, hBS⟩ : ∃ BS, (bs ++ wrFlag false) ++ (wr8 vx).take (7 - j) = BS := ⟨_, rfl⟩
              have hBl : BS.length ≤ 1099511627775 := by
                rw [← hBS, List.length_append, List.length_append, hl1.out]
                have h1 := hN.out
                have h2 : ((wr8 vx).take (7 - j)).length ≤ 7 := by simp [wr8]; omega
                omega
              rw [hBS] at hown k0 r0 hne1 hWT2
              obtain ⟨N, hN2⟩ : ∃ N, BS.length = N := ⟨_, rfl⟩
              rw [hN2] at hown k0 r0 hne1 hWT2 hBl
              have q0 : (0 : Int) ≤ 8 * (j : Int) := by omega
              have q1 : 8 * (j : Int) < 64 := by omega
              have hown8 := Lib.hid ((hown.alloc (.cells #[.int .u8 (X : Int)] 5)).drew)
              have hnx := Lib.hid (World.news_of_block (cs := #[.int .u8 (X : Int)]) (t := 5) (fr := (0, 0)) (show (wr.alloc (.cells #[.int .u8 (X : Int)] 5)).drew.heap[wr.heap.size]? = _ from heap_alloc_new wr (.cells #[.int .u8 (X : Int)] 5)))
              have h9 := Lib.hid (show (wr.alloc (.cells #[.int .u8 (X : Int)] 5)).drew.heap[wb]? = _ from (Below.heap_alloc wr (.cells #[.int .u8 (X : Int)] 5) _ hlw).trans r0)
              have hr0 := Lib.hid r0
              have hne' := Lib.hid hne1
              have hst : wr.drew.cell? ⟨wb, 0, none⟩ = some (.slice p N c) := k0
              replace hN2 := Lib.hid hN2
              replace hBS := Lib.hid hBS
              replace htk := Lib.hid htk
              replace hX := Lib.hid hX
              replace hjj := Lib.hid hjj
              clear hne1 r0 hz
              go_wp2_with fail
              refine regionK 13 (fun y => y.cell? ⟨wb, 0, none⟩ = some (.slice p N c)) (by kernel_rfl) hst (fun hHeld => ?_)
              simp only [List.size_toArray, List.length_cons, List.length_nil, Nat.reduceAdd, Array.replicate_succ]
              refine AnyK.take 0 (v := ?_) rfl (by kernel_rfl) (by kernel_rfl) (by kernel_rfl) (by kernel_rfl) (fun _ _ _ h => h) (by rfl) ?_ (by assumption) ?_
              rotate_left
              · intro y hSy; (try dsimp only at hSy); go_simp; (try with_reducible rfl)
              try simp only [Act.put, List.setIfInBounds_toArray, List.set_cons_zero, List.set_cons_succ]
              refine AnyK.take 1 (v := ?_) rfl (by kernel_rfl) (by kernel_rfl) (by kernel_rfl) (by kernel_rfl) (fun _ _ _ h => h) (by rfl) ?_ (by assumption) ?_
              rotate_left
              · intro y hSy; (try dsimp only at hSy); go_simp; (try with_reducible rfl)
              try simp only [Act.put, List.setIfInBounds_toArray, List.set_cons_zero, List.set_cons_succ]
              refine AnyK.take 2 (v := ?_) rfl (by kernel_rfl) (by kernel_rfl) (by kernel_rfl) (by kernel_rfl) (fun _ _ _ h => h) (by rfl) ?_ (by assumption) ?_
              rotate_left
              · intro y hSy; (try dsimp only at hSy); go_simp; (try with_reducible rfl)
              try simp only [Act.put, List.setIfInBounds_toArray, List.set_cons_zero, List.set_cons_succ]
              refine AnyK.take 3 (v := ?_) rfl (by kernel_rfl) (by kernel_rfl) (by kernel_rfl) (by kernel_rfl) (fun _ _ _ h => h) (by rfl) ?_ (by assumption) ?_
              rotate_left
              · intro y hSy; (try dsimp only at hSy); go_simp; (try with_reducible rfl)
              try simp only [Act.put, List.setIfInBounds_toArray, List.set_cons_zero, List.set_cons_succ]
              refine AnyK.take 4 (v := ?_) rfl (by kernel_rfl) (by kernel_rfl) (by kernel_rfl) (by kernel_rfl) (fun _ _ _ h => h) (by rfl) ?_ (by assumption) ?_
              rotate_left
              · intro y hSy; (try dsimp only at hSy); go_simp; (try with_reducible rfl)
              try simp only [Act.put, List.setIfInBounds_toArray, List.set_cons_zero, List.set_cons_succ]
              refine AnyK.take 5 (v := ?_) rfl (by kernel_rfl) (by kernel_rfl) (by kernel_rfl) (by kernel_rfl) (fun _ _ _ h => h) (by rfl) ?_ (by assumption) ?_
              rotate_left
              · intro y hSy; (try dsimp only at hSy); go_simp; (try with_reducible rfl)
              try simp only [Act.put, List.setIfInBounds_toArray, List.set_cons_zero, List.set_cons_succ]
              refine AnyK.take 6 (v := ?_) rfl (by kernel_rfl) (by kernel_rfl) (by kernel_rfl) (by kernel_rfl) (fun _ _ _ h => h) (by rfl) ?_ (by assumption) ?_
              rotate_left
              · intro y hSy; (try dsimp only at hSy); go_simp; (try with_reducible rfl)
              try simp only [Act.put, List.setIfInBounds_toArray, List.set_cons_zero, List.set_cons_succ]
              refine AnyK.take 7 (v := ?_) rfl (by kernel_rfl) (by kernel_rfl) (by kernel_rfl) (by kernel_rfl) (fun _ _ _ h => h) (by rfl) ?_ (by assumption) ?_
              rotate_left
              · intro y hSy; (try dsimp only at hSy); go_simp; (try with_reducible rfl)
              try simp only [Act.put, List.setIfInBounds_toArray, List.set_cons_zero, List.set_cons_succ]
              refine AnyK.take 8 (v := ?_) rfl (by kernel_rfl) (by kernel_rfl) (by kernel_rfl) (by kernel_rfl) (fun _ _ _ h => h) (by rfl) ?_ (by assumption) ?_
              rotate_left
              · intro y hSy; (try dsimp only at hSy); go_simp; (try with_reducible rfl)
              try simp only [Act.put, List.setIfInBounds_toArray, List.set_cons_zero, List.set_cons_succ]
              refine AnyK.one 9 rfl (by kernel_rfl) (fun K' hK => ?_)
              go_simp
              refine hK.out _ _ (by rw [cell_of_row _ _ 0 _ _ _ h9.out]; rfl) (fun hHeld9 => ?_)
              clear hK K'
              try simp only [Act.put, List.setIfInBounds_toArray, List.set_cons_zero, List.set_cons_succ]
              refine AnyK.one 10 rfl (by kernel_rfl) (fun K' hK => ?_)
              refine step_append_lies _ rfl _ _ _ rfl 0 5 i0 _ 1 1 Tryz.underlying27 hi0 hz0 hz1 hz2 rfl (by omega) (.slice p N c) N (BS.map byteV) rfl hown8.out ⟨wr.heap.size, 0, none⟩ 1 1 [.int .u8 (X : Int)] rfl rfl hnx.out (fun u hu => by simp at hu; subst hu; rfl) (by omega) (by unfold maxLen; omega) (by omega) (by simp) (wr.heap.size + 1) (by simp) ?_
              intro gg cap w5 hown5 hg5 hat5 hlt5
              obtain ⟨⟨c10, f10⟩, hfin⟩ := ws_app1 (y := wr.drew) (v := .slice p N c) hr0.out hne'.out hN2.out hown5 hg5 hat5
              replace hfin := Lib.hid hfin
              refine hK.out _ _ c10 (fun hHeld10 => ?_)
              clear hK K'
              try simp only [Act.put, List.setIfInBounds_toArray, List.set_cons_zero, List.set_cons_succ]
              clear hHeld9 hHeld hst
              refine AnyK.one 11 rfl (by kernel_rfl) (fun K' hK => ?_)
              go_simp
              refine hK.out _ _ hHeld10 (fun hHeld11 => ?_)
              clear hK K'
              try simp only [Act.put, List.setIfInBounds_toArray, List.set_cons_zero, List.set_cons_succ]
              refine AnyK.one 12 rfl (by kernel_rfl) (fun K' hK => ?_)
              go_simp
              refine hK.out _ _ hHeld10 (fun hHeld12 => ?_)
              clear hK K'
              try simp only [Act.put, List.setIfInBounds_toArray, List.set_cons_zero, List.set_cons_succ]
              refine AnyK.last rfl (by kernel_rfl) (fun K' hK => ?_)
              go_simp
              refine hK.out _ _ ?_
              clear hK K'
              try simp only [Act.put, List.setIfInBounds_toArray, List.set_cons_zero, List.set_cons_succ]
              refine AnyK.done (by kernel_rfl) ?_ _
              have hW9 := Lib.hid hfin.out.1
              have hT9 := Lib.hid (hWT2.out.trans hfin.out.2.of_drew)
              clear hfin
              go_wp2_with fail
              go_roundg j
              case measure => exact Nat.lt_succ_self _
              case rel => exact ⟨8 * (j : Int) - 8, _, by omega, rfl, rfl, by rw [htk.out, ← List.append_assoc, hBS.out]; exact hW9.out, hT9.out⟩
        · have hne : (FloatKind.f64.format.order vx vx != some Ordering.eq) = true := by rw [bne, ho]; rfl
          have e9 : (9221120237041090560 : Int) = (U : Int) := by rw [← hU]; rfl
          replace e9 := Lib.hid e9
          clear hor hU
          go_wp2_with fail
          rw [e9.out]
          go_loopg [5] 8 (fun g v5 wr => ∃ (z : Int) (o2 : Option Nat), g ≤ 8 ∧ v5 = .int .i64 z ∧ z = 8 * (g : Int) - 8 ∧ WS wb o2 wr ((bs ++ wrFlag false) ++ (wr8 U).take (8 - g)) ∧ WT wb o' o2 y wr)
          case atStart => exact ⟨56, o', by decide, rfl, by decide, by simp only [Nat.sub_self, List.take_zero, List.append_nil]; exact hW.out, WT.refl _ _ _⟩
          case round =>
            obtain ⟨z, o2, hg8, rfl, hz, hWS, hWT2⟩ := hrel
            replace hWT2 := Lib.hid hWT2
            cases gk with
            | zero =>
              obtain rfl : z = -8 := by omega
              simp only [Nat.sub_zero] at hWS
              have h8 : (wr8 U).take 8 = wr8 U := rfl
              rw [h8] at hWS
              have hfin := Lib.hid (hWT1'.out.trans (hWT.out.trans hWT2.out))
              replace hWS := Lib.hid hWS
              clear h8 hz
              go_wp2
              go_end0
              exact .inl ⟨rfl, rfl, o2, by rw [← List.append_assoc]; exact hWS.out, hfin.out⟩
            | succ j =>
              obtain rfl : z = 8 * (j : Int) := by omega
              have hj : j < 8 := by omega
              obtain ⟨v, r0, rfl, hown, hne1⟩ := hWS
              have k0 : wr.cell? ⟨wb, 0, none⟩ = some v := by rw [cell_of_row _ _ 0 _ _ _ r0]; rfl
              obtain ⟨p, c, rfl⟩ := own_form2 hown
              have hlw := row_lt r0
              have htk := wr8_take U j hj
              obtain ⟨X, hX⟩ : ∃ X, U / 2 ^ (8 * j) % 256 = X := ⟨_, rfl⟩
              rw [hX] at htk
              have hXi : IntKind.u8.wrap ((U : Int) / 2 ^ (8 * (j : Int)).toNat) = (X : Int) := by
                rw [show (8 * (j : Int)).toNat = 8 * j by omega, IntKind.wrap_u8, ← hX]
                simp
              have hjj : 8 - (j + 1) = 7 - j := by omega
              rw [hjj] at hown k0 r0 hne1 hWT2
              obtain ⟨BS, hBS⟩ : ∃ BS, (bs ++ wrFlag false) ++ (wr8 U).take (7 - j) = BS := ⟨_, rfl⟩
              have hBl : BS.length ≤ 1099511627775 := by
                rw [← hBS, List.length_append, List.length_append, hl1.out]
                have h1 := hN.out
                have h2 : ((wr8 U).take (7 - j)).length ≤ 7 := by simp [wr8]; omega
                omega
              rw [hBS] at hown k0 r0 hne1 hWT2
              obtain ⟨N, hN2⟩ : ∃ N, BS.length = N := ⟨_, rfl⟩
              rw [hN2] at hown k0 r0 hne1 hWT2 hBl
              have q0 : (0 : Int) ≤ 8 * (j : Int) := by omega
              have q1 : 8 * (j : Int) < 64 := by omega
              have hown8 := Lib.hid ((hown.alloc (.cells #[.int .u8 (X : Int)] 5)).drew)
              have hnx := Lib.hid (World.news_of_block (cs := #[.int .u8 (X : Int)]) (t := 5) (fr := (0, 0)) (show (wr.alloc (.cells #[.int .u8 (X : Int)] 5)).drew.heap[wr.heap.size]? = _ from heap_alloc_new wr (.cells #[.int .u8 (X : Int)] 5)))
              have h9 := Lib.hid (show (wr.alloc (.cells #[.int .u8 (X : Int)] 5)).drew.heap[wb]? = _ from (Below.heap_alloc wr (.cells #[.int .u8 (X : Int)] 5) _ hlw).trans r0)
              have hr0 := Lib.hid r0
              have hne' := Lib.hid hne1
              have hst : wr.drew.cell? ⟨wb, 0, none⟩ = some (.slice p N c) := k0
              replace hN2 := Lib.hid hN2
              replace hBS := Lib.hid hBS
              replace htk := Lib.hid htk
              replace hX := Lib.hid hX
              replace hjj := Lib.hid hjj
              clear hne1 r0 hz
              go_wp2_with fail
              refine regionK 13 (fun y => y.cell? ⟨wb, 0, none⟩ = some (.slice p N c)) (by kernel_rfl) hst (fun hHeld => ?_)
              simp only [List.size_toArray, List.length_cons, List.length_nil, Nat.reduceAdd, Array.replicate_succ]
              refine AnyK.take 0 (v := ?_) rfl (by kernel_rfl) (by kernel_rfl) (by kernel_rfl) (by kernel_rfl) (fun _ _ _ h => h) (by rfl) ?_ (by assumption) ?_
              rotate_left
              · intro y hSy; (try dsimp only at hSy); go_simp; (try with_reducible rfl)
              try simp only [Act.put, List.setIfInBounds_toArray, List.set_cons_zero, List.set_cons_succ]
              refine AnyK.take 1 (v := ?_) rfl (by kernel_rfl) (by kernel_rfl) (by kernel_rfl) (by kernel_rfl) (fun _ _ _ h => h) (by rfl) ?_ (by assumption) ?_
              rotate_left
              · intro y hSy; (try dsimp only at hSy); go_simp; (try with_reducible rfl)
              try simp only [Act.put, List.setIfInBounds_toArray, List.set_cons_zero, List.set_cons_succ]
              refine AnyK.take 2 (v := ?_) rfl (by kernel_rfl) (by kernel_rfl) (by kernel_rfl) (by kernel_rfl) (fun _ _ _ h => h) (by rfl) ?_ (by assumption) ?_
              rotate_left
              · intro y hSy; (try dsimp only at hSy); go_simp; (try with_reducible rfl)
              try simp only [Act.put, List.setIfInBounds_toArray, List.set_cons_zero, List.set_cons_succ]
              refine AnyK.take 3 (v := ?_) rfl (by kernel_rfl) (by kernel_rfl) (by kernel_rfl) (by kernel_rfl) (fun _ _ _ h => h) (by rfl) ?_ (by assumption) ?_
              rotate_left
              · intro y hSy; (try dsimp only at hSy); go_simp; (try with_reducible rfl)
              try simp only [Act.put, List.setIfInBounds_toArray, List.set_cons_zero, List.set_cons_succ]
              refine AnyK.take 4 (v := ?_) rfl (by kernel_rfl) (by kernel_rfl) (by kernel_rfl) (by kernel_rfl) (fun _ _ _ h => h) (by rfl) ?_ (by assumption) ?_
              rotate_left
              · intro y hSy; (try dsimp only at hSy); go_simp; (try with_reducible rfl)
              try simp only [Act.put, List.setIfInBounds_toArray, List.set_cons_zero, List.set_cons_succ]
              refine AnyK.take 5 (v := ?_) rfl (by kernel_rfl) (by kernel_rfl) (by kernel_rfl) (by kernel_rfl) (fun _ _ _ h => h) (by rfl) ?_ (by assumption) ?_
              rotate_left
              · intro y hSy; (try dsimp only at hSy); go_simp; (try with_reducible rfl)
              try simp only [Act.put, List.setIfInBounds_toArray, List.set_cons_zero, List.set_cons_succ]
              refine AnyK.take 6 (v := ?_) rfl (by kernel_rfl) (by kernel_rfl) (by kernel_rfl) (by kernel_rfl) (fun _ _ _ h => h) (by rfl) ?_ (by assumption) ?_
              rotate_left
              · intro y hSy; (try dsimp only at hSy); go_simp; (try with_reducible rfl)
              try simp only [Act.put, List.setIfInBounds_toArray, List.set_cons_zero, List.set_cons_succ]
              refine AnyK.take 7 (v := ?_) rfl (by kernel_rfl) (by kernel_rfl) (by kernel_rfl) (by kernel_rfl) (fun _ _ _ h => h) (by rfl) ?_ (by assumption) ?_
              rotate_left
              · intro y hSy; (try dsimp only at hSy); go_simp; (try with_reducible rfl)
              try simp only [Act.put, List.setIfInBounds_toArray, List.set_cons_zero, List.set_cons_succ]
              refine AnyK.take 8 (v := ?_) rfl (by kernel_rfl) (by kernel_rfl) (by kernel_rfl) (by kernel_rfl) (fun _ _ _ h => h) (by rfl) ?_ (by assumption) ?_
              rotate_left
              · intro y hSy; (try dsimp only at hSy); go_simp; (try with_reducible rfl)
              try simp only [Act.put, List.setIfInBounds_toArray, List.set_cons_zero, List.set_cons_succ]
              refine AnyK.one 9 rfl (by kernel_rfl) (fun K' hK => ?_)
              go_simp
              refine hK.out _ _ (by rw [cell_of_row _ _ 0 _ _ _ h9.out]; rfl) (fun hHeld9 => ?_)
              clear hK K'
              try simp only [Act.put, List.setIfInBounds_toArray, List.set_cons_zero, List.set_cons_succ]
              refine AnyK.one 10 rfl (by kernel_rfl) (fun K' hK => ?_)
              refine step_append_lies _ rfl _ _ _ rfl 0 5 i0 _ 1 1 Tryz.underlying27 hi0 hz0 hz1 hz2 rfl (by omega) (.slice p N c) N (BS.map byteV) rfl hown8.out ⟨wr.heap.size, 0, none⟩ 1 1 [.int .u8 (X : Int)] rfl rfl hnx.out (fun u hu => by simp at hu; subst hu; rfl) (by omega) (by unfold maxLen; omega) (by omega) (by simp) (wr.heap.size + 1) (by simp) ?_
              intro gg cap w5 hown5 hg5 hat5 hlt5
              obtain ⟨⟨c10, f10⟩, hfin⟩ := ws_app1 (y := wr.drew) (v := .slice p N c) hr0.out hne'.out hN2.out hown5 hg5 hat5
              replace hfin := Lib.hid hfin
              refine hK.out _ _ c10 (fun hHeld10 => ?_)
              clear hK K'
              try simp only [Act.put, List.setIfInBounds_toArray, List.set_cons_zero, List.set_cons_succ]
              clear hHeld9 hHeld hst
              refine AnyK.one 11 rfl (by kernel_rfl) (fun K' hK => ?_)
              go_simp
              refine hK.out _ _ hHeld10 (fun hHeld11 => ?_)
              clear hK K'
              try simp only [Act.put, List.setIfInBounds_toArray, List.set_cons_zero, List.set_cons_succ]
              refine AnyK.one 12 rfl (by kernel_rfl) (fun K' hK => ?_)
              go_simp
              refine hK.out _ _ hHeld10 (fun hHeld12 => ?_)
              clear hK K'
              try simp only [Act.put, List.setIfInBounds_toArray, List.set_cons_zero, List.set_cons_succ]
              refine AnyK.last rfl (by kernel_rfl) (fun K' hK => ?_)
              go_simp
              refine hK.out _ _ ?_
              clear hK K'
              try simp only [Act.put, List.setIfInBounds_toArray, List.set_cons_zero, List.set_cons_succ]
              refine AnyK.done (by kernel_rfl) ?_ _
              have hW9 := Lib.hid hfin.out.1
              have hT9 := Lib.hid (hWT2.out.trans hfin.out.2.of_drew)
              clear hfin
              go_wp2_with fail
              go_roundg j
              case measure => exact Nat.lt_succ_self _
              case rel => exact ⟨8 * (j : Int) - 8, _, by omega, rfl, rfl, by rw [htk.out, ← List.append_assoc, hBS.out]; exact hW9.out, hT9.out⟩
      · cases h
    · have hg : goodCb ⟨vk, vx, vs, vr⟩ = false := by unfold goodCb; simp [h3, h4]
      have e3 : (vk == 3) = false := by simp [h3]
      have e4 : (vk == 4) = false := by simp [h4]
      rw [hg]
      obtain ⟨q1, q2, q3, q4⟩ := q1
      clear h h1 hb1 hWT1 hg hxb h3 h4 hN d1
      go_enter Tryz.func38, Tryz.ntmps38
      go_wp2_with (go_at_call 15; refine (hF.out _).mono ?_; rintro e y ⟨rfl, rfl⟩)
      exact ⟨rfl, .inr ⟨rfl, rfl, hWT1'.out.kb⟩⟩
end
end Go.Proofs.YtjjogaenejdliaaGreatDoor
namespace Go.Proofs.YtjjogaenejdliaaGreatDoor
open Go.RowKit Go.Lib
set_option linter.unusedVariables false
set_option linter.unusedSimpArgs false
set_option maxHeartbeats 4000000
set_option maxRecDepth 100000

theorem infoArr4 : (Tryz.prog.info? 84).map (·.size) = some 4 := by kernel_rfl
theorem c_args (i : IV) (w : World) : Calls Tryz.prog 32 #[.agg (encI i).toArray] w fun e w' => e = .returned (.agg #[.int .i64 i.a, .int .i64 i.b, .int .i64 i.c, .int .i64 i.d]) ∧ Below w.heap.size w w' := by
  obtain ⟨W2, hW2⟩ : ∃ W, (w.alloc (.cells (encI i).toArray 40)).alloc (.cells #[.int .i64 0, .int .i64 0, .int .i64 0, .int .i64 0] 84) = W := ⟨_, rfl⟩
  have hb2 : Below w.heap.size w W2 := by rw [← hW2]; exact two_belowQ w _ _
  have dA : W2.heap[w.heap.size]? = some (.cells (encI i).toArray 40 (0, 0)) := by
    rw [← hW2, Below.heap_alloc _ _ _ (by simp)]
    exact heap_alloc_new w _
  have dB : W2.heap[w.heap.size + 1]? = some (.cells #[.int .i64 0, .int .i64 0, .int .i64 0, .int .i64 0] 84 (0, 0)) := by
    rw [← hW2]
    have := heap_alloc_new (w.alloc (.cells (encI i).toArray 40)) (.cells #[.int .i64 0, .int .i64 0, .int .i64 0, .int .i64 0] 84)
    simpa using this
  obtain ⟨⟨a0, a1, a2, a3, a4⟩, -⟩ := row5 dA
  obtain ⟨⟨b0, b1, b2, b3⟩, bf⟩ := row4 dB
  have f0 := bf 0
  have f1 := bf 1
  have f2 := bf 2
  have f3 := bf 3
  unfold encI at hW2 ⊢
  obtain ⟨op, xa, xb, xc, xd⟩ := i
  dsimp only at *
  replace dB := Lib.hid dB
  replace hb2 := Lib.hid hb2
  clear dA bf
  go_enter Tryz.func32, Tryz.ntmps32
  go_wp2
  have g1 := heap_setCells_all (t := 84) (vs := [.int .i64 xa, .int .i64 xb, .int .i64 xc, .int .i64 xd]) dB.out rfl
  have hB := below_setC (B := w.heap.size) hb2.out (b := w.heap.size + 1) (by omega) [.int .i64 xa, .int .i64 xb, .int .i64 xc, .int .i64 xd] 0
  refine bodyPost_ret (results_cell_row rfl _ _ (w.heap.size + 1) 84 _ (0, 0) _ rfl g1 Tryz.underlying84 rfl infoArr4) rfl ?_
  exact ⟨rfl, hB⟩
/-- an operand at its place: written, or nought -/
def okAt (n k : Nat) (z : Int) : Bool := if k < n then decide (0 ≤ z) else z == 0
def argsOk (n : Nat) : Nat → List Int → Bool
  | _, [] => true
  | k, z :: l => okAt n k z && argsOk n (k + 1) l
def wrArgs (n : Nat) : Nat → List Int → List Nat
  | _, [] => []
  | k, z :: l => (if k < n then leb z.toNat else []) ++ wrArgs n (k + 1) l
def goodIb (i : IV) : Bool := decide (0 ≤ i.op ∧ i.op ≤ 70) && argsOk (nlOf i.op.toNat) 0 (argsI i)
theorem wrIns_args (i : IV) (h : nlOf i.op.toNat ≤ 4) : wrIns i = leb i.op.toNat ++ wrArgs (nlOf i.op.toNat) 0 (argsI i) := by
  unfold wrIns argsI
  generalize nlOf i.op.toNat = n at *
  have : n = 0 ∨ n = 1 ∨ n = 2 ∨ n = 3 ∨ n = 4 := by omega
  rcases this with rfl | rfl | rfl | rfl | rfl <;> simp [wrArgs]
theorem nlOf_le4 (n : Nat) : nlOf n ≤ 4 := by
  by_cases h : n ≤ 70
  · exact nlOf_le n h
  · unfold nlOf
    rw [List.getD_eq_getElem?_getD, List.getElem?_eq_none (by show 71 ≤ n; omega)]
    simp
section
variable {wb : Nat} {o : Option Nat} {w : World} {bs : List Nat}
theorem c_wins (h : WS wb o w bs) (hS : Spc w) (i : IV) (hN : bs.length + (wrIns i).length ≤ 1099511627776) : Calls Tryz.prog 39 #[.pointer (some ⟨wb, 0, none⟩), .agg (encI i).toArray] w (WPost wb o w bs (goodIb i) (wrIns i)) := by
  have hT := Lib.hid (fun (w : World) => c_mustT w)
  have hF := Lib.hid (fun (w : World) => c_mustF w)
  have hA := fun (y : World) => c_args i y
  obtain ⟨W1, hW1⟩ : ∃ W1, w.alloc (.cells (encI i).toArray 40) = W1 := ⟨_, rfl⟩
  have hb1 : Below w.heap.size w W1 := by rw [← hW1]; exact (Below.refl _ w).alloc (Nat.le_refl _) _
  have d1 : W1.heap[w.heap.size]? = some (.cells (encI i).toArray 40 (0, 0)) := by rw [← hW1]; exact heap_alloc_new w _
  have h1 := h.below hb1
  have hwb : w.heap.size ≠ wb := by have := h.lt; omega
  have how : o ≠ some w.heap.size := fun e => by have := h.own_lt _ e; omega
  have hFd := c_find i.op W1 (hS.keep hb1)
  have hWT1 : WT wb o o w W1 := WT.of_below hb1
  have hcl : ∀ y : World, y.heap[w.heap.size]? = some (.cells (encI i).toArray 40 (0, 0)) → y.cell? ⟨w.heap.size, 0, none⟩ = some (.int .i64 i.op) ∧ y.cell? ⟨w.heap.size, 1, none⟩ = some (.int .i64 i.a) ∧ y.cell? ⟨w.heap.size, 2, none⟩ = some (.int .i64 i.b) ∧ y.cell? ⟨w.heap.size, 3, none⟩ = some (.int .i64 i.c) ∧ y.cell? ⟨w.heap.size, 4, none⟩ = some (.int .i64 i.d) := fun y hy => (row5 hy).1
  obtain ⟨q0, q1, q2, q3, q4⟩ := hcl W1 d1
  have hwr := wrIns_args i (nlOf_le4 _)
  have hgd : goodIb i = (decide (0 ≤ i.op ∧ i.op ≤ 70) && argsOk (nlOf i.op.toNat) 0 (argsI i)) := rfl
  have harg : argsI i = [i.a, i.b, i.c, i.d] := rfl
  unfold encI at hW1 hA ⊢
  by_cases hin : 0 ≤ i.op ∧ i.op ≤ 70
  · obtain ⟨m, hm⟩ := Int.eq_ofNat_of_zero_le hin.1
    have hv : findV i.op = .tuple #[.agg #[.string (nmT m), .string (ltT m)], .bool true] := by unfold findV; rw [if_pos hin, hm]; rfl
    rw [hv] at hFd
    have hsz := ltT_size m (by omega)
    rw [hm, Int.toNat_natCast] at hwr
    rw [hm, Int.toNat_natCast, decide_eq_true (by omega), Bool.true_and] at hgd
    have hN1 : bs.length + (leb m).length ≤ 1099511627776 := by rw [hwr, List.length_append] at hN; omega
    obtain ⟨op, xa, xb, xc, xd⟩ := i
    dsimp only at *
    obtain rfl : op = (m : Int) := hm
    generalize nmT m = nm at *
    generalize ltT m = lt at *
    generalize nlOf m = n at *
    rw [harg] at hgd hwr
    have hL4 : ∀ k, k < 4 → ∃ z l, ([xa, xb, xc, xd] : List Int).drop k = z :: l ∧ ([xa, xb, xc, xd] : List Int).drop (k + 1) = l ∧ ∀ W, (Instr.index 84 (.agg #[.int .i64 xa, .int .i64 xb, .int .i64 xc, .int .i64 xd]) (.int .i64 (k : Int))).run Tryz.prog W = .ok (.int .i64 z) W := fun k hk => by
      match k, hk with
      | 0, _ => exact ⟨xa, _, rfl, rfl, fun _ => by kernel_rfl⟩
      | 1, _ => exact ⟨xb, _, rfl, rfl, fun _ => by kernel_rfl⟩
      | 2, _ => exact ⟨xc, _, rfl, rfl, fun _ => by kernel_rfl⟩
      | 3, _ => exact ⟨xd, _, rfl, rfl, fun _ => by kernel_rfl⟩
    replace hcl := Lib.hid hcl
    replace hFd := Lib.hid hFd
    replace hA := Lib.hid hA
    replace h1 := Lib.hid h1
    replace hWT1 := Lib.hid hWT1
    replace hwr := Lib.hid hwr
    replace hgd := Lib.hid hgd
    replace hL4 := Lib.hid hL4
    replace hN := Lib.hid hN
    replace hN1 := Lib.hid hN1
    replace hsz := Lib.hid hsz
    replace d1 := Lib.hid d1
    clear h hS hb1 hv harg hin
    go_enter Tryz.func39, Tryz.ntmps39
    go_wp2_with fail
    refine hFd.out.mono ?_
    rintro e y ⟨rfl, hb2⟩
    obtain ⟨W2, hW2⟩ : ∃ W, y.alloc (.cells #[.string nm, .string lt] 75) = W := ⟨_, rfl⟩
    have hb3 : Below W1.heap.size W1 W2 := by rw [← hW2]; exact hb2.alloc hb2.size _
    have h2 := h1.out.below hb3
    have hx2 : W2.heap[y.heap.size]? = some (.cells #[.string nm, .string lt] 75 (0, 0)) := by rw [← hW2]; exact heap_alloc_new y _
    have d2 := (hb3.block _ (row_lt d1.out)).trans d1.out
    have hxw : y.heap.size ≠ wb := by have := h1.out.lt; have := hb2.size; omega
    have hox : o ≠ some y.heap.size := fun e => by have := h1.out.own_lt _ e; have := hb2.size; omega
    have hC := Lib.hid (c_wnum h2 (m : Int) (by rw [Int.toNat_natCast]; exact hN1.out))
    have hd0 : decide (0 ≤ (m : Int)) = true := by simp
    rw [hd0, Int.toNat_natCast] at hC
    have hWT2 := Lib.hid (hWT1.out.trans (WT.of_below hb3))
    obtain ⟨q0, q1, q2, q3, q4⟩ := hcl.out W2 d2
    replace hx2 := Lib.hid hx2
    replace d2 := Lib.hid d2
    clear hb2 hb3 h2 hFd hW1 h1 hWT1 hd0
    go_wp2_with (go_at_call 15; refine (hT.out _).mono ?_; rintro e yy ⟨rfl, rfl⟩)
    refine hC.out.mono ?_
    rintro e y3 (⟨_, rfl, o3, hW3, hWT3⟩ | ⟨h, _⟩)
    · have d3 := Lib.hid (hWT3.keep d2.out hwb how)
      have hx3 := Lib.hid (hWT3.keep hx2.out hxw hox)
      have how3 := hWT3.apart (row_lt d2.out) how
      have hox3 := hWT3.apart (row_lt hx2.out) hox
      have hWT23 := Lib.hid (hWT2.out.trans hWT3)
      obtain ⟨q0, q1, q2, q3, q4⟩ := hcl.out y3 d3.out
      replace hW3 := Lib.hid hW3
      clear hC hWT3 hWT2
      go_wp2_with fail
      refine (hA.out y3).mono ?_
      rintro e y4 ⟨rfl, hb4⟩
      have hW4 := Lib.hid (hW3.out.below hb4)
      have hx4 := Lib.hid ((hb4.block _ (row_lt hx3.out)).trans hx3.out)
      have hWT4 := Lib.hid (hWT23.out.trans (WT.of_below hb4))
      clear hb4
      go_wp2_with fail
      go_loopg [22] 4 (fun g v22 wr => ∃ (k : Nat) (acc : List Nat) (o2 : Option Nat), k + g = 4 ∧ v22 = .int .i64 (k : Int) ∧ wrIns ⟨(m : Int), xa, xb, xc, xd⟩ = acc ++ wrArgs n k (([xa, xb, xc, xd] : List Int).drop k) ∧ goodIb ⟨(m : Int), xa, xb, xc, xd⟩ = argsOk n k (([xa, xb, xc, xd] : List Int).drop k) ∧ WS wb o2 wr (bs ++ acc) ∧ WT wb o o2 w wr ∧ o2 ≠ some y.heap.size ∧ wr.heap[y.heap.size]? = some (.cells #[.string nm, .string lt] 75 (0, 0)))
      case atStart => exact ⟨0, leb m, o3, rfl, rfl, hwr.out, hgd.out, hW4.out, hWT4.out, hox3, hx4.out⟩
      case round =>
        obtain ⟨k, acc, o2, hkg, rfl, hacc, hgk, hWS, hWTr, hor, hxr⟩ := hrel
        have c1 : wr.cell? ⟨y.heap.size, 1, none⟩ = some (.string lt) := by rw [cell_of_row _ _ 1 _ _ _ hxr]; rfl
        cases gk with
        | zero =>
          obtain rfl : k = 4 := by omega
          have e4 : ([xa, xb, xc, xd] : List Int).drop 4 = [] := rfl
          rw [e4] at hacc hgk
          simp only [wrArgs, argsOk, List.append_nil] at hacc hgk
          rw [hgk, hacc]
          replace hWS := Lib.hid hWS
          replace hWTr := Lib.hid hWTr
          clear hacc hgk e4
          go_wp2
          go_end0
          exact .inl ⟨rfl, rfl, o2, hWS.out, hWTr.out⟩
        | succ g =>
          have hk4 : k < 4 := by omega
          obtain ⟨z, l, e1, e2, hix⟩ := hL4.out k hk4
          rw [e1] at hacc hgk
          rw [wrArgs] at hacc
          rw [argsOk] at hgk
          have p0 : (k : Int) < 4 := by omega
          have hNk := hN.out
          rw [hacc] at hNk
          replace e1 := Lib.hid e1
          replace e2 := Lib.hid e2
          by_cases hkn : k < n
          · have hd : decide (k < lt.size) = true := by rw [hsz.out]; simp; exact hkn
            rw [if_pos hkn] at hacc hNk
            have hok : okAt n k z = decide (0 ≤ z) := by unfold okAt; rw [if_pos hkn]
            rw [hok] at hgk
            have hC := Lib.hid (c_wnum hWS z (by rw [List.length_append] at hNk ⊢; rw [List.length_append] at hNk; omega))
            have hxr' := Lib.hid hxr
            replace hWTr := Lib.hid hWTr
            replace hacc := Lib.hid hacc
            replace hgk := Lib.hid hgk
            clear hWS hxr hNk hok hkn
            go_wp2_with fail
            refine hC.out.mono ?_
            rintro e y5 (⟨hz, rfl, o5, hW5, hWT5⟩ | ⟨hz, rfl, hKB⟩)
            · have hxr5 := Lib.hid (hWT5.keep hxr'.out hxw hor)
              have hor5 := hWT5.apart (row_lt hxr'.out) hor
              have hT5 := Lib.hid (hWTr.out.trans hWT5)
              have hg5 : goodIb ⟨(m : Int), xa, xb, xc, xd⟩ = argsOk n (k + 1) (([xa, xb, xc, xd] : List Int).drop (k + 1)) := by rw [hgk.out, hz, Bool.true_and, e2.out]
              have ha5 : wrIns ⟨(m : Int), xa, xb, xc, xd⟩ = (acc ++ leb z.toNat) ++ wrArgs n (k + 1) (([xa, xb, xc, xd] : List Int).drop (k + 1)) := by rw [hacc.out, e2.out, List.append_assoc]
              replace hg5 := Lib.hid hg5
              replace ha5 := Lib.hid ha5
              replace hW5 := Lib.hid hW5
              clear hWT5 hz hC c1
              go_wp2
              go_roundg g
              case measure => exact Nat.lt_succ_self _
              case rel => exact ⟨k + 1, acc ++ leb z.toNat, o5, by omega, by go_num, ha5.out, hg5.out, by rw [← List.append_assoc]; exact hW5.out, hT5.out, hor5, hxr5.out⟩
            · have hfin := Lib.hid (kb_panic hWTr.out hKB)
              have hg5 : goodIb ⟨(m : Int), xa, xb, xc, xd⟩ = false := by rw [hgk.out, hz, Bool.false_and]
              rw [hg5]
              clear hKB hz hg5 hC c1
              go_wp2
              exact ⟨rfl, .inr ⟨rfl, rfl, hfin.out⟩⟩
          · have hd : decide (k < lt.size) = false := by rw [hsz.out]; simp; omega
            rw [if_neg hkn, List.nil_append] at hacc
            have hok : okAt n k z = (z == 0) := by unfold okAt; rw [if_neg hkn]
            rw [hok] at hgk
            have hxr' := Lib.hid hxr
            replace hWTr := Lib.hid hWTr
            replace hWS := Lib.hid hWS
            clear hxr hNk hok hkn
            cases hz : (z == 0) with
            | true =>
              have hg5 : goodIb ⟨(m : Int), xa, xb, xc, xd⟩ = argsOk n (k + 1) (([xa, xb, xc, xd] : List Int).drop (k + 1)) := by rw [hgk, hz, Bool.true_and, e2.out]
              have ha5 : wrIns ⟨(m : Int), xa, xb, xc, xd⟩ = acc ++ wrArgs n (k + 1) (([xa, xb, xc, xd] : List Int).drop (k + 1)) := by rw [hacc, e2.out]
              replace hg5 := Lib.hid hg5
              replace ha5 := Lib.hid ha5
              clear hgk hacc
              go_wp2_with (go_at_call 15; refine (hT.out _).mono ?_; rintro e yy ⟨rfl, rfl⟩)
              go_roundg g
              case measure => exact Nat.lt_succ_self _
              case rel => exact ⟨k + 1, acc, o2, by omega, by go_num, ha5.out, hg5.out, hWS.out, hWTr.out, hor, hxr'.out⟩
            | false =>
              have hg5 : goodIb ⟨(m : Int), xa, xb, xc, xd⟩ = false := by rw [hgk, hz, Bool.false_and]
              rw [hg5]
              clear hgk hacc hg5
              go_wp2_with (go_at_call 15; refine (hF.out _).mono ?_; rintro e yy ⟨rfl, rfl⟩)
              exact ⟨rfl, .inr ⟨rfl, rfl, hWTr.out.kb⟩⟩
    · cases h
  · have hv : findV i.op = .tuple #[.agg #[.string ⟨#[]⟩, .string ⟨#[]⟩], .bool false] := by unfold findV; rw [if_neg hin]
    rw [hv] at hFd
    have hg : goodIb i = false := by rw [hgd, decide_eq_false hin, Bool.false_and]
    rw [hg]
    replace hFd := Lib.hid hFd
    have hWTh := Lib.hid hWT1
    clear h hS hb1 h1 hwr hgd harg hin hg hN hv hWT1 hcl hA
    go_enter Tryz.func39, Tryz.ntmps39
    go_wp2_with fail
    refine hFd.out.mono ?_
    rintro e y ⟨rfl, hb2⟩
    have hfin := Lib.hid ((hWTh.out.trans (WT.of_below hb2)).trans (WT.of_below ((Below.refl _ y).alloc (Nat.le_refl _) (.cells #[.string ⟨#[]⟩, .string ⟨#[]⟩] 75))))
    clear hb2
    go_wp2_with (go_at_call 15; refine (hF.out _).mono ?_; rintro e yy ⟨rfl, rfl⟩)
    exact ⟨rfl, .inr ⟨rfl, rfl, hfin.out.kb⟩⟩
end
end Go.Proofs.YtjjogaenejdliaaGreatDoor
