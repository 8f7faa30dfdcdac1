/-
  Contracts: Each reading takes a byte at least; rows that a call of its own fills. The contracts of many[T]: values, instructions, tries, captures (printed by gen_XPN.py). The contract of the reader's function (printed by gen_XPO.py). The contract of many[Fn]. The walk of many[Fn]. caught's deferred closure: of a frame that panics, and of one that returns.
-/
import Derived.Test.YtjjogaenejdliaaGreatDoorY2
import Derived.Deep.AppendLies
import Derived.OwnWalk
import Derived.Defers
import Derived.Recover
namespace Go.Proofs.YtjjogaenejdliaaGreatDoor
open Go.RowKit Go.Lib
set_option linter.unusedVariables false
set_option maxHeartbeats 1000000
set_option maxRecDepth 100000

theorem rdNum_len {b : List Nat} {n : Nat} {r : List Nat} (h : rdNum b = some (n, r)) : r.length < b.length := by
  obtain ⟨_, k, h1, h2, rfl⟩ := rdNum_some h
  simp; omega
theorem rdFlag_len {b : List Nat} {u : Bool} {r : List Nat} (h : rdFlag b = some (u, r)) : r.length < b.length := by
  unfold rdFlag at h
  cases hn : rdNum b with
  | none => rw [hn] at h; cases h
  | some p =>
    obtain ⟨n, r'⟩ := p
    rw [hn] at h
    dsimp only at h
    split at h
    · injection h with h; injection h with _ h; subst h; exact rdNum_len hn
    · cases h
theorem rdText_len {b : List Nat} {s : ByteArray} {r : List Nat} (h : rdText b = some (s, r)) : r.length < b.length := by
  unfold rdText at h
  cases hn : rdNum b with
  | none => rw [hn] at h; cases h
  | some p =>
    obtain ⟨n, r'⟩ := p
    rw [hn] at h
    dsimp only at h
    have := rdNum_len hn
    split at h
    · split at h
      · injection h with h; injection h with _ h; subst h; simp; omega
      · cases h
    · cases h
theorem rdConst_len {b : List Nat} {v : VV} {r : List Nat} (h : rdConst b = some (v, r)) : r.length < b.length := by
  unfold rdConst at h
  cases hn : rdFlag b with
  | none => rw [hn] at h; cases h
  | some p =>
    obtain ⟨u, r'⟩ := p
    rw [hn] at h
    have h1 := rdFlag_len hn
    cases u with
    | true =>
      dsimp only at h
      cases ht : rdText r' with
      | none => rw [ht] at h; cases h
      | some q =>
        obtain ⟨s, r2⟩ := q
        rw [ht] at h
        have h2 := rdText_len ht
        injection h with h; injection h with _ h; subst h; omega
    | false =>
      dsimp only at h
      split at h
      · split at h
        · injection h with h; injection h with _ h; subst h; simp; omega
        · cases h
      · cases h
theorem rdTimes_len {α : Type} {one : List Nat → Option (α × List Nat)} (ho : ∀ b v r, one b = some (v, r) → r.length < b.length) (n : Nat) : ∀ {b : List Nat} {l : List α} {r : List Nat}, rdTimes one n b = some (l, r) → r.length + l.length ≤ b.length ∧ l.length = n := by
  induction n with
  | zero => intro b l r h; simp [rdTimes] at h; obtain ⟨rfl, rfl⟩ := h; simp
  | succ n ih =>
    intro b l r h
    unfold rdTimes at h
    cases h1 : one b with
    | none => rw [h1] at h; cases h
    | some p =>
      obtain ⟨x, r1⟩ := p
      rw [h1] at h
      dsimp only at h
      cases h2 : rdTimes one n r1 with
      | none => rw [h2] at h; cases h
      | some q =>
        obtain ⟨l', r2⟩ := q
        rw [h2] at h
        injection h with h
        injection h with h3 h4
        subst h3 h4
        have a1 := ho _ _ _ h1
        have a2 := ih h2
        simp; omega
theorem rdIns_len {b : List Nat} {v : IV} {r : List Nat} (h : rdIns b = some (v, r)) : r.length < b.length := by
  unfold rdIns at h
  cases hn : rdNum b with
  | none => rw [hn] at h; cases h
  | some p =>
    obtain ⟨n, r'⟩ := p
    rw [hn] at h
    dsimp only at h
    have h1 := rdNum_len hn
    split at h
    · cases h2 : rdTimes rdNum (nlOf n) r' with
      | none => rw [h2] at h; cases h
      | some q =>
        obtain ⟨l, r2⟩ := q
        rw [h2] at h
        have := (rdTimes_len (fun b v r h => rdNum_len h) _ h2).1
        injection h with h; injection h with _ h; subst h; omega
    · cases h
theorem rdTry_len {b : List Nat} {v : TV4} {r : List Nat} (h : rdTry b = some (v, r)) : r.length < b.length := by
  unfold rdTry at h
  cases h2 : rdTimes rdNum 4 b with
  | none => rw [h2] at h; cases h
  | some q =>
    obtain ⟨l, r2⟩ := q
    rw [h2] at h
    have := rdTimes_len (fun b v r h => rdNum_len h) _ h2
    injection h with h; injection h with _ h; subst h; omega
theorem rdCap_len {b : List Nat} {v : PV2} {r : List Nat} (h : rdCap b = some (v, r)) : r.length < b.length := by
  unfold rdCap at h
  cases hn : rdFlag b with
  | none => rw [hn] at h; cases h
  | some p =>
    obtain ⟨u, r'⟩ := p
    rw [hn] at h
    dsimp only at h
    have h1 := rdFlag_len hn
    cases h2 : rdNum r' with
    | none => rw [h2] at h; cases h
    | some q =>
      obtain ⟨n, r2⟩ := q
      rw [h2] at h
      have := rdNum_len h2
      injection h with h; injection h with _ h; subst h; omega
theorem own_kb {ex : Nat → Prop} {y y' : World} {B size n : Nat} {e : TypeId} {v : Value} {xs : List Value} (h : y.ownsRow B e size v n xs) (hk : KB ex y y') (hx : ∀ r, B ≤ r → ¬ ex r) : y'.ownsRow B e size v n xs := by
  refine ⟨h.1, ?_⟩
  rcases h.2 with h0 | ⟨g, cap, cur, hv, hb, hg, rest⟩
  · exact .inl h0
  · exact .inr ⟨g, cap, cur, hv, hb, (hk.block g (row_lt hg) (hx g hb)).trans hg, rest⟩
theorem own_blk {y : World} {B size n : Nat} {e : TypeId} {v : Value} {xs : List Value} (h : y.ownsRow B e size v n xs) : ∀ k, v.ownBlock = some k → B ≤ k := by
  intro k hk
  rcases h.2 with ⟨rfl, _⟩ | ⟨g, cap, cur, rfl, hb, _⟩
  · simp [Value.ownBlock] at hk
  · simp [Value.ownBlock] at hk; omega
theorem KB.grown {ex : Nat → Prop} {w y y' : World} {row : Option Nat} (h : KB ex w y) (hg : y.grownBy y' row) (hr : ∀ k, row = some k → w.heap.size ≤ k) : KB ex w y' :=
  ⟨hg.os.trans h.os, hg.tape.trans h.tape, hg.output.trans h.output, Nat.le_trans h.size hg.size, fun r hr' hn => (hg.block r (Nat.lt_of_lt_of_le hr' h.size) (fun e => by have := hr r e.symm; omega)).trans (h.block r hr' hn)⟩
theorem RS.turn {rb bb : Nat} {y y' : World} {r : List Nat} (h : RS rb bb y r) (h1 : y'.heap[rb]? = y.heap[rb]?) (h2 : y'.heap[bb]? = y.heap[bb]?) : RS rb bb y' r := by
  obtain ⟨v, h0, h3, p, c, rfl, h4, h5, h6⟩ := h
  refine ⟨_, h0, h1.trans h3, p, c, rfl, h4, h5, fun k x hx => ?_⟩
  obtain ⟨g1, b, o, e, g2⟩ := h6 k x hx
  have hb : b = bb := h0 ⟨b, o, none⟩ _ _ (by rw [e])
  subst hb
  exact ⟨g1, b, o, e, by rw [World.cell?_of_block (w := y) (a := ⟨b, o + k, none⟩) h2]; exact g2⟩
theorem RS.grown {rb bb B : Nat} {y y' : World} {r : List Nat} {row : Option Nat} (h : RS rb bb y r) (hg : y.grownBy y' row) (hr : ∀ k, row = some k → B ≤ k) (h1 : rb < B) (h2 : bb < B) (hB : B ≤ y.heap.size) : RS rb bb y' r :=
  h.turn (hg.block rb (by omega) (fun e => by have := hr rb e.symm; omega)) (hg.block bb (by omega) (fun e => by have := hr bb e.symm; omega))
end Go.Proofs.YtjjogaenejdliaaGreatDoor
namespace Go.Proofs.YtjjogaenejdliaaGreatDoor
open Go.RowKit Go.Lib
set_option linter.unusedVariables false
set_option linter.unusedSimpArgs false
set_option maxHeartbeats 2000000
set_option maxRecDepth 100000

theorem infoV : (Tryz.prog.info? 51).map (fun i => (i.zero, i.size, i.bytes)) = some (some (.agg #[.int .i64 0, .float .f64 0, .string ⟨#[]⟩, .int .i64 0]), 4, 40) := by kernel_rfl
theorem oneV (x : VV) : ∀ u ∈ encVV x, u.oneCell' = true := fun u hu => by
  simp [encVV] at hu
  rcases hu with rfl | rfl | rfl | rfl <;> rfl
section
variable {rb bb : Nat} {w w' : World} {bs : List Nat}
theorem c_manyV (h : RS rb bb w bs) (hS : Spc w) (hrb : rb ≠ 0) (hbb : bb < w.heap.size) (hlen : bs.length ≤ 4194304) : Calls Tryz.prog 48 #[.pointer (some ⟨rb, 0, none⟩), .func (.func 49) #[.pointer (some ⟨rb, 0, none⟩)] #[]] w fun e w' => KB (fun r => r = rb) w w' ∧ ((∃ l r v, rdMany rdConst bs = some (l, r) ∧ e = .returned v ∧ w'.ownsRow w.heap.size 51 4 v l.length (l.flatMap encVV) ∧ RS rb bb w' r) ∨ (rdMany rdConst bs = none ∧ e = .panicked wrongV)) := by
  have hN := c_rnum h
  have hlr := h.lt
  obtain ⟨i0, hi0, hz0, hz1, hz2⟩ := info_parts infoV
  replace hN := Lib.hid hN
  replace hS := Lib.hid hS
  have hord := Lib.hid (show (rb < w.heap.size ∧ bb < w.heap.size) ∧ bs.length ≤ 4194304 from ⟨⟨hlr, hbb⟩, hlen⟩)
  clear h hlr hbb hlen
  go_enter Tryz.func48, Tryz.ntmps48
  go_wp2_with fail
  refine hN.out.mono ?_
  rintro e y1 ⟨hK1, ⟨n, r1, hn, rfl, hR1⟩ | ⟨hn, rfl⟩⟩
  · have h63 := (rdNum_some hn).1
    have e63 : (2 : Nat) ^ 63 = 9223372036854775808 := by decide
    rw [e63] at h63
    have hl1 := rdNum_len hn
    have hmany : rdMany rdConst bs = rdTimes rdConst n r1 := by unfold rdMany; rw [hn]
    replace hmany := Lib.hid hmany
    replace hR1 := Lib.hid hR1
    replace hK1 := Lib.hid hK1
    replace hl1 := Lib.hid hl1
    clear hn hN e63
    go_wp2_with fail
    go_loopg [5, 6] n (fun g v5 v6 wr => ∃ acc r2, v6 = .int .i64 (g : Int) ∧ rdPre rdConst n r1 g acc r2 ∧ RS rb bb wr r2 ∧ KB (fun r => r = rb) w wr ∧ wr.ownsRow w.heap.size 51 4 v5 acc.length (acc.flatMap encVV) ∧ acc.length + r2.length ≤ bs.length ∧ g ≤ n)
    case atStart => exact ⟨[], r1, rfl, rdPre_start _ _ _, hR1.out, hK1.out, World.ownsRow_nil _ _ _ _, by have := hl1.out; simp; omega, Nat.le_refl _⟩
    case round =>
      obtain ⟨acc, r2, rfl, hpr, hRr, hKr, hown, hacc, hgn⟩ := hrel
      cases gk with
      | zero =>
        have hend := rdPre_end hpr
        have hres : rdMany rdConst bs = some (acc, r2) := by rw [hmany.out, hend]
        replace hres := Lib.hid hres
        replace hown := Lib.hid hown
        clear hend hpr hacc
        go_wp2
        go_ret
        exact ⟨hKr, .inl ⟨acc, r2, _, hres.out, rfl, hown.out, hRr⟩⟩
      | succ g =>
        have hOne := c_rconst hRr
        have p0 : (0 : Int) < ((g + 1 : Nat) : Int) := by omega
        have hw1 : IntKind.i64.wrap (((g + 1 : Nat) : Int) - 1) = (g : Int) := by rw [IntKind.wrap_i64]; omega
        replace hOne := Lib.hid hOne
        replace hKr := Lib.hid hKr
        replace hown := Lib.hid hown
        replace hpr := Lib.hid hpr
        replace hacc := Lib.hid hacc
        clear hRr
        go_wp2_with fail
        refine hOne.out.mono ?_
        rintro e y2 ⟨hK2, ⟨x, r3, hx, rfl, hR3⟩ | ⟨hx, rfl⟩⟩
        · have hord2 := hord.out
          have hKK := hKr.out.trans hK2
          have hsz := hKK.size
          have hlx := rdConst_len hx
          have hacc2 := hacc.out
          have hown2 := (own_kb hown.out hK2 (fun r hr => by omega)).alloc (.cells (encVV x).toArray 51)
          have hpr2 := Lib.hid (rdPre_next hpr.out hx)
          have hla : acc.length ≤ 4194304 := by omega
          have ho1 := oneV x
          replace hKK := Lib.hid hKK
          replace hacc2 := Lib.hid (show (acc ++ [x]).length + r3.length ≤ bs.length by simp; omega)
          have hfl : acc.flatMap encVV ++ encVV x = (acc ++ [x]).flatMap encVV := by simp
          have hln : acc.length + 1 = (acc ++ [x]).length := by simp
          replace hfl := Lib.hid hfl
          replace hln := Lib.hid hln
          clear hx hOne hK2 hlx hacc hpr hown hord2
          have hnw := fun (y : World) => World.news_of_block (cs := (encVV x).toArray) (t := 51) (fr := (0, 0)) (heap_alloc_new y _)
          unfold encVV
          go_wp2_with (at_builtin; refine wpList_append_lies _ (by rfl) _ _ _ (by rfl) w.heap.size 51 i0 _ 4 40 Tryz.underlying43 hi0 hz0 hz1 hz2 rfl (by omega) u5 acc.length (acc.flatMap encVV) (by rfl) hown2 ⟨y2.heap.size, 0, none⟩ 1 1 (encVV x) (by rfl) (by rfl) (hnw y2) ho1 (by omega) (by unfold maxLen; omega) (by omega) (by simp; omega) (y2.heap.size + 1) (by simp) ?_; intro gg cap w5 hown5 hg5 hat5 hlt5)
          go_roundg g
          case measure => exact Nat.lt_succ_self _
          case rel =>
            have hord2 := hord.out
            have hblk := own_blk hown2
            have hg := hfl.out ▸ hln.out ▸ hown5
            refine ⟨acc ++ [x], r3, rfl, hpr2.out, ?_, ?_, ?_, hacc2.out, by omega⟩
            · exact ((hR3.below ((Below.refl _ y2).alloc (Nat.le_refl _) _))).grown hg5 hblk hord2.1.1 hord2.1.2 (by simp; omega)
            · exact (hKK.out.trans (KB.alloc _)).grown hg5 hblk
            · rw [← hfl.out, ← hln.out]; exact hown5
        · have hres : rdMany rdConst bs = none := by rw [hmany.out, rdPre_none hpr.out hx]
          have hKK := hKr.out.trans hK2
          replace hres := Lib.hid hres
          replace hKK := Lib.hid hKK
          clear hx hOne hK2 hpr
          go_wp2
          exact ⟨rfl, hKK.out, .inr ⟨hres.out, rfl⟩⟩
  · have hres : rdMany rdConst bs = none := by unfold rdMany; rw [hn]
    replace hres := Lib.hid hres
    replace hK1 := Lib.hid hK1
    clear hn hN
    go_wp2
    exact ⟨rfl, hK1.out, .inr ⟨hres.out, rfl⟩⟩
end
theorem infoI : (Tryz.prog.info? 40).map (fun i => (i.zero, i.size, i.bytes)) = some (some (.agg #[.int .i64 0, .int .i64 0, .int .i64 0, .int .i64 0, .int .i64 0]), 5, 40) := by kernel_rfl
theorem oneI (x : IV) : ∀ u ∈ encI x, u.oneCell' = true := fun u hu => by
  simp [encI] at hu
  rcases hu with rfl | rfl | rfl | rfl | rfl <;> rfl
section
variable {rb bb : Nat} {w w' : World} {bs : List Nat}
theorem c_manyI (h : RS rb bb w bs) (hS : Spc w) (hrb : rb ≠ 0) (hbb : bb < w.heap.size) (hlen : bs.length ≤ 4194304) : Calls Tryz.prog 50 #[.pointer (some ⟨rb, 0, none⟩), .func (.func 51) #[.pointer (some ⟨rb, 0, none⟩)] #[]] w fun e w' => KB (fun r => r = rb) w w' ∧ ((∃ l r v, rdMany rdIns bs = some (l, r) ∧ e = .returned v ∧ w'.ownsRow w.heap.size 40 5 v l.length (l.flatMap encI) ∧ RS rb bb w' r) ∨ (rdMany rdIns bs = none ∧ e = .panicked wrongV)) := by
  have hN := c_rnum h
  have hlr := h.lt
  obtain ⟨i0, hi0, hz0, hz1, hz2⟩ := info_parts infoI
  replace hN := Lib.hid hN
  replace hS := Lib.hid hS
  have hord := Lib.hid (show (rb < w.heap.size ∧ bb < w.heap.size) ∧ bs.length ≤ 4194304 from ⟨⟨hlr, hbb⟩, hlen⟩)
  clear h hlr hbb hlen
  go_enter Tryz.func50, Tryz.ntmps50
  go_wp2_with fail
  refine hN.out.mono ?_
  rintro e y1 ⟨hK1, ⟨n, r1, hn, rfl, hR1⟩ | ⟨hn, rfl⟩⟩
  · have h63 := (rdNum_some hn).1
    have e63 : (2 : Nat) ^ 63 = 9223372036854775808 := by decide
    rw [e63] at h63
    have hl1 := rdNum_len hn
    have hmany : rdMany rdIns bs = rdTimes rdIns n r1 := by unfold rdMany; rw [hn]
    replace hmany := Lib.hid hmany
    replace hR1 := Lib.hid hR1
    replace hK1 := Lib.hid hK1
    replace hl1 := Lib.hid hl1
    clear hn hN e63
    go_wp2_with fail
    go_loopg [5, 6] n (fun g v5 v6 wr => ∃ acc r2, v6 = .int .i64 (g : Int) ∧ rdPre rdIns n r1 g acc r2 ∧ RS rb bb wr r2 ∧ KB (fun r => r = rb) w wr ∧ wr.ownsRow w.heap.size 40 5 v5 acc.length (acc.flatMap encI) ∧ acc.length + r2.length ≤ bs.length ∧ g ≤ n)
    case atStart => exact ⟨[], r1, rfl, rdPre_start _ _ _, hR1.out, hK1.out, World.ownsRow_nil _ _ _ _, by have := hl1.out; simp; omega, Nat.le_refl _⟩
    case round =>
      obtain ⟨acc, r2, rfl, hpr, hRr, hKr, hown, hacc, hgn⟩ := hrel
      cases gk with
      | zero =>
        have hend := rdPre_end hpr
        have hres : rdMany rdIns bs = some (acc, r2) := by rw [hmany.out, hend]
        replace hres := Lib.hid hres
        replace hown := Lib.hid hown
        clear hend hpr hacc
        go_wp2
        go_ret
        exact ⟨hKr, .inl ⟨acc, r2, _, hres.out, rfl, hown.out, hRr⟩⟩
      | succ g =>
        have hOne := c_rins hRr (hS.out.kb hKr (fun e => hrb e.symm)) hrb
        have p0 : (0 : Int) < ((g + 1 : Nat) : Int) := by omega
        have hw1 : IntKind.i64.wrap (((g + 1 : Nat) : Int) - 1) = (g : Int) := by rw [IntKind.wrap_i64]; omega
        replace hOne := Lib.hid hOne
        replace hKr := Lib.hid hKr
        replace hown := Lib.hid hown
        replace hpr := Lib.hid hpr
        replace hacc := Lib.hid hacc
        clear hRr
        go_wp2_with fail
        refine hOne.out.mono ?_
        rintro e y2 ⟨hK2, ⟨x, r3, hx, rfl, hR3⟩ | ⟨hx, rfl⟩⟩
        · have hord2 := hord.out
          have hKK := hKr.out.trans hK2
          have hsz := hKK.size
          have hlx := rdIns_len hx
          have hacc2 := hacc.out
          have hown2 := (own_kb hown.out hK2 (fun r hr => by omega)).alloc (.cells (encI x).toArray 40)
          have hpr2 := Lib.hid (rdPre_next hpr.out hx)
          have hla : acc.length ≤ 4194304 := by omega
          have ho1 := oneI x
          replace hKK := Lib.hid hKK
          replace hacc2 := Lib.hid (show (acc ++ [x]).length + r3.length ≤ bs.length by simp; omega)
          have hfl : acc.flatMap encI ++ encI x = (acc ++ [x]).flatMap encI := by simp
          have hln : acc.length + 1 = (acc ++ [x]).length := by simp
          replace hfl := Lib.hid hfl
          replace hln := Lib.hid hln
          clear hx hOne hK2 hlx hacc hpr hown hord2
          have hnw := fun (y : World) => World.news_of_block (cs := (encI x).toArray) (t := 40) (fr := (0, 0)) (heap_alloc_new y _)
          unfold encI
          go_wp2_with (at_builtin; refine wpList_append_lies _ (by rfl) _ _ _ (by rfl) w.heap.size 40 i0 _ 5 40 Tryz.underlying41 hi0 hz0 hz1 hz2 rfl (by omega) u5 acc.length (acc.flatMap encI) (by rfl) hown2 ⟨y2.heap.size, 0, none⟩ 1 1 (encI x) (by rfl) (by rfl) (hnw y2) ho1 (by omega) (by unfold maxLen; omega) (by omega) (by simp; omega) (y2.heap.size + 1) (by simp) ?_; intro gg cap w5 hown5 hg5 hat5 hlt5)
          go_roundg g
          case measure => exact Nat.lt_succ_self _
          case rel =>
            have hord2 := hord.out
            have hblk := own_blk hown2
            have hg := hfl.out ▸ hln.out ▸ hown5
            refine ⟨acc ++ [x], r3, rfl, hpr2.out, ?_, ?_, ?_, hacc2.out, by omega⟩
            · exact ((hR3.below ((Below.refl _ y2).alloc (Nat.le_refl _) _))).grown hg5 hblk hord2.1.1 hord2.1.2 (by simp; omega)
            · exact (hKK.out.trans (KB.alloc _)).grown hg5 hblk
            · rw [← hfl.out, ← hln.out]; exact hown5
        · have hres : rdMany rdIns bs = none := by rw [hmany.out, rdPre_none hpr.out hx]
          have hKK := hKr.out.trans hK2
          replace hres := Lib.hid hres
          replace hKK := Lib.hid hKK
          clear hx hOne hK2 hpr
          go_wp2
          exact ⟨rfl, hKK.out, .inr ⟨hres.out, rfl⟩⟩
  · have hres : rdMany rdIns bs = none := by unfold rdMany; rw [hn]
    replace hres := Lib.hid hres
    replace hK1 := Lib.hid hK1
    clear hn hN
    go_wp2
    exact ⟨rfl, hK1.out, .inr ⟨hres.out, rfl⟩⟩
end
theorem infoT : (Tryz.prog.info? 96).map (fun i => (i.zero, i.size, i.bytes)) = some (some (.agg #[.int .i64 0, .int .i64 0, .int .i64 0, .int .i64 0]), 4, 32) := by kernel_rfl
theorem oneT (x : TV4) : ∀ u ∈ encT x, u.oneCell' = true := fun u hu => by
  simp [encT] at hu
  rcases hu with rfl | rfl | rfl | rfl <;> rfl
section
variable {rb bb : Nat} {w w' : World} {bs : List Nat}
theorem c_manyT (h : RS rb bb w bs) (hS : Spc w) (hrb : rb ≠ 0) (hbb : bb < w.heap.size) (hlen : bs.length ≤ 4194304) : Calls Tryz.prog 52 #[.pointer (some ⟨rb, 0, none⟩), .func (.func 53) #[.pointer (some ⟨rb, 0, none⟩)] #[]] w fun e w' => KB (fun r => r = rb) w w' ∧ ((∃ l r v, rdMany rdTry bs = some (l, r) ∧ e = .returned v ∧ w'.ownsRow w.heap.size 96 4 v l.length (l.flatMap encT) ∧ RS rb bb w' r) ∨ (rdMany rdTry bs = none ∧ e = .panicked wrongV)) := by
  have hN := c_rnum h
  have hlr := h.lt
  obtain ⟨i0, hi0, hz0, hz1, hz2⟩ := info_parts infoT
  replace hN := Lib.hid hN
  replace hS := Lib.hid hS
  have hord := Lib.hid (show (rb < w.heap.size ∧ bb < w.heap.size) ∧ bs.length ≤ 4194304 from ⟨⟨hlr, hbb⟩, hlen⟩)
  clear h hlr hbb hlen
  go_enter Tryz.func52, Tryz.ntmps52
  go_wp2_with fail
  refine hN.out.mono ?_
  rintro e y1 ⟨hK1, ⟨n, r1, hn, rfl, hR1⟩ | ⟨hn, rfl⟩⟩
  · have h63 := (rdNum_some hn).1
    have e63 : (2 : Nat) ^ 63 = 9223372036854775808 := by decide
    rw [e63] at h63
    have hl1 := rdNum_len hn
    have hmany : rdMany rdTry bs = rdTimes rdTry n r1 := by unfold rdMany; rw [hn]
    replace hmany := Lib.hid hmany
    replace hR1 := Lib.hid hR1
    replace hK1 := Lib.hid hK1
    replace hl1 := Lib.hid hl1
    clear hn hN e63
    go_wp2_with fail
    go_loopg [5, 6] n (fun g v5 v6 wr => ∃ acc r2, v6 = .int .i64 (g : Int) ∧ rdPre rdTry n r1 g acc r2 ∧ RS rb bb wr r2 ∧ KB (fun r => r = rb) w wr ∧ wr.ownsRow w.heap.size 96 4 v5 acc.length (acc.flatMap encT) ∧ acc.length + r2.length ≤ bs.length ∧ g ≤ n)
    case atStart => exact ⟨[], r1, rfl, rdPre_start _ _ _, hR1.out, hK1.out, World.ownsRow_nil _ _ _ _, by have := hl1.out; simp; omega, Nat.le_refl _⟩
    case round =>
      obtain ⟨acc, r2, rfl, hpr, hRr, hKr, hown, hacc, hgn⟩ := hrel
      cases gk with
      | zero =>
        have hend := rdPre_end hpr
        have hres : rdMany rdTry bs = some (acc, r2) := by rw [hmany.out, hend]
        replace hres := Lib.hid hres
        replace hown := Lib.hid hown
        clear hend hpr hacc
        go_wp2
        go_ret
        exact ⟨hKr, .inl ⟨acc, r2, _, hres.out, rfl, hown.out, hRr⟩⟩
      | succ g =>
        have hOne := c_rtry hRr
        have p0 : (0 : Int) < ((g + 1 : Nat) : Int) := by omega
        have hw1 : IntKind.i64.wrap (((g + 1 : Nat) : Int) - 1) = (g : Int) := by rw [IntKind.wrap_i64]; omega
        replace hOne := Lib.hid hOne
        replace hKr := Lib.hid hKr
        replace hown := Lib.hid hown
        replace hpr := Lib.hid hpr
        replace hacc := Lib.hid hacc
        clear hRr
        go_wp2_with fail
        refine hOne.out.mono ?_
        rintro e y2 ⟨hK2, ⟨x, r3, hx, rfl, hR3⟩ | ⟨hx, rfl⟩⟩
        · have hord2 := hord.out
          have hKK := hKr.out.trans hK2
          have hsz := hKK.size
          have hlx := rdTry_len hx
          have hacc2 := hacc.out
          have hown2 := (own_kb hown.out hK2 (fun r hr => by omega)).alloc (.cells (encT x).toArray 96)
          have hpr2 := Lib.hid (rdPre_next hpr.out hx)
          have hla : acc.length ≤ 4194304 := by omega
          have ho1 := oneT x
          replace hKK := Lib.hid hKK
          replace hacc2 := Lib.hid (show (acc ++ [x]).length + r3.length ≤ bs.length by simp; omega)
          have hfl : acc.flatMap encT ++ encT x = (acc ++ [x]).flatMap encT := by simp
          have hln : acc.length + 1 = (acc ++ [x]).length := by simp
          replace hfl := Lib.hid hfl
          replace hln := Lib.hid hln
          clear hx hOne hK2 hlx hacc hpr hown hord2
          have hnw := fun (y : World) => World.news_of_block (cs := (encT x).toArray) (t := 96) (fr := (0, 0)) (heap_alloc_new y _)
          unfold encT
          go_wp2_with (at_builtin; refine wpList_append_lies _ (by rfl) _ _ _ (by rfl) w.heap.size 96 i0 _ 4 32 Tryz.underlying44 hi0 hz0 hz1 hz2 rfl (by omega) u5 acc.length (acc.flatMap encT) (by rfl) hown2 ⟨y2.heap.size, 0, none⟩ 1 1 (encT x) (by rfl) (by rfl) (hnw y2) ho1 (by omega) (by unfold maxLen; omega) (by omega) (by simp; omega) (y2.heap.size + 1) (by simp) ?_; intro gg cap w5 hown5 hg5 hat5 hlt5)
          go_roundg g
          case measure => exact Nat.lt_succ_self _
          case rel =>
            have hord2 := hord.out
            have hblk := own_blk hown2
            have hg := hfl.out ▸ hln.out ▸ hown5
            refine ⟨acc ++ [x], r3, rfl, hpr2.out, ?_, ?_, ?_, hacc2.out, by omega⟩
            · exact ((hR3.below ((Below.refl _ y2).alloc (Nat.le_refl _) _))).grown hg5 hblk hord2.1.1 hord2.1.2 (by simp; omega)
            · exact (hKK.out.trans (KB.alloc _)).grown hg5 hblk
            · rw [← hfl.out, ← hln.out]; exact hown5
        · have hres : rdMany rdTry bs = none := by rw [hmany.out, rdPre_none hpr.out hx]
          have hKK := hKr.out.trans hK2
          replace hres := Lib.hid hres
          replace hKK := Lib.hid hKK
          clear hx hOne hK2 hpr
          go_wp2
          exact ⟨rfl, hKK.out, .inr ⟨hres.out, rfl⟩⟩
  · have hres : rdMany rdTry bs = none := by unfold rdMany; rw [hn]
    replace hres := Lib.hid hres
    replace hK1 := Lib.hid hK1
    clear hn hN
    go_wp2
    exact ⟨rfl, hK1.out, .inr ⟨hres.out, rfl⟩⟩
end
theorem infoC : (Tryz.prog.info? 98).map (fun i => (i.zero, i.size, i.bytes)) = some (some (.agg #[.bool false, .int .i64 0]), 2, 16) := by kernel_rfl
theorem oneC (x : PV2) : ∀ u ∈ encK x, u.oneCell' = true := fun u hu => by
  simp [encK] at hu
  rcases hu with rfl | rfl <;> rfl
section
variable {rb bb : Nat} {w w' : World} {bs : List Nat}
theorem c_manyC (h : RS rb bb w bs) (hS : Spc w) (hrb : rb ≠ 0) (hbb : bb < w.heap.size) (hlen : bs.length ≤ 4194304) : Calls Tryz.prog 54 #[.pointer (some ⟨rb, 0, none⟩), .func (.func 55) #[.pointer (some ⟨rb, 0, none⟩)] #[]] w fun e w' => KB (fun r => r = rb) w w' ∧ ((∃ l r v, rdMany rdCap bs = some (l, r) ∧ e = .returned v ∧ w'.ownsRow w.heap.size 98 2 v l.length (l.flatMap encK) ∧ RS rb bb w' r) ∨ (rdMany rdCap bs = none ∧ e = .panicked wrongV)) := by
  have hN := c_rnum h
  have hlr := h.lt
  obtain ⟨i0, hi0, hz0, hz1, hz2⟩ := info_parts infoC
  replace hN := Lib.hid hN
  replace hS := Lib.hid hS
  have hord := Lib.hid (show (rb < w.heap.size ∧ bb < w.heap.size) ∧ bs.length ≤ 4194304 from ⟨⟨hlr, hbb⟩, hlen⟩)
  clear h hlr hbb hlen
  go_enter Tryz.func54, Tryz.ntmps54
  go_wp2_with fail
  refine hN.out.mono ?_
  rintro e y1 ⟨hK1, ⟨n, r1, hn, rfl, hR1⟩ | ⟨hn, rfl⟩⟩
  · have h63 := (rdNum_some hn).1
    have e63 : (2 : Nat) ^ 63 = 9223372036854775808 := by decide
    rw [e63] at h63
    have hl1 := rdNum_len hn
    have hmany : rdMany rdCap bs = rdTimes rdCap n r1 := by unfold rdMany; rw [hn]
    replace hmany := Lib.hid hmany
    replace hR1 := Lib.hid hR1
    replace hK1 := Lib.hid hK1
    replace hl1 := Lib.hid hl1
    clear hn hN e63
    go_wp2_with fail
    go_loopg [5, 6] n (fun g v5 v6 wr => ∃ acc r2, v6 = .int .i64 (g : Int) ∧ rdPre rdCap n r1 g acc r2 ∧ RS rb bb wr r2 ∧ KB (fun r => r = rb) w wr ∧ wr.ownsRow w.heap.size 98 2 v5 acc.length (acc.flatMap encK) ∧ acc.length + r2.length ≤ bs.length ∧ g ≤ n)
    case atStart => exact ⟨[], r1, rfl, rdPre_start _ _ _, hR1.out, hK1.out, World.ownsRow_nil _ _ _ _, by have := hl1.out; simp; omega, Nat.le_refl _⟩
    case round =>
      obtain ⟨acc, r2, rfl, hpr, hRr, hKr, hown, hacc, hgn⟩ := hrel
      cases gk with
      | zero =>
        have hend := rdPre_end hpr
        have hres : rdMany rdCap bs = some (acc, r2) := by rw [hmany.out, hend]
        replace hres := Lib.hid hres
        replace hown := Lib.hid hown
        clear hend hpr hacc
        go_wp2
        go_ret
        exact ⟨hKr, .inl ⟨acc, r2, _, hres.out, rfl, hown.out, hRr⟩⟩
      | succ g =>
        have hOne := c_rcap hRr
        have p0 : (0 : Int) < ((g + 1 : Nat) : Int) := by omega
        have hw1 : IntKind.i64.wrap (((g + 1 : Nat) : Int) - 1) = (g : Int) := by rw [IntKind.wrap_i64]; omega
        replace hOne := Lib.hid hOne
        replace hKr := Lib.hid hKr
        replace hown := Lib.hid hown
        replace hpr := Lib.hid hpr
        replace hacc := Lib.hid hacc
        clear hRr
        go_wp2_with fail
        refine hOne.out.mono ?_
        rintro e y2 ⟨hK2, ⟨x, r3, hx, rfl, hR3⟩ | ⟨hx, rfl⟩⟩
        · have hord2 := hord.out
          have hKK := hKr.out.trans hK2
          have hsz := hKK.size
          have hlx := rdCap_len hx
          have hacc2 := hacc.out
          have hown2 := (own_kb hown.out hK2 (fun r hr => by omega)).alloc (.cells (encK x).toArray 98)
          have hpr2 := Lib.hid (rdPre_next hpr.out hx)
          have hla : acc.length ≤ 4194304 := by omega
          have ho1 := oneC x
          replace hKK := Lib.hid hKK
          replace hacc2 := Lib.hid (show (acc ++ [x]).length + r3.length ≤ bs.length by simp; omega)
          have hfl : acc.flatMap encK ++ encK x = (acc ++ [x]).flatMap encK := by simp
          have hln : acc.length + 1 = (acc ++ [x]).length := by simp
          replace hfl := Lib.hid hfl
          replace hln := Lib.hid hln
          clear hx hOne hK2 hlx hacc hpr hown hord2
          have hnw := fun (y : World) => World.news_of_block (cs := (encK x).toArray) (t := 98) (fr := (0, 0)) (heap_alloc_new y _)
          unfold encK
          go_wp2_with (at_builtin; refine wpList_append_lies _ (by rfl) _ _ _ (by rfl) w.heap.size 98 i0 _ 2 16 Tryz.underlying45 hi0 hz0 hz1 hz2 rfl (by omega) u5 acc.length (acc.flatMap encK) (by rfl) hown2 ⟨y2.heap.size, 0, none⟩ 1 1 (encK x) (by rfl) (by rfl) (hnw y2) ho1 (by omega) (by unfold maxLen; omega) (by omega) (by simp; omega) (y2.heap.size + 1) (by simp) ?_; intro gg cap w5 hown5 hg5 hat5 hlt5)
          go_roundg g
          case measure => exact Nat.lt_succ_self _
          case rel =>
            have hord2 := hord.out
            have hblk := own_blk hown2
            have hg := hfl.out ▸ hln.out ▸ hown5
            refine ⟨acc ++ [x], r3, rfl, hpr2.out, ?_, ?_, ?_, hacc2.out, by omega⟩
            · exact ((hR3.below ((Below.refl _ y2).alloc (Nat.le_refl _) _))).grown hg5 hblk hord2.1.1 hord2.1.2 (by simp; omega)
            · exact (hKK.out.trans (KB.alloc _)).grown hg5 hblk
            · rw [← hfl.out, ← hln.out]; exact hown5
        · have hres : rdMany rdCap bs = none := by rw [hmany.out, rdPre_none hpr.out hx]
          have hKK := hKr.out.trans hK2
          replace hres := Lib.hid hres
          replace hKK := Lib.hid hKK
          clear hx hOne hK2 hpr
          go_wp2
          exact ⟨rfl, hKK.out, .inr ⟨hres.out, rfl⟩⟩
  · have hres : rdMany rdCap bs = none := by unfold rdMany; rw [hn]
    replace hres := Lib.hid hres
    replace hK1 := Lib.hid hK1
    clear hn hN
    go_wp2
    exact ⟨rfl, hK1.out, .inr ⟨hres.out, rfl⟩⟩
end
end Go.Proofs.YtjjogaenejdliaaGreatDoor
namespace Go.Proofs.YtjjogaenejdliaaGreatDoor
open Go.RowKit Go.Lib
set_option linter.unusedVariables false
set_option linter.unusedSimpArgs false
set_option maxHeartbeats 4000000
set_option maxRecDepth 100000

/-- a function's nine cells; its rows lie from B on -/
def FnR (B : Nat) (w : World) (f : FV) (cells : List Value) : Prop := ∃ vc vi vt vk, cells = [.string f.name, .int .i64 f.params, .bool f.rest, .bool f.arrow, .int .i64 f.regs, vc, vi, vt, vk] ∧
  (w.ownsRow B 51 4 vc f.consts.length (f.consts.flatMap encVV) ∧ w.ownsRow B 40 5 vi f.code.length (f.code.flatMap encI)) ∧ w.ownsRow B 96 4 vt f.tries.length (f.tries.flatMap encT) ∧ w.ownsRow B 98 2 vk f.caps.length (f.caps.flatMap encK)
theorem own_form {y : World} {B size n : Nat} {e : TypeId} {v : Value} {xs : List Value} (h : y.ownsRow B e size v n xs) : ∃ p n c, v = .slice p n c := by
  rcases h.2 with ⟨rfl, _⟩ | ⟨g, cap, cur, rfl, _⟩
  · exact ⟨_, _, _, rfl⟩
  · exact ⟨_, _, _, rfl⟩
theorem own_le {y : World} {B B' size n : Nat} {e : TypeId} {v : Value} {xs : List Value} (h : y.ownsRow B e size v n xs) (hB : B' ≤ B) : y.ownsRow B' e size v n xs := by
  refine ⟨h.1, ?_⟩
  rcases h.2 with h0 | ⟨g, cap, cur, hv, hb, rest⟩
  · exact .inl h0
  · exact .inr ⟨g, cap, cur, hv, by omega, rest⟩
theorem own_set {y y' : World} {B size n : Nat} {e : TypeId} {v : Value} {xs : List Value} (h : y.ownsRow B e size v n xs) {b : Nat} (hb : b < B) (hk : ∀ r, r ≠ b → y'.heap[r]? = y.heap[r]?) : y'.ownsRow B e size v n xs := by
  refine ⟨h.1, ?_⟩
  rcases h.2 with h0 | ⟨g, cap, cur, hv, hg, hh, rest⟩
  · exact .inl h0
  · exact .inr ⟨g, cap, cur, hv, hg, (hk g (by omega)).trans hh, rest⟩
theorem many_len {α : Type} {one : List Nat → Option (α × List Nat)} (ho : ∀ b v r, one b = some (v, r) → r.length < b.length) {b : List Nat} {l : List α} {r : List Nat} (h : rdMany one b = some (l, r)) : r.length ≤ b.length := by
  unfold rdMany at h
  cases hn : rdNum b with
  | none => rw [hn] at h; cases h
  | some p =>
    obtain ⟨n, r'⟩ := p
    rw [hn] at h
    have h1 := rdNum_len hn
    have h2 := (rdTimes_len ho n h).1
    omega
theorem rdConst_many {b : List Nat} {l : List VV} {r : List Nat} (h : rdMany rdConst b = some (l, r)) : r.length ≤ b.length := many_len (fun b v r h => rdConst_len h) h
theorem rdIns_many {b : List Nat} {l : List IV} {r : List Nat} (h : rdMany rdIns b = some (l, r)) : r.length ≤ b.length := many_len (fun b v r h => rdIns_len h) h
theorem rdTry_many {b : List Nat} {l : List TV4} {r : List Nat} (h : rdMany rdTry b = some (l, r)) : r.length ≤ b.length := many_len (fun b v r h => rdTry_len h) h
theorem rdCap_many {b : List Nat} {l : List PV2} {r : List Nat} (h : rdMany rdCap b = some (l, r)) : r.length ≤ b.length := many_len (fun b v r h => rdCap_len h) h
theorem infoFn : (Tryz.prog.info? 47).map (·.size) = some 9 := by kernel_rfl
def zeroFn : List Value := [.string ⟨#[]⟩, .int .i64 0, .bool false, .bool false, .int .i64 0, .slice none 0 0, .slice none 0 0, .slice none 0 0, .slice none 0 0]
section
variable {rb bb : Nat} {w w' : World} {bs : List Nat}
theorem c_rfn (h : RS rb bb w bs) (hS : Spc w) (hrb : rb ≠ 0) (hbb : bb < w.heap.size) (hlen : bs.length ≤ 4194304) : Calls Tryz.prog 24 #[.pointer (some ⟨rb, 0, none⟩)] w fun e w' => KB (fun r => r = rb) w w' ∧ ((∃ f r cells, rdFn bs = some (f, r) ∧ e = .returned (.agg cells.toArray) ∧ FnR (w.heap.size + 1) w' f cells ∧ RS rb bb w' r ∧ r.length < bs.length) ∨ (rdFn bs = none ∧ e = .panicked wrongV)) := by
  obtain ⟨W1, hW1⟩ : ∃ W1, w.alloc (.cells zeroFn.toArray 47) = W1 := ⟨_, rfl⟩
  have hb1 : Below w.heap.size w W1 := by rw [← hW1]; exact (Below.refl _ w).alloc (Nat.le_refl _) _
  have d1 : W1.heap[w.heap.size]? = some (.cells zeroFn.toArray 47 (0, 0)) := by rw [← hW1]; exact heap_alloc_new w _
  have hR0 := h.below hb1
  have hS0 := hS.keep hb1
  have hmk : ∀ (fn : Fn) (first cap : Array Value) (y : World), (Instr.makeFunc fn first cap).run Tryz.prog y = .ok (.func fn first cap) y := fun _ _ _ _ => rfl
  have hkw : ∀ y, KB (fun r => r = rb) W1 y → KB (fun r => r = rb) w y := fun y hy => (KB.of_below hb1).trans hy
  have hord := Lib.hid (show ((rb < w.heap.size ∧ bb < w.heap.size) ∧ W1.heap.size = w.heap.size + 1) ∧ bs.length ≤ 4194304 from ⟨⟨⟨h.lt, hbb⟩, by rw [← hW1]; simp⟩, hlen⟩)
  have hSk := fun (y : World) (hy : KB (fun r => r = rb) W1 y) => hS0.kb hy (fun e => hrb e.symm)
  have hC1 := Lib.hid (c_rtext hR0)
  have hKz := Lib.hid (KB.refl (fun r => r = rb) W1)
  have hL0 := Lib.hid (Nat.le_refl bs.length)
  replace hkw := Lib.hid hkw
  replace hSk := Lib.hid hSk
  replace d1 := Lib.hid d1
  replace hmk := Lib.hid hmk
  unfold zeroFn at hW1
  clear h hS hS0 hR0 hb1 hbb hlen
  go_enter Tryz.func24, Tryz.ntmps24
  go_wp2_with fail
  refine hC1.out.mono ?_
  rintro e y1 ⟨hK1, ⟨s, r1, hn1, rfl, hR1⟩ | ⟨hn1, rfl⟩⟩
  · have hL1 := Lib.hid (show r1.length ≤ bs.length from by have a1 := rdText_len hn1; have a2 := hL0.out; omega)
    have hS1 := Lib.hid (show r1.length < bs.length from rdText_len hn1)
    have hKK1 := Lib.hid (hKz.out.trans hK1)
    have hC2 := Lib.hid (c_rnum hR1)
    replace hn1 := Lib.hid hn1
    clear hC1 hK1 hR1
    go_wp2_with fail
    refine hC2.out.mono ?_
    rintro e y2 ⟨hK2, ⟨p, r2, hn2, rfl, hR2⟩ | ⟨hn2, rfl⟩⟩
    · have hL2 := Lib.hid (show r2.length ≤ bs.length from by have a1 := rdNum_len hn2; have a2 := hL1.out; omega)
      have hKK2 := Lib.hid (hKK1.out.trans hK2)
      have hM2 := Lib.hid (show r2.length ≤ r1.length from by have a1 := rdNum_len hn2; omega)
      have hC3 := Lib.hid (c_rflag hR2)
      replace hn2 := Lib.hid hn2
      clear hC2 hK2 hR2
      go_wp2_with fail
      refine hC3.out.mono ?_
      rintro e y3 ⟨hK3, ⟨re, r3, hn3, rfl, hR3⟩ | ⟨hn3, rfl⟩⟩
      · have hL3 := Lib.hid (show r3.length ≤ bs.length from by have a1 := rdFlag_len hn3; have a2 := hL2.out; omega)
        have hKK3 := Lib.hid (hKK2.out.trans hK3)
        have hM3 := Lib.hid (show r3.length ≤ r2.length from by have a1 := rdFlag_len hn3; omega)
        have hC4 := Lib.hid (c_rflag hR3)
        replace hn3 := Lib.hid hn3
        clear hC3 hK3 hR3
        go_wp2_with fail
        refine hC4.out.mono ?_
        rintro e y4 ⟨hK4, ⟨ar, r4, hn4, rfl, hR4⟩ | ⟨hn4, rfl⟩⟩
        · have hL4 := Lib.hid (show r4.length ≤ bs.length from by have a1 := rdFlag_len hn4; have a2 := hL3.out; omega)
          have hKK4 := Lib.hid (hKK3.out.trans hK4)
          have hM4 := Lib.hid (show r4.length ≤ r3.length from by have a1 := rdFlag_len hn4; omega)
          have hC5 := Lib.hid (c_rnum hR4)
          replace hn4 := Lib.hid hn4
          clear hC4 hK4 hR4
          go_wp2_with fail
          refine hC5.out.mono ?_
          rintro e y5 ⟨hK5, ⟨g, r5, hn5, rfl, hR5⟩ | ⟨hn5, rfl⟩⟩
          · have hL5 := Lib.hid (show r5.length ≤ bs.length from by have a1 := rdNum_len hn5; have a2 := hL4.out; omega)
            have hKK5 := Lib.hid (hKK4.out.trans hK5)
            have hM5 := Lib.hid (show r5.length ≤ r4.length from by have a1 := rdNum_len hn5; omega)
            have hC6 := Lib.hid (c_manyV hR5 (hSk.out _ hKK5.out) hrb (by have := hord.out; have := hKK5.out.size; omega) (by have := hord.out; have := hL5.out; omega))
            replace hn5 := Lib.hid hn5
            clear hC5 hK5 hR5
            have hmk6 := hmk.out
            go_wp2_with fail
            clear hmk6
            refine hC6.out.mono ?_
            rintro e y6 ⟨hK6, ⟨c, r6, v6, hn6, rfl, ho6, hR6⟩ | ⟨hn6, rfl⟩⟩
            · have hL6 := Lib.hid (show r6.length ≤ bs.length from by have a1 := rdConst_many hn6; have a2 := hL5.out; omega)
              have hKK6 := Lib.hid (hKK5.out.trans hK6)
              have hM6 := Lib.hid (show r6.length ≤ r5.length from by have a1 := rdConst_many hn6; omega)
              have hC7 := Lib.hid (c_manyI hR6 (hSk.out _ hKK6.out) hrb (by have := hord.out; have := hKK6.out.size; omega) (by have := hord.out; have := hL6.out; omega))
              replace hn6 := Lib.hid hn6
              have ho6' := Lib.hid (own_le ho6 (B' := w.heap.size + 1) (by have := hord.out; have := hKK5.out.size; omega))
              clear hC6 hK6 hR6 ho6
              have hmk7 := hmk.out
              go_wp2_with fail
              clear hmk7
              refine hC7.out.mono ?_
              rintro e y7 ⟨hK7, ⟨i, r7, v7, hn7, rfl, ho7, hR7⟩ | ⟨hn7, rfl⟩⟩
              · have hL7 := Lib.hid (show r7.length ≤ bs.length from by have a1 := rdIns_many hn7; have a2 := hL6.out; omega)
                have hKK7 := Lib.hid (hKK6.out.trans hK7)
                have hM7 := Lib.hid (show r7.length ≤ r6.length from by have a1 := rdIns_many hn7; omega)
                have hC8 := Lib.hid (c_manyT hR7 (hSk.out _ hKK7.out) hrb (by have := hord.out; have := hKK7.out.size; omega) (by have := hord.out; have := hL7.out; omega))
                replace hn7 := Lib.hid hn7
                have ho7' := Lib.hid (own_le ho7 (B' := w.heap.size + 1) (by have := hord.out; have := hKK6.out.size; omega))
                replace ho6' := Lib.hid (own_kb ho6'.out hK7 (fun r hr => by have := hord.out; omega))
                clear hC7 hK7 hR7 ho7
                have hmk8 := hmk.out
                go_wp2_with fail
                clear hmk8
                refine hC8.out.mono ?_
                rintro e y8 ⟨hK8, ⟨t, r8, v8, hn8, rfl, ho8, hR8⟩ | ⟨hn8, rfl⟩⟩
                · have hL8 := Lib.hid (show r8.length ≤ bs.length from by have a1 := rdTry_many hn8; have a2 := hL7.out; omega)
                  have hKK8 := Lib.hid (hKK7.out.trans hK8)
                  have hM8 := Lib.hid (show r8.length ≤ r7.length from by have a1 := rdTry_many hn8; omega)
                  have hC9 := Lib.hid (c_manyC hR8 (hSk.out _ hKK8.out) hrb (by have := hord.out; have := hKK8.out.size; omega) (by have := hord.out; have := hL8.out; omega))
                  replace hn8 := Lib.hid hn8
                  have ho8' := Lib.hid (own_le ho8 (B' := w.heap.size + 1) (by have := hord.out; have := hKK7.out.size; omega))
                  replace ho6' := Lib.hid (own_kb ho6'.out hK8 (fun r hr => by have := hord.out; omega))
                  replace ho7' := Lib.hid (own_kb ho7'.out hK8 (fun r hr => by have := hord.out; omega))
                  clear hC8 hK8 hR8 ho8
                  have hmk9 := hmk.out
                  go_wp2_with fail
                  clear hmk9
                  refine hC9.out.mono ?_
                  rintro e y9 ⟨hK9, ⟨k, r9, v9, hn9, rfl, ho9, hR9⟩ | ⟨hn9, rfl⟩⟩
                  · have hL9 := Lib.hid (show r9.length ≤ bs.length from by have a1 := rdCap_many hn9; have a2 := hL8.out; omega)
                    have hKK9 := Lib.hid (hKK8.out.trans hK9)
                    have hM9 := Lib.hid (show r9.length ≤ r8.length from by have a1 := rdCap_many hn9; omega)
                    replace hn9 := Lib.hid hn9
                    have ho9' := Lib.hid (own_le ho9 (B' := w.heap.size + 1) (by have := hord.out; have := hKK8.out.size; omega))
                    replace ho6' := Lib.hid (own_kb ho6'.out hK9 (fun r hr => by have := hord.out; omega))
                    replace ho7' := Lib.hid (own_kb ho7'.out hK9 (fun r hr => by have := hord.out; omega))
                    replace ho8' := Lib.hid (own_kb ho8'.out hK9 (fun r hr => by have := hord.out; omega))
                    clear hC9 hK9 ho9
                    have hres : rdFn bs = some (⟨s, (p : Int), re, ar, (g : Int), c, i, t, k⟩, r9) := by unfold rdFn; simp [hn1.out, hn2.out, hn3.out, hn4.out, hn5.out, hn6.out, hn7.out, hn8.out, hn9.out]
                    have hlt : r9.length < bs.length := by have := hS1.out; have := hM2.out; have := hM3.out; have := hM4.out; have := hM5.out; have := hM6.out; have := hM7.out; have := hM8.out; have := hM9.out; omega
                    have hord2 := hord.out
                    have d9 := (hKK9.out.block _ (row_lt d1.out) (by omega)).trans d1.out
                    have t0 : y9.cell? ⟨w.heap.size, 0, none⟩ = some (.string ⟨#[]⟩) := by rw [cell_of_row _ _ 0 _ _ _ d9]; rfl
                    have f0 : y9.frozen? ⟨w.heap.size, 0, none⟩ = false := by simp [World.frozen?, d9]
                    have t1 : y9.cell? ⟨w.heap.size, 1, none⟩ = some (.int .i64 0) := by rw [cell_of_row _ _ 1 _ _ _ d9]; rfl
                    have f1 : y9.frozen? ⟨w.heap.size, 1, none⟩ = false := by simp [World.frozen?, d9]
                    have t2 : y9.cell? ⟨w.heap.size, 2, none⟩ = some (.bool false) := by rw [cell_of_row _ _ 2 _ _ _ d9]; rfl
                    have f2 : y9.frozen? ⟨w.heap.size, 2, none⟩ = false := by simp [World.frozen?, d9]
                    have t3 : y9.cell? ⟨w.heap.size, 3, none⟩ = some (.bool false) := by rw [cell_of_row _ _ 3 _ _ _ d9]; rfl
                    have f3 : y9.frozen? ⟨w.heap.size, 3, none⟩ = false := by simp [World.frozen?, d9]
                    have t4 : y9.cell? ⟨w.heap.size, 4, none⟩ = some (.int .i64 0) := by rw [cell_of_row _ _ 4 _ _ _ d9]; rfl
                    have f4 : y9.frozen? ⟨w.heap.size, 4, none⟩ = false := by simp [World.frozen?, d9]
                    have t5 : y9.cell? ⟨w.heap.size, 5, none⟩ = some (.slice none 0 0) := by rw [cell_of_row _ _ 5 _ _ _ d9]; rfl
                    have f5 : y9.frozen? ⟨w.heap.size, 5, none⟩ = false := by simp [World.frozen?, d9]
                    have t6 : y9.cell? ⟨w.heap.size, 6, none⟩ = some (.slice none 0 0) := by rw [cell_of_row _ _ 6 _ _ _ d9]; rfl
                    have f6 : y9.frozen? ⟨w.heap.size, 6, none⟩ = false := by simp [World.frozen?, d9]
                    have t7 : y9.cell? ⟨w.heap.size, 7, none⟩ = some (.slice none 0 0) := by rw [cell_of_row _ _ 7 _ _ _ d9]; rfl
                    have f7 : y9.frozen? ⟨w.heap.size, 7, none⟩ = false := by simp [World.frozen?, d9]
                    have t8 : y9.cell? ⟨w.heap.size, 8, none⟩ = some (.slice none 0 0) := by rw [cell_of_row _ _ 8 _ _ _ d9]; rfl
                    have f8 : y9.frozen? ⟨w.heap.size, 8, none⟩ = false := by simp [World.frozen?, d9]
                    replace hres := Lib.hid hres
                    replace d9 := Lib.hid d9
                    clear hord2
                    obtain ⟨p6, n6, c6, rfl⟩ := own_form ho6'.out
                    obtain ⟨p7, n7, c7, rfl⟩ := own_form ho7'.out
                    obtain ⟨p8, n8, c8, rfl⟩ := own_form ho8'.out
                    obtain ⟨p9, n9, c9, rfl⟩ := own_form ho9'.out
                    go_wp2
                    obtain ⟨cells, hcells⟩ : ∃ cells : List Value, cells = [.string s, .int .i64 (p : Int), .bool re, .bool ar, .int .i64 (g : Int), .slice p6 n6 c6, .slice p7 n7 c7, .slice p8 n8 c8, .slice p9 n9 c9] := ⟨_, rfl⟩
                    have hch : y9.setCells w.heap.size 0 cells = y9.setCells w.heap.size 0 [.string s, .int .i64 (p : Int), .bool re, .bool ar, .int .i64 (g : Int), .slice p6 n6 c6, .slice p7 n7 c7, .slice p8 n8 c8, .slice p9 n9 c9] := by rw [hcells]
                    have hl9 : cells.length = 9 := by rw [hcells]; rfl
                    have q1 := heap_setCells_all (t := 47) (vs := cells) d9.out (by rw [hl9]; rfl)
                    have hne : ∀ r, r ≠ w.heap.size → (y9.setCells w.heap.size 0 cells).heap[r]? = y9.heap[r]? := fun r hr => heap_setCells_ne cells 0 y9 hr
                    obtain ⟨z1, z2, z3, z4⟩ := size_setCellsH w.heap.size cells 0 y9
                    change bodyPost _ _ _ _ _ (y9.setCells w.heap.size 0 [.string s, .int .i64 (p : Int), .bool re, .bool ar, .int .i64 (g : Int), .slice p6 n6 c6, .slice p7 n7 c7, .slice p8 n8 c8, .slice p9 n9 c9])
                    rw [← hch]
                    refine bodyPost_ret (results_cell_row rfl _ _ w.heap.size 47 _ (0, 0) _ rfl q1 Tryz.underlying47 rfl (by rw [List.size_toArray, hl9]; exact infoFn)) rfl ?_
                    have hord2 := hord.out
                    have hKy := hkw.out _ hKK9.out
                    refine ⟨⟨z2.trans hKy.os, z3.trans hKy.tape, z4.trans hKy.output, by rw [z1]; exact hKy.size, fun r hr hn => (hne r (by omega)).trans (hKy.block r hr hn)⟩, .inl ⟨_, r9, cells, hres.out, rfl, ⟨_, _, _, _, hcells, ⟨own_set ho6'.out (by omega) hne, own_set ho7'.out (by omega) hne⟩, own_set ho8'.out (by omega) hne, own_set ho9'.out (by omega) hne⟩, hR9.turn (hne rb (by omega)) (hne bb (by omega)), hlt⟩⟩
                  · have hres : rdFn bs = none := by unfold rdFn; simp [hn1.out, hn2.out, hn3.out, hn4.out, hn5.out, hn6.out, hn7.out, hn8.out, hn9]
                    have hKw := hkw.out _ (hKK8.out.trans hK9)
                    replace hres := Lib.hid hres
                    replace hKw := Lib.hid hKw
                    clear hn9 hC9 hK9
                    go_wp2
                    exact ⟨rfl, hKw.out, .inr ⟨hres.out, rfl⟩⟩
                · have hres : rdFn bs = none := by unfold rdFn; simp [hn1.out, hn2.out, hn3.out, hn4.out, hn5.out, hn6.out, hn7.out, hn8]
                  have hKw := hkw.out _ (hKK7.out.trans hK8)
                  replace hres := Lib.hid hres
                  replace hKw := Lib.hid hKw
                  clear hn8 hC8 hK8
                  go_wp2
                  exact ⟨rfl, hKw.out, .inr ⟨hres.out, rfl⟩⟩
              · have hres : rdFn bs = none := by unfold rdFn; simp [hn1.out, hn2.out, hn3.out, hn4.out, hn5.out, hn6.out, hn7]
                have hKw := hkw.out _ (hKK6.out.trans hK7)
                replace hres := Lib.hid hres
                replace hKw := Lib.hid hKw
                clear hn7 hC7 hK7
                go_wp2
                exact ⟨rfl, hKw.out, .inr ⟨hres.out, rfl⟩⟩
            · have hres : rdFn bs = none := by unfold rdFn; simp [hn1.out, hn2.out, hn3.out, hn4.out, hn5.out, hn6]
              have hKw := hkw.out _ (hKK5.out.trans hK6)
              replace hres := Lib.hid hres
              replace hKw := Lib.hid hKw
              clear hn6 hC6 hK6
              go_wp2
              exact ⟨rfl, hKw.out, .inr ⟨hres.out, rfl⟩⟩
          · have hres : rdFn bs = none := by unfold rdFn; simp [hn1.out, hn2.out, hn3.out, hn4.out, hn5]
            have hKw := hkw.out _ (hKK4.out.trans hK5)
            replace hres := Lib.hid hres
            replace hKw := Lib.hid hKw
            clear hn5 hC5 hK5
            go_wp2
            exact ⟨rfl, hKw.out, .inr ⟨hres.out, rfl⟩⟩
        · have hres : rdFn bs = none := by unfold rdFn; simp [hn1.out, hn2.out, hn3.out, hn4]
          have hKw := hkw.out _ (hKK3.out.trans hK4)
          replace hres := Lib.hid hres
          replace hKw := Lib.hid hKw
          clear hn4 hC4 hK4
          go_wp2
          exact ⟨rfl, hKw.out, .inr ⟨hres.out, rfl⟩⟩
      · have hres : rdFn bs = none := by unfold rdFn; simp [hn1.out, hn2.out, hn3]
        have hKw := hkw.out _ (hKK2.out.trans hK3)
        replace hres := Lib.hid hres
        replace hKw := Lib.hid hKw
        clear hn3 hC3 hK3
        go_wp2
        exact ⟨rfl, hKw.out, .inr ⟨hres.out, rfl⟩⟩
    · have hres : rdFn bs = none := by unfold rdFn; simp [hn1.out, hn2]
      have hKw := hkw.out _ (hKK1.out.trans hK2)
      replace hres := Lib.hid hres
      replace hKw := Lib.hid hKw
      clear hn2 hC2 hK2
      go_wp2
      exact ⟨rfl, hKw.out, .inr ⟨hres.out, rfl⟩⟩
  · have hres : rdFn bs = none := by unfold rdFn; simp [hn1]
    have hKw := hkw.out _ (hKz.out.trans hK1)
    replace hres := Lib.hid hres
    replace hKw := Lib.hid hKw
    clear hn1 hC1 hK1
    go_wp2
    exact ⟨rfl, hKw.out, .inr ⟨hres.out, rfl⟩⟩
end
end Go.Proofs.YtjjogaenejdliaaGreatDoor
namespace Go.Proofs.YtjjogaenejdliaaGreatDoor
open Go.RowKit Go.Lib
set_option linter.unusedVariables false
set_option linter.unusedSimpArgs false
set_option maxHeartbeats 4000000
set_option maxRecDepth 100000

def Nb (o : Option Nat) (v : Value) : Prop := ∀ k, v.ownBlock = some k → o ≠ some k
/-- .. and they are none of a block o -/
def FnQ (B : Nat) (o : Option Nat) (w : World) (f : FV) (cells : List Value) : Prop := ∃ vc vi vt vk, cells = [.string f.name, .int .i64 f.params, .bool f.rest, .bool f.arrow, .int .i64 f.regs, vc, vi, vt, vk] ∧
  ((w.ownsRow B 51 4 vc f.consts.length (f.consts.flatMap encVV) ∧ w.ownsRow B 40 5 vi f.code.length (f.code.flatMap encI)) ∧ w.ownsRow B 96 4 vt f.tries.length (f.tries.flatMap encT) ∧ w.ownsRow B 98 2 vk f.caps.length (f.caps.flatMap encK)) ∧ (Nb o vc ∧ Nb o vi) ∧ Nb o vt ∧ Nb o vk
theorem own_turn {y y' : World} {B size n : Nat} {e : TypeId} {v : Value} {xs : List Value} (h : y.ownsRow B e size v n xs) (hk : ∀ k, B ≤ k → v.ownBlock = some k → k < y.heap.size → y'.heap[k]? = y.heap[k]?) : y'.ownsRow B e size v n xs := by
  refine ⟨h.1, ?_⟩
  rcases h.2 with h0 | ⟨g, cap, cur, hv, hb, hg, rest⟩
  · exact .inl h0
  · refine .inr ⟨g, cap, cur, hv, hb, (hk g hb (by rw [hv]; rfl) (row_lt hg)).trans hg, rest⟩
theorem own_lt {y : World} {B size n : Nat} {e : TypeId} {v : Value} {xs : List Value} (h : y.ownsRow B e size v n xs) : ∀ k, v.ownBlock = some k → k < y.heap.size := by
  intro k hk
  rcases h.2 with ⟨rfl, _⟩ | ⟨g, cap, cur, rfl, _, hg, _⟩
  · simp [Value.ownBlock] at hk
  · simp [Value.ownBlock] at hk
    subst hk
    exact row_lt hg
theorem FnQ.turn {B : Nat} {o o' : Option Nat} {y y' : World} {f : FV} {c : List Value} (h : FnQ B o y f c) (hk : ∀ k, B ≤ k → o ≠ some k → k < y.heap.size → y'.heap[k]? = y.heap[k]?) (ho : ∀ k, k < y.heap.size → o ≠ some k → o' ≠ some k) : FnQ B o' y' f c := by
  obtain ⟨vc, vi, vt, vk, rfl, ⟨⟨h1, h2⟩, h3, h4⟩, ⟨n1, n2⟩, n3, n4⟩ := h
  exact ⟨vc, vi, vt, vk, rfl, ⟨⟨own_turn h1 fun k hB he hl => hk k hB (n1 k he) hl, own_turn h2 fun k hB he hl => hk k hB (n2 k he) hl⟩, own_turn h3 fun k hB he hl => hk k hB (n3 k he) hl, own_turn h4 fun k hB he hl => hk k hB (n4 k he) hl⟩,
    ⟨fun k he => ho k (own_lt h1 k he) (n1 k he), fun k he => ho k (own_lt h2 k he) (n2 k he)⟩, fun k he => ho k (own_lt h3 k he) (n3 k he), fun k he => ho k (own_lt h4 k he) (n4 k he)⟩
theorem FnR.quiet {B B' : Nat} {o : Option Nat} {y : World} {f : FV} {c : List Value} (h : FnR B y f c) (hB : B' ≤ B) (ho : ∀ k, B ≤ k → k < y.heap.size → o ≠ some k) : FnQ B' o y f c := by
  obtain ⟨vc, vi, vt, vk, rfl, ⟨h1, h2⟩, h3, h4⟩ := h
  exact ⟨vc, vi, vt, vk, rfl, ⟨⟨own_le h1 hB, own_le h2 hB⟩, own_le h3 hB, own_le h4 hB⟩,
    ⟨fun k he => ho k (own_blk h1 k he) (own_lt h1 k he), fun k he => ho k (own_blk h2 k he) (own_lt h2 k he)⟩, fun k he => ho k (own_blk h3 k he) (own_lt h3 k he), fun k he => ho k (own_blk h4 k he) (own_lt h4 k he)⟩
theorem FnQ.cells {B : Nat} {o : Option Nat} {y : World} {f : FV} {c : List Value} (h : FnQ B o y f c) : c.length = 9 ∧ ∀ u ∈ c, u.oneCell' = true := by
  obtain ⟨vc, vi, vt, vk, rfl, ⟨⟨h1, h2⟩, h3, h4⟩, _⟩ := h
  obtain ⟨_, _, _, rfl⟩ := own_form h1
  obtain ⟨_, _, _, rfl⟩ := own_form h2
  obtain ⟨_, _, _, rfl⟩ := own_form h3
  obtain ⟨_, _, _, rfl⟩ := own_form h4
  refine ⟨rfl, fun u hu => ?_⟩
  simp at hu
  rcases hu with rfl | rfl | rfl | rfl | rfl | rfl | rfl | rfl | rfl <;> rfl
/-- functions and their cells -/
inductive FnL (B : Nat) (o : Option Nat) (w : World) : List FV → List (List Value) → Prop where
  | nil : FnL B o w [] []
  | snoc {fs cs f c} : FnL B o w fs cs → FnQ B o w f c → FnL B o w (fs ++ [f]) (cs ++ [c])
theorem FnL.turn {B : Nat} {o o' : Option Nat} {y y' : World} {fs : List FV} {cs : List (List Value)} (h : FnL B o y fs cs) (hk : ∀ k, B ≤ k → o ≠ some k → k < y.heap.size → y'.heap[k]? = y.heap[k]?) (ho : ∀ k, k < y.heap.size → o ≠ some k → o' ≠ some k) : FnL B o' y' fs cs := by
  induction h with
  | nil => exact .nil
  | snoc _ hq ih => exact .snoc ih (hq.turn hk ho)
theorem FnL.le {B B' : Nat} {o : Option Nat} {y : World} {fs : List FV} {cs : List (List Value)} (h : FnL B o y fs cs) (hB : B' ≤ B) : FnL B' o y fs cs := by
  induction h with
  | nil => exact .nil
  | snoc _ hq ih =>
    obtain ⟨vc, vi, vt, vk, rfl, ⟨⟨h1, h2⟩, h3, h4⟩, hn⟩ := hq
    exact .snoc ih ⟨vc, vi, vt, vk, rfl, ⟨⟨own_le h1 hB, own_le h2 hB⟩, own_le h3 hB, own_le h4 hB⟩, hn⟩
theorem FnL.len {B : Nat} {o : Option Nat} {y : World} {fs : List FV} {cs : List (List Value)} (h : FnL B o y fs cs) : cs.flatten.length = fs.length * 9 := by
  induction h with
  | nil => rfl
  | snoc _ hq ih => simp [ih, hq.cells.1]; omega
theorem infoFnX : (Tryz.prog.info? 47).map (fun i => (i.zero, i.size, i.bytes)) = some (some (.agg #[.string ⟨#[]⟩, .int .i64 0, .bool false, .bool false, .int .i64 0, .slice none 0 0, .slice none 0 0, .slice none 0 0, .slice none 0 0]), 9, 136) := by kernel_rfl
theorem rdFn_len {b : List Nat} {f : FV} {r : List Nat} (h : rdFn b = some (f, r)) : r.length < b.length := by
  unfold rdFn at h
  simp only [Option.bind_eq_some_iff, Prod.exists] at h
  obtain ⟨s, r1, h1, p, r2, h2, u, r3, h3, a, r4, h4, g, r5, h5, c, r6, h6, i, r7, h7, t, r8, h8, k, r9, h9, h⟩ := h
  injection h with h
  injection h with _ h
  subst h
  have := rdText_len h1
  have := rdNum_len h2
  have := rdFlag_len h3
  have := rdFlag_len h4
  have := rdNum_len h5
  have := rdConst_many h6
  have := rdIns_many h7
  have := rdTry_many h8
  have := rdCap_many h9
  omega
end Go.Proofs.YtjjogaenejdliaaGreatDoor
namespace Go.Proofs.YtjjogaenejdliaaGreatDoor
open Go.RowKit Go.Lib
set_option linter.unusedVariables false
set_option linter.unusedSimpArgs false
set_option maxHeartbeats 4000000
set_option maxRecDepth 100000

section
variable {rb bb : Nat} {w w' : World} {bs : List Nat}
theorem c_manyF (h : RS rb bb w bs) (hS : Spc w) (hrb : rb ≠ 0) (hbb : bb < w.heap.size) (hlen : bs.length ≤ 4194304) : Calls Tryz.prog 23 #[.pointer (some ⟨rb, 0, none⟩), .func (.func 24) #[.pointer (some ⟨rb, 0, none⟩)] #[]] w fun e w' => KB (fun r => r = rb) w w' ∧ ((∃ fs r v cs, rdMany rdFn bs = some (fs, r) ∧ e = .returned v ∧ w'.ownsRow w.heap.size 47 9 v fs.length cs.flatten ∧ FnL w.heap.size v.ownBlock w' fs cs ∧ RS rb bb w' r ∧ fs.length ≤ bs.length) ∨ (rdMany rdFn bs = none ∧ e = .panicked wrongV)) := by
  have hN := c_rnum h
  have hlr := h.lt
  obtain ⟨i0, hi0, hz0, hz1, hz2⟩ := info_parts infoFnX
  replace hN := Lib.hid hN
  replace hS := Lib.hid hS
  have hord := Lib.hid (show (rb < w.heap.size ∧ bb < w.heap.size) ∧ bs.length ≤ 4194304 from ⟨⟨hlr, hbb⟩, hlen⟩)
  clear h hlr hbb hlen
  go_enter Tryz.func23, Tryz.ntmps23
  go_wp2_with fail
  refine hN.out.mono ?_
  rintro e y1 ⟨hK1, ⟨n, r1, hn, rfl, hR1⟩ | ⟨hn, rfl⟩⟩
  · have h63 := (rdNum_some hn).1
    have e63 : (2 : Nat) ^ 63 = 9223372036854775808 := by decide
    rw [e63] at h63
    have hl1 := rdNum_len hn
    have hmany : rdMany rdFn bs = rdTimes rdFn n r1 := by unfold rdMany; rw [hn]
    replace hmany := Lib.hid hmany
    replace hR1 := Lib.hid hR1
    replace hK1 := Lib.hid hK1
    replace hl1 := Lib.hid hl1
    clear hn hN e63
    go_wp2_with fail
    go_loopg [5, 6] n (fun g v5 v6 wr => ∃ acc r2 cs, v6 = .int .i64 (g : Int) ∧ rdPre rdFn n r1 g acc r2 ∧ RS rb bb wr r2 ∧ KB (fun r => r = rb) w wr ∧ wr.ownsRow w.heap.size 47 9 v5 acc.length (List.flatten cs) ∧ FnL w.heap.size v5.ownBlock wr acc cs ∧ acc.length + r2.length ≤ bs.length ∧ g ≤ n)
    case atStart => exact ⟨[], r1, [], rfl, rdPre_start _ _ _, hR1.out, hK1.out, World.ownsRow_nil _ _ _ _, .nil, by have := hl1.out; simp; omega, Nat.le_refl _⟩
    case round =>
      obtain ⟨acc, r2, cs, rfl, hpr, hRr, hKr, hown, hL, hacc, hgn⟩ := hrel
      cases gk with
      | zero =>
        have hend := rdPre_end hpr
        have hres : rdMany rdFn bs = some (acc, r2) := by rw [hmany.out, hend]
        replace hres := Lib.hid hres
        replace hown := Lib.hid hown
        have hacl := Lib.hid (show acc.length ≤ bs.length by omega)
        clear hend hpr hacc
        go_wp2
        go_ret
        exact ⟨hKr, .inl ⟨acc, r2, _, cs, hres.out, rfl, hown.out, hL, hRr, hacl.out⟩⟩
      | succ g =>
        have hOne := c_rfn hRr (hS.out.kb hKr (fun e => hrb e.symm)) hrb (by have := hord.out; have := hKr.size; omega) (by have := hord.out; omega)
        have p0 : (0 : Int) < ((g + 1 : Nat) : Int) := by omega
        have hw1 : IntKind.i64.wrap (((g + 1 : Nat) : Int) - 1) = (g : Int) := by rw [IntKind.wrap_i64]; omega
        replace hOne := Lib.hid hOne
        replace hKr := Lib.hid hKr
        replace hown := Lib.hid hown
        replace hpr := Lib.hid hpr
        replace hacc := Lib.hid hacc
        have hwr := Lib.hid (own_lt hown.out)
        clear hRr
        go_wp2_with fail
        refine hOne.out.mono ?_
        rintro e y2 ⟨hK2, ⟨x, r3, cx, hx, rfl, hFx, hR3, hlx⟩ | ⟨hx, rfl⟩⟩
        · have hord2 := hord.out
          have hKK := hKr.out.trans hK2
          have hsz := hKK.size
          have hsz2 := hK2.size
          have hsz1 := hKr.out.size
          have hacc2 := hacc.out
          have hown2 := (own_kb hown.out hK2 (fun r hr => by omega)).alloc (.cells cx.toArray 47)
          have hpr2 := Lib.hid (rdPre_next hpr.out hx)
          have hla : acc.length ≤ 4194304 := by omega
          have hQ0 := hFx.quiet (B' := w.heap.size) (o := u5.ownBlock) (by omega) (fun k h1 h2 he => by have := hwr.out k he; omega)
          obtain ⟨hc9, ho1⟩ := hQ0.cells
          have hL2 := hL.turn (o' := u5.ownBlock) (y' := y2) (fun k hB he hl => hK2.block k hl (fun (e : k = rb) => by omega)) (fun k _ h => h)
          replace hKK := Lib.hid hKK
          replace hacc2 := Lib.hid (show (acc ++ [x]).length + r3.length ≤ bs.length by simp; omega)
          have hfl : cs.flatten ++ cx = (cs ++ [cx]).flatten := by simp
          have hln : acc.length + 1 = (acc ++ [x]).length := by simp
          have hnw := World.news_of_block (cs := cx.toArray) (t := 47) (fr := (0, 0)) (heap_alloc_new y2 (.cells cx.toArray 47))
          have hform : ∃ a0 a1 a2 a3 a4 q5 q6 q7 q8 q9 q10 q11 q12 q13 q14 q15 q16, cx = [.string a0, .int .i64 a1, .bool a2, .bool a3, .int .i64 a4, .slice q5 q6 q7, .slice q8 q9 q10, .slice q11 q12 q13, .slice q14 q15 q16] := by
            obtain ⟨vc, vi, vt, vk, rfl, ⟨h1, h2⟩, h3, h4⟩ := hFx
            obtain ⟨_, _, _, rfl⟩ := own_form h1
            obtain ⟨_, _, _, rfl⟩ := own_form h2
            obtain ⟨_, _, _, rfl⟩ := own_form h3
            obtain ⟨_, _, _, rfl⟩ := own_form h4
            exact ⟨_, _, _, _, _, _, _, _, _, _, _, _, _, _, _, _, _, rfl⟩
          replace hfl := Lib.hid hfl
          replace hln := Lib.hid hln
          replace hL2 := Lib.hid hL2
          replace hQ0 := Lib.hid hQ0
          have hszs := Lib.hid (show w.heap.size ≤ wr.heap.size ∧ wr.heap.size ≤ y2.heap.size from ⟨hsz1, hsz2⟩)
          clear hx hOne hK2 hlx hacc hpr hown hord2 hFx hL hsz1 hsz2
          obtain ⟨a0, a1, a2, a3, a4, q5, q6, q7, q8, q9, q10, q11, q12, q13, q14, q15, q16, rfl⟩ := hform
          go_wp2_with (at_builtin; refine wpList_append_lies _ (by rfl) _ _ _ (by rfl) w.heap.size 47 i0 _ 9 136 Tryz.underlying22 hi0 hz0 hz1 hz2 rfl (by omega) u5 acc.length (List.flatten cs) (by rfl) hown2 ⟨y2.heap.size, 0, none⟩ 1 1 _ (by rfl) (by rfl) hnw ho1 (by omega) (by unfold maxLen; omega) (by omega) (by simp; omega) (y2.heap.size + 1) (by simp) ?_; intro gg cap w5 hown5 hg5 hat5 hlt5)
          go_roundg g
          case measure => exact Nat.lt_succ_self _
          case rel =>
            have hord2 := hord.out
            have hblk := own_blk hown2
            have hol := hwr.out
            have hs2 := hszs.out
            have hnew : ∀ k, k < y2.heap.size → u5.ownBlock ≠ some k → (Value.slice (some ⟨gg, 0, none⟩) (acc.length + 1) cap).ownBlock ≠ some k := fun k hk hne he => by
              have : gg = k := by simpa [Value.ownBlock] using he
              subst this
              rcases hat5 with h | h
              · exact hne h
              · omega
            have hkeep : ∀ k, w.heap.size ≤ k → u5.ownBlock ≠ some k → k < y2.heap.size → w5.heap[k]? = y2.heap[k]? := fun k _ hne hl => by
              refine (hg5.block k (by simp; omega) (fun e => hne e.symm)).trans (Below.heap_alloc _ _ _ hl)
            refine ⟨acc ++ [x], r3, cs ++ [_], rfl, hpr2.out, ?_, ?_, ?_, .snoc (hL2.out.turn hkeep hnew) (hQ0.out.turn hkeep hnew), hacc2.out, by omega⟩
            · exact ((hR3.below ((Below.refl _ y2).alloc (Nat.le_refl _) _))).grown hg5 hblk hord2.1.1 hord2.1.2 (by simp; omega)
            · exact (hKK.out.trans (KB.alloc _)).grown hg5 hblk
            · rw [← hfl.out, ← hln.out]; exact hown5
        · have hres : rdMany rdFn bs = none := by rw [hmany.out, rdPre_none hpr.out hx]
          have hKK := hKr.out.trans hK2
          replace hres := Lib.hid hres
          replace hKK := Lib.hid hKK
          clear hx hOne hK2 hpr
          go_wp2
          exact ⟨rfl, hKK.out, .inr ⟨hres.out, rfl⟩⟩
  · have hres : rdMany rdFn bs = none := by unfold rdMany; rw [hn]
    replace hres := Lib.hid hres
    replace hK1 := Lib.hid hK1
    clear hn hN
    go_wp2
    exact ⟨rfl, hK1.out, .inr ⟨hres.out, rfl⟩⟩
end
end Go.Proofs.YtjjogaenejdliaaGreatDoor
namespace Go.Proofs.YtjjogaenejdliaaGreatDoor
open Go.RowKit Go.Lib
set_option linter.unusedVariables false
set_option linter.unusedSimpArgs false
set_option maxHeartbeats 4000000
set_option maxRecDepth 100000

theorem catch_idle (p : Addr) (w : World) :
    CallsD Tryz.prog 35 #[.pointer (some p)] .returning w fun e u' w' => e = .returned (.tuple #[]) ∧ u' = .returning ∧ w' = w := by
  refine callsD_of_wpS Tryz.func35 rfl fun c₀ cs hu => ?_
  apply wpS_seq
  apply wpS_region
  simp [wpOpsS, go_sem, recoverD, hu, Tryz.ntmps35, Exit.thenS]
  refine wpS_of_wp ?_
  simp [Array.replicate, List.replicate]
  go_wp2
  cases c₀
  simp_all [bodyPostS, results, Tryz.results35]
theorem catch_wrong (b : Nat) (x : Int) (w : World) (hh : w.heap[b]? = some (.cells #[.int .i64 x] 28 (0, 0))) :
    CallsD Tryz.prog 35 #[.pointer (some ⟨b, 0, none⟩)] (.panicking wrongV) w fun e u' w' =>
      e = .returned (.tuple #[]) ∧ u' = .panicking [{ v := .iface 89 (.agg #[]), recovered := true }] ∧ w' = (w.alloc (.cells #[] 89)).setCell ⟨b, 0, none⟩ (.int .i64 110) := by
  unfold wrongV
  refine callsD_of_wpS Tryz.func35 rfl fun c₀ cs hu => ?_
  apply wpS_seq
  apply wpS_region
  simp [wpOpsS, go_sem, recoverD, hu, Tryz.ntmps35, Exit.thenS]
  refine wpS_of_wp ?_
  simp [Array.replicate, List.replicate]
  have hh2 : (w.alloc (.cells #[] 89)).heap[b]? = some (.cells #[.int .i64 x] 28 (0, 0)) := (Below.heap_alloc _ _ _ (row_lt hh)).trans hh
  have hc : (w.alloc (.cells #[] 89)).cell? ⟨b, 0, none⟩ = some (.int .i64 x) := by rw [cell_of_row _ _ 0 _ _ _ hh2]; rfl
  have hz : (w.alloc (.cells #[] 89)).frozen? ⟨b, 0, none⟩ = false := by simp [World.frozen?, hh2]
  clear hh hh2
  have hta : (Instr.typeAssert (.iface 89 (.agg #[])) 20 89 true).run Tryz.prog w = .ok (.tuple #[.agg #[], .bool true]) w := by kernel_rfl
  go_wp2
  simp [bodyPostS, results, Tryz.results35]
end Go.Proofs.YtjjogaenejdliaaGreatDoor
