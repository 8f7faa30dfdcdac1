/-
  Contracts: The reference's heap: Keys, Make. The reference's heap: Make. The reference's heap: lists of slots that are copied and put behind one another; Put of a key that is there. The reference's heap: Put. A law for a region that draws its order and ends with a store: what yields under S is taken first; behind the operation n, for which what is taken is waited, S is not asked. The reference's heap: Put of a new key.
-/
import Derived.Test.YtoccmiinkfhohaaOO12
import Derived.Deep.RegionLawGrows
import Derived.Laws.OwnMore
import Derived.Deep.RegionHeld
import Derived.Test.YtoccmiinkfhohaaProg
namespace Go.Proofs.Ytoccmiinkfhohaa
open Go.RowKit Go.Shelf Go.Lib Go.Sort Go.Proofs Go.Maps
set_option maxHeartbeats 4000000
set_option maxRecDepth 100000

def rawK (r : List (KK × PV)) : List KK := r.map Prod.fst
theorem rawK_next {r : List (KK × PV)} {i : Nat} {x : KK × PV} (h : r[i]? = some x) : rawK (r.take (i + 1)) = rawK (r.take i) ++ [x.1] := by
  unfold rawK
  rw [take_get h, List.map_append]; rfl
theorem c_RKeys0F {w : World} {f : Nat → Nat} {rb : Nat} {lim : Int} {R : List OB} (h : RefO w f rb lim R) (o : Int) (ho : hasH R o = false) :
    Calls Try.prog 58 #[ptrV rb, .int .i64 o] w fun e w' => ∃ v Z, e = .returned v ∧ RdK w' v Z ∧ KeysOf [] Z ∧ Below w.heap.size w w' ∧ ∀ p n c, v = .slice (some p) (n + 1) c → w.heap.size ≤ p.block := by
  have hH := c_RHas h o
  rw [ho] at hH
  have hO := c_Order4F (.slice none 0 0) [] (by simp) (fun x hx => by cases hx) w (.inl ⟨rfl, rfl⟩)
  replace hH := Lib.hid hH
  replace hO := Lib.hid hO
  clear h ho
  go_enter Try.func58, Try.ntmps58
  go_wp2_with (first | (go_at_call 12; refine hH.out.mono ?_; rintro e w1 ⟨rfl, e1⟩; cases e1) | (go_at_call 78; refine hO.out.mono ?_; rintro e w2 ⟨v', Z, rfl, z1, z2, z3, z4, z5⟩; replace z1 := Lib.hid z1; replace z2 := Lib.hid z2; replace z3 := Lib.hid z3; replace z4 := Lib.hid z4; replace z5 := Lib.hid z5))
  go_ret
  exact ⟨v', Z, rfl, z1.out, ⟨[], rfl, z2.out, z3.out, fun x hx => by have := eqv_mem z3.out hx; cases this⟩, z4.out, z5.out⟩
theorem c_RKeys1F {w : World} {f : Nat → Nat} {rb : Nat} {lim : Int} {R : List OB} (h : RefO w f rb lim R) (o : Nat) (a : OB) (h0 : 0 < o) (ho : R[o - 1]? = some a) (hal : a.l.length ≤ 100000) :
    Calls Try.prog 58 #[ptrV rb, .int .i64 (o : Int)] w fun e w' => ∃ v Z, e = .returned v ∧ RdK w' v Z ∧ KeysOf (gk a.l) Z ∧ Below w.heap.size w w' ∧ ∀ p n c, v = .slice (some p) (n + 1) c → w.heap.size ≤ p.block := by
  have hH := c_RHas h (o : Int)
  rw [hasH_of h0 ho] at hH
  obtain ⟨g, c, sv, ⟨_, c1⟩, ⟨l1, l2, _⟩, _, hs, ⟨p1, p2⟩, ⟨_, _, _, d3⟩, _, _⟩ := h.upd h0 ho
  obtain ⟨r, r1, r2, r3⟩ := hs
  obtain ⟨q, cp, rfl, hq⟩ := SlotsO.form r1
  have hel : r.length ≤ 100000 := by rw [← List.length_map (f := fun x : KK × PV => (pk x.1, x.2)), r2]; exact hal
  have hgk : (rawK r).map pk = gk a.l := by rw [← r2]; unfold gk rawK; rw [List.map_map, List.map_map]; rfl
  have rr : ∀ (i : Nat) x, r[i]? = some x → ∃ g2, q = some ⟨g2, 0, none⟩ ∧ g2 < w.heap.size ∧ w.rangeAt g2 (i * 15) (encL x) := by
    intro i x hx
    obtain ⟨g2, e1, e2⟩ := hq (by have := (List.getElem?_eq_some_iff.1 hx).1; omega)
    subst e1
    obtain ⟨g3, cap, e3, _, _⟩ := r1.1.form (by have := (List.getElem?_eq_some_iff.1 hx).1; omega)
    injection e3 with e3 e4 e5
    injection e3 with e3
    injection e3 with e3
    subst e3
    subst e5
    exact ⟨_, rfl, e2, rangeL r1.1 hx⟩
  have hokR : ∀ x ∈ rawK r, okK x := fun x hx => by
    obtain ⟨y, hy, rfl⟩ := List.mem_map.1 hx
    exact r3 y hy
  obtain ⟨i0, hi0, hz0, hz1, hz2⟩ := info_parts infoKey
  have hkO : ∀ (y : World) (v : Value), RdK y v (rawK r) → Calls Try.prog 78 #[v] y fun e w' => ∃ v' Z, e = .returned v' ∧ RdK w' v' Z ∧ KeysOf (gk a.l) Z ∧ Below y.heap.size y w' ∧ ∀ p n c, v' = .slice (some p) (n + 1) c → y.heap.size ≤ p.block := by
    intro y v k1
    refine (c_Order4F v (rawK r) (by unfold rawK; rw [List.length_map]; omega) (fun x hx => (hokR x hx).1) y k1).mono ?_
    rintro e w' ⟨v', Z, rfl, z1, z2, z3, z4, z5⟩
    exact ⟨v', Z, rfl, z1, ⟨rawK r, hgk, z2, z3, fun x hx => hokR x (eqv_mem z3 hx)⟩, z4, z5⟩
  unfold ptrV
  replace hH := Lib.hid hH
  replace rr := Lib.hid rr
  replace hkO := Lib.hid hkO
  clear h ho r1 r2 r3 hq hal hgk hokR
  go_enter Try.func58, Try.ntmps58
  go_wp2_with (first | (go_at_call 12; refine hH.out.mono ?_; rintro e w1 ⟨rfl, e1⟩; cases e1))
  go_loopw [5, 20] (fun v vi wr => ∃ i : Nat, i ≤ r.length ∧ vi = .int .i64 (i : Int) ∧ wr.ownsRow w.heap.size 32 2 v (rawK (r.take i)).length (flatK (rawK (r.take i))) ∧ Below w.heap.size w wr) (fun _ vi _ => r.length - (intOf vi).toNat)
  case atStart => exact ⟨0, by omega, rfl, ⟨rfl, .inl ⟨rfl, rfl⟩⟩, Below.refl _ _⟩
  case round =>
    obtain ⟨i, hi, rfl, hown, hbel⟩ := hrel
    rcases Nat.lt_or_ge i r.length with hlt | hge
    · obtain ⟨x, hx⟩ : ∃ x, r[i]? = some x := ⟨_, List.getElem?_eq_getElem hlt⟩
      obtain ⟨g2, rfl, lg2, hrg⟩ := rr.out i x hx
      replace hrg := range_at hrg (hbel.block g2 lg2)
      have hi15 : (Try.prog.info? 89).map (·.size) = some (encL x).length := infoSlotL
      have hj15 : (Try.prog.info? 89).map (·.size) = some (encL x).toArray.size := infoSlotL
      have ho15 := all_oneCell_toArray (encL_one x)
      have q1 : (0 : Int) ≤ (i : Int) := by omega
      have q2 : (i : Int) < (r.length : Int) := by omega
      have hfs := fresh_cellsL (w := wr) x
      have hth : (wr.alloc (.cells zeroL 89)).there wr.heap.size 0 (encL x).toArray.size := zeroL_there wr
      have htk := rawK_next hx
      have hlk : (rawK (r.take i)).length ≤ i := by unfold rawK; rw [List.length_map]; exact List.length_take_le _ _
      have hsz := hbel.size
      obtain ⟨⟨k0, kn⟩, px⟩ := x
      dsimp only at *
      generalize encL ((k0, kn), px) = E at *
      replace hfs := Lib.hid hfs
      replace htk := Lib.hid htk
      replace hlk := Lib.hid hlk
      replace hown := Lib.hid hown
      replace hbel := Lib.hid hbel
      clear hx hH
      have tokA : True := trivial
      have tokB : True := trivial
      go_wp2_with (first | (clear tokA; refine wpList_load_mid rfl 89 (.tmp 22) rfl g2 (i * 15) rfl E _ hrg Try.underlying89 rfl hi15 ?_) | (clear tokB; refine wpList_store_mid rfl 89 (.tmp 7) (.tmp 23) rfl wr.heap.size 0 E.toArray rfl rfl hth hj15 ho15 ?_; obtain ⟨hb4, d0, d1⟩ := hfs.out; generalize hW4 : World.setCells _ _ _ _ = W4; rw [show (wr.alloc (.cells zeroL 89)).setCells wr.heap.size 0 E = W4 from hW4] at hb4 d0 d1; clear hW4 hth hrg; have hown4 := own_at hown.out fun r hr => hb4.block r (hown.out.lt r hr).2; have hs4 := Nat.le_trans hsz hb4.size; replace hb4 := Lib.hid hb4) | (at_builtin; refine wpList_append_lies _ (by rfl) _ _ _ (by rfl) w.heap.size 32 i0 _ 2 24 Try.underlying51 hi0 hz0 hz1 hz2 rfl (by omega) u5 (rawK (r.take i)).length (flatK (rawK (r.take i))) (by rfl) (hown4.alloc _) ⟨_, 0, none⟩ 1 1 [.string k0, .int .i64 kn] (by rfl) (by rfl) (World.news_of_block (cs := #[.string k0, .int .i64 kn]) (t := 32) (fr := (0, 0)) (by exact heap_alloc_new _ _)) (by simp [Value.oneCell']) (by omega) (by have := hlk.out; unfold maxLen; omega) (by have := hlk.out; omega) (by simp; omega) _ rfl ?_; intro gg cap w5 hown5 hgrow hat hlt5; have hbel5 := Lib.hid (((hbel.out.trans (hb4.out.mono hsz)).alloc hs4 _).grown hgrow (by simp; omega) (own_base hown.out)); clear hgrow hat hlt5))
      go_roundw
      case rel =>
        refine ⟨i + 1, by omega, by go_num, ?_, hbel5.out⟩
        rw [htk.out]
        simpa [flatK_app, flatK, encK] using hown5
      case measure => simp [intOf]; omega
    · obtain rfl : i = r.length := by omega
      rw [List.take_length] at hown
      have hrd := own_rdk hown
      replace hrd := Lib.hid hrd
      replace hbel := Lib.hid hbel
      clear hown hH
      go_wp2_with (first | (go_at_call 78; refine (hkO.out _ _ hrd.out).mono ?_; rintro e w2 ⟨v', Z, rfl, z1, z2, z4, z5⟩; replace z1 := Lib.hid z1; replace z2 := Lib.hid z2; replace z4 := Lib.hid z4; replace z5 := Lib.hid z5))
      go_ret
      exact ⟨_, Z, rfl, z1.out, z2.out, hbel.out.trans (z4.out.mono hbel.out.size), fun p n c h => Nat.le_trans hbel.out.size (z5.out p n c h)⟩
theorem c_RKeysF {w : World} {f : Nat → Nat} {rb : Nat} {lim : Int} {R : List OB} (h : RefO w f rb lim R) (hR : ∀ a ∈ R, a.l.length ≤ 100000) (o : Int) :
    Calls Try.prog 58 #[ptrV rb, .int .i64 o] w fun e w' => ∃ v Z, e = .returned v ∧ RdK w' v Z ∧ KeysOf (gk (listH R o)) Z ∧ Below w.heap.size w w' ∧ ∀ p n c, v = .slice (some p) (n + 1) c → w.heap.size ≤ p.block := by
  unfold listH
  rcases objH_cases R o with ⟨h1, h2⟩ | ⟨n, a, rfl, h0, ha, h3, h4⟩
  · rw [h2]
    exact c_RKeys0F h o h1
  · rw [h3]
    exact c_RKeys1F h n a h0 ha (hR a (List.mem_of_getElem? ha))
theorem c_RKeys {w : World} {f : Nat → Nat} {rb : Nat} {lim : Int} {R : List OB} (h : RefO w f rb lim R) (hR : ∀ a ∈ R, a.l.length ≤ 100000) (o : Int) :
    Calls Try.prog 58 #[ptrV rb, .int .i64 o] w fun e w' => ∃ v Z, e = .returned v ∧ RdK w' v Z ∧ KeysOf (gk (listH R o)) Z ∧ Below w.heap.size w w' :=
  (c_RKeysF h hR o).mono fun _ _ ⟨v, Z, h1, h2, h3, h4, _⟩ => ⟨v, Z, h1, h2, h3, h4⟩
end Go.Proofs.Ytoccmiinkfhohaa
namespace Go.Proofs.Ytoccmiinkfhohaa
open Go.RowKit Go.Shelf Go.Lib Go.Sort Go.Proofs Go.Maps
set_option maxHeartbeats 4000000
set_option maxRecDepth 100000

theorem rmake_done {w w5 : World} {f : Nat → Nat} {rb gg cap n : Nat} {lim cls pro : Int} {R : List OB} {rv : Value} {xs : List RO} {sb : Obj} (hN : Norm f w) (h1 : w.heap[rb]? = some (.cells #[.int .i64 lim, rv] 46 (0, 0)) ∧ f rb = 6) (h2 : RowO w f 7 49 4 rv xs.length (flatR xs)) (h3 : xs.map Prod.fst = zeroOB :: R) (h4 : ∀ x ∈ xs, SlotsO w f x.2 x.1.l)
    {Y : World} (hY : Below w.heap.size w Y) (hg : (Y.alloc sb).grownBy w5 rv.ownBlock) (hat : rv.ownBlock = some gg ∨ Y.heap.size ≤ gg) (hn : n = xs.length)
    (hown : w5.ownsRow 0 49 4 (.slice (some ⟨gg, 0, none⟩) (n + 1) cap) (n + 1) (flatR xs ++ [.int .i64 cls, .int .i64 pro, .bool false, .slice none 0 0])) :
    RefT w f rb lim (R ++ [⟨cls, pro, false, false, []⟩]) (w5.setCell ⟨rb, 1, none⟩ (.slice (some ⟨gg, 0, none⟩) (n + 1) cap)) := by
  subst hn
  have s1 : (Y.alloc sb).heap.size = Y.heap.size + 1 := by simp
  have k5 : ∀ r, r < w.heap.size → (∀ k, rv.ownBlock = some k → r ≠ k) → w5.heap[r]? = w.heap[r]? := fun r hr hk => by
    have h' := hY.size
    rw [hg.block r (by omega) (fun e => hk r e.symm rfl), Below.heap_alloc _ _ _ (by omega)]
    exact hY.block r hr
  have t1 : Turn (fun c => c = 7) f (give f w w5 (fun r => if r = gg then 7 else 0)) w w5 := (Turn.refl _ hN).give _ (hg.os.trans hY.os) (hg.tape.trans hY.tape) (hg.output.trans hY.output) (Nat.le_trans hY.size (by have := hg.size; omega)) (fun r hr hc => k5 r hr (fun k hk e => hc (by rw [e]; exact h2.2 k hk)))
  have lr := heapH_lt h1.1
  have f1 : give f w w5 (fun r => if r = gg then 7 else 0) rb = 6 := by rw [give_old lr]; exact h1.2
  have f3 : give f w w5 (fun r => if r = gg then 7 else 0) gg = 7 := by
    rcases hat with h | h
    · rw [give_old (h2.1.lt gg h).2]; exact h2.2 gg h
    · rw [give_new (Nat.le_trans hY.size h) ((hown.lt gg rfl).2)]; simp
  have nf := row_not h2.1 h1.1 (by decide)
  have ng : gg ≠ rb := fun e => by have h := f1; rw [← e, f3] at h; omega
  have b5 : w5.heap[rb]? = some (.cells #[.int .i64 lim, rv] 46 (0, 0)) := (k5 rb lr (fun k hk e => nf (by rw [hk, e]))).trans h1.1
  generalize give f w w5 (fun r => if r = gg then 7 else 0) = f' at *
  have t2 : Turn (fun c => c = 6) f' f' w5 (w5.setCell ⟨rb, 1, none⟩ (.slice (some ⟨gg, 0, none⟩) (xs.length + 1) cap)) := (Turn.refl _ t1.norm).set rb 1 _ f1
  have tt : Turn (fun c => c = 6 ∨ c = 7) f f' w (w5.setCell ⟨rb, 1, none⟩ (.slice (some ⟨gg, 0, none⟩) (xs.length + 1) cap)) := (t1.mono fun _ h => .inr h).trans (t2.mono fun _ h => .inl h)
  refine ⟨f', tt, .slice (some ⟨gg, 0, none⟩) (xs.length + 1) cap, xs ++ [(⟨cls, pro, false, false, []⟩, .slice none 0 0)], ⟨?_, f1⟩, ⟨?_, ?_⟩, ?_, ?_⟩
  · rw [heap_setCell_same w5 rb 1 _ _ _ b5]; rfl
  · have ee : flatR (xs ++ [(⟨cls, pro, false, false, []⟩, .slice none 0 0)]) = flatR xs ++ [.int .i64 cls, .int .i64 pro, .bool false, .slice none 0 0] := by simp [flatR, encR]
    rw [ee, List.length_append]
    exact own_at hown fun r hr => by
      injection hr with hr; subst hr
      exact Below.heap_setCell _ _ _ _ ng
  · intro r hr
    injection hr with hr
    change gg = r at hr
    subst hr
    exact f3
  · rw [List.map_append, h3]; rfl
  · intro x hx
    rcases List.mem_append.1 hx with h | h
    · exact (h4 x h).turn tt (by omega)
    · obtain rfl : x = (⟨cls, pro, false, false, []⟩, .slice none 0 0) := by simpa using h
      exact SlotsO.nil _ _
theorem c_RMakeR {w : World} {f : Nat → Nat} {rb : Nat} {lim : Int} {R : List OB} (_ : RefO w f rb lim R) (cls pro : Int) (hc : cls < 0 ∨ 6 < cls) :
    Calls Try.prog 45 #[ptrV rb, .int .i64 cls, .int .i64 pro] w fun e w' => e = .returned (.tuple #[.int .i64 0, .int .i64 1]) ∧ w' = w := by
  unfold ptrV at *
  rcases hc with hc | hc
  · go_enter Try.func45, Try.ntmps45
    go_wp2
    go_ret2
    exact ⟨rfl, rfl⟩
  · have h1 : ¬ cls < 0 := by omega
    go_enter Try.func45, Try.ntmps45
    go_wp2
    go_ret2
    exact ⟨rfl, rfl⟩
theorem c_RMakeP {w : World} {f : Nat → Nat} {rb : Nat} {lim : Int} {R : List OB} (h : RefO w f rb lim R) (cls pro : Int) (hc0 : 0 ≤ cls) (hc6 : cls ≤ 6) (hp : pro ≠ 0) (hp2 : hasH R pro = false) :
    Calls Try.prog 45 #[ptrV rb, .int .i64 cls, .int .i64 pro] w fun e w' => e = .returned (.tuple #[.int .i64 0, .int .i64 151]) ∧ w' = w := by
  have hH := c_RHas h pro
  rw [hp2] at hH
  have hpe : (pro == 0) = false := by simpa using hp
  have hpn : (pro != 0) = true := by simpa using hp
  have h1 : ¬ cls < 0 := by omega
  have h2 : ¬ 6 < cls := by omega
  unfold ptrV at *
  replace hH := Lib.hid hH
  clear h hp hp2
  go_enter Try.func45, Try.ntmps45
  go_wp2_with (go_at_call 12; refine hH.out.mono ?_; rintro e w1 ⟨rfl, rfl⟩)
  go_ret2
  exact ⟨rfl, rfl⟩
theorem c_RMakeLT {w : World} {f : Nat → Nat} {rb : Nat} {lim : Int} {R : List OB} (hN : Norm f w) (h : RefO w f rb lim R) (hu : usedH R ≤ 100000) (cls pro : Int) (hc0 : 0 ≤ cls) (hc6 : cls ≤ 6) (hp : pro = 0 ∨ hasH R pro = true) :
    Calls Try.prog 45 #[ptrV rb, .int .i64 cls, .int .i64 pro] w fun e w' => (lim ≤ (usedH R : Int) → e = .returned (.tuple #[.int .i64 0, .int .i64 150]) ∧ Below w.heap.size w w') ∧
      ((usedH R : Int) < lim → e = .returned (.tuple #[.int .i64 ((R.length + 1 : Nat) : Int), .int .i64 0]) ∧ RefT w f rb lim (R ++ [⟨cls, pro, false, false, []⟩]) w') := by
  have hH := c_RHas h pro
  have hU := fun y (hy : Below w.heap.size w y) => c_RUsed (h.below hN hy) hu
  obtain ⟨rv, xs, x1, x2, x3, x4⟩ := h
  have hxl : xs.length = R.length + 1 := by have := congrArg List.length x3; simpa using this
  obtain ⟨g, cp, rfl, _, lg⟩ := x2.1.form (by omega)
  have h1 : ¬ cls < 0 := by omega
  have h2 : ¬ 6 < cls := by omega
  have c0 : w.cell? ⟨rb, 0, none⟩ = some (.int .i64 lim) := by rw [cell_of_row _ _ 0 _ _ _ x1.1]; rfl
  obtain ⟨i0, hi0, hz0, hz1, hz2⟩ := info_parts info4R
  have lr := heapH_lt x1.1
  have hnb := row_not x2.1 x1.1 (by decide)
  have hul : R.length ≤ 100000 := by unfold usedH at hu; omega
  have hm1 : xs.length + 1 ≤ maxLen ∧ (xs.length + 1) * 48 ≤ 140737488355328 := by unfold maxLen; omega
  have hdone := fun (w5 Y : World) (gg cap : Nat) (sb : Obj) (hY : Below w.heap.size w Y) hg hat hown => rmake_done (w5 := w5) (gg := gg) (cap := cap) (cls := cls) (pro := pro) (sb := sb) (n := xs.length) (Y := Y) hN x1 x2 x3 x4 hY hg hat rfl hown
  have hl1 : ((xs.length + 1 : Nat) : Int) - 1 = ((R.length + 1 : Nat) : Int) := by omega
  have p0u : (0 : Int) ≤ (xs.length : Int) := by omega
  have p1u : (xs.length : Int) ≤ 100001 := by omega
  have hst := onto_drew w
  unfold ptrV at *
  replace hU := Lib.hid hU
  replace hdone := Lib.hid hdone
  replace x1 := Lib.hid x1
  replace x2 := Lib.hid x2
  replace hnb := Lib.hid hnb
  replace hm1 := Lib.hid hm1
  replace hxl := Lib.hid hxl
  clear x3 x4 hN hu hul
  by_cases hpz : pro = 0
  · subst hpz
    clear hH hp
    go_enter Try.func45, Try.ntmps45
    go_wp2_with fail
    go_region_held3 (fun y => (∀ a : Addr, a.block < w.heap.size → y.cell? a = w.cell? a) ∧ (∀ b : Nat, b < w.heap.size → y.heap[b]? = w.heap[b]?) ∧ Below w.heap.size w y) (first | with_reducible assumption | with_reducible exact hst | with_reducible exact onto_below (by assumption) (by assumption)) (first | (go_at_call 64; refine (hU.out _ (And.right (And.right (by assumption)))).mono ?_; rintro e y2 ⟨rfl, hb5⟩))
    have hbw : Below w.heap.size w y2 := (Below.refl w.heap.size w).drew.trans (hb5.mono (Nat.le_refl _))
    have b2 : y2.heap[rb]? = _ := (hbw.block rb lr).trans x1.out.1
    have c1 : y2.cell? ⟨rb, 1, none⟩ = some (.slice (some ⟨g, 0, none⟩) xs.length cp) := by rw [cell_of_row _ _ 1 _ _ _ b2]; rfl
    have f1 : y2.frozen? ⟨rb, 1, none⟩ = false := by simp [World.frozen?, b2]
    have l2 := heapH_lt b2
    have hrow := own_at x2.out.1 fun r hr => hbw.block r (x2.out.1.lt r hr).2
    replace b2 := Lib.hid b2
    replace hrow := Lib.hid hrow
    replace hbw := Lib.hid hbw
    clear hb5 hst lr
    cases hdl : decide (lim ≤ (usedH R : Int)) with
    | true =>
      have hlim : lim ≤ (usedH R : Int) := of_decide_eq_true hdl
      replace hlim := Lib.hid hlim
      go_wp2_with fail
      go_ret2
      exact ⟨fun _ => ⟨rfl, hbw.out⟩, fun h => by have := hlim.out; omega⟩
    | false =>
      have hlim : ¬ lim ≤ (usedH R : Int) := of_decide_eq_false hdl
      replace hlim := Lib.hid hlim
      go_wp2_with (first | (at_builtin; go_loud (refine wpList_append_lies _ (by rfl) _ _ _ (by rfl) 0 49 i0 _ 4 48 Try.underlying44 hi0 hz0 hz1 hz2 rfl (by omega) (.slice (some ⟨g, 0, none⟩) xs.length cp) xs.length (flatR xs) (by rfl) (hrow.out.alloc _) ⟨_, 0, none⟩ 1 1 [.int .i64 cls, .int .i64 0, .bool false, .slice none 0 0] (by simp [Act.eval]; rfl) (by rfl) (World.news_of_block (cs := #[.int .i64 cls, .int .i64 0, .bool false, .slice none 0 0]) (t := 49) (fr := (0, 0)) (by exact heap_alloc_new y2 _)) (by simp [Value.oneCell']) (by omega) hm1.out.1 hm1.out.2 (by simp) _ rfl ?_; intro gg cap w5 hown5 hgrow hat hlt5; obtain ⟨hc5, hf5⟩ := tb_after2 c1 f1 l2 hnb.out hgrow; replace hat := Lib.hid hat; replace hown5 := Lib.hid hown5; replace hgrow := Lib.hid hgrow)))
      go_ret2
      have hat2 : (Value.slice (some ⟨g, 0, none⟩) xs.length cp).ownBlock = some gg ∨ y2.heap.size ≤ gg := by
        rcases hat.out with h | h
        · exact .inl h
        · exact .inr (by simp at h; omega)
      exact ⟨fun h => by have := hlim.out; omega, fun _ => ⟨by have e := hxl.out; show Ending.returned (.tuple #[.int .i64 (xs.length : Int), .int .i64 0]) = _; rw [e]; first | rfl | simp | (push_cast; rfl), hdone.out _ _ _ _ _ hbw.out hgrow.out hat2 hown5.out⟩⟩
  · have hp' : hasH R pro = true := by rcases hp with h | h; exact absurd h hpz; exact h
    rw [hp'] at hH
    have hpe : (pro == 0) = false := by simpa using hpz
    have hpn : (pro != 0) = true := by simpa using hpz
    replace hH := Lib.hid hH
    clear hp hp' hpz
    go_enter Try.func45, Try.ntmps45
    go_wp2_with (go_at_call 12; refine hH.out.mono ?_; rintro e w1 ⟨rfl, e1⟩; cases e1)
    go_region_held3 (fun y => (∀ a : Addr, a.block < w.heap.size → y.cell? a = w.cell? a) ∧ (∀ b : Nat, b < w.heap.size → y.heap[b]? = w.heap[b]?) ∧ Below w.heap.size w y) (first | with_reducible assumption | with_reducible exact hst | with_reducible exact onto_below (by assumption) (by assumption)) (first | (go_at_call 64; refine (hU.out _ (And.right (And.right (by assumption)))).mono ?_; rintro e y2 ⟨rfl, hb5⟩))
    have hbw : Below w.heap.size w y2 := (Below.refl w.heap.size w).drew.trans (hb5.mono (Nat.le_refl _))
    have b2 : y2.heap[rb]? = _ := (hbw.block rb lr).trans x1.out.1
    have c1 : y2.cell? ⟨rb, 1, none⟩ = some (.slice (some ⟨g, 0, none⟩) xs.length cp) := by rw [cell_of_row _ _ 1 _ _ _ b2]; rfl
    have f1 : y2.frozen? ⟨rb, 1, none⟩ = false := by simp [World.frozen?, b2]
    have l2 := heapH_lt b2
    have hrow := own_at x2.out.1 fun r hr => hbw.block r (x2.out.1.lt r hr).2
    replace b2 := Lib.hid b2
    replace hrow := Lib.hid hrow
    replace hbw := Lib.hid hbw
    clear hb5 hst lr
    cases hdl : decide (lim ≤ (usedH R : Int)) with
    | true =>
      have hlim : lim ≤ (usedH R : Int) := of_decide_eq_true hdl
      replace hlim := Lib.hid hlim
      go_wp2_with fail
      go_ret2
      exact ⟨fun _ => ⟨rfl, hbw.out⟩, fun h => by have := hlim.out; omega⟩
    | false =>
      have hlim : ¬ lim ≤ (usedH R : Int) := of_decide_eq_false hdl
      replace hlim := Lib.hid hlim
      go_wp2_with (first | (at_builtin; go_loud (refine wpList_append_lies _ (by rfl) _ _ _ (by rfl) 0 49 i0 _ 4 48 Try.underlying44 hi0 hz0 hz1 hz2 rfl (by omega) (.slice (some ⟨g, 0, none⟩) xs.length cp) xs.length (flatR xs) (by rfl) (hrow.out.alloc _) ⟨_, 0, none⟩ 1 1 [.int .i64 cls, .int .i64 pro, .bool false, .slice none 0 0] (by simp [Act.eval]; rfl) (by rfl) (World.news_of_block (cs := #[.int .i64 cls, .int .i64 pro, .bool false, .slice none 0 0]) (t := 49) (fr := (0, 0)) (by exact heap_alloc_new y2 _)) (by simp [Value.oneCell']) (by omega) hm1.out.1 hm1.out.2 (by simp) _ rfl ?_; intro gg cap w5 hown5 hgrow hat hlt5; obtain ⟨hc5, hf5⟩ := tb_after2 c1 f1 l2 hnb.out hgrow; replace hat := Lib.hid hat; replace hown5 := Lib.hid hown5; replace hgrow := Lib.hid hgrow)))
      go_ret2
      have hat2 : (Value.slice (some ⟨g, 0, none⟩) xs.length cp).ownBlock = some gg ∨ y2.heap.size ≤ gg := by
        rcases hat.out with h | h
        · exact .inl h
        · exact .inr (by simp at h; omega)
      exact ⟨fun h => by have := hlim.out; omega, fun _ => ⟨by have e := hxl.out; show Ending.returned (.tuple #[.int .i64 (xs.length : Int), .int .i64 0]) = _; rw [e]; first | rfl | simp | (push_cast; rfl), hdone.out _ _ _ _ _ hbw.out hgrow.out hat2 hown5.out⟩⟩
theorem c_RMake {w : World} {f : Nat → Nat} {rb : Nat} {lim : Int} {R : List OB} (hN : Norm f w) (h : RefO w f rb lim R) (hu : usedH R ≤ 100000) (cls pro : Int) :
    Calls Try.prog 45 #[ptrV rb, .int .i64 cls, .int .i64 pro] w fun e w' => e = .returned (.tuple #[.int .i64 (makeN R lim cls pro), .int .i64 (makeE R lim cls pro)]) ∧ RefT w f rb lim (makeH false R lim cls pro) w' := by
  by_cases h1 : cls < 0 ∨ 6 < cls
  · have e1 : makeE R lim cls pro = 1 := by unfold makeE; rw [if_pos h1]
    unfold makeN makeH
    rw [e1]
    refine (c_RMakeR h cls pro h1).mono ?_
    rintro e w' ⟨rfl, rfl⟩
    exact ⟨rfl, RefT.same hN h (Below.refl _ _)⟩
  · by_cases h2 : pro ≠ 0 ∧ hasH R pro = false
    · have e1 : makeE R lim cls pro = 151 := by unfold makeE; rw [if_neg h1, if_pos h2]
      unfold makeN makeH
      rw [e1]
      refine (c_RMakeP h cls pro (by omega) (by omega) h2.1 h2.2).mono ?_
      rintro e w' ⟨rfl, rfl⟩
      exact ⟨rfl, RefT.same hN h (Below.refl _ _)⟩
    · have hp : pro = 0 ∨ hasH R pro = true := by
        by_cases e : pro = 0
        · exact .inl e
        · exact .inr (by cases hh : hasH R pro; exact absurd ⟨e, hh⟩ h2; rfl)
      refine (c_RMakeLT hN h hu cls pro (by omega) (by omega) hp).mono ?_
      rintro e w' ⟨k1, k2⟩
      by_cases h3 : lim ≤ (usedH R : Int)
      · have e1 : makeE R lim cls pro = 150 := by unfold makeE; rw [if_neg h1, if_neg h2, if_pos h3]
        unfold makeN makeH
        rw [e1]
        obtain ⟨rfl, hb⟩ := k1 h3
        exact ⟨rfl, RefT.same hN h hb⟩
      · have e1 : makeE R lim cls pro = 0 := by unfold makeE; rw [if_neg h1, if_neg h2, if_neg h3]
        unfold makeN makeH
        rw [e1]
        obtain ⟨rfl, ht⟩ := k2 (by omega)
        exact ⟨rfl, ht⟩
end Go.Proofs.Ytoccmiinkfhohaa
namespace Go.Proofs.Ytoccmiinkfhohaa
open Go.RowKit Go.Shelf Go.Lib Go.Sort Go.Proofs Go.Maps
set_option maxHeartbeats 4000000
set_option maxRecDepth 100000

theorem infoSlot15 : (Try.prog.info? 89).map (fun i => (i.zero, i.size, i.bytes)) = some (some (.agg #[.string ⟨#[]⟩, .int .i64 0, .int .i64 0, .float .f64 0, .string ⟨#[]⟩, .int .i64 0, .int .i64 0, .float .f64 0, .string ⟨#[]⟩, .int .i64 0, .int .i64 0, .float .f64 0, .string ⟨#[]⟩, .int .i64 0, .int .i64 0]), 15, 152) := by kernel_rfl
theorem slots_run {y : World} {B n m c : Nat} {v : Value} {xs news : List Value} {q : Option Addr} (ty : TypeId) (hr : y.ownsRow B 89 15 v n xs) (hB : B ≤ y.heap.size) (hq : q = none → m = 0 ∧ c = 0) (hsrc : ∀ ad, q = some ad → ∀ j u, news[j]? = some u → y.cell? (ad.add j) = some u) (hl : news.length = m * 15) (h1 : ∀ u ∈ news, u.oneCell' = true) (hm : n + m ≤ 200000) :
    ∃ v' w', (Builtin.append_ #[47, 47] ty #[v, .slice q m c]).run Try.prog y = .ok v' w' ∧ w'.ownsRow B 89 15 v' (n + m) (xs ++ news) ∧ Below B y w' := by
  obtain ⟨i0, hi0, hz0, hz1, hz2⟩ := info_parts infoSlot15
  cases q with
  | none =>
    obtain ⟨rfl, rfl⟩ := hq rfl
    obtain rfl : news = [] := List.eq_nil_of_length_eq_zero (by simpa using hl)
    refine ⟨v, y, run_append_owned_none (P := Try.prog) y B 47 ty 89 i0 15 Try.underlying47 hi0 v n xs hr, by simpa using hr, Below.refl _ _⟩
  | some ad =>
    obtain ⟨v', w', e1, e2, e3, _⟩ := run_append_own (P := Try.prog) y B 47 ty 89 i0 _ 15 152 Try.underlying47 hi0 hz0 hz1 hz2 rfl (by omega) v n xs hr ad m c news hl (hsrc ad rfl) h1 (by unfold maxLen; omega) (by omega) hB
    refine ⟨v', w', e1, e2, e3.os, e3.tape, e3.output, e3.size, fun r hr' => e3.block r (by omega) (fun e => ?_)⟩
    have := (hr.lt r e.symm).1
    omega
/-- the append of a list of slots, in a plain region -/
theorem slots_list {ops : Array Oper} {rest : List Oper} {o : Oper} {a : Act} {y : World} {Q : Exit → Act → World → Prop} (hgd : o.guard = none) (s x : Operand) (hop : o.op = .call { callee := .builtin .append, args := #[s, x], argTypes := #[47, 47] })
    {B n m c : Nat} {v : Value} {xs news : List Value} {q : Option Addr} (hs : a.eval s = v) (hx : a.eval x = .slice q m c) (hr : y.ownsRow B 89 15 v n xs) (hB : B ≤ y.heap.size) (hq : q = none → m = 0 ∧ c = 0) (hsrc : ∀ ad, q = some ad → ∀ j u, news[j]? = some u → y.cell? (ad.add j) = some u) (hl : news.length = m * 15) (h1 : ∀ u ∈ news, u.oneCell' = true) (hm : n + m ≤ 200000)
    (h : ∀ v' w', w'.ownsRow B 89 15 v' (n + m) (xs ++ news) → Below B y w' → wpList Try.prog ops Q rest (a.put o.dst v') w') : wpList Try.prog ops Q (o :: rest) a y := by
  refine wpList_plain hgd fun K hK => ?_
  obtain ⟨v', w', hrun, e2, e3⟩ := slots_run o.type hr hB hq hsrc hl h1 hm
  unfold Oper.wp
  simp [execOp, hop, resolve, invoke, builtin, hs, hx, hrun, Result.andThen]
  exact hK _ _ (h v' w' e2 e3)
/-- .. at a step of a region that draws its order -/
theorem slots_step {ops : Array Oper} {o : Oper} {a : Act} {y : World} {K : Act → World → Prop} {Q : Exit → Act → World → Prop} {E : Prop} (hgd : o.guard = none) (s x : Operand) (hop : o.op = .call { callee := .builtin .append, args := #[s, x], argTypes := #[47, 47] })
    {B n m c : Nat} {v : Value} {xs news : List Value} {q : Option Addr} (hs : a.eval s = v) (hx : a.eval x = .slice q m c) (hr : y.ownsRow B 89 15 v n xs) (hB : B ≤ y.heap.size) (hq : q = none → m = 0 ∧ c = 0) (hsrc : ∀ ad, q = some ad → ∀ j u, news[j]? = some u → y.cell? (ad.add j) = some u) (hl : news.length = m * 15) (h1 : ∀ u ∈ news, u.oneCell' = true) (hm : n + m ≤ 200000)
    (h : ∀ v' w', w'.ownsRow B 89 15 v' (n + m) (xs ++ news) → Below B y w' → K (a.put o.dst v') w') : if Region.wanted o (yielded ops a.tmps) = true then Oper.wp Try.prog o a y K Q else E := by
  have hw : Region.wanted o (yielded ops a.tmps) = true := by simp [Region.wanted, hgd]
  rw [if_pos hw]
  obtain ⟨v', w', hrun, e2, e3⟩ := slots_run o.type hr hB hq hsrc hl h1 hm
  unfold Oper.wp
  simp [execOp, hop, resolve, invoke, builtin, hs, hx, hrun, Result.andThen]
  exact h v' w' e2 e3
theorem flatL_put {r : List (KK × PV)} {i : Nat} {x : KK × PV} (hi : r[i]? = some x) (p : PV) : setL (flatL r) (i * 15 + 2) (encP p) = flatL (r.set i (x.1, p)) :=
  setL_mid (enc := encL) (k := 15) (fun _ => rfl) (a := [.string x.1.1, .int .i64 x.1.2]) (x := encP x.2) hi ⟨[], by simp [encL], by simp [encL]⟩ rfl
/-- what a row tells, to an append -/
theorem rowSrc {w y : World} {f : Nat → Nat} {q : Option Addr} {c : Nat} {r : List (KK × PV)} (h : RowO w f 9 89 15 (.slice q r.length c) r.length (flatL r)) (hb : Below w.heap.size w y) :
    (q = none → r.length = 0 ∧ c = 0) ∧ ∀ ad, q = some ad → ∀ j u, (flatL r)[j]? = some u → y.cell? (ad.add j) = some u := by
  rcases h.1.2 with ⟨e, _⟩ | ⟨g, cap, cur, e, _, hg, _⟩
  · injection e with e1 e2 e3
    subst e1
    refine ⟨fun _ => ⟨e2, e3⟩, fun ad h => by cases h⟩
  · injection e with e1 e2 e3
    subst e1
    refine ⟨fun h => (by cases h), fun ad had j u hu => ?_⟩
    injection had with had
    subst had
    have hc := h.1.cells (g := g) (by rfl) j u hu
    rw [Addr.add_lit] at hc ⊢
    rw [World.cell?_of_block (w := w) (a := ⟨g, 0 + j, none⟩) (hb.block g (heapH_lt hg))]
    exact hc
theorem cells_ge {w : World} {g o i : Nat} {u : Value} {vs : List Value} (hc : w.cell? ⟨g, i, none⟩ = some u) {b : Nat} (hne : g ≠ b) : (w.setCells b o vs).cell? ⟨g, i, none⟩ = some u :=
  (World.cell?_of_block (w := w) (heap_setCells_ne vs o w hne)).trans hc
theorem row_lower {w : World} {B B' : Nat} {e : TypeId} {size n : Nat} {v : Value} {xs : List Value} (h : w.ownsRow B e size v n xs) (hB : B' ≤ B) : w.ownsRow B' e size v n xs := by
  refine ⟨h.1, ?_⟩
  rcases h.2 with h | ⟨g, cap, cur, e, hb, r⟩
  · exact .inl h
  · exact .inr ⟨g, cap, cur, e, Nat.le_trans hB hb, r⟩
theorem rowL_there {y : World} {B g n cap : Nat} {xs : List Value} (h : y.ownsRow B 89 15 (.slice (some ⟨g, 0, none⟩) n cap) n xs) {i : Nat} (hi : i < n) : y.there g (i * 15 + 2) 13 := by
  rcases h.2 with ⟨e, _⟩ | ⟨g', cap', cur, e, _, hg, h1, _, h3, _⟩
  · cases e
  · injection e with e1 e2 e3
    injection e1 with e1
    injection e1 with e1
    subst e1
    exact there_of hg (by rw [h3]; omega)
theorem range_of_block {y : World} {b : Nat} {t : TypeId} {cs : List Value} (h : y.heap[b]? = some (.cells cs.toArray t (0, 0))) : y.rangeAt b 0 cs := fun j v hv => by rw [cell_of_row _ _ (0 + j) _ _ _ h]; simpa using hv
theorem info13 (p : PV) : (Try.prog.info? 37).map (·.size) = some (encP p).length := infoProp
end Go.Proofs.Ytoccmiinkfhohaa
namespace Go.Proofs.Ytoccmiinkfhohaa
open Go.RowKit Go.Shelf Go.Lib Go.Sort Go.Proofs Go.Maps
set_option maxHeartbeats 4000000
set_option maxRecDepth 100000

theorem c_RPut0 {w : World} {f : Nat → Nat} {rb : Nat} {lim : Int} {R : List OB} (hN : Norm f w) (h : RefO w f rb lim R) (o : Int) (k : KK) (p : PV) (ho : hasH R o = false) :
    Calls Try.prog 46 #[ptrV rb, .int .i64 o, keyV k.1 k.2, propV p] w fun e w' => e = .returned (.int .i64 151) ∧ Below w.heap.size w w' := by
  obtain ⟨W2, hW2⟩ : ∃ W2, (w.alloc (.cells #[.string k.1, .int .i64 k.2] 32)).alloc (.cells (encP p).toArray 37) = W2 := ⟨_, rfl⟩
  have hb2 : Below w.heap.size w W2 := by rw [← hW2]; exact ((Below.refl _ w).alloc (Nat.le_refl _) _).alloc (by simp) _
  have hH := c_RHas (h.below hN hb2) o
  rw [ho] at hH
  unfold ptrV keyV propV at *
  obtain ⟨k0, kn⟩ := k
  dsimp only at *
  replace hH := Lib.hid hH
  replace hb2 := Lib.hid hb2
  clear h hN ho
  go_enter Try.func46, Try.ntmps46
  go_wp2_with (first | (go_at_call 12; refine hH.out.mono ?_; rintro e w1 ⟨rfl, e1⟩; cases e1))
  go_ret
  exact ⟨rfl, hb2.out⟩
theorem c_RPutR {w : World} {f : Nat → Nat} {rb : Nat} {lim : Int} {R : List OB} (hN : Norm f w) (h : RefO w f rb lim R) (o : Int) (k : KK) (p : PV) (ho : hasH R o = true) (hp : p.fl < 0 ∨ 15 < p.fl) :
    Calls Try.prog 46 #[ptrV rb, .int .i64 o, keyV k.1 k.2, propV p] w fun e w' => e = .returned (.int .i64 1) ∧ Below w.heap.size w w' := by
  obtain ⟨W2, hW2⟩ : ∃ W2, (w.alloc (.cells #[.string k.1, .int .i64 k.2] 32)).alloc (.cells (encP p).toArray 37) = W2 := ⟨_, rfl⟩
  have hb2 : Below w.heap.size w W2 := by rw [← hW2]; exact ((Below.refl _ w).alloc (Nat.le_refl _) _).alloc (by simp) _
  have z0 : W2.heap[w.heap.size + 1]? = some (.cells (encP p).toArray 37 (0, 0)) := by rw [← hW2]; exact heap_alloc2_new w _ _
  have zc : W2.cell? ⟨w.heap.size + 1, 12, none⟩ = some (.int .i64 p.fl) := by rw [cell_of_row _ _ 12 _ _ _ z0]; rfl
  have hH := c_RHas (h.below hN hb2) o
  rw [ho] at hH
  unfold ptrV keyV propV at *
  obtain ⟨k0, kn⟩ := k
  dsimp only at *
  replace hH := Lib.hid hH
  replace hb2 := Lib.hid hb2
  clear h hN ho z0
  rcases hp with hp | hp
  all_goals
  · try (have nf1 : ¬ p.fl < 0 := by omega)
    go_enter Try.func46, Try.ntmps46
    go_wp2_with (first | (go_at_call 12; refine hH.out.mono ?_; rintro e w1 ⟨rfl, e1⟩; cases e1))
    go_ret
    exact ⟨rfl, hb2.out⟩
/-- the reference's heap, when a list of slots has been laid -/
theorem rput_done {w y : World} {f : Nat → Nat} {rb gg cap n o : Nat} {lim : Int} {R : List OB} {a : OB} {sv : Value} {r' : List (KK × PV)} {g : Nat} (hN : Norm f w) (hu : ∀ (f1 : Nat → Nat) (w1 : World) (j : Nat) (v : Value) (a' : OB) (sv' : Value), Turn (fun _ => False) f f1 w w1 → j < 4 → (encR (a, sv)).set j v = encR (a', sv') → SlotsO w1 f1 sv' a'.l → RefT w f rb lim (R.set (o - 1) a') (w1.setCell ⟨g, o * 4 + j, none⟩ v))
    (hb : Below w.heap.size w y) (hr : y.ownsRow w.heap.size 89 15 (.slice (some ⟨gg, 0, none⟩) n cap) r'.length (flatL r')) (hn : n = r'.length) (hok : ∀ x ∈ r', okK x.1) :
    RefT w f rb lim (R.set (o - 1) { a with l := r'.map (fun x => (pk x.1, x.2)) }) (y.setCell ⟨g, o * 4 + 3, none⟩ (.slice (some ⟨gg, 0, none⟩) n cap)) := by
  subst hn
  obtain ⟨h1, h2⟩ := hr.lt gg rfl
  have t : Turn (fun _ => False) f (give f w y (fun r => if r = gg then 9 else 0)) w y := (Turn.refl _ hN).give _ hb.os hb.tape hb.output hb.size (fun r hr _ => hb.block r hr)
  refine hu _ y 3 _ { a with l := r'.map (fun x => (pk x.1, x.2)) } (.slice (some ⟨gg, 0, none⟩) r'.length cap) t (by omega) rfl ⟨r', ⟨row_base hr, fun k hk => ?_⟩, rfl, hok⟩
  injection hk with hk
  change gg = k at hk
  subst hk
  rw [give_new h1 h2]
  simp
theorem putL_raw {r : List (KK × PV)} {l : List (KK × PV)} (hl : r.map (fun x => (pk x.1, x.2)) = l) {k : KK} {i : Nat} {x : KK × PV} (hi : idx (gk l) (pk k) = some i) (hx : r[i]? = some x) (p : PV) : (r.set i (x.1, p)).map (fun x => (pk x.1, x.2)) = putL l (pk k) p := by
  unfold putL
  rw [hi, List.map_set, hl]
  have h1 := idx_some hi
  have h2 : (gk l)[i]? = some (pk x.1) := by rw [← hl]; simp [gk, hx]
  rw [h1] at h2
  rw [Option.some.inj h2]
theorem putL_rawN {r : List (KK × PV)} {l : List (KK × PV)} (hl : r.map (fun x => (pk x.1, x.2)) = l) {k : KK} (hi : idx (gk l) (pk k) = none) (p : PV) : (r ++ [(k, p)]).map (fun x => (pk x.1, x.2)) = putL l (pk k) p := by
  unfold putL
  rw [hi, List.map_append, hl]
  rfl
theorem c_RPutS {w : World} {f : Nat → Nat} {rb : Nat} {lim : Int} {R : List OB} (hN : Norm f w) (h : RefO w f rb lim R) (hR : ∀ a ∈ R, a.l.length ≤ 100000) (o : Nat) (a : OB) (h0 : 0 < o) (ho : R[o - 1]? = some a) (k : KK) (hk : okK k) (p : PV) (p0 : 0 ≤ p.fl) (p15 : p.fl ≤ 15) (i : Nat) (hi : idx (gk a.l) (pk k) = some i) :
    Calls Try.prog 46 #[ptrV rb, .int .i64 (o : Int), keyV k.1 k.2, propV p] w fun e w' => e = .returned (.int .i64 0) ∧ RefT w f rb lim (R.set (o - 1) { a with l := putL a.l (pk k) (keptP p) }) w' := by
  obtain ⟨W2, hW2⟩ : ∃ W2, (w.alloc (.cells #[.string k.1, .int .i64 k.2] 32)).alloc (.cells (encP p).toArray 37) = W2 := ⟨_, rfl⟩
  have hb2 : Below w.heap.size w W2 := by rw [← hW2]; exact ((Below.refl _ w).alloc (Nat.le_refl _) _).alloc (by simp) _
  have hs2 : W2.heap.size = w.heap.size + 2 := by rw [← hW2]; simp
  have d0 : W2.heap[w.heap.size]? = some (.cells #[.string k.1, .int .i64 k.2] 32 (0, 0)) := by rw [← hW2, Below.heap_alloc _ _ _ (by simp)]; exact heap_alloc_new w _
  have z0 : W2.heap[w.heap.size + 1]? = some (.cells (encP p).toArray 37 (0, 0)) := by rw [← hW2]; exact heap_alloc2_new w _ _
  have kc0 : W2.cell? ⟨w.heap.size, 0, none⟩ = some (.string k.1) := by rw [cell_of_row _ _ 0 _ _ _ d0]; rfl
  have kc1 : W2.cell? ⟨w.heap.size, 1, none⟩ = some (.int .i64 k.2) := by rw [cell_of_row _ _ 1 _ _ _ d0]; rfl
  have zc : W2.cell? ⟨w.heap.size + 1, 12, none⟩ = some (.int .i64 p.fl) := by rw [cell_of_row _ _ 12 _ _ _ z0]; rfl
  have hN2 : Norm f W2 := fun r hr => hN r (Nat.le_trans hb2.size hr)
  have hH := c_RHas (h.below hN hb2) (o : Int)
  rw [hasH_of h0 ho] at hH
  have hBy := c_Rplace1 hN2 (h.below hN hb2) o a h0 ho (hR a (List.mem_of_getElem? ho)) k hk
  rw [hi] at hBy
  obtain ⟨g, c, sv, ⟨_, c1⟩, ⟨l1, l2, _⟩, _, hs, ⟨p1, p2⟩, ⟨_, _, _, d3⟩, fz, hu⟩ := h.upd h0 ho
  obtain ⟨r, r1, r2, r3⟩ := hs
  have hrl : r.length ≤ 100000 := by rw [← List.length_map (f := fun x : KK × PV => (pk x.1, x.2)), r2]; exact hR a (List.mem_of_getElem? ho)
  have hil : i < r.length := by have := idx_lt hi; rw [← r2] at this; simpa [gk] using this
  obtain ⟨x, hx⟩ : ∃ x, r[i]? = some x := ⟨_, List.getElem?_eq_getElem hil⟩
  obtain ⟨q, cp, rfl, _⟩ := SlotsO.form r1
  have hsrc := fun y (hb : Below w.heap.size w y) => rowSrc r1 hb
  have hKe := c_Rkept p p0 p15
  have hput := putL_raw r2 hi hx (keptP p)
  have hset := flatL_put hx (keptP p)
  have hokS : ∀ z ∈ r.set i (x.1, keptP p), okK z.1 := fun z hz => by
    rcases List.mem_or_eq_of_mem_set hz with h | h
    · exact r3 z h
    · subst h; exact r3 x (List.mem_of_getElem? hx)
  have hlen' : (r.set i (x.1, keptP p)).length = r.length := by simp
  generalize r.set i (x.1, keptP p) = r' at *
  have hdone := fun (y : World) (gg cap : Nat) hb hr hn => rput_done (y := y) (gg := gg) (cap := cap) (n := r.length) (r' := r') hN hu hb hr hn hokS
  rw [hput] at hdone
  unfold placeV at hBy
  dsimp only at hBy
  have q1 : (0 : Int) ≤ (i : Int) := by omega
  have q2 : (i : Int) < (r.length : Int) := by omega
  have nf1 : ¬ p.fl < 0 := by omega
  have nf2 : ¬ 15 < p.fl := by omega
  have hi13 : (Try.prog.info? 37).map (·.size) = some (encP p).length := infoProp
  have hj13 : (Try.prog.info? 37).map (·.size) = some (encP (keptP p)).toArray.size := infoProp
  have ho13 := all_oneCell_toArray (encP_one (keptP p))
  have hfl := flatL_len r
  have hone := flatL_one r
  have fz3 := fz (o * 4 + 3)
  unfold ptrV keyV propV at *
  obtain ⟨k0, kn⟩ := k
  dsimp only at *
  generalize keptP p = P2 at *
  replace hH := Lib.hid hH
  replace hBy := Lib.hid hBy
  replace hb2 := Lib.hid hb2
  replace hs2 := Lib.hid hs2
  replace z0 := Lib.hid z0
  replace hsrc := Lib.hid hsrc
  replace hKe := Lib.hid hKe
  replace hdone := Lib.hid hdone
  replace hset := Lib.hid hset
  replace hlen' := Lib.hid hlen'
  replace hfl := Lib.hid hfl
  replace hone := Lib.hid hone
  replace hrl := Lib.hid hrl
  have c1w := Lib.hid c1
  have d3w := Lib.hid d3
  have fz3w := Lib.hid fz3
  have tokA : True := trivial
  clear fz3
  clear h hN hN2 hk hR ho hi hx r1 r2 r3 hput hokS hu d0 fz
  go_enter Try.func46, Try.ntmps46
  go_wp2_with (first | (go_at_call 12; refine hH.out.mono ?_; rintro e w1 ⟨rfl, e1⟩; cases e1) | (go_at_call 44; refine hBy.out.mono ?_; rintro e y2 ⟨rfl, hb5⟩; have hB5 := hb2.out.trans (hb5.mono hb2.out.size); have z5 := (hb5.block _ (heapH_lt z0.out)).trans z0.out; rw [← hB5.cell (p := ⟨rb, 1, none⟩) l1] at c1; rw [← hB5.cell (p := ⟨g, o * 4 + 3, none⟩) l2] at d3; obtain ⟨hs1, hs2'⟩ := hsrc.out y2 hB5; clear kc0 kc1 zc; replace hB5 := Lib.hid hB5; replace z5 := Lib.hid z5; replace hs1 := Lib.hid hs1; replace hs2' := Lib.hid hs2'; clear hb5) | (at_builtin; refine slots_list rfl _ _ rfl (B := y2.heap.size) (n := 0) (m := r.length) (xs := []) (news := flatL r) rfl rfl ⟨rfl, .inl ⟨rfl, rfl⟩⟩ (Nat.le_refl _) hs1.out hs2'.out hfl.out hone.out (by have := hrl.out; omega) ?_; intro v' w' hown hbe; rw [Nat.zero_add, List.nil_append] at hown; obtain ⟨gg, cap, rfl, hBg, hltg⟩ := hown.form (by omega); have hB7 := hB5.out.trans (hbe.mono hB5.out.size); have z7 := (hbe.block _ (heapH_lt z5.out)).trans z5.out; rw [← hbe.cell (p := ⟨rb, 1, none⟩) (Nat.lt_of_lt_of_le l1 hB5.out.size)] at c1; rw [← hbe.cell (p := ⟨g, o * 4 + 3, none⟩) (Nat.lt_of_lt_of_le l2 hB5.out.size)] at d3; have hrg := range_of_block (cs := encP p) z7; have hown7 := row_lower hown hB5.out.size; replace hB7 := Lib.hid hB7; replace z7 := Lib.hid z7; replace hown7 := Lib.hid hown7; clear hown hbe hBg hs1 hs2') | (clear tokA; refine wpList_load_mid rfl 37 (.tmp 7) rfl (w.heap.size + 1) 0 rfl (encP p) _ hrg Try.underlying37 rfl hi13 ?_; clear hrg) | (go_at_call 65; refine (hKe.out _).mono ?_; rintro e y8 ⟨rfl, hb8⟩; have hown8 := own_at hown7.out (fun r hr => hb8.block r (hown7.out.lt r hr).2); have hB8 := hB7.out.trans (hb8.mono hB7.out.size); have hth : y8.there gg (i * 15 + 2) (encP P2).toArray.size := rowL_there hown8 hil; have hown9 := row_setL (encP P2) (i * 15 + 2) y8 _ hown8; rw [hset.out] at hown9; have hB9 := below_setC hB8 (hown8.lt gg rfl).1 (encP P2) (i * 15 + 2); obtain ⟨W9, hW9⟩ : ∃ W9, y8.setCells gg (i * 15 + 2) (encP P2) = W9 := ⟨_, rfl⟩; rw [hW9] at hown9 hB9; clear c1 d3; replace hown9 := Lib.hid hown9; replace hB9 := Lib.hid hB9; clear hb8 hown8 hB8) | (refine wpList_store_mid rfl 37 (.tmp 43) (.tmp 41) rfl gg (i * 15 + 2) (encP P2).toArray rfl rfl hth hj13 ho13 ?_; have c9 := (hB9.out.cell (p := ⟨rb, 1, none⟩) l1).trans c1w.out; have d9 := (hB9.out.cell (p := ⟨g, o * 4 + 3, none⟩) l2).trans d3w.out; have f9 := (World.frozen?_of_block (w := w) (a := ⟨g, o * 4 + 3, none⟩) (hB9.out.block g l2)).trans fz3w.out))
  go_ret
  exact ⟨rfl, hdone.out W9 gg cap hB9.out (by rw [hlen'.out]; exact hown9.out) hlen'.out.symm⟩
end Go.Proofs.Ytoccmiinkfhohaa
namespace Go.Proofs.Ytoccmiinkfhohaa
open Go
set_option maxHeartbeats 400000

section
variable {P : Program} {ops : Array Oper} {Q : Exit → Act → World → Prop} {md : Region.Mode} {S : World → Prop} {n : Nat}
/-- whatever comes up next: S holds behind it, unless it is the operation n -/
def AnyK (P : Program) (md : Region.Mode) (ops : Array Oper) (Q : Exit → Act → World → Prop) (S : World → Prop) (n : Nat) : Nat → Array Bool → Act → World → Prop
  | 0, ls, a, w => Region.ready md ops ls = [] ∧ Q .normal a w
  | k + 1, ls, a, w => (Region.ready md ops ls = [] → Q .normal a w) ∧
    ∀ i ∈ Region.ready md ops ls, wpOp P ops Q i (fun a' w' => (i ≠ n → S w') ∧ AnyK P md ops Q S n k (ls.setIfInBounds i true) a' w') a w
theorem AnyK.any : ∀ (k : Nat) (ls : Array Bool) (a : Act) (w : World), AnyK P md ops Q S n k ls a w → wpAny P md ops Q k ls a w
  | 0, _, _, _, h => h
  | k + 1, _, _, _, h => ⟨h.1, fun i hi => wpOp_mono (fun a' w' g => AnyK.any k _ a' w' g.2) (h.2 i hi)⟩
/-- the operation n waits for i -/
def waitsK (md : Region.Mode) (ops : Array Oper) (n i : Nat) : Bool := match ops[n]? with | some o => o.after.any fun e => Region.binds md e && e.on == i | none => false
theorem AnyK.first {i : Nat} {o : Oper} {v : Value} (hi : ops[i]? = some o) (hsel : ∀ (j : Nat) (o : Oper) cs b, ops[j]? = some o → o.op ≠ .select cs b)
    (hQ : ∀ c a w, Q (.panic c) (a.put o.dst v) w → Q (.panic c) a w) (hw : waitsK md ops n i = true) : ∀ (k : Nat) (ls : Array Bool) (a : Act) (w : World),
      (∀ j oj, ops[j]? = some oj → j ≠ i → ls.getD j true = false → (∀ e ∈ oj.after, Region.binds md e = true → e.on ≠ i) → o.apart ops oj = true) →
      i ∈ Region.ready md ops ls → YieldsIf P ops S o v a → S w → AnyK P md ops Q S n k (ls.setIfInBounds i true) (a.put o.dst v) w → AnyK P md ops Q S n (k + 1) ls a w
  | 0, ls, a, w, _, hr, hy, hS, H => by
    refine ⟨fun h => absurd hr (by rw [h]; simp), fun j hj => ?_⟩
    by_cases e : j = i
    · subst e; exact hy.wpOp hi hS ⟨fun _ => hS, H⟩
    · have h1 := ready_mono hj e
      rw [H.1] at h1
      cases h1
  | k + 1, ls, a, w, hf, hr, hy, hS, H => by
    refine ⟨fun h => absurd hr (by rw [h]; simp), fun j hj => ?_⟩
    by_cases e : j = i
    · subst e; exact hy.wpOp hi hS ⟨fun _ => hS, H⟩
    · obtain ⟨hju, oj, hoj, hall⟩ := mem_ready.1 hj
      have hiu := (mem_ready.1 hr).1
      have hno : ∀ e ∈ oj.after, Region.binds md e = true → e.on ≠ i := fun e he hb heq => by
        have h1 := hall e he hb
        rw [heq] at h1
        by_cases hlt : i < ls.size
        · simp [hlt] at hiu h1; rw [hiu] at h1; cases h1
        · simp [Array.getElem?_eq_none (Nat.le_of_not_lt hlt)] at h1
      have hjn : j ≠ n := fun hjn => by
        unfold waitsK at hw
        rw [← hjn, hoj] at hw
        simp only [Array.any_eq_true'] at hw
        obtain ⟨x, hx, h1⟩ := hw
        simp only [Bool.and_eq_true, beq_iff_eq] at h1
        exact hno x hx h1.1 h1.2
      have h2 := wpOp_putIf hoj (hf j oj hoj e hju hno) (fun cs b => hsel i o cs b hi) (fun cs b => hsel j oj cs b hoj) hQ hy (H.2 j (ready_mono hj e))
      refine wpOp_mono (fun a' w' g => ⟨fun _ => g.2.1 hjn, ?_⟩) h2
      refine AnyK.first hi hsel hQ hw k (ls.setIfInBounds j true) a' w' (fun q oq hq hqi hqu hqn => hf q oq hq hqi ?_ hqn) (ready_mono hr (Ne.symm e)) g.1 (g.2.1 hjn) ?_
      · by_cases hjq : j = q
        · subst hjq; exact hju
        · rw [getD_set_ne true hjq] at hqu; exact hqu
      · rw [Array.setIfInBounds_comm _ _ e]; exact g.2.2
theorem drop_at {i : Nat} {o : Oper} {r : List Oper} (h : ops.toList.drop i = o :: r) : ops[i]? = some o := by
  have h1 : (ops.toList.drop i)[0]? = some o := by rw [h]; rfl
  simpa using h1
theorem AnyK.take (i : Nat) {o : Oper} {r : List Oper} {v : Value} {k : Nat} {ls : Array Bool} {a : Act} {w : World} (hi : ops.toList.drop i = o :: r) (hs : Region.noSelect ops = true) (hf : Region.free md ops ls i = true) (hr : (Region.ready md ops ls).contains i = true) (hw : waitsK md ops n i = true)
    (hQ : ∀ c a w, Q (.panic c) (a.put o.dst v) w → Q (.panic c) a w) (hg : Region.wanted o (yielded ops a.tmps) = true) (hy : ∀ w, S w → (execOp a.eval o).run P w = .ok (.value v) w) (hS : S w) (h : AnyK P md ops Q S n k (ls.setIfInBounds i true) (a.put o.dst v) w) : AnyK P md ops Q S n (k + 1) ls a w :=
  AnyK.first (drop_at hi) (Region.noSelect_spec hs) hQ hw k ls a w (Region.free_spec (drop_at hi) hf) (by simpa using hr) (.inl ⟨hg, hy⟩) hS h
/-- one operation alone may come up -/
theorem AnyK.one (i : Nat) {o : Oper} {r : List Oper} {k : Nat} {ls : Array Bool} {a : Act} {w : World} (hi : ops.toList.drop i = o :: r) (hr : Region.ready md ops ls = [i])
    (h : ∀ K' : Act → World → Prop, Shut (∀ a' w', S w' → (S w' → AnyK P md ops Q S n k (ls.setIfInBounds i true) a' w') → K' a' w') → if Region.wanted o (yielded ops a.tmps) = true then Oper.wp P o a w K' Q else K' (a.put o.dst undef) w) : AnyK P md ops Q S n (k + 1) ls a w := by
  refine ⟨fun h0 => absurd (hr ▸ h0) (by simp), fun j hj => ?_⟩
  rw [hr] at hj
  obtain rfl : j = i := by simpa using hj
  exact wpOp_step (drop_at hi) (fun K' hK => h K' (fun a w hS hW => hK a w ⟨fun _ => hS, hW hS⟩))
/-- the operation n alone is left -/
theorem AnyK.last {o : Oper} {r : List Oper} {k : Nat} {ls : Array Bool} {a : Act} {w : World} (hi : ops.toList.drop n = o :: r) (hr : Region.ready md ops ls = [n])
    (h : ∀ K' : Act → World → Prop, Shut (∀ a' w', AnyK P md ops Q S n k (ls.setIfInBounds n true) a' w' → K' a' w') → if Region.wanted o (yielded ops a.tmps) = true then Oper.wp P o a w K' Q else K' (a.put o.dst undef) w) : AnyK P md ops Q S n (k + 1) ls a w := by
  refine ⟨fun h0 => absurd (hr ▸ h0) (by simp), fun j hj => ?_⟩
  rw [hr] at hj
  obtain rfl : j = n := by simpa using hj
  exact wpOp_step (drop_at hi) (fun K' hK => h K' (fun a w hW => hK a w ⟨fun hne => absurd rfl hne, hW⟩))
theorem AnyK.done {ls : Array Bool} {a : Act} {w : World} (hr : Region.ready md ops ls = []) (h : Q .normal a w) : ∀ k, AnyK P md ops Q S n k ls a w
  | 0 => ⟨hr, h⟩
  | _ + 1 => ⟨fun _ => h, by rw [hr]; simp⟩
theorem regionK (n : Nat) (S : World → Prop) {id : Nat} {a : Act} {w : World} (hm : P.follows .mixedOrders = true) (hS : S w.drew) (h : S w.drew → AnyK P .any ops Q S n ops.size (Array.replicate ops.size false) a w.drew) : (Code.region id ops true).wp P Q a w :=
  wp_region_any hm (AnyK.any _ _ _ _ (h hS))
end
end Go.Proofs.Ytoccmiinkfhohaa
namespace Go.Proofs.Ytoccmiinkfhohaa
open Go.RowKit Go.Shelf Go.Lib Go.Sort Go.Proofs Go.Maps
set_option maxHeartbeats 4000000
set_option maxRecDepth 100000

theorem onto_belowB {W y y' : World} (h : (∀ a : Addr, a.block < W.heap.size → y.cell? a = W.cell? a) ∧ (∀ b : Nat, b < W.heap.size → y.heap[b]? = W.heap[b]?) ∧ Below W.heap.size W y) (hb : Below W.heap.size y y') :
    (∀ a : Addr, a.block < W.heap.size → y'.cell? a = W.cell? a) ∧ (∀ b : Nat, b < W.heap.size → y'.heap[b]? = W.heap[b]?) ∧ Below W.heap.size W y' := by
  obtain ⟨h1, h2, h3⟩ := h
  have hk : ∀ b : Nat, b < W.heap.size → y'.heap[b]? = W.heap[b]? := fun b hb' => (hb.block b hb').trans (h2 b hb')
  exact ⟨fun a ha => World.cell?_of_block (hk a.block ha), hk, h3.trans hb⟩
theorem own_belowL {y y' : World} {B n : Nat} {v : Value} {xs : List Value} (h : y.ownsRow B 89 15 v n xs) (hb : Below y.heap.size y y') : y'.ownsRow B 89 15 v n xs := own_at h fun r hr => hb.block r (h.lt r hr).2
theorem src_block {y : World} {b : Nat} {t : TypeId} {cs : List Value} (h : y.heap[b]? = some (.cells cs.toArray t (0, 0))) : ∀ ad, some (⟨b, 0, none⟩ : Addr) = some ad → ∀ (j : Nat) u, cs[j]? = some u → y.cell? (ad.add j) = some u := by
  intro ad had
  injection had with had
  subst had
  exact World.news_of_block (cs := cs.toArray) (t := t) (fr := (0, 0)) h
/-- one slot behind a list, at a step of a region that draws its order -/
theorem slot_step {ops : Array Oper} {o : Oper} {a : Act} {y : World} {K : Act → World → Prop} {Q : Exit → Act → World → Prop} {E : Prop} (hgd : o.guard = none) (s x : Operand) (hop : o.op = .call { callee := .builtin .append, args := #[s, x], argTypes := #[47, 47] })
    (v : Value) (n : Nat) (hs : a.eval s = v) (b : Nat) (hx : a.eval x = .slice (some ⟨b, 0, none⟩) 1 1) (cs : List Value) (hcs : cs.length = 15) (h1 : ∀ u ∈ cs, u.oneCell' = true) (xs : List Value) (hm : n ≤ 100000) (B : Nat) (hB : B ≤ y.heap.size) (hr : y.ownsRow B 89 15 v n xs)
    (hblk : y.heap[b]? = some (.cells cs.toArray 89 (0, 0))) (hK : ∀ v' w', w'.ownsRow B 89 15 v' (n + 1) (xs ++ cs) → Below B y w' → K (a.put o.dst v') w') : if Region.wanted o (yielded ops a.tmps) = true then Oper.wp Try.prog o a y K Q else E :=
  slots_step hgd s x hop (q := some ⟨b, 0, none⟩) (m := 1) (c := 1) hs hx hr hB (fun h => by cases h) (src_block hblk) (by omega) h1 (by omega) hK
theorem rowSrcS {w y y' : World} {f : Nat → Nat} {q : Option Addr} {c g : Nat} {r : List (KK × PV)} (h : RowO w f 9 89 15 (.slice q r.length c) r.length (flatL r)) (fg : f g = 7) (hb : Below w.heap.size w y) (hc : ∀ a : Addr, a.block < y.heap.size → a.block ≠ g → y'.cell? a = y.cell? a) :
    (q = none → r.length = 0 ∧ c = 0) ∧ ∀ ad, q = some ad → ∀ j u, (flatL r)[j]? = some u → y'.cell? (ad.add j) = some u := by
  obtain ⟨h1, h2⟩ := rowSrc h hb
  refine ⟨h1, fun ad had j u hu => ?_⟩
  have h3 := h2 ad had j u hu
  subst had
  rcases h.1.2 with ⟨e, _⟩ | ⟨g2, cap, cur, e, _, hg, _⟩
  · cases e
  · injection e with e1 e2 e3
    injection e1 with e1
    subst e1
    rw [Addr.add_lit] at h3 ⊢
    have hg9 := h.2 g2 rfl
    rw [hc ⟨g2, 0 + j, none⟩ (Nat.lt_of_lt_of_le (heapH_lt hg) hb.size) (fun e => by have e' : g2 = g := e; rw [e', fg] at hg9; omega)]
    exact h3
theorem grownBy_size {W y : World} {k : Option Nat} (h : W.grownBy y k) : W.heap.size ≤ y.heap.size := h.size
theorem but_belowB {W y y' : World} {b : Nat} (h : (∀ a : Addr, a.block < W.heap.size → a.block ≠ b → y.cell? a = W.cell? a) ∧ W.grownBy y (some b)) (hb : Below W.heap.size y y') :
    (∀ a : Addr, a.block < W.heap.size → a.block ≠ b → y'.cell? a = W.cell? a) ∧ W.grownBy y' (some b) := by
  obtain ⟨h1, h2⟩ := h
  exact ⟨fun a ha hne => by rw [hb.cell ha]; exact h1 a ha hne, ⟨hb.os.trans h2.os, hb.tape.trans h2.tape, hb.output.trans h2.output, Nat.le_trans h2.size hb.size, fun r hr hne => (hb.block r hr).trans (h2.block r hr hne)⟩⟩
theorem but_set {W y : World} {b : Nat} (h : (∀ a : Addr, a.block < W.heap.size → a.block ≠ b → y.cell? a = W.cell? a) ∧ W.grownBy y (some b)) (i : Nat) (u : Value) :
    (∀ a : Addr, a.block < W.heap.size → a.block ≠ b → (y.setCell ⟨b, i, none⟩ u).cell? a = W.cell? a) ∧ W.grownBy (y.setCell ⟨b, i, none⟩ u) (some b) := by
  obtain ⟨h1, h2⟩ := h
  have hk : ∀ r, r ≠ b → (y.setCell ⟨b, i, none⟩ u).heap[r]? = y.heap[r]? := fun r hr => Below.heap_setCell _ _ _ _ hr
  exact ⟨fun a ha hne => (World.cell?_of_block (w := y) (hk a.block hne)).trans (h1 a ha hne), ⟨h2.os, h2.tape, h2.output, by simpa [World.setCell] using h2.size, fun r hr hne => (hk r (fun e => hne (by rw [e]))).trans (h2.block r hr hne)⟩⟩
theorem but_alloc {W y : World} {b : Nat} (h : (∀ a : Addr, a.block < W.heap.size → a.block ≠ b → y.cell? a = W.cell? a) ∧ W.grownBy y (some b)) (o : Obj) :
    (∀ a : Addr, a.block < W.heap.size → a.block ≠ b → (y.alloc o).cell? a = W.cell? a) ∧ W.grownBy (y.alloc o) (some b) := but_below h ((Below.refl _ y).alloc (Nat.le_refl _) o)
theorem c_RPutN {w : World} {f : Nat → Nat} {rb : Nat} {lim : Int} {R : List OB} (hN : Norm f w) (h : RefO w f rb lim R) (hR : ∀ a ∈ R, a.l.length ≤ 100000) (hu : usedH R ≤ 100000) (o : Nat) (a : OB) (h0 : 0 < o) (ho : R[o - 1]? = some a) (k : KK) (hk : okK k) (p : PV) (p0 : 0 ≤ p.fl) (p15 : p.fl ≤ 15) (hi : idx (gk a.l) (pk k) = none) :
    Calls Try.prog 46 #[ptrV rb, .int .i64 (o : Int), keyV k.1 k.2, propV p] w fun e w' => (lim ≤ (usedH R : Int) → e = .returned (.int .i64 150) ∧ Below w.heap.size w w') ∧
      ((usedH R : Int) < lim → e = .returned (.int .i64 0) ∧ RefT w f rb lim (R.set (o - 1) { a with l := putL a.l (pk k) (keptP p) }) w') := by
  obtain ⟨W2, hW2⟩ : ∃ W2, (w.alloc (.cells #[.string k.1, .int .i64 k.2] 32)).alloc (.cells (encP p).toArray 37) = W2 := ⟨_, rfl⟩
  have hb2 : Below w.heap.size w W2 := by rw [← hW2]; exact ((Below.refl _ w).alloc (Nat.le_refl _) _).alloc (by simp) _
  have hs2 : W2.heap.size = w.heap.size + 2 := by rw [← hW2]; simp
  have d0 : W2.heap[w.heap.size]? = some (.cells #[.string k.1, .int .i64 k.2] 32 (0, 0)) := by rw [← hW2, Below.heap_alloc _ _ _ (by simp)]; exact heap_alloc_new w _
  have z0 : W2.heap[w.heap.size + 1]? = some (.cells (encP p).toArray 37 (0, 0)) := by rw [← hW2]; exact heap_alloc2_new w _ _
  have kc0 : W2.cell? ⟨w.heap.size, 0, none⟩ = some (.string k.1) := by rw [cell_of_row _ _ 0 _ _ _ d0]; rfl
  have kc1 : W2.cell? ⟨w.heap.size, 1, none⟩ = some (.int .i64 k.2) := by rw [cell_of_row _ _ 1 _ _ _ d0]; rfl
  have zc : W2.cell? ⟨w.heap.size + 1, 12, none⟩ = some (.int .i64 p.fl) := by rw [cell_of_row _ _ 12 _ _ _ z0]; rfl
  have hN2 : Norm f W2 := fun r hr => hN r (Nat.le_trans hb2.size hr)
  have hH := c_RHas (h.below hN hb2) (o : Int)
  rw [hasH_of h0 ho] at hH
  have hBy := c_Rplace1 hN2 (h.below hN hb2) o a h0 ho (hR a (List.mem_of_getElem? ho)) k hk
  rw [hi] at hBy
  have hU := fun y (hy : Below w.heap.size w y) => c_RUsed (h.below hN hy) hu
  obtain ⟨g, c, sv, ⟨c0, c1⟩, ⟨l1, l2, ne0⟩, ⟨_, fg⟩, hs, ⟨p1, p2⟩, ⟨_, _, _, d3⟩, fz, hud⟩ := h.upd h0 ho
  obtain ⟨r, r1, r2, r3⟩ := hs
  have hrl : r.length ≤ 100000 := by rw [← List.length_map (f := fun x : KK × PV => (pk x.1, x.2)), r2]; exact hR a (List.mem_of_getElem? ho)
  obtain ⟨q, cp, rfl, _⟩ := SlotsO.form r1
  have hsrc := fun (y y' : World) (hb : Below w.heap.size w y) (hc : ∀ a : Addr, a.block < y.heap.size → a.block ≠ g → y'.cell? a = y.cell? a) => rowSrcS r1 fg hb hc
  have hKe := c_Rkept p p0 p15
  have hput := putL_rawN r2 hi (keptP p)
  have hset : flatL (r ++ [(k, keptP p)]) = flatL r ++ encL (k, keptP p) := by simp [flatL]
  have hokS : ∀ z ∈ r ++ [(k, keptP p)], okK z.1 := fun z hz => by
    rcases List.mem_append.1 hz with h | h
    · exact r3 z h
    · obtain rfl : z = (k, keptP p) := by simpa using h
      exact hk
  have hlen' : (r ++ [(k, keptP p)]).length = r.length + 1 := by simp
  have hdone := fun (y : World) (gg cap : Nat) hb hr hn => rput_done (y := y) (gg := gg) (cap := cap) (n := r.length + 1) (r' := r ++ [(k, keptP p)]) hN hud hb hr hn hokS
  rw [hput, hset, hlen'] at hdone
  obtain ⟨nR, hnR⟩ : ∃ nR, R.length + 1 = nR := ⟨_, rfl⟩
  rw [hnR] at c1 p2
  unfold placeV at hBy
  dsimp only at hBy
  have nf1 : ¬ p.fl < 0 := by omega
  have nf2 : ¬ 15 < p.fl := by omega
  have hfl := flatL_len r
  have hone := flatL_one r
  have fz3 := fz (o * 4 + 3)
  have hone2 := encL_one (k, keptP p)
  unfold ptrV keyV propV at *
  obtain ⟨k0, kn⟩ := k
  dsimp only at *
  generalize keptP p = P2 at *
  unfold encL at hdone hone2
  unfold encP at hKe hdone hone2
  replace hH := Lib.hid hH
  replace hBy := Lib.hid hBy
  replace hU := Lib.hid hU
  replace hb2 := Lib.hid hb2
  replace hs2 := Lib.hid hs2
  replace z0 := Lib.hid z0
  replace d0 := Lib.hid d0
  replace hsrc := Lib.hid hsrc
  replace hKe := Lib.hid hKe
  replace hdone := Lib.hid hdone
  replace hfl := Lib.hid hfl
  replace hone := Lib.hid hone
  replace hone2 := Lib.hid hone2
  replace hrl := Lib.hid hrl
  have c0w := Lib.hid c0
  have c1w := Lib.hid c1
  have d3w := Lib.hid d3
  have fz3w := Lib.hid fz3
  have l1w := Lib.hid l1
  have l2w := Lib.hid l2
  clear h hN hN2 hk hR ho hi r1 r2 r3 hput hokS hud fz fz3 c0 c1 d3 l1 l2 hset hlen' hu
  go_enter Try.func46, Try.ntmps46
  go_wp2_with (first | (go_at_call 12; refine hH.out.mono ?_; rintro e w1 ⟨rfl, e1⟩; cases e1) | (go_at_call 44; refine hBy.out.mono ?_; rintro e y2 ⟨rfl, hb5⟩; have hB5 := Lib.hid (hb2.out.trans (hb5.mono hb2.out.size)); have hb5' := Lib.hid hb5; clear kc0 kc1 zc hb5))
  have c0 := (hB5.out.cell (p := ⟨rb, 0, none⟩) l1w.out).trans c0w.out
  have l1 := Nat.lt_of_lt_of_le l1w.out hB5.out.size
  have hst := onto_drew y2
  go_region_held3 (fun y => (∀ a : Addr, a.block < y2.heap.size → y.cell? a = y2.cell? a) ∧ (∀ b : Nat, b < y2.heap.size → y.heap[b]? = y2.heap[b]?) ∧ Below y2.heap.size y2 y) (first | with_reducible assumption | with_reducible exact hst | with_reducible exact onto_below (by assumption) (by assumption)) (first | (go_at_call 64; refine (hU.out _ (hB5.out.trans (Below.mono (And.right (And.right (by assumption))) hB5.out.size))).mono ?_; rintro e y3 ⟨rfl, hb6⟩))
  have hb6' := Lib.hid ((Below.refl y2.heap.size y2).drew.trans (hb6.mono (Nat.le_refl _)))
  have hB6 := Lib.hid (hB5.out.trans (hb6'.out.mono hB5.out.size))
  clear hb6 hst c0 l1
  cases hdl : decide (lim ≤ (usedH R : Int)) with
  | true =>
    have hlim : lim ≤ (usedH R : Int) := of_decide_eq_true hdl
    replace hlim := Lib.hid hlim
    go_wp2_with fail
    go_ret
    exact ⟨fun _ => ⟨rfl, hB6.out⟩, fun h => by have := hlim.out; omega⟩
  | false =>
    have hlim : ¬ lim ≤ (usedH R : Int) := of_decide_eq_false hdl
    replace hlim := Lib.hid hlim
    have z6 := (hb6'.out.block _ (Nat.lt_of_lt_of_le (heapH_lt z0.out) hb5'.out.size)).trans ((hb5'.out.block _ (heapH_lt z0.out)).trans z0.out)
    have d6 := (hb6'.out.block _ (Nat.lt_of_lt_of_le (heapH_lt d0.out) hb5'.out.size)).trans ((hb5'.out.block _ (heapH_lt d0.out)).trans d0.out)
    have c1 := (hB6.out.cell (p := ⟨rb, 1, none⟩) l1w.out).trans c1w.out
    have d3 := (hB6.out.cell (p := ⟨g, o * 4 + 3, none⟩) l2w.out).trans d3w.out
    have kc0 : y3.cell? ⟨w.heap.size, 0, none⟩ = some (.string k0) := by rw [cell_of_row _ _ 0 _ _ _ d6]; rfl
    have kc1 : y3.cell? ⟨w.heap.size, 1, none⟩ = some (.int .i64 kn) := by rw [cell_of_row _ _ 1 _ _ _ d6]; rfl
    obtain ⟨v0, v1, v2, v3, v4, v5, v6, v7, v8, v9, v10, v11, v12⟩ := cells13 z6
    have l1 := Nat.lt_of_lt_of_le l1w.out hB6.out.size
    have l2 := Nat.lt_of_lt_of_le l2w.out hB6.out.size
    have l3 := heapH_lt z6
    have l4 := heapH_lt d6
    have hst := onto_drew y3
    have hsrc' := hsrc.out y3.drew y3.drew hB6.out.drew (fun _ _ _ => rfl)
    replace hsrc' := Lib.hid hsrc'
    replace z6 := Lib.hid z6
    replace d6 := Lib.hid d6
    clear hsrc
    go_wp2_with fail
    refine regionK 22 (fun y => (∀ a : Addr, a.block < y3.heap.size → y.cell? a = y3.cell? a) ∧ (∀ b : Nat, b < y3.heap.size → y.heap[b]? = y3.heap[b]?) ∧ Below y3.heap.size y3 y) (by kernel_rfl) hst (fun hHeld => ?_)
    simp only [List.size_toArray, List.length_cons, List.length_nil, Nat.reduceAdd, Array.replicate_succ]
    refine AnyK.take 0 (v := ?_) rfl (by kernel_rfl) (by kernel_rfl) (by kernel_rfl) (by kernel_rfl) (fun _ _ _ h => h) (by rfl) ?_ (by assumption) ?_
    rotate_left
    · intro y hSy; (try dsimp only at hSy); go_simp; (try with_reducible rfl)
    try simp only [Act.put, List.setIfInBounds_toArray, List.set_cons_zero, List.set_cons_succ]
    refine AnyK.take 1 (v := ?_) rfl (by kernel_rfl) (by kernel_rfl) (by kernel_rfl) (by kernel_rfl) (fun _ _ _ h => h) (by rfl) ?_ (by assumption) ?_
    rotate_left
    · intro y hSy; (try dsimp only at hSy); go_simp; (try with_reducible rfl)
    try simp only [Act.put, List.setIfInBounds_toArray, List.set_cons_zero, List.set_cons_succ]
    refine AnyK.take 2 (v := ?_) rfl (by kernel_rfl) (by kernel_rfl) (by kernel_rfl) (by kernel_rfl) (fun _ _ _ h => h) (by rfl) ?_ (by assumption) ?_
    rotate_left
    · intro y hSy; (try dsimp only at hSy); go_simp; (try with_reducible rfl)
    try simp only [Act.put, List.setIfInBounds_toArray, List.set_cons_zero, List.set_cons_succ]
    refine AnyK.take 3 (v := ?_) rfl (by kernel_rfl) (by kernel_rfl) (by kernel_rfl) (by kernel_rfl) (fun _ _ _ h => h) (by rfl) ?_ (by assumption) ?_
    rotate_left
    · intro y hSy; (try dsimp only at hSy); go_simp; (try with_reducible rfl)
    try simp only [Act.put, List.setIfInBounds_toArray, List.set_cons_zero, List.set_cons_succ]
    refine AnyK.take 4 (v := ?_) rfl (by kernel_rfl) (by kernel_rfl) (by kernel_rfl) (by kernel_rfl) (fun _ _ _ h => h) (by rfl) ?_ (by assumption) ?_
    rotate_left
    · intro y hSy; (try dsimp only at hSy); go_simp; (try with_reducible rfl)
    try simp only [Act.put, List.setIfInBounds_toArray, List.set_cons_zero, List.set_cons_succ]
    refine AnyK.take 5 (v := ?_) rfl (by kernel_rfl) (by kernel_rfl) (by kernel_rfl) (by kernel_rfl) (fun _ _ _ h => h) (by rfl) ?_ (by assumption) ?_
    rotate_left
    · intro y hSy; (try dsimp only at hSy); go_simp; (try with_reducible rfl)
    try simp only [Act.put, List.setIfInBounds_toArray, List.set_cons_zero, List.set_cons_succ]
    refine AnyK.take 6 (v := ?_) rfl (by kernel_rfl) (by kernel_rfl) (by kernel_rfl) (by kernel_rfl) (fun _ _ _ h => h) (by rfl) ?_ (by assumption) ?_
    rotate_left
    · intro y hSy; (try dsimp only at hSy); go_simp; (try with_reducible rfl)
    try simp only [Act.put, List.setIfInBounds_toArray, List.set_cons_zero, List.set_cons_succ]
    refine AnyK.take 7 (v := ?_) rfl (by kernel_rfl) (by kernel_rfl) (by kernel_rfl) (by kernel_rfl) (fun _ _ _ h => h) (by rfl) ?_ (by assumption) ?_
    rotate_left
    · intro y hSy; (try dsimp only at hSy); go_simp; (try with_reducible rfl)
    try simp only [Act.put, List.setIfInBounds_toArray, List.set_cons_zero, List.set_cons_succ]
    refine AnyK.take 8 (v := ?_) rfl (by kernel_rfl) (by kernel_rfl) (by kernel_rfl) (by kernel_rfl) (fun _ _ _ h => h) (by rfl) ?_ (by assumption) ?_
    rotate_left
    · intro y hSy; (try dsimp only at hSy); go_simp; (try with_reducible rfl)
    try simp only [Act.put, List.setIfInBounds_toArray, List.set_cons_zero, List.set_cons_succ]
    refine AnyK.take 9 (v := ?_) rfl (by kernel_rfl) (by kernel_rfl) (by kernel_rfl) (by kernel_rfl) (fun _ _ _ h => h) (by rfl) ?_ (by assumption) ?_
    rotate_left
    · intro y hSy; (try dsimp only at hSy); go_simp; (try with_reducible rfl)
    try simp only [Act.put, List.setIfInBounds_toArray, List.set_cons_zero, List.set_cons_succ]
    refine AnyK.take 10 (v := ?_) rfl (by kernel_rfl) (by kernel_rfl) (by kernel_rfl) (by kernel_rfl) (fun _ _ _ h => h) (by rfl) ?_ (by assumption) ?_
    rotate_left
    · intro y hSy; (try dsimp only at hSy); go_simp; (try with_reducible rfl)
    try simp only [Act.put, List.setIfInBounds_toArray, List.set_cons_zero, List.set_cons_succ]
    refine AnyK.take 11 (v := ?_) rfl (by kernel_rfl) (by kernel_rfl) (by kernel_rfl) (by kernel_rfl) (fun _ _ _ h => h) (by rfl) ?_ (by assumption) ?_
    rotate_left
    · intro y hSy; (try dsimp only at hSy); go_simp; (try with_reducible rfl)
    try simp only [Act.put, List.setIfInBounds_toArray, List.set_cons_zero, List.set_cons_succ]
    refine AnyK.take 12 (v := ?_) rfl (by kernel_rfl) (by kernel_rfl) (by kernel_rfl) (by kernel_rfl) (fun _ _ _ h => h) (by rfl) ?_ (by assumption) ?_
    rotate_left
    · intro y hSy; (try dsimp only at hSy); go_simp; (try with_reducible rfl)
    try simp only [Act.put, List.setIfInBounds_toArray, List.set_cons_zero, List.set_cons_succ]
    refine AnyK.take 14 (v := ?_) rfl (by kernel_rfl) (by kernel_rfl) (by kernel_rfl) (by kernel_rfl) (fun _ _ _ h => h) (by rfl) ?_ (by assumption) ?_
    rotate_left
    · intro y hSy; (try dsimp only at hSy); go_simp; (try with_reducible rfl)
    try simp only [Act.put, List.setIfInBounds_toArray, List.set_cons_zero, List.set_cons_succ]
    refine AnyK.take 15 (v := ?_) rfl (by kernel_rfl) (by kernel_rfl) (by kernel_rfl) (by kernel_rfl) (fun _ _ _ h => h) (by rfl) ?_ (by assumption) ?_
    rotate_left
    · intro y hSy; (try dsimp only at hSy); go_simp; (try with_reducible rfl)
    try simp only [Act.put, List.setIfInBounds_toArray, List.set_cons_zero, List.set_cons_succ]
    refine AnyK.one 13 rfl (by kernel_rfl) (fun K' hK => ?_)
    refine slots_step rfl _ _ rfl (v := .slice none 0 0) (n := 0) (m := r.length) (xs := []) (news := flatL r) rfl rfl (World.ownsRow_nil y3.drew y3.heap.size _ _) (Nat.le_refl _) hsrc'.out.1 hsrc'.out.2 hfl.out hone.out (by have := hrl.out; omega) ?_
    intro u1 w7 hown7 hbe7
    rw [Nat.zero_add, List.nil_append] at hown7
    refine hK.out _ _ (onto_belowB hHeld hbe7) (fun hHeld7 => ?_)
    clear hK K'
    try simp only [Act.put, List.setIfInBounds_toArray, List.set_cons_zero, List.set_cons_succ]
    clear hHeld hst
    refine AnyK.one 16 rfl (by kernel_rfl) (fun K' hK => ?_)
    go_simp
    refine (hKe.out _).mono ?_
    rintro e y4 ⟨rfl, hb7⟩
    have hown4 := own_belowL hown7 hb7
    go_simp
    refine hK.out _ _ (onto_below hHeld7 hb7) (fun hHeld8 => ?_)
    clear hK K'
    try simp only [Act.put, List.setIfInBounds_toArray, List.set_cons_zero, List.set_cons_succ]
    clear hHeld7
    refine AnyK.take 17 (v := ?_) rfl (by kernel_rfl) (by kernel_rfl) (by kernel_rfl) (by kernel_rfl) (fun _ _ _ h => h) (by rfl) ?_ (by assumption) ?_
    rotate_left
    · intro y hSy; (try dsimp only at hSy); go_simp; (try with_reducible rfl)
    try simp only [Act.put, List.setIfInBounds_toArray, List.set_cons_zero, List.set_cons_succ]
    refine AnyK.one 18 rfl (by kernel_rfl) (fun K' hK => ?_)
    go_simp
    refine hK.out _ _ (onto_alloc hHeld8 _) (fun hHeld9 => ?_)
    clear hK K'
    try simp only [Act.put, List.setIfInBounds_toArray, List.set_cons_zero, List.set_cons_succ]
    refine AnyK.one 19 rfl (by kernel_rfl) (fun K' hK => ?_)
    refine slot_step rfl _ _ rfl u1 r.length rfl _ rfl [.string k0, .int .i64 kn, .int .i64 P2.v.k, .float .f64 P2.v.x, .string P2.v.s, .int .i64 P2.v.r, .int .i64 P2.g.k, .float .f64 P2.g.x, .string P2.g.s, .int .i64 P2.g.r, .int .i64 P2.t.k, .float .f64 P2.t.x, .string P2.t.s, .int .i64 P2.t.r, .int .i64 P2.fl] rfl hone2.out (flatL r) hrl.out y3.heap.size hHeld9.2.2.size (hown4.alloc _) (heap_alloc_new _ _) ?_
    intro u2 w8 hown8 hbe8
    obtain ⟨gg, cap, rfl, hBg, hltg⟩ := hown8.form (by omega)
    refine hK.out _ _ (onto_belowB hHeld9 hbe8) (fun hHeld10 => ?_)
    clear hK K'
    try simp only [Act.put, List.setIfInBounds_toArray, List.set_cons_zero, List.set_cons_succ]
    clear hHeld8 hHeld9
    refine AnyK.one 20 rfl (by kernel_rfl) (fun K' hK => ?_)
    go_simp
    refine hK.out _ _ hHeld10 (fun hHeld11 => ?_)
    clear hK K'
    try simp only [Act.put, List.setIfInBounds_toArray, List.set_cons_zero, List.set_cons_succ]
    refine AnyK.one 21 rfl (by kernel_rfl) (fun K' hK => ?_)
    go_simp
    refine hK.out _ _ hHeld10 (fun hHeld12 => ?_)
    clear hK K'
    try simp only [Act.put, List.setIfInBounds_toArray, List.set_cons_zero, List.set_cons_succ]
    have hB8 := hB6.out.trans (hHeld10.2.2.mono hB6.out.size)
    have d8 := (hB8.cell (p := ⟨g, o * 4 + 3, none⟩) l2w.out).trans d3w.out
    have f8 := (World.frozen?_of_block (w := w) (a := ⟨g, o * 4 + 3, none⟩) (hB8.block g l2w.out)).trans fz3w.out
    refine AnyK.last rfl (by kernel_rfl) (fun K' hK => ?_)
    go_simp
    refine hK.out _ _ ?_
    clear hK K'
    try simp only [Act.put, List.setIfInBounds_toArray, List.set_cons_zero, List.set_cons_succ]
    refine AnyK.done (by kernel_rfl) ?_ _
    go_wp2
    go_ret
    exact ⟨fun h => absurd h (by have := hlim.out; omega), fun _ => ⟨rfl, hdone.out w8 gg cap hB8 (row_lower hown8 hB6.out.size) trivial⟩⟩
end Go.Proofs.Ytoccmiinkfhohaa
