/-
  Contracts: A region in which a way is followed; Add. The contract of Add. Cells of rows that are set; the contract of Change. A range over a function, at the wide fence: the law for an iterator that may itself range over another one. The iterator over a shape's slots; Each; Keys. A range over a function whose assignments may make blocks. The contracts of Each and Keys of a tree of shapes.
-/
import Derived.Test.YtoccmiinkfhohaaGreatW5
import Derived.RangeFuncNested
import Derived.RangeFuncBound
import Derived.RangeFuncCalls
import Derived.RangeFuncLeaves
import Derived.RangeFuncFrom
import Derived.Shelf.Abstract
import Derived.Shelf.RegionOpen
import Derived.OwnWalkIn
import Derived.TacticsInMore
import Derived.LoopNIn
import Derived.LoopIn
import Derived.Maps.OwnIn
namespace Go.Proofs.YtoccmiinkfhohaaGreat
open Go.RowKit Go.Shelf Go.Lib Go.Sort Go.Proofs Go.Maps
set_option maxHeartbeats 1000000
set_option maxRecDepth 100000

def C3 (c : Nat) : Prop := c = 3 ∨ c = 4 ∨ c = 5
/-- the way has been followed -/
def FolE (W : World) (f : Nat → Nat) (tb : Nat) (L : List (List KK)) (T : List KK) (kl : Lit) (t : Nat) (y : World) : Prop :=
  ∃ (fy : Nat → Nat) (Ly : List (List KK)), Turn C3 f fy W y ∧ TreeO y fy tb Ly ∧ Ly[t]? = some T ∧ (Ly = L ∨ Ly = L ++ [T]) ∧ WayAt y tb kl t
/-- the way has not been followed yet, or it has been -/
def FolP (W : World) (f : Nat → Nat) (tb : Nat) (L : List (List KK)) (T : List KK) (kl : Lit) (y : World) : Prop :=
  (TreeO W f tb L ∧ Norm f W ∧ Below W.heap.size W y) ∨ ∃ t, FolE W f tb L T kl t y
theorem FolE.below {W y y' : World} {f : Nat → Nat} {tb : Nat} {L : List (List KK)} {T : List KK} {kl : Lit} {t : Nat} (h : FolE W f tb L T kl t y) (hb : Below y.heap.size y y') : FolE W f tb L T kl t y' := by
  obtain ⟨fy, Ly, h1, h2, h3, h4, h5⟩ := h
  exact ⟨fy, Ly, h1.then hb, h2.turn (Turn.of_below (fun _ => False) h1.norm hb) id id id id, h3, h4, h5.keep hb⟩
theorem folP_start {W : World} {f : Nat → Nat} {tb : Nat} {L : List (List KK)} (h : TreeO W f tb L) (hn : Norm f W) (T : List KK) (kl : Lit) :
    (∀ a : Addr, a.block < W.heap.size → ¬ C3 (f a.block) → W.drew.cell? a = W.cell? a) ∧ FolP W f tb L T kl W.drew := ⟨fun _ _ _ => rfl, .inl ⟨h, hn, (Below.refl _ W).drew⟩⟩
theorem folP_size {W y : World} {f : Nat → Nat} {tb : Nat} {L : List (List KK)} {T : List KK} {kl : Lit} (h : FolP W f tb L T kl y) : W.heap.size ≤ y.heap.size := by
  rcases h with ⟨_, _, h⟩ | ⟨t, fy, Ly, h, _⟩
  · exact h.size
  · exact h.size
theorem folP_below {W y y' : World} {f : Nat → Nat} {tb : Nat} {L : List (List KK)} {T : List KK} {kl : Lit} (h : (∀ a : Addr, a.block < W.heap.size → ¬ C3 (f a.block) → y.cell? a = W.cell? a) ∧ FolP W f tb L T kl y) (hb : Below y.heap.size y y') :
    (∀ a : Addr, a.block < W.heap.size → ¬ C3 (f a.block) → y'.cell? a = W.cell? a) ∧ FolP W f tb L T kl y' := by
  refine ⟨fun a ha hc => by rw [hb.cell (Nat.lt_of_lt_of_le ha (folP_size h.2))]; exact h.1 a ha hc, ?_⟩
  rcases h.2 with ⟨h1, h2, h3⟩ | ⟨t, h⟩
  · exact .inl ⟨h1, h2, h3.trans (hb.mono h3.size)⟩
  · exact .inr ⟨t, h.below hb⟩
theorem folP_grown {W y y' : World} {f : Nat → Nat} {tb : Nat} {L : List (List KK)} {T : List KK} {kl : Lit} (h : (∀ a : Addr, a.block < W.heap.size → ¬ C3 (f a.block) → y.cell? a = W.cell? a) ∧ FolP W f tb L T kl y) (hg : y.grownBy y' none) :
    (∀ a : Addr, a.block < W.heap.size → ¬ C3 (f a.block) → y'.cell? a = W.cell? a) ∧ FolP W f tb L T kl y' := folP_below h ⟨hg.os, hg.tape, hg.output, hg.size, fun r hr => hg.block r hr (by simp)⟩
theorem folP_alloc {W y : World} {f : Nat → Nat} {tb : Nat} {L : List (List KK)} {T : List KK} {kl : Lit} (h : (∀ a : Addr, a.block < W.heap.size → ¬ C3 (f a.block) → y.cell? a = W.cell? a) ∧ FolP W f tb L T kl y) (o : Obj) :
    (∀ a : Addr, a.block < W.heap.size → ¬ C3 (f a.block) → (y.alloc o).cell? a = W.cell? a) ∧ FolP W f tb L T kl (y.alloc o) := folP_below h ((Below.refl _ y).alloc (Nat.le_refl _) o)
theorem c_followS {W y : World} {f : Nat → Nat} {tb : Nat} {L : List (List KK)} {T : List KK} (a : Nat) (ch : Bool) (k : KK) (fl : Int)
    (hL : L.length < 100000) (A : List KK) (hA : L[a]? = some A) (hk : okK k) (hfl : (Lit.int .i64 fl).wf = true) (sv : Value) (ss : List SL) (hT : T = if ch then A else A ++ [k]) (hks : ss.map (fun x => pk x.1) = T) (hok : ∀ x ∈ ss, okK x.1) (hnd : T.Nodup) (hsl : ss.length ≤ 1000)
    (hS : (∀ a : Addr, a.block < W.heap.size → ¬ C3 (f a.block) → y.cell? a = W.cell? a) ∧ FolP W f tb L T (klW (a : Int) ch k fl) y) (hsv : y.ownsRow 0 161 3 sv ss.length (flatS ss)) (hnew : ∀ r, sv.ownBlock = some r → W.heap.size ≤ r) :
    Calls Tryz.prog 117 #[.pointer (some ⟨tb, 0, none⟩), .agg #[.int .i64 (a : Int), .bool ch, .string k.1, .int .i64 k.2, .int .i64 fl], sv] y fun e y' => ∃ t : Nat, e = .returned (.tuple #[.int .i64 (t : Int), .int .i64 0]) ∧
      FolE W f tb L T (klW (a : Int) ch k fl) t y' ∧ ((∀ a : Addr, a.block < W.heap.size → ¬ C3 (f a.block) → y'.cell? a = W.cell? a) ∧ FolP W f tb L T (klW (a : Int) ch k fl) y') := by
  have hwa : (Lit.int .i64 (a : Int)).wf = true := WalkArith.wf_i64 (by have := (List.getElem?_eq_some_iff.1 hA).1; omega)
  obtain ⟨h0, h | ⟨t, h⟩⟩ := hS
  · obtain ⟨h1, h2, h3⟩ := h
    have t1 : Turn C3 f (give f W y (fun _ => 9)) W y := (Turn.refl C3 h2).give _ h3.os h3.tape h3.output h3.size (fun r hr _ => h3.block r hr)
    have t2 : Turn (fun _ => False) f (give f W y (fun _ => 9)) W y := (Turn.refl _ h2).give _ h3.os h3.tape h3.output h3.size (fun r hr _ => h3.block r hr)
    have hr : RowO y (give f W y (fun _ => 9)) 9 161 3 sv ss.length (flatS ss) := ⟨hsv, fun r hr => give_new (hnew r hr) (hsv.lt r hr).2⟩
    refine (c_Sfollow t1.norm (h1.turn t2 id id id id) hL a A hA ch k hk fl hfl sv ss hr T hT hks hok hnd hsl).mono ?_
    rintro e y' ⟨f', L', t, rfl, q1, q2, q3, q4, q5⟩
    have hE : FolE W f tb L T (klW (a : Int) ch k fl) t y' := ⟨f', L', t1.trans q1, q2, q3, q4, q5⟩
    refine ⟨t, rfl, hE, fun b hb hc => ?_, .inr ⟨t, hE⟩⟩
    rw [World.cell?_of_block (q1.block b.block (Nat.lt_of_lt_of_le hb h3.size) (by rw [t1.agree b.block hb]; exact hc))]
    exact h0 b hb hc
  · refine (c_SfollowY a ch k hk fl hfl hwa sv t (by obtain ⟨_, _, _, _, _, _, h5⟩ := h; exact h5)).mono ?_
    rintro e y' ⟨rfl, hb⟩
    exact ⟨t, rfl, h.below hb, folP_below ⟨h0, .inr ⟨t, h⟩⟩ hb⟩
end Go.Proofs.YtoccmiinkfhohaaGreat
namespace Go.Proofs.YtoccmiinkfhohaaGreat
open Go.RowKit Go.Shelf Go.Lib Go.Sort Go.Proofs Go.Maps
set_option maxHeartbeats 1000000
set_option maxRecDepth 100000

theorem infoSlot : (Tryz.prog.info? 161).map (fun i => (i.zero, i.size, i.bytes)) = some (some (.agg #[.string ⟨#[]⟩, .int .i64 0, .int .i64 0]), 3, 32) := by kernel_rfl
theorem ret_two {a b a' b' : Value} (h : a = a') (h2 : b = b') : Ending.returned (.tuple #[a, b]) = .returned (.tuple #[a', b']) := by rw [h, h2]
/-- a row of slots, in a new block -/
def RowN (y : World) (v : Value) (n : Nat) (xs : List Value) (B : Nat) : Prop := y.ownsRow 0 161 3 v n xs ∧ ∀ r, v.ownBlock = some r → B ≤ r
theorem RowN.below {y y' : World} {v : Value} {n : Nat} {xs : List Value} {B : Nat} (h : RowN y v n xs B) (hb : Below y.heap.size y y') : RowN y' v n xs B := ⟨own_at h.1 (fun r hr => hb.block r (h.1.lt r hr).2), h.2⟩
/-- at the append of a slot to a full row -/
theorem slot_append {ops : Array Oper} {o : Oper} {a : Act} {y : World} {K : Act → World → Prop} {Q : Exit → Act → World → Prop} {E : Prop} (hg : o.guard = none) (s x : Operand) (hop : o.op = Op.call { callee := Callee.builtin Builtin.append, args := #[s, x], argTypes := #[117, 117] })
    (p : Option Addr) (n : Nat) (hs : a.eval s = .slice p n n) (b : Nat) (hx : a.eval x = .slice (some ⟨b, 0, none⟩) 1 1) (cs : List Value) (hcs : cs.length = 3) (hc1 : ∀ u ∈ cs, u.oneCell' = true) (olds : List Value) (hlo : olds.length = n * 3) (hp : p = none → n = 0) (hn : n ≤ 1000) (B : Nat) (hB : B ≤ y.heap.size)
    (holds : ∀ b, p = some b → ∀ j u, olds[j]? = some u → y.cell? (b.add j) = some u) (hblk : y.heap[b]? = some (.cells cs.toArray 161 (0, 0)))
    (hK : ∀ v' w', RowN w' v' (n + 1) (olds ++ cs) B → y.grownBy w' none → K (a.put o.dst v') w') :
    if Region.wanted o (yielded ops a.tmps) = true then Oper.wp Tryz.prog o a y K Q else E := by
  obtain ⟨i0, hi0, hz0, hz1, hz2⟩ := info_parts infoSlot
  refine step_append_grows hg s x 117 hop 161 i0 _ 3 32 Tryz.underlying117 hi0 hz0 hz1 hz2 rfl (by omega) p n n olds hs (fun h => ⟨hp h, hp h⟩) hlo holds ⟨b, 0, none⟩ 1 1 cs hx (by omega) ?_ hc1 (by omega) (by unfold maxLen; omega) (by omega) ?_
  · exact World.news_of_block (cs := cs.toArray) (t := 161) (fr := (0, 0)) hblk
  · intro v' w' hown hgr
    refine hK v' w' ⟨?_, fun r hr => Nat.le_trans hB (hown.lt r hr).1⟩ hgr
    refine ⟨hown.1, ?_⟩
    rcases hown.2 with h | ⟨g, cap, cur, e, _, r⟩
    · exact .inl h
    · exact .inr ⟨g, cap, cur, e, Nat.zero_le _, r⟩
theorem c_SAdd {w : World} {f : Nat → Nat} {tb : Nat} {L : List (List KK)} (hN : Norm f w) (h : TreeO w f tb L) (hL : L.length < 100000) (s : Nat) (A : List KK) (hs : L[s]? = some A) (k : KK) (hk : okK k) (hno : idx A (pk k) = none) (fl : Int) (h0 : 0 ≤ fl) (h15 : fl ≤ 15) :
    Calls Tryz.prog 112 #[.pointer (some ⟨tb, 0, none⟩), .int .i64 (s : Int), keyV k.1 k.2, .int .i64 fl] w fun e w' =>
      (128 ≤ A.length ∧ e = .returned (.tuple #[.int .i64 0, .int .i64 2]) ∧ Below w.heap.size w w') ∨
      (A.length < 128 ∧ ∃ (t : Nat) (f' : Nat → Nat) (L' : List (List KK)), e = .returned (.tuple #[.int .i64 (t : Int), .int .i64 0]) ∧ Turn C3 f f' w w' ∧ TreeO w' f' tb L' ∧ L'[t]? = some (A ++ [pk k]) ∧ (L' = L ∨ L' = L ++ [A ++ [pk k]])) := by
  obtain ⟨p, c, c0, c1, hrow⟩ := h.form
  obtain ⟨rb, sv, mb, rfl, l1, l2, l3, c2, c3, hS⟩ := hrow s A hs
  have hsl := (List.getElem?_eq_some_iff.1 hs).1
  obtain ⟨ss, gg, nn, r1, r2, r3, r4, r5, r6, r7⟩ := hS
  have hlen : ss.length = A.length := by rw [← r2]; simp
  obtain ⟨z, hz, hlk⟩ := look_K r5 (pk k) (pk_ok hk)
  rw [r7 _ (pk_ok hk), hno] at hlk
  dsimp only [Option.map, Option.isSome] at hlk
  have hsf : ∃ p' c', sv = .slice p' ss.length c' ∧ (ss.length ≤ c') ∧ (p' = none → ss.length = 0 ∧ c' = 0) := by
    rcases r1.1.2 with ⟨e, h⟩ | ⟨g, cap, cur, e, _, _, hc, _⟩
    · rw [h]; exact ⟨_, _, e, Nat.zero_le _, fun _ => ⟨rfl, rfl⟩⟩
    · exact ⟨_, _, e, hc, fun h => by cases h⟩
  obtain ⟨p', c', rfl, hcc, hpn⟩ := hsf
  have hP := Lib.hid (c_Splain k hk.1)
  have hI := Lib.hid (c_Sis ((h.turn (Turn.of_below (fun _ => False) (w' := w.alloc (.cells #[.string k.1, .int .i64 k.2] 31)) hN ((Below.refl _ w).alloc (Nat.le_refl _) _)) id id id id)) s hsl)
  have p1 : (0 : Int) ≤ (s : Int) := by omega
  have p2 : (s : Int) < (L.length : Int) := by omega
  have n0 : ¬ fl < 0 := by omega
  have n15 : ¬ 15 < fl := by omega
  unfold keyV
  replace h := Lib.hid h
  replace hlen := Lib.hid hlen
  replace hL := Lib.hid hL
  replace hN := Lib.hid hN
  replace hno := Lib.hid hno
  replace hs := Lib.hid hs
  replace hk := Lib.hid hk
  replace r1 := Lib.hid r1
  replace r2 := Lib.hid r2
  replace r3 := Lib.hid r3
  replace r4 := Lib.hid r4
  replace hpn := Lib.hid hpn
  obtain ⟨k0, kn⟩ := k
  dsimp only at *
  generalize hK : pk (k0, kn) = K at *
  replace hK := Lib.hid hK
  clear hz r5 r6 r7 hrow
  go_enter Tryz.func112, Tryz.ntmps112
  obtain ⟨W1, hW1⟩ : ∃ W1, w.alloc (.cells #[.string k0, .int .i64 kn] 31) = W1 := ⟨_, rfl⟩
  have hal1 : Below w.heap.size w W1 := by rw [← hW1]; exact (Below.refl _ w).alloc (Nat.le_refl _) _
  have hs1 : W1.heap.size = w.heap.size + 1 := by rw [← hW1]; simp
  have d0 : W1.heap[w.heap.size]? = some (.cells #[.string k0, .int .i64 kn] 31 (0, 0)) := by rw [← hW1]; exact heap_alloc_new w _
  rw [hW1] at hI
  rw [← hal1.cell (show (⟨tb, 1, none⟩ : Addr).block < _ from l1)] at c1
  rw [← hal1.cell (show (⟨rb, s * 2, none⟩ : Addr).block < _ from l2)] at c2
  rw [← hal1.cell (show (⟨rb, s * 2 + 1, none⟩ : Addr).block < _ from l2)] at c3
  rw [← hal1.block mb l3] at hlk
  clear c0
  obtain ⟨W2, hW2⟩ : ∃ W2, W1.alloc (.cells #[.slice p' ss.length c', .map (some mb)] 119) = W2 := ⟨_, rfl⟩
  have hal2 : Below W1.heap.size W1 W2 := by rw [← hW2]; exact (Below.refl _ W1).alloc (Nat.le_refl _) _
  have hs2 : W2.heap.size = W1.heap.size + 1 := by rw [← hW2]; simp
  have x0 : W2.heap[W1.heap.size]? = some (.cells #[.slice p' ss.length c', .map (some mb)] 119 (0, 0)) := by rw [← hW2]; exact heap_alloc_new W1 _
  have d0' : W2.heap[w.heap.size]? = some (.cells #[.string k0, .int .i64 kn] 31 (0, 0)) := (hal2.block _ (by omega)).trans d0
  have kc0 : W2.cell? ⟨w.heap.size, 0, none⟩ = some (.string k0) := by rw [cell_of_row _ _ 0 _ _ _ d0']; rfl
  have kc1 : W2.cell? ⟨w.heap.size, 1, none⟩ = some (.int .i64 kn) := by rw [cell_of_row _ _ 1 _ _ _ d0']; rfl
  have xc0 : W2.cell? ⟨W1.heap.size, 0, none⟩ = some (.slice p' ss.length c') := by rw [cell_of_row _ _ 0 _ _ _ x0]; rfl
  have xc1 : W2.cell? ⟨W1.heap.size, 1, none⟩ = some (.map (some mb)) := by rw [cell_of_row _ _ 1 _ _ _ x0]; rfl
  rw [← hal2.block mb (by omega)] at hlk
  have t1 : w.heap.size < W2.heap.size := by omega
  have t2 : W1.heap.size < W2.heap.size := by omega
  have t3 : mb < W2.heap.size := by omega
  replace hs1 := Lib.hid hs1
  replace hs2 := Lib.hid hs2
  replace l1 := Lib.hid l1
  replace l2 := Lib.hid l2
  replace l3 := Lib.hid l3
  clear d0 d0' x0
  go_wp2_with (first | (go_at_call 69; refine hI.out.mono ?_; rintro e w1 ⟨rfl, e1⟩; cases e1))
  go_region_held3 (fun y => (∀ a : Addr, a.block < W2.heap.size → y.cell? a = W2.cell? a) ∧ (∀ b : Nat, b < W2.heap.size → y.heap[b]? = W2.heap[b]?) ∧ Below W2.heap.size W2 y) (first | assumption | exact onto_drew W2 | exact onto_below (by assumption) (by assumption)) (first | (go_at_call 115; refine (hP.out _).mono ?_; rintro e y' ⟨rfl, hb⟩))
  have hO := onto_below (onto_drew W2) hb
  rw [← hO.1 ⟨w.heap.size, 0, none⟩ t1] at kc0
  rw [← hO.1 ⟨w.heap.size, 1, none⟩ t1] at kc1
  rw [← hO.1 ⟨W1.heap.size, 0, none⟩ t2] at xc0
  have hbw : Below w.heap.size w y' := (hal1.trans (hal2.mono hal1.size)).trans (hO.2.2.mono (by have := hs1.out; have := hs2.out; omega))
  have t1' : w.heap.size < y'.heap.size := Nat.lt_of_lt_of_le t1 hO.2.2.size
  have t2' : W1.heap.size < y'.heap.size := Nat.lt_of_lt_of_le t2 hO.2.2.size
  have t4 : w.heap.size ≤ W1.heap.size := by have := hs1.out; omega
  generalize W1.heap.size = xb at *
  clear hlk hb hO xc1 t1 t2 t3 c1 c2 c3 hal2 hW2 hI
  rcases Nat.lt_or_ge A.length 128 with hsm | hbig
  · have m0 : ¬ (128 : Int) ≤ (ss.length : Int) := by have := hlen.out; omega
    go_wp2_with fail
    have hP2 : ∀ y : World, Calls Tryz.prog 115 #[.agg #[.string k0, .int .i64 kn]] y fun e w' => e = .returned (.agg #[.string K.1, .int .i64 K.2]) ∧ Below y.heap.size y w' := hP.out
    replace hP2 := Lib.hid hP2
    have hNy : Norm f y' := fun r hr => hN.out r (Nat.le_trans hbw.size hr)
    have hTy : TreeO y' f tb L := h.out.turn (Turn.of_below (fun _ => False) hN.out hbw) id id id id
    have hst := folP_start hTy hNy (A ++ [K]) (klW (s : Int) false K fl)
    have hnk : idx A K = none := hno.out
    have hpk : pk (k0, kn) = K := hK.out
    have hsn : (flatS ss ++ [.string k0, .int .i64 kn, .int .i64 fl]) = flatS (ss ++ [((k0, kn), fl)]) := by simp [flatS, encS]
    have hok2 : ∀ x ∈ ss ++ [((k0, kn), fl)], okK x.1 := by
      intro x hx
      rcases List.mem_append.1 hx with h | h
      · exact r3.out x h
      · simp at h; subst h; exact hk.out
    have hwf : (Lit.int .i64 fl).wf = true := WalkArith.wf_i64 (by omega)
    have hfo := fun (y : World) (v : Value) (hS : (∀ a : Addr, a.block < y'.heap.size → ¬ C3 (f a.block) → y.cell? a = y'.cell? a) ∧ FolP y' f tb L (A ++ [K]) (klW (s : Int) false K fl) y) (hr : RowN y v (ss.length + 1) (flatS ss ++ [.string k0, .int .i64 kn, .int .i64 fl]) y'.heap.size) =>
      c_followS (W := y') (y := y) (f := f) (tb := tb) (L := L) (T := A ++ [K]) s false K fl hL.out A hs.out (by rw [← hpk]; exact pk_ok hk.out) hwf v (ss ++ [((k0, kn), fl)]) rfl (by simp [r2.out, hpk])
        hok2
        (by rw [List.nodup_append]; exact ⟨r4.out, by simp, fun a ha b hb e => idx_none.1 hnk (by simp at hb; rw [← hb, ← e]; exact ha)⟩) (by have := hlen.out; simp; omega) hS (by rw [← hsn]; simpa using hr.1) hr.2
    have hold : ∀ y : World, (∀ a : Addr, a.block < y'.heap.size → ¬ C3 (f a.block) → y.cell? a = y'.cell? a) → ∀ b, p' = some b → ∀ j u, (flatS ss)[j]? = some u → y.cell? (b.add j) = some u := by
      intro y hy b hb j u hu
      subst hb
      have hb2 : ∃ g, (Value.slice (some b) ss.length c').ownBlock = some g ∧ b = ⟨g, 0, none⟩ := by
        rcases r1.out.1.2 with ⟨e, _⟩ | ⟨g, cap, cur, e, _⟩
        · cases e
        · injection e with e; injection e with e; subst e; exact ⟨g, rfl, rfl⟩
      obtain ⟨g, hg, rfl⟩ := hb2
      have hlt := (r1.out.1.lt g hg).2
      have hc := r1.out.1.cells hg j u hu
      rw [Addr.add_lit] at hc ⊢
      rw [hy ⟨g, 0 + j, none⟩ (show g < _ from Nat.lt_of_lt_of_le hlt hbw.size) (by show ¬ C3 (f g); rw [r1.out.2 g hg]; unfold C3; omega)]
      rw [hbw.cell (show (⟨g, 0 + j, none⟩ : Addr).block < _ from hlt)]
      exact hc
    have f1 : ¬ C3 (f w.heap.size) := by rw [hN.out _ (Nat.le_refl _)]; unfold C3; omega
    have f2 : ¬ C3 (f xb) := by rw [hN.out _ t4]; unfold C3; omega
    have hlo := flatS_len ss
    have hsl1 : ss.length ≤ 1000 := by have := hlen.out; omega
    have hone : ∀ u ∈ [Value.string k0, .int .i64 kn, .int .i64 fl], u.oneCell' = true := by simp [Value.oneCell']
    have i1 : (0 : Int) ≤ (ss.length : Int) := by omega
    have i2 : (ss.length : Int) ≤ (c' : Int) := by omega
    replace hfo := Lib.hid hfo
    replace hold := Lib.hid hold
    replace hlo := Lib.hid hlo
    replace hsl1 := Lib.hid hsl1
    replace hone := Lib.hid hone
    replace hbw := Lib.hid hbw
    clear hsn hnk hpk hTy hNy hok2 hwf
    go_region_held3 (fun y => (∀ a : Addr, a.block < y'.heap.size → ¬ C3 (f a.block) → y.cell? a = y'.cell? a) ∧ FolP y' f tb L (A ++ [K]) (klW (s : Int) false K fl) y) (first | assumption | exact hst | exact folP_below (by assumption) (by assumption) | exact folP_grown (by assumption) (by assumption) | exact folP_alloc (by assumption) _) (first | (go_at_call 115; refine (hP2.out _).mono ?_; rintro e y2 ⟨rfl, hb2⟩) | (refine slot_append rfl _ _ rfl p' ss.length rfl _ rfl [.string k0, .int .i64 kn, .int .i64 fl] rfl hone.out (flatS ss) hlo.out (fun h => (hpn.out h).1) hsl1.out y'.heap.size (folP_size (And.right (by assumption))) (hold.out _ (And.left (by assumption))) ?_ ?_; (first | exact heap_alloc_new _ _ | exact (hb2.block _ (by simp)).trans (heap_alloc_new _ _)); intro v4 w4 hr4 hg4) | (go_at_call 117; refine (hfo.out _ _ (by assumption) ?_).mono ?_; (first | assumption | exact RowN.below (by assumption) (by assumption)); rintro e y5 ⟨t, rfl, hE, hSS⟩))
    all_goals
      obtain ⟨fy, Ly, e1, e2, e3, e4, e5⟩ := hE
      have e1' := Lib.hid ((Turn.of_below C3 hN.out hbw.out).trans e1)
      replace e2 := Lib.hid e2
      replace e3 := Lib.hid e3
      clear hSS hst e1 e5 t2' t1' xc0 kc0 kc1
      go_wp2
      go_ret2
      exact .inr ⟨hsm, t, fy, Ly, rfl, e1'.out, e2.out, e3.out, e4⟩
  · have m0 : (128 : Int) ≤ (ss.length : Int) := by have := hlen.out; omega
    replace hbw := Lib.hid hbw
    go_wp2
    go_ret2
    exact .inl ⟨hbig, rfl, hbw.out⟩
end Go.Proofs.YtoccmiinkfhohaaGreat
namespace Go.Proofs.YtoccmiinkfhohaaGreat
open Go.RowKit Go.Shelf Go.Lib Go.Sort Go.Proofs Go.Maps
set_option maxHeartbeats 1000000
set_option maxRecDepth 100000

theorem row_set {w : World} {B : Nat} {e : TypeId} {size n cap g : Nat} {xs : List Value} (h : w.ownsRow B e size (.slice (some ⟨g, 0, none⟩) n cap) n xs) (j : Nat) (u : Value) :
    (w.setCell ⟨g, j, none⟩ u).ownsRow B e size (.slice (some ⟨g, 0, none⟩) n cap) n (xs.set j u) := by
  refine ⟨by simpa using h.1, ?_⟩
  rcases h.2 with ⟨h, _⟩ | ⟨g', cap', cur, e1, hb, hg, h1, h2, h3, h4⟩
  · cases h
  · injection e1 with e1 e2 e3
    injection e1 with e1
    injection e1 with e1
    subst e1
    subst e3
    refine .inr ⟨g, cap, cur.setIfInBounds j u, rfl, hb, ?_, h1, h2, by simpa using h3, ?_⟩
    · exact Go.heap_setCell_same w g j _ _ _ hg
    · rw [Array.toList_setIfInBounds, List.take_set, h4]
theorem row_front {w : World} {B : Nat} {e : TypeId} {size n : Nat} {v : Value} {xs : List Value} (h : w.ownsRow B e size v n xs) (hn : 0 < n) :
    ∃ g cap, v = .slice (some ⟨g, 0, none⟩) n cap ∧ B ≤ g ∧ g < w.heap.size ∧ (∀ j u, xs[j]? = some u → w.cell? ⟨g, j, none⟩ = some u) ∧ ∀ j, w.frozen? ⟨g, j, none⟩ = false := by
  have h0 := h
  rcases h.2 with ⟨_, h⟩ | ⟨g, cap, cur, rfl, hb, hg, _⟩
  · omega
  · refine ⟨g, cap, rfl, hb, heapH_lt hg, fun j u hj => ?_, fun j => by simp [World.frozen?, hg]⟩
    have := h0.cells (g := g) rfl j u hj
    rw [Addr.add_lit] at this
    simpa using this
theorem row_base {w : World} {B : Nat} {e : TypeId} {size n : Nat} {v : Value} {xs : List Value} (h : w.ownsRow B e size v n xs) : w.ownsRow 0 e size v n xs := by
  refine ⟨h.1, ?_⟩
  rcases h.2 with h | ⟨g, cap, cur, e, _, r⟩
  · exact .inl h
  · exact .inr ⟨g, cap, cur, e, Nat.zero_le _, r⟩
theorem grown_below {w w' : World} (hg : w.grownBy w' none) : Below w.heap.size w w' := ⟨hg.os, hg.tape, hg.output, hg.size, fun r hr => hg.block r hr (by simp)⟩
theorem cell_set_other {w : World} {b j g i : Nat} {u v : Value} (h : w.cell? ⟨b, j, none⟩ = some u) (hne : b ≠ g) : (w.setCell ⟨g, i, none⟩ v).cell? ⟨b, j, none⟩ = some u :=
  (World.cell?_of_block (w := w) (Below.heap_setCell _ _ _ _ hne)).trans h
theorem fm_set {α : Type} {enc : α → List Value} {k : Nat} (h : ∀ x, (enc x).length = k) {l : List α} : ∀ {i : Nat} {x x' : α} {j : Nat} {v : Value}, l[i]? = some x → j < k → (enc x).set j v = enc x' → (l.flatMap enc).set (i * k + j) v = (l.set i x').flatMap enc := by
  induction l with
  | nil => intro i x x' j v hx; simp at hx
  | cons a l ih =>
    intro i x x' j v hx hj he
    cases i with
    | zero =>
      simp at hx; subst hx
      rw [List.set_cons_zero, List.flatMap_cons, List.flatMap_cons, Nat.zero_mul, Nat.zero_add, List.set_append_left _ _ (by rw [h]; exact hj), he]
    | succ i =>
      rw [List.set_cons_succ, List.flatMap_cons, List.flatMap_cons, List.set_append_right _ _ (by rw [h, Nat.add_mul]; omega), h]
      have e : (i + 1) * k + j - k = i * k + j := by rw [Nat.add_mul]; omega
      rw [e, ih (by simpa using hx) hj he]
theorem flatS_set {l : List SL} {i : Nat} {x : SL} (h : l[i]? = some x) (fl : Int) : (flatS l).set (i * 3 + 2) (.int .i64 fl) = flatS (l.set i (x.1, fl)) :=
  fm_set (enc := encS) (k := 3) (fun _ => rfl) h (by omega) rfl
theorem c_SChange {w : World} {f : Nat → Nat} {tb : Nat} {L : List (List KK)} (hN : Norm f w) (h : TreeO w f tb L) (hL : L.length < 100000) (s : Nat) (A : List KK) (hs : L[s]? = some A) (hA : A.length ≤ 1000) (k : KK) (hk : okK k) (i : Nat) (hno : idx A (pk k) = some i) (fl : Int) (h0 : 0 ≤ fl) (h15 : fl ≤ 15) :
    Calls Tryz.prog 113 #[.pointer (some ⟨tb, 0, none⟩), .int .i64 (s : Int), keyV k.1 k.2, .int .i64 fl] w fun e w' =>
      ∃ (t : Nat) (f' : Nat → Nat) (L' : List (List KK)), e = .returned (.tuple #[.int .i64 (t : Int), .int .i64 0]) ∧ Turn C3 f f' w w' ∧ TreeO w' f' tb L' ∧ L'[t]? = some A ∧ (L' = L ∨ L' = L ++ [A]) := by
  obtain ⟨p, c, c0, c1, hrow⟩ := h.form
  obtain ⟨rb, sv, mb, rfl, l1, l2, l3, c2, c3, hS⟩ := hrow s A hs
  have hsl := (List.getElem?_eq_some_iff.1 hs).1
  obtain ⟨ss, gg, nn, r1, r2, r3, r4, r5, r6, r7⟩ := hS
  have hlen : ss.length = A.length := by rw [← r2]; simp
  obtain ⟨z, hz, hlk⟩ := look_K r5 (pk k) (pk_ok hk)
  rw [r7 _ (pk_ok hk), hno] at hlk
  rw [r7 _ (pk_ok hk), hno] at hz
  dsimp only [Option.map, Option.isSome] at hlk
  obtain rfl := hz _ rfl
  have hi : i < ss.length := by rw [hlen]; exact idx_lt hno
  have q3 : (0 : Int) ≤ (i : Int) := by omega
  have q4 : (i : Int) < (ss.length : Int) := by omega
  have hsf : ∃ p' c', sv = .slice p' ss.length c' ∧ (ss.length ≤ c') ∧ (p' = none → ss.length = 0 ∧ c' = 0) := by
    rcases r1.1.2 with ⟨e, h⟩ | ⟨g, cap, cur, e, _, _, hc, _⟩
    · rw [h]; exact ⟨_, _, e, Nat.zero_le _, fun _ => ⟨rfl, rfl⟩⟩
    · exact ⟨_, _, e, hc, fun h => by cases h⟩
  obtain ⟨p', c', rfl, hcc, hpn⟩ := hsf
  have hP := Lib.hid (c_Splain k hk.1)
  have hI := Lib.hid (c_Sis ((h.turn (Turn.of_below (fun _ => False) (w' := w.alloc (.cells #[.string k.1, .int .i64 k.2] 31)) hN ((Below.refl _ w).alloc (Nat.le_refl _) _)) id id id id)) s hsl)
  have p1 : (0 : Int) ≤ (s : Int) := by omega
  have p2 : (s : Int) < (L.length : Int) := by omega
  have n0 : ¬ fl < 0 := by omega
  have n15 : ¬ 15 < fl := by omega
  unfold keyV
  replace h := Lib.hid h
  replace hlen := Lib.hid hlen
  replace hL := Lib.hid hL
  replace hN := Lib.hid hN
  replace hno := Lib.hid hno
  replace hi := Lib.hid hi
  replace hs := Lib.hid hs
  replace hk := Lib.hid hk
  replace r1 := Lib.hid r1
  replace r2 := Lib.hid r2
  replace r3 := Lib.hid r3
  replace r4 := Lib.hid r4
  replace hpn := Lib.hid hpn
  obtain ⟨k0, kn⟩ := k
  dsimp only at *
  generalize hK : pk (k0, kn) = K at *
  replace hK := Lib.hid hK
  clear hz r5 r6 r7 hrow
  go_enter Tryz.func113, Tryz.ntmps113
  obtain ⟨W1, hW1⟩ : ∃ W1, w.alloc (.cells #[.string k0, .int .i64 kn] 31) = W1 := ⟨_, rfl⟩
  have hal1 : Below w.heap.size w W1 := by rw [← hW1]; exact (Below.refl _ w).alloc (Nat.le_refl _) _
  have hs1 : W1.heap.size = w.heap.size + 1 := by rw [← hW1]; simp
  have d0 : W1.heap[w.heap.size]? = some (.cells #[.string k0, .int .i64 kn] 31 (0, 0)) := by rw [← hW1]; exact heap_alloc_new w _
  rw [hW1] at hI
  rw [← hal1.cell (show (⟨tb, 1, none⟩ : Addr).block < _ from l1)] at c1
  rw [← hal1.cell (show (⟨rb, s * 2, none⟩ : Addr).block < _ from l2)] at c2
  rw [← hal1.cell (show (⟨rb, s * 2 + 1, none⟩ : Addr).block < _ from l2)] at c3
  rw [← hal1.block mb l3] at hlk
  clear c0
  obtain ⟨W2, hW2⟩ : ∃ W2, W1.alloc (.cells #[.slice p' ss.length c', .map (some mb)] 119) = W2 := ⟨_, rfl⟩
  have hal2 : Below W1.heap.size W1 W2 := by rw [← hW2]; exact (Below.refl _ W1).alloc (Nat.le_refl _) _
  have hs2 : W2.heap.size = W1.heap.size + 1 := by rw [← hW2]; simp
  have x0 : W2.heap[W1.heap.size]? = some (.cells #[.slice p' ss.length c', .map (some mb)] 119 (0, 0)) := by rw [← hW2]; exact heap_alloc_new W1 _
  have d0' : W2.heap[w.heap.size]? = some (.cells #[.string k0, .int .i64 kn] 31 (0, 0)) := (hal2.block _ (by omega)).trans d0
  have kc0 : W2.cell? ⟨w.heap.size, 0, none⟩ = some (.string k0) := by rw [cell_of_row _ _ 0 _ _ _ d0']; rfl
  have kc1 : W2.cell? ⟨w.heap.size, 1, none⟩ = some (.int .i64 kn) := by rw [cell_of_row _ _ 1 _ _ _ d0']; rfl
  have xc0 : W2.cell? ⟨W1.heap.size, 0, none⟩ = some (.slice p' ss.length c') := by rw [cell_of_row _ _ 0 _ _ _ x0]; rfl
  have xc1 : W2.cell? ⟨W1.heap.size, 1, none⟩ = some (.map (some mb)) := by rw [cell_of_row _ _ 1 _ _ _ x0]; rfl
  rw [← hal2.block mb (by omega)] at hlk
  have t1 : w.heap.size < W2.heap.size := by omega
  have t2 : W1.heap.size < W2.heap.size := by omega
  have t3 : mb < W2.heap.size := by omega
  replace hs1 := Lib.hid hs1
  replace hs2 := Lib.hid hs2
  replace l1 := Lib.hid l1
  replace l2 := Lib.hid l2
  replace l3 := Lib.hid l3
  clear d0 d0' x0
  go_wp2_with (first | (go_at_call 69; refine hI.out.mono ?_; rintro e w1 ⟨rfl, e1⟩; cases e1))
  go_region_held3 (fun y => (∀ a : Addr, a.block < W2.heap.size → y.cell? a = W2.cell? a) ∧ (∀ b : Nat, b < W2.heap.size → y.heap[b]? = W2.heap[b]?) ∧ Below W2.heap.size W2 y) (first | assumption | exact onto_drew W2 | exact onto_below (by assumption) (by assumption)) (first | (go_at_call 115; refine (hP.out _).mono ?_; rintro e y' ⟨rfl, hb⟩))
  have hO := onto_below (onto_drew W2) hb
  rw [← hO.1 ⟨w.heap.size, 0, none⟩ t1] at kc0
  rw [← hO.1 ⟨w.heap.size, 1, none⟩ t1] at kc1
  rw [← hO.1 ⟨W1.heap.size, 0, none⟩ t2] at xc0
  have hbw : Below w.heap.size w y' := (hal1.trans (hal2.mono hal1.size)).trans (hO.2.2.mono (by have := hs1.out; have := hs2.out; omega))
  have t1' : w.heap.size < y'.heap.size := Nat.lt_of_lt_of_le t1 hO.2.2.size
  have t2' : W1.heap.size < y'.heap.size := Nat.lt_of_lt_of_le t2 hO.2.2.size
  have t4 : w.heap.size ≤ W1.heap.size := by have := hs1.out; omega
  generalize W1.heap.size = xb at *
  clear hlk hb hO xc1 t1 t2 t3 c1 c2 c3 hal2 hW2 hI
  have hrw : y'.ownsRow 0 161 3 (.slice p' ss.length c') ss.length (flatS ss) := own_at r1.out.1 (fun r hr => hbw.block r (r1.out.1.lt r hr).2)
  obtain ⟨g, cap, heq, _, _⟩ := hrw.form (by have := hi.out; omega)
  injection heq with e1 e2 e3
  subst e1
  subst e3
  clear e2
  obtain ⟨x, hx⟩ : ∃ x, ss[i]? = some x := ⟨_, List.getElem?_eq_getElem hi.out⟩
  have c4 := hrw.cells (g := g) rfl _ _ (flatS_get hx).2.2
  rw [add_zero_addr] at c4
  have hNy : Norm f y' := fun r hr => hN.out r (Nat.le_trans hbw.size hr)
  have hTy : TreeO y' f tb L := h.out.turn (Turn.of_below (fun _ => False) hN.out hbw) id id id id
  obtain ⟨⟨xk0, xkn⟩, xf⟩ := x
  dsimp only at c4
  by_cases hxf : xf = fl
  · subst hxf
    replace hbw := Lib.hid hbw
    replace hTy := Lib.hid hTy
    replace hrw := Lib.hid hrw
    replace hx := Lib.hid hx
    clear hNy
    go_wp2
    go_ret2
    exact ⟨s, f, L, rfl, Turn.of_below _ hN.out hbw.out, hTy.out, hs.out, .inl rfl⟩
  · have hlo := flatS_len ss
    have hcells := hrw.cells (g := g) rfl
    have hone : ∀ u ∈ flatS ss, u.oneCell' = true := by
      intro u hu
      obtain ⟨y, _, hy⟩ := List.mem_flatMap.1 hu
      simp [encS] at hy
      rcases hy with rfl | rfl | rfl <;> rfl
    have hsl1 : 0 < ss.length ∧ ss.length ≤ 1000 := by have := hlen.out; have := hi.out; omega
    have hss2 : (ss.set i ((xk0, xkn), fl)).map (fun x => pk x.1) = A := by
      rw [List.map_set, ← r2.out]
      apply List.ext_getElem?
      intro j
      rw [List.getElem?_set]
      split
      · rename_i e; subst e
        rw [List.getElem?_map, hx]
        simp [hi.out]
      · rfl
    have hok2 : ∀ x ∈ ss.set i ((xk0, xkn), fl), okK x.1 := by
      intro x hx'
      rcases List.mem_or_eq_of_mem_set hx' with h | h
      · exact r3.out x h
      · subst h; exact r3.out ((xk0, xkn), xf) (List.mem_of_getElem? hx)
    have hwf : (Lit.int .i64 fl).wf = true := WalkArith.wf_i64 (by omega)
    have hpk : pk (k0, kn) = K := hK.out
    have hP2 : ∀ y : World, Calls Tryz.prog 115 #[.agg #[.string k0, .int .i64 kn]] y fun e w' => e = .returned (.agg #[.string K.1, .int .i64 K.2]) ∧ Below y.heap.size y w' := hP.out
    replace hP2 := Lib.hid hP2
    have hfo := fun (y : World) (v : Value) (hB : Below y'.heap.size y' y) (hr : RowN y v ss.length (flatS (ss.set i ((xk0, xkn), fl))) y'.heap.size) =>
      c_followS (W := y') (y := y) (f := f) (tb := tb) (L := L) (T := A) s true K fl hL.out A hs.out (by rw [← hpk]; exact pk_ok hk.out) hwf v (ss.set i ((xk0, xkn), fl)) rfl hss2 hok2 r4.out (by simp; omega) ⟨fun a ha _ => hB.cell ha, .inl ⟨hTy, hNy, hB⟩⟩ (by simpa using hr.1) hr.2
    obtain ⟨i0, hi0, hz0, hz1, hz2⟩ := info_parts infoSlot
    have hm1 : 0 + ss.length ≤ maxLen ∧ (0 + ss.length) * 32 ≤ 140737488355328 ∧ 0 < 0 + ss.length := by unfold maxLen; omega
    replace hlo := Lib.hid hlo
    replace hcells := Lib.hid hcells
    replace hone := Lib.hid hone
    replace hsl1 := Lib.hid hsl1
    replace hfo := Lib.hid hfo
    replace hm1 := Lib.hid hm1
    have hxs := Lib.hid (flatS_set hx fl)
    have hx3 := Lib.hid (flatS_get hx).2.2
    replace hbw := Lib.hid hbw
    replace hrw := Lib.hid hrw
    replace hx := Lib.hid hx
    clear hNy hTy hss2 hok2 hwf hpk
    go_wp2_with (first | (at_builtin; refine wpList_append_grows _ rfl _ _ 117 rfl 161 i0 _ 3 32 Tryz.underlying117 hi0 hz0 hz1 hz2 rfl (by omega) none 0 0 [] rfl (fun _ => ⟨rfl, rfl⟩) rfl (fun b hb => by cases hb) ⟨g, 0, none⟩ ss.length c' (flatS ss) rfl hlo.out hcells.out hone.out hm1.out.2.2 hm1.out.1 hm1.out.2.1 ?_; intro v4 w4 hown4 hg4; rw [Nat.zero_add, List.nil_append] at hown4; obtain ⟨g4, cap4, rfl, b4, s4, cc4, ff4⟩ := row_front hown4 hsl1.out.1; have cc5 := cc4 _ _ hx3.out; have ff5 := ff4 (i * 3 + 2); have hb4 := grown_below hg4; have kc0' := cell_set_other (i := i * 3 + 2) (v := .int .i64 fl) ((hb4.cell (show (⟨w.heap.size, 0, none⟩ : Addr).block < _ from t1')).trans kc0) (show w.heap.size ≠ g4 by omega); have kc1' := cell_set_other (i := i * 3 + 2) (v := .int .i64 fl) ((hb4.cell (show (⟨w.heap.size, 1, none⟩ : Addr).block < _ from t1')).trans kc1) (show w.heap.size ≠ g4 by omega); have hr5 := Lib.hid (show RowN (w4.setCell ⟨g4, i * 3 + 2, none⟩ (.int .i64 fl)) (.slice (some ⟨g4, 0, none⟩) ss.length cap4) ss.length (flatS (ss.set i ((xk0, xkn), fl))) y'.heap.size from ⟨by rw [← hxs.out]; exact row_set (row_base hown4) _ _, fun r hr => by simp [Value.ownBlock] at hr; subst hr; exact b4⟩); have hB5 := Lib.hid (hb4.setCell (p := ⟨g4, i * 3 + 2, none⟩) b4 (.int .i64 fl)); clear hown4 cc4 ff4 hg4 hb4) | (go_at_call 115; refine (hP2.out _).mono ?_; rintro e y2 ⟨rfl, hb2⟩; replace hb2 := Lib.hid hb2) | (go_at_call 117; refine (hfo.out _ _ ?_ ?_).mono ?_; exact hB5.out.trans (hb2.out.mono hB5.out.size); exact hr5.out.below hb2.out; rintro e y5 ⟨t, rfl, hE, hSS⟩; replace hE := Lib.hid hE; clear hSS))
    go_ret2
    obtain ⟨fy, Ly, e1, e2, e3, e4, e5⟩ := hE.out
    exact ⟨t, fy, Ly, rfl, (Turn.of_below C3 hN.out hbw.out).trans e1, e2, e3, e4⟩
end Go.Proofs.YtoccmiinkfhohaaGreat
namespace Go.Proofs.YtoccmiinkfhohaaGreat
open Go.RowKit Go.Shelf Go.Lib Go.Sort Go.Proofs Go.Maps
set_option maxHeartbeats 1000000
set_option maxRecDepth 8000

/-- no block has gone; but for those of ex each is as it was -/
def KeepBut (ex : Nat → Prop) (W W' : World) : Prop := W.heap.size ≤ W'.heap.size ∧ ∀ r, r < W.heap.size → ¬ ex r → W'.heap[r]? = W.heap[r]?
theorem KeepBut.refl (ex : Nat → Prop) (W : World) : KeepBut ex W W := ⟨Nat.le_refl _, fun _ _ _ => rfl⟩
theorem KeepBut.trans {ex : Nat → Prop} {A B C : World} (h : KeepBut ex A B) (k : KeepBut ex B C) : KeepBut ex A C :=
  ⟨Nat.le_trans h.1 k.1, fun r hr he => (k.2 r (Nat.lt_of_lt_of_le hr h.1) he).trans (h.2 r hr he)⟩
theorem KeepBut.mono {ex ex' : Nat → Prop} {A B : World} (h : KeepBut ex A B) (hx : ∀ r, ex r → ex' r) : KeepBut ex' A B := ⟨h.1, fun r hr he => h.2 r hr (fun h => he (hx r h))⟩
/-- what an iterator's call comes to: xs come, one after the other, or a round ends it all -/
def SeqG {α : Type} (g : Nat) (lb : Array Value) (encs : α → Array Value) (xs : List α) (kb : Nat) (w : World) : Prop :=
  ∀ (n l : Nat) (J Jx : List α → World → Prop) (W : World), Below w.heap.size w W → OwnFrom W.heap.size J → OwnFrom W.heap.size Jx → w.heap.size ≤ l → l < W.heap.size → kb < W.heap.size → (∃ o, W.heap[l]? = some (.loop o)) →
    (∀ pre x W1, J pre W1 → (pre ++ [x]) <+: xs → YieldAt Fence.wide (n - 1) Tryz.prog l (encs x) W1 fun e W' =>
      (e = .returned (.bool true) ∧ J (pre ++ [x]) W' ∧ KeepBut (fun r => r = kb ∨ l < r) W1 W') ∨ (e = .returned (.bool false) ∧ Jx (pre ++ [x]) W')) →
    J [] W →
    CallsIn Fence.wide n Tryz.prog g (#[.func (.yield l) #[] #[]] ++ lb) W fun e W' => (∃ v, e = .returned v) ∧ (J xs W' ∨ ∃ pre, Jx pre W')
/-- how a round's body may be left -/
def postG {α : Type} (kb B : Nat) (I : List α → World → Prop) (Ix : Code → List α → World → Prop) (xs : List α) (W : World) : Exit → Act → World → Prop
  | .normal, _, W' => KeepBut (fun r => r = kb ∨ B + 1 < r) W W' ∧ I xs W'
  | .ret, _, W' => KeepBut (fun r => r = kb ∨ r < B ∨ B + 1 < r) W W' ∧ Ix .ret xs W'
  | .exit id, _, W' => KeepBut (fun r => r = kb ∨ r < B ∨ B + 1 < r) W W' ∧ Ix (.exit id) xs W'
  | _, _, _ => False
theorem own_turn {β : Type} {B l : Nat} {I : β → World → Prop} (h : OwnFrom B I) {s : β} {W : World} {o : Obj} (o' : Obj) (hs : I s W) (hB : B ≤ l) (hl : W.heap[l]? = some o) (ho : o.isCells = false) : I s (W.putObj l o') := h.putObj o' hs hB hl ho
theorem rangeG {α : Type} {n : Nat} {g : Operand} {ps : Array Tmp} {assign body : Code} {Q : Exit → Act → World → Prop} {a : Act} {w : World} {gf : Nat} {lb : Array Value} (hg : a.eval g = .func (.func gf) #[] lb)
    (eg : ∀ args w, (callFunc gf args).run Tryz.prog w = .ok (.enter gf args) w) {encs : α → Array Value} {xs : List α} {kb : Nat} {w0 : World} (hseq : SeqG gf lb encs xs kb w0) (hb0 : Below w0.heap.size w0 w) (hkb : kb < w.heap.size) (hps : ∀ x, (encs x).size = ps.size)
    (I : List α → World → Prop) (Ix : Code → List α → World → Prop) (hI : OwnFrom w.heap.size I) (hIx : ∀ c, OwnFrom w.heap.size (Ix c)) (h0 : I [] w) (a₁ : α → Act)
    (hassign : ∀ (l : Nat) (x : α) (W : World) (K : Act → World → Prop), K (a₁ x) W →
      assign.wpIn (Fence.wide.inRound l) (n - 1 - 1) Tryz.prog (Exit.then K (fun _ _ _ => False)) { tmps := (ps.zip (encs x)).foldl (fun t (p, v) => t.setIfInBounds p v) a.tmps, defers := [] } W)
    (hbody : ∀ (l : Nat) (pre : List α) (x : α) (W : World), I pre W → (pre ++ [x]) <+: xs → w.heap.size < l → l < W.heap.size → body.wpIn (Fence.wide.inRound l) (n - 1 - 1) Tryz.prog (postG kb w.heap.size I Ix (pre ++ [x]) W) (a₁ x) W)
    (hdone : ∀ (W : World), I xs W → W.heap[w.heap.size]? = some (.deferred (some [])) → Q .normal { a with defers := { target := .collected w.heap.size, args := #[] } :: a.defers } W)
    (hstop : ∀ (c : Code) (pre : List α) (W : World), Ix c pre W → W.heap[w.heap.size]? = some (.deferred (some [])) → c.wpIn Fence.wide n Tryz.prog Q { a with defers := { target := .collected w.heap.size, args := #[] } :: a.defers } W) :
    (Code.rangeFunc g ps assign body).wpIn Fence.wide n Tryz.prog Q a w := by
  refine wpIn_rangeFunc ?_
  intro fn hfn
  let rec' : LoopState → Option Code → Loop := fun st pe => { state := st, pending := pe, fn := fn, tmps := a.tmps, params := ps, assign := assign, body := body, defers := w.heap.size }
  have hrl : ∀ st pe, rec' st pe = { state := st, pending := pe, fn := fn, tmps := a.tmps, params := ps, assign := assign, body := body, defers := w.heap.size } := fun _ _ => rfl
  generalize rec' = rc at hrl
  obtain ⟨W1, hW1⟩ : ∃ W1, (w.alloc (.deferred (some []))).alloc (.loop (rc .ready none)) = W1 := ⟨_, rfl⟩
  have hs1 : W1.heap.size = w.heap.size + 1 + 1 := by rw [← hW1]; simp
  have hL : W1.heap[w.heap.size + 1]? = some (.loop (rc .ready none)) := by rw [← hW1]; exact heap_alloc2_new w _ _
  have hD : W1.heap[w.heap.size]? = some (.deferred (some [])) := by rw [← hW1]; exact (Below.heap_alloc _ _ _ (by simp)).trans (heap_alloc_new w _)
  have hI1 : I [] W1 := by rw [← hW1]; exact hI.alloc _ (hI.alloc _ h0)
  have hb1 : Below w0.heap.size w0 W1 := by rw [← hW1]; exact hb0.trans ((((Below.refl _ w).alloc (Nat.le_refl _) _).alloc (by simp) _).mono hb0.size)
  refine ⟨w.heap.size + 1, [{ target := .collected w.heap.size, args := #[] }], W1, { target := .fn (.func gf) lb, args := #[.func (.yield (w.heap.size + 1)) #[] #[]] }, W1, gf, #[.func (.yield (w.heap.size + 1)) #[] #[]] ++ lb, W1, ?_, ?_, (fun _ _ => trivial), ?_, (fun h => by cases h), ?_⟩
  · rw [← hW1, hrl]; exact run_enterLoop_outer _ _ _ _ _
  · simp only [resolve, hg]
    simp [go_sem]
  · simp [invoke, go_sem, eg]
  have keep : ∀ {A B : World} {row : Option Nat} {q : Nat} {o : Obj}, q < W1.heap.size → A.heap[q]? = some o → A.grownBy B row → (∀ r, row = some r → W1.heap.size ≤ r ∧ ∃ o : Obj, A.heap[r]? = some o ∧ o.isCells = false) → B.heap[q]? = some o := by
    intro A B row q o hq ho hgr hr
    rw [hgr.block q (heapH_lt ho) (fun e => by have := (hr q e.symm).1; omega)]
    exact ho
  have low : ∀ {A : World} {row : Option Nat}, (∀ r, row = some r → W1.heap.size ≤ r ∧ ∃ o : Obj, A.heap[r]? = some o ∧ o.isCells = false) → ∀ r, row = some r → w.heap.size ≤ r ∧ ∃ o : Obj, A.heap[r]? = some o ∧ o.isCells = false :=
    fun h r e => ⟨by have := (h r e).1; omega, (h r e).2⟩
  refine (hseq (n - 1) (w.heap.size + 1) (fun pre W => I pre W ∧ W.heap[w.heap.size + 1]? = some (.loop (rc .ready none)) ∧ W.heap[w.heap.size]? = some (.deferred (some [])))
    (fun pre W => ∃ c, Ix c pre W ∧ W.heap[w.heap.size + 1]? = some (.loop (rc .done (some c))) ∧ W.heap[w.heap.size]? = some (.deferred (some [])))
    W1 hb1
    (fun s A B row hs hgr hr => ⟨hI s A B row hs.1 hgr (low hr), keep (by omega) hs.2.1 hgr hr, keep (by omega) hs.2.2 hgr hr⟩)
    (fun s A B row hs hgr hr => by
      obtain ⟨c, h1, h2, h3⟩ := hs
      exact ⟨c, hIx c s A B row h1 hgr (low hr), keep (by omega) h2 hgr hr, keep (by omega) h3 hgr hr⟩)
    (by have := hb0.size; omega) (by omega) (by omega) ⟨_, hL⟩ ?_ ⟨hI1, hL, hD⟩).mono ?_
  · rintro pre x W ⟨hi, hl, hk⟩ hpre
    have hlt := heapH_lt hl
    have hy := run_yield (P := Tryz.prog) (args := encs x) hl (by rw [hrl]; exact hps x)
    rw [hrl] at hy
    have hl2 : (W.putObj (w.heap.size + 1) (.loop { rc .ready none with state := .busy })).heap[w.heap.size + 1]? = some (.loop { rc .ready none with state := .busy }) := World.putObj_heap_same hlt
    have hk2 : (W.putObj (w.heap.size + 1) (.loop { rc .ready none with state := .busy })).heap[w.heap.size]? = some (.deferred (some [])) := (World.putObj_heap_other (by omega)).trans hk
    refine ⟨fn, _, assign, body, hy, roundIn_of_wpIn hfn (hassign _ x W _ ⟨_, run_beginRound hl (by rw [hrl]), ?_⟩)⟩
    have hsz : (W.putObj (w.heap.size + 1) (.loop { rc .ready none with state := .busy })).heap.size = W.heap.size := by simp [World.putObj]
    have hi2 := hI.putObj (.loop { rc .ready none with state := .busy }) hi (by omega) hl rfl
    refine wpIn_mono (hbody (w.heap.size + 1) pre x _ hi2 hpre (by omega) (by rw [hsz]; exact hlt)) ?_
    have fin : ∀ (jump : Option Code) (W3 : World), KeepBut (fun r => r = kb ∨ r < w.heap.size ∨ w.heap.size + 1 < r) (W.putObj (w.heap.size + 1) (.loop { rc .ready none with state := .busy })) W3 →
        (Instr.endRound (w.heap.size + 1) jump).run Tryz.prog W3 = .ok (.bool jump.isNone) (W3.putObj (w.heap.size + 1) (.loop (rc (if jump.isNone then .ready else .done) jump))) ∧
        W3.heap[w.heap.size + 1]? = some (.loop { rc .ready none with state := .busy }) ∧
        (W3.putObj (w.heap.size + 1) (.loop (rc (if jump.isNone then .ready else .done) jump))).heap[w.heap.size + 1]? = some (.loop (rc (if jump.isNone then .ready else .done) jump)) ∧
        (W3.putObj (w.heap.size + 1) (.loop (rc (if jump.isNone then .ready else .done) jump))).heap[w.heap.size]? = some (.deferred (some [])) ∧
        W.heap.size ≤ (W3.putObj (w.heap.size + 1) (.loop (rc (if jump.isNone then .ready else .done) jump))).heap.size := by
      intro jump W3 hk3
      have hl3 : W3.heap[w.heap.size + 1]? = some (.loop { rc .ready none with state := .busy }) := (hk3.2 _ (by rw [hsz]; exact hlt) (by omega)).trans hl2
      have hk4 : W3.heap[w.heap.size]? = some (.deferred (some [])) := (hk3.2 _ (by rw [hsz]; omega) (by omega)).trans hk2
      have hrun := run_endRound (P := Tryz.prog) jump hl3
      rw [hrl] at hrun
      exact ⟨by rw [hrl]; exact hrun, hl3, World.putObj_heap_same (heapH_lt hl3), (World.putObj_heap_other (by omega)).trans hk4, by have := hk3.1; simp [World.putObj] at this ⊢; exact this⟩
    rintro e a3 W3 hp
    cases e with
    | normal =>
      obtain ⟨hk3, hi3⟩ := hp
      obtain ⟨hr, hl3, hl4, hk4, hkk⟩ := fin none W3 (hk3.mono (fun r h => h.imp id .inr))
      refine ⟨_, _, hr, .inl ⟨rfl, ⟨hI.putObj _ hi3 (by omega) hl3 rfl, hl4, hk4⟩, ⟨hkk, fun r hr2 he => ?_⟩⟩⟩
      by_cases e1 : r = w.heap.size + 1
      · subst e1; exact hl4.trans hl.symm
      · rw [World.putObj_heap_other e1, hk3.2 r (by rw [hsz]; exact hr2) he, World.putObj_heap_other e1]
    | ret =>
      obtain ⟨hk3, hi3⟩ := hp
      obtain ⟨hr, hl3, hl4, hk4, hkk⟩ := fin (some .ret) W3 hk3
      exact ⟨_, _, hr, .inr ⟨rfl, ⟨.ret, (hIx _).putObj _ hi3 (by omega) hl3 rfl, hl4, hk4⟩⟩⟩
    | exit id =>
      obtain ⟨hk3, hi3⟩ := hp
      obtain ⟨hr, hl3, hl4, hk4, hkk⟩ := fin (some (.exit id)) W3 hk3
      exact ⟨_, _, hr, .inr ⟨rfl, ⟨.exit id, (hIx _).putObj _ hi3 (by omega) hl3 rfl, hl4, hk4⟩⟩⟩
    | goto t => exact hp.elim
    | panic ch => exact hp.elim
    | outgrown => exact hp.elim
  · rintro e W2 ⟨⟨v, rfl⟩, (⟨hi, hl, hk⟩ | ⟨pre, c, hi, hl, hk⟩)⟩
    · exact ⟨none, _, by have := run_endLoop (P := Tryz.prog) hl (by rw [hrl]; simp); rw [hrl] at this; exact this, hdone _ (hI.putObj _ hi (by omega) hl rfl) ((World.putObj_heap_other (by omega)).trans hk)⟩
    · exact ⟨some c, _, by have := run_endLoop (P := Tryz.prog) hl (by rw [hrl]; simp); rw [hrl] at this; exact this, hstop c pre _ ((hIx c).putObj _ hi (by omega) hl rfl) ((World.putObj_heap_other (by omega)).trans hk)⟩
end Go.Proofs.YtoccmiinkfhohaaGreat
namespace Go.Proofs.YtoccmiinkfhohaaGreat
open Go.RowKit Go.Shelf Go.Lib Go.Sort Go.Proofs Go.Maps
set_option maxHeartbeats 2000000
set_option maxRecDepth 100000
attribute [local go_sem] Oper.semAt_some

def encSA (x : SL) : Array Value := #[.agg #[.string x.1.1, .int .i64 x.1.2], .int .i64 x.2]
theorem KeepBut.cell {ex : Nat → Prop} {W W' : World} (h : KeepBut ex W W') {b o : Nat} {v : Value} (hb : ¬ ex b) (hc : W.cell? ⟨b, o, none⟩ = some v) : W'.cell? ⟨b, o, none⟩ = some v := by
  rw [World.cell?_of_block (h.2 b (cell_lt hc) hb)]; exact hc
theorem own_keepBut {β : Type} (ex : Nat → Prop) (W0 : World) : OwnFrom W0.heap.size (fun (_ : β) Y => KeepBut ex W0 Y) :=
  fun s A B row hs hg hr => ⟨Nat.le_trans hs.1 hg.size, fun r hlt he => by
    rw [hg.block r (Nat.lt_of_lt_of_le hlt hs.1) (fun e => by have := (hr r e.symm).1; omega)]
    exact hs.2 r hlt he⟩
theorem eachS_seq {w : World} {f : Nat → Nat} {tb : Nat} {L : List (List KK)} (h : TreeO w f tb L) (hN : Norm f w) (s : Nat) (ks : List KK) (hs : L[s]? = some ks) (b1 b2 kb : Nat) (d1 : w.cell? ⟨b1, 0, none⟩ = some (.pointer (some ⟨tb, 0, none⟩))) (d2 : w.cell? ⟨b2, 0, none⟩ = some (.int .i64 (s : Int)))
    (hk1 : b1 ≠ kb) (hk2 : b2 ≠ kb) (hk0 : f kb = 0) (hlen : ks.length ≤ 1000) :
    ∃ ss : List SL, ss.map (fun x => pk x.1) = ks ∧ (∀ x ∈ ss, okK x.1) ∧ SeqG 82 #[.pointer (some ⟨b1, 0, none⟩), .pointer (some ⟨b2, 0, none⟩)] encSA ss kb w := by
  obtain ⟨p, c, c0, c1, hrow⟩ := h.form
  obtain ⟨rb, sv, mb, rfl, l1, l2, l3, c2, c3, hS⟩ := hrow s ks hs
  have hsl := (List.getElem?_eq_some_iff.1 hs).1
  obtain ⟨ss, gg, nn, r1, r2, r3, r4, r5, r6, r7⟩ := hS
  have hlen2 : ss.length = ks.length := by rw [← r2]; simp
  refine ⟨ss, r2, r3, ?_⟩
  intro n lp J Jx W hW hJ hJx hlp0 hlp hkb hlo hY h0
  have hTW : TreeO W f tb L := h.turn (Turn.of_below (fun _ => False) hN hW) id id id id
  have hI := Lib.hid (c_Sis hTW s hsl)
  rw [← hW.cell (show (⟨tb, 1, none⟩ : Addr).block < _ from l1)] at c1
  rw [← hW.cell (show (⟨rb, s * 2, none⟩ : Addr).block < _ from l2)] at c2
  rw [← hW.cell (cell_lt d1)] at d1
  rw [← hW.cell (cell_lt d2)] at d2
  have hsf : ∃ p' c', sv = .slice p' ss.length c' ∧ ∀ k x, ss[k]? = some x → ∃ g, p' = some ⟨g, 0, none⟩ ∧ ∀ y, KeepBut (fun r => r = kb ∨ lp < r) W y → y.cell? ⟨g, k * 3, none⟩ = some (.string x.1.1) ∧ y.cell? ⟨g, k * 3 + 1, none⟩ = some (.int .i64 x.1.2) ∧ y.cell? ⟨g, k * 3 + 2, none⟩ = some (.int .i64 x.2) := by
    rcases r1.1.2 with ⟨e, h⟩ | ⟨g, cap, cur, e, _, _, hc, _⟩
    · rw [h]; exact ⟨_, _, e, fun k x hx => by have := (List.getElem?_eq_some_iff.1 hx).1; omega⟩
    · refine ⟨_, _, e, fun k x hx => ⟨g, rfl, fun y hy => ?_⟩⟩
      subst e
      have hg := (r1.1.lt g rfl).2
      have hne : ¬ (g = kb ∨ lp < g) := by
        rintro (h | h)
        · subst h; have := r1.2 g rfl; omega
        · omega
      obtain ⟨f1, f2, f3⟩ := flatS_get hx
      have a1 := r1.1.cells (g := g) rfl _ _ f1
      have a2 := r1.1.cells (g := g) rfl _ _ f2
      have a3 := r1.1.cells (g := g) rfl _ _ f3
      rw [add_zero_addr] at a1 a2 a3
      refine ⟨hy.cell hne ?_, hy.cell hne ?_, hy.cell hne ?_⟩
      · rw [hW.cell (p := ⟨g, k * 3, none⟩) hg]; exact a1
      · rw [hW.cell (p := ⟨g, k * 3 + 1, none⟩) hg]; exact a2
      · rw [hW.cell (p := ⟨g, k * 3 + 2, none⟩) hg]; exact a3
  obtain ⟨p', c', rfl, hcell⟩ := hsf
  have hY2 : ∀ k W1 x, ss[k]? = some x → J (ss.take k) W1 → YieldAt Fence.wide (n - 1) Tryz.prog lp #[.agg #[.string x.1.1, .int .i64 x.1.2], .int .i64 x.2] W1 fun e W' =>
      (e = .returned (.bool true) ∧ J (ss.take (k + 1)) W' ∧ KeepBut (fun r => r = kb ∨ lp < r) W1 W') ∨ (e = .returned (.bool false) ∧ Jx (ss.take (k + 1)) W') := by
    intro k W1 x hx hJ1
    have htk : ss.take (k + 1) = ss.take k ++ [x] := by rw [List.take_add_one, hx]; rfl
    have := hY (ss.take k) x W1 hJ1 (by rw [← htk]; exact List.take_prefix _ _)
    rw [← htk] at this
    exact this
  have p1 : (0 : Int) ≤ (s : Int) := by omega
  have p2 : (s : Int) < (L.length : Int) := by omega
  have hl0 : J (ss.take 0) W := by simpa using h0
  have hJa := Lib.hid hJ
  clear hY hrow hW hJx hkb hlo h hTW hN r1 r2 r3 r4 r5 r6 r7 c0 c3 h0 hs hJ
  replace hlen2 := Lib.hid hlen2
  replace hcell := Lib.hid hcell
  replace hY2 := Lib.hid hY2
  replace hl0 := Lib.hid hl0
  refine callsIn_of_wp Tryz.func82 rfl trivial ?_ rfl
  simp only [Tryz.ntmps82, List.size_toArray, List.length_cons, List.length_nil, Nat.reduceAdd, Nat.reduceSub, Array.replicate_succ, Array.replicate_zero, List.push_toArray, List.append_toArray, List.nil_append, List.cons_append]
  gi_wp2_with (first | (refine ⟨trivial, (fun h => by cases h), ?_⟩; gi_at_call 69; refine (callsIn_wide.2 hI.out).mono ?_; rintro e w1 ⟨rfl, rfl⟩))
  gi_region
  gi_wp2
  gi_loopw [19] (fun i wr => ∃ k : Nat, k ≤ ss.length ∧ i = .int .i64 (k : Int) ∧ J (ss.take k) wr ∧ KeepBut (fun r => r = kb ∨ lp < r) w1 wr) (fun i _ => ss.length - (intOf i).toNat)
  case atStart => exact ⟨0, Nat.zero_le _, rfl, hJa.out _ _ _ none hl0.out ⟨rfl, rfl, rfl, Nat.le_refl _, fun _ _ _ => rfl⟩ (fun r h => by cases h), KeepBut.refl _ _⟩
  case round =>
    obtain ⟨k, hk, rfl, hJs, hkp⟩ := hrel
    rcases Nat.lt_or_ge k ss.length with hlt | hge
    · obtain ⟨x, hx⟩ : ∃ x, ss[k]? = some x := ⟨_, List.getElem?_eq_getElem hlt⟩
      obtain ⟨g, rfl, hc⟩ := hcell.out k x hx
      obtain ⟨e1, e2, e3⟩ := hc wr hkp
      have hkp2 := KeepBut.trans hkp (⟨by simp, fun r hr _ => Below.heap_alloc _ _ _ hr⟩ : KeepBut (fun r => r = kb ∨ lp < r) wr (wr.alloc (.cells #[.string x.1.1, .int .i64 x.1.2, .int .i64 x.2] 161)))
      obtain ⟨fn, tmps, assign, body, hy, hR⟩ := hY2.out k (wr.alloc (.cells #[.string x.1.1, .int .i64 x.1.2, .int .i64 x.2] 161)) x hx (OwnFrom.alloc hJa.out _ hJs)
      have hlt' : (k : Int) < (ss.length : Int) := by omega
      have q0 : (0 : Int) ≤ (k : Int) := by omega
      gi_wp2
      refine ⟨(fun h => by cases h), hR.mono ?_⟩
      have hw3 : IntKind.i64.wrap ((k : Int) + 1) = ((k + 1 : Nat) : Int) := by have := hlen2.out; rw [IntKind.wrap_i64]; omega
      rintro e W3 (⟨rfl, hJ3, hk3⟩ | ⟨rfl, hJx3⟩)
      · gi_wp2
        go_roundw
        case rel => exact ⟨k + 1, by omega, by go_num, hJ3, hkp2.trans hk3⟩
        case measure => simp [intOf]; omega
      · gi_wp2
        refine bodyPost_ret (results_none rfl _ _ _) rfl ?_
        exact ⟨⟨_, rfl⟩, .inr ⟨_, hJx3⟩⟩
    · obtain rfl : k = ss.length := by omega
      rw [List.take_length] at hJs
      gi_wp2
      go_end0
      exact ⟨⟨_, rfl⟩, .inl hJs⟩
end Go.Proofs.YtoccmiinkfhohaaGreat
namespace Go.Proofs.YtoccmiinkfhohaaGreat
open Go.RowKit Go.Shelf Go.Lib Go.Sort Go.Proofs Go.Maps
set_option maxHeartbeats 1000000
set_option maxRecDepth 8000

theorem rangeA {α : Type} {n : Nat} {g : Operand} {ps : Array Tmp} {assign body : Code} {Q : Exit → Act → World → Prop} {a : Act} {w : World} {gf : Nat} {lb : Array Value} (hg : a.eval g = .func (.func gf) #[] lb)
    (eg : ∀ args w, (callFunc gf args).run Tryz.prog w = .ok (.enter gf args) w) {encs : α → Array Value} {xs : List α} {kb : Nat} {w0 : World} (hseq : SeqG gf lb encs xs kb w0) (hb0 : Below w0.heap.size w0 w) (hkb : kb < w.heap.size) (hps : ∀ x, (encs x).size = ps.size)
    (I : List α → World → Prop) (Ix : Code → List α → World → Prop) (hI : OwnFrom w.heap.size I) (hIx : ∀ c, OwnFrom w.heap.size (Ix c)) (h0 : I [] w)
    (hround : ∀ (l : Nat) (pre : List α) (x : α) (W : World), I pre W → (pre ++ [x]) <+: xs → w.heap.size < l → l < W.heap.size → l = w.heap.size + 1 →
      assign.wpIn (Fence.wide.inRound l) (n - 1 - 1) Tryz.prog (Exit.then (fun a₁ W1 => KeepBut (fun r => w.heap.size + 1 < r) W W1 ∧ I pre W1 ∧ ∀ W2, I pre W2 → l < W2.heap.size → W2.heap.size = W1.heap.size → (∀ r, r ≠ l → W2.heap[r]? = W1.heap[r]?) → body.wpIn (Fence.wide.inRound l) (n - 1 - 1) Tryz.prog (postG kb w.heap.size I Ix (pre ++ [x]) W2) a₁ W2) (fun _ _ _ => False)) { tmps := (ps.zip (encs x)).foldl (fun t (p, v) => t.setIfInBounds p v) a.tmps, defers := [] } W)
    (hdone : ∀ (W : World), I xs W → W.heap[w.heap.size]? = some (.deferred (some [])) → Q .normal { a with defers := { target := .collected w.heap.size, args := #[] } :: a.defers } W)
    (hstop : ∀ (c : Code) (pre : List α) (W : World), Ix c pre W → W.heap[w.heap.size]? = some (.deferred (some [])) → c.wpIn Fence.wide n Tryz.prog Q { a with defers := { target := .collected w.heap.size, args := #[] } :: a.defers } W) :
    (Code.rangeFunc g ps assign body).wpIn Fence.wide n Tryz.prog Q a w := by
  refine wpIn_rangeFunc ?_
  intro fn hfn
  let rec' : LoopState → Option Code → Loop := fun st pe => { state := st, pending := pe, fn := fn, tmps := a.tmps, params := ps, assign := assign, body := body, defers := w.heap.size }
  have hrl : ∀ st pe, rec' st pe = { state := st, pending := pe, fn := fn, tmps := a.tmps, params := ps, assign := assign, body := body, defers := w.heap.size } := fun _ _ => rfl
  generalize rec' = rc at hrl
  obtain ⟨W1, hW1⟩ : ∃ W1, (w.alloc (.deferred (some []))).alloc (.loop (rc .ready none)) = W1 := ⟨_, rfl⟩
  have hs1 : W1.heap.size = w.heap.size + 1 + 1 := by rw [← hW1]; simp
  have hL : W1.heap[w.heap.size + 1]? = some (.loop (rc .ready none)) := by rw [← hW1]; exact heap_alloc2_new w _ _
  have hD : W1.heap[w.heap.size]? = some (.deferred (some [])) := by rw [← hW1]; exact (Below.heap_alloc _ _ _ (by simp)).trans (heap_alloc_new w _)
  have hI1 : I [] W1 := by rw [← hW1]; exact hI.alloc _ (hI.alloc _ h0)
  have hb1 : Below w0.heap.size w0 W1 := by rw [← hW1]; exact hb0.trans ((((Below.refl _ w).alloc (Nat.le_refl _) _).alloc (by simp) _).mono hb0.size)
  refine ⟨w.heap.size + 1, [{ target := .collected w.heap.size, args := #[] }], W1, { target := .fn (.func gf) lb, args := #[.func (.yield (w.heap.size + 1)) #[] #[]] }, W1, gf, #[.func (.yield (w.heap.size + 1)) #[] #[]] ++ lb, W1, ?_, ?_, (fun _ _ => trivial), ?_, (fun h => by cases h), ?_⟩
  · rw [← hW1, hrl]; exact run_enterLoop_outer _ _ _ _ _
  · simp only [resolve, hg]
    simp [go_sem]
  · simp [invoke, go_sem, eg]
  have keep : ∀ {A B : World} {row : Option Nat} {q : Nat} {o : Obj}, q < W1.heap.size → A.heap[q]? = some o → A.grownBy B row → (∀ r, row = some r → W1.heap.size ≤ r ∧ ∃ o : Obj, A.heap[r]? = some o ∧ o.isCells = false) → B.heap[q]? = some o := by
    intro A B row q o hq ho hgr hr
    rw [hgr.block q (heapH_lt ho) (fun e => by have := (hr q e.symm).1; omega)]
    exact ho
  have low : ∀ {A : World} {row : Option Nat}, (∀ r, row = some r → W1.heap.size ≤ r ∧ ∃ o : Obj, A.heap[r]? = some o ∧ o.isCells = false) → ∀ r, row = some r → w.heap.size ≤ r ∧ ∃ o : Obj, A.heap[r]? = some o ∧ o.isCells = false :=
    fun h r e => ⟨by have := (h r e).1; omega, (h r e).2⟩
  refine (hseq (n - 1) (w.heap.size + 1) (fun pre W => I pre W ∧ W.heap[w.heap.size + 1]? = some (.loop (rc .ready none)) ∧ W.heap[w.heap.size]? = some (.deferred (some [])))
    (fun pre W => ∃ c, Ix c pre W ∧ W.heap[w.heap.size + 1]? = some (.loop (rc .done (some c))) ∧ W.heap[w.heap.size]? = some (.deferred (some [])))
    W1 hb1
    (fun s A B row hs hgr hr => ⟨hI s A B row hs.1 hgr (low hr), keep (by omega) hs.2.1 hgr hr, keep (by omega) hs.2.2 hgr hr⟩)
    (fun s A B row hs hgr hr => by
      obtain ⟨c, h1, h2, h3⟩ := hs
      exact ⟨c, hIx c s A B row h1 hgr (low hr), keep (by omega) h2 hgr hr, keep (by omega) h3 hgr hr⟩)
    (by have := hb0.size; omega) (by omega) (by omega) ⟨_, hL⟩ ?_ ⟨hI1, hL, hD⟩).mono ?_
  · rintro pre x W ⟨hi, hl, hk⟩ hpre
    have hlt := heapH_lt hl
    have hy := run_yield (P := Tryz.prog) (args := encs x) hl (by rw [hrl]; exact hps x)
    rw [hrl] at hy
    refine ⟨fn, _, assign, body, hy, roundIn_of_wpIn hfn (wpIn_mono (hround (w.heap.size + 1) pre x W hi hpre (by omega) hlt rfl) ?_)⟩
    rintro e1 a3 WA hp1
    cases e1 with
    | goto t => exact hp1.elim
    | panic ch => exact hp1.elim
    | outgrown => exact hp1.elim
    | ret => exact hp1.elim
    | exit id => exact hp1.elim
    | normal =>
    obtain ⟨hkA, hiA, hbody⟩ := hp1
    have hlA : WA.heap[w.heap.size + 1]? = some (.loop (rc .ready none)) := (hkA.2 _ hlt (by omega)).trans hl
    have hltA := heapH_lt hlA
    have hkkA : WA.heap[w.heap.size]? = some (.deferred (some [])) := (hkA.2 _ (by omega) (by omega)).trans hk
    have hl2 : (WA.putObj (w.heap.size + 1) (.loop { rc .ready none with state := .busy })).heap[w.heap.size + 1]? = some (.loop { rc .ready none with state := .busy }) := World.putObj_heap_same hltA
    have hk2 : (WA.putObj (w.heap.size + 1) (.loop { rc .ready none with state := .busy })).heap[w.heap.size]? = some (.deferred (some [])) := (World.putObj_heap_other (by omega)).trans hkkA
    refine ⟨_, run_beginRound hlA (by rw [hrl]), ?_⟩
    have hsz : (WA.putObj (w.heap.size + 1) (.loop { rc .ready none with state := .busy })).heap.size = WA.heap.size := by simp [World.putObj]
    have hi2 := hI.putObj (.loop { rc .ready none with state := .busy }) hiA (by omega) hlA rfl
    refine wpIn_mono (hbody _ hi2 (by rw [hsz]; exact hltA) hsz (fun r hr => World.putObj_heap_other hr)) ?_
    have fin : ∀ (jump : Option Code) (W3 : World), KeepBut (fun r => r = kb ∨ r < w.heap.size ∨ w.heap.size + 1 < r) (WA.putObj (w.heap.size + 1) (.loop { rc .ready none with state := .busy })) W3 →
        (Instr.endRound (w.heap.size + 1) jump).run Tryz.prog W3 = .ok (.bool jump.isNone) (W3.putObj (w.heap.size + 1) (.loop (rc (if jump.isNone then .ready else .done) jump))) ∧
        W3.heap[w.heap.size + 1]? = some (.loop { rc .ready none with state := .busy }) ∧
        (W3.putObj (w.heap.size + 1) (.loop (rc (if jump.isNone then .ready else .done) jump))).heap[w.heap.size + 1]? = some (.loop (rc (if jump.isNone then .ready else .done) jump)) ∧
        (W3.putObj (w.heap.size + 1) (.loop (rc (if jump.isNone then .ready else .done) jump))).heap[w.heap.size]? = some (.deferred (some [])) ∧
        W.heap.size ≤ (W3.putObj (w.heap.size + 1) (.loop (rc (if jump.isNone then .ready else .done) jump))).heap.size := by
      intro jump W3 hk3
      have hl3 : W3.heap[w.heap.size + 1]? = some (.loop { rc .ready none with state := .busy }) := (hk3.2 _ (by rw [hsz]; exact hltA) (by omega)).trans hl2
      have hk4 : W3.heap[w.heap.size]? = some (.deferred (some [])) := (hk3.2 _ (by rw [hsz]; omega) (by omega)).trans hk2
      have hrun := run_endRound (P := Tryz.prog) jump hl3
      rw [hrl] at hrun
      have hkA1 := hkA.1
      exact ⟨by rw [hrl]; exact hrun, hl3, World.putObj_heap_same (heapH_lt hl3), (World.putObj_heap_other (by omega)).trans hk4, by have := hk3.1; simp [World.putObj] at this ⊢; omega⟩
    rintro e a3 W3 hp
    cases e with
    | normal =>
      obtain ⟨hk3, hi3⟩ := hp
      obtain ⟨hr, hl3, hl4, hk4, hkk⟩ := fin none W3 (hk3.mono (fun r h => h.imp id .inr))
      refine ⟨_, _, hr, .inl ⟨rfl, ⟨hI.putObj _ hi3 (by omega) hl3 rfl, hl4, hk4⟩, ⟨hkk, fun r hr2 he => ?_⟩⟩⟩
      by_cases e1 : r = w.heap.size + 1
      · subst e1; exact hl4.trans hl.symm
      · rw [World.putObj_heap_other e1, hk3.2 r (by rw [hsz]; exact Nat.lt_of_lt_of_le hr2 hkA.1) he, World.putObj_heap_other e1]
        exact hkA.2 r hr2 (fun h => he (.inr h))
    | ret =>
      obtain ⟨hk3, hi3⟩ := hp
      obtain ⟨hr, hl3, hl4, hk4, hkk⟩ := fin (some .ret) W3 hk3
      exact ⟨_, _, hr, .inr ⟨rfl, ⟨.ret, (hIx _).putObj _ hi3 (by omega) hl3 rfl, hl4, hk4⟩⟩⟩
    | exit id =>
      obtain ⟨hk3, hi3⟩ := hp
      obtain ⟨hr, hl3, hl4, hk4, hkk⟩ := fin (some (.exit id)) W3 hk3
      exact ⟨_, _, hr, .inr ⟨rfl, ⟨.exit id, (hIx _).putObj _ hi3 (by omega) hl3 rfl, hl4, hk4⟩⟩⟩
    | goto t => exact hp.elim
    | panic ch => exact hp.elim
    | outgrown => exact hp.elim
  · rintro e W2 ⟨⟨v, rfl⟩, (⟨hi, hl, hk⟩ | ⟨pre, c, hi, hl, hk⟩)⟩
    · exact ⟨none, _, by have := run_endLoop (P := Tryz.prog) hl (by rw [hrl]; simp); rw [hrl] at this; exact this, hdone _ (hI.putObj _ hi (by omega) hl rfl) ((World.putObj_heap_other (by omega)).trans hk)⟩
    · exact ⟨some c, _, by have := run_endLoop (P := Tryz.prog) hl (by rw [hrl]; simp); rw [hrl] at this; exact this, hstop c pre _ ((hIx c).putObj _ hi (by omega) hl rfl) ((World.putObj_heap_other (by omega)).trans hk)⟩
end Go.Proofs.YtoccmiinkfhohaaGreat
namespace Go.Proofs.YtoccmiinkfhohaaGreat
open Go.RowKit Go.Shelf Go.Lib Go.Sort Go.Proofs Go.Maps
set_option maxHeartbeats 2000000
set_option maxRecDepth 100000
attribute [local go_sem] Oper.semAt_some

theorem c_SEach (w : World) (tb : Nat) (s : Int) : Calls Tryz.prog 70 #[.pointer (some ⟨tb, 0, none⟩), .int .i64 s] w fun e w' => e = .returned (.func (.func 82) #[] #[.pointer (some ⟨w.heap.size, 0, none⟩), .pointer (some ⟨w.heap.size + 1, 0, none⟩)]) ∧ w' = (w.alloc (.cells #[.pointer (some ⟨tb, 0, none⟩)] 62)).alloc (.cells #[.int .i64 s] 3) := by
  go_enter Tryz.func70, Tryz.ntmps70
  go_wp2
  go_ret
  exact ⟨rfl, rfl⟩
/-- keys that have been told, in a row that a box leads to -/
def ToldO (kb B : Nat) (w : World) (pre : List SL) (Y : World) : Prop :=
  (∃ v, Y.heap[kb]? = some (.cells #[v] 56 (0, 0)) ∧ Y.ownsRow B 31 2 v pre.length (flatK (pre.map (·.1)))) ∧ Below w.heap.size w Y
theorem ToldO.from {kb B D : Nat} {w : World} (hkb : kb < D) (hD : w.heap.size ≤ D) : OwnFrom D (ToldO kb B w) := by
  rintro pre W W' row ⟨⟨v, h1, h2⟩, h3⟩ hg hr
  refine ⟨⟨v, ?_, own_at h2 fun k hk => ?_⟩, ⟨hg.os.trans h3.os, hg.tape.trans h3.tape, hg.output.trans h3.output, Nat.le_trans h3.size hg.size, fun r hlt => (hg.block r (Nat.lt_of_lt_of_le hlt h3.size) (fun e => ?_)).trans (h3.block r hlt)⟩⟩
  · rw [hg.block kb (heapH_lt h1) (fun e => by have := (hr kb e.symm).1; omega)]; exact h1
  · refine hg.block k (h2.lt k hk).2 (fun e => ?_)
    obtain ⟨_, o, ho, hc⟩ := hr k e.symm
    rcases h2.2 with ⟨e1, _⟩ | ⟨g, cap, cur, e1, _, hg2, _⟩
    · subst e1; cases hk
    · subst e1
      simp [Value.ownBlock] at hk
      subst hk
      rw [hg2] at ho
      cases ho
      simp [Obj.isCells] at hc
  · have := (hr r e.symm).1; omega
theorem tb_after2 {w w5 : World} {tb i : Nat} {rv u : Value} {o : Obj} (hc : w.cell? ⟨tb, i, none⟩ = some u) (hf : w.frozen? ⟨tb, i, none⟩ = false) (hl : tb < w.heap.size) (hn : rv.ownBlock ≠ some tb) (hg : (w.alloc o).grownBy w5 rv.ownBlock) :
    w5.cell? ⟨tb, i, none⟩ = some u ∧ w5.frozen? ⟨tb, i, none⟩ = false := tb_after hc hf hl hn ⟨hg.os, hg.tape, hg.output, hg.size, hg.block⟩
theorem told_push {kb B n : Nat} {w W2 w5 : World} {pre : List SL} {x : SL} {v v' : Value} {o : Obj} (h1 : W2.heap[kb]? = some (.cells #[v] 56 (0, 0))) (h2 : W2.ownsRow B 31 2 v pre.length (flatK (pre.map (·.1)))) (h3 : Below w.heap.size w W2) (hkw : w.heap.size ≤ kb) (hkB : kb < B)
    (hg : (W2.alloc o).grownBy w5 v.ownBlock) (hn : n = pre.length + 1) (hown : w5.ownsRow B 31 2 v' n (flatK (pre.map (·.1)) ++ [.string x.1.1, .int .i64 x.1.2])) :
    KeepBut (fun r => r = kb ∨ B ≤ r) W2 (w5.setCell ⟨kb, 0, none⟩ v') ∧ ToldO kb B w (pre ++ [x]) (w5.setCell ⟨kb, 0, none⟩ v') := by
  have hk : ∀ r, r < W2.heap.size → ¬ B ≤ r → w5.heap[r]? = W2.heap[r]? := fun r hr hB => by
    rw [hg.block r (by simp; omega) (fun e => by have := (h2.lt r e.symm).1; omega), Below.heap_alloc _ _ _ hr]
  have hsz : W2.heap.size ≤ w5.heap.size := by have := hg.size; simp at this; omega
  have hkb := heapH_lt h1
  have e5 : w5.heap[kb]? = some (.cells #[v] 56 (0, 0)) := (hk kb hkb (by omega)).trans h1
  refine ⟨⟨by simpa [World.setCell] using hsz, fun r hr hne => ?_⟩, ⟨v', ?_, ?_⟩, ?_⟩
  · rw [Below.heap_setCell _ _ _ _ (show r ≠ kb from fun e => hne (.inl e))]
    exact hk r hr (fun e => hne (.inr e))
  · rw [heap_setCell_same w5 kb 0 _ _ _ e5]; rfl
  · have e1 : (pre ++ [x]).length = n := by simp [hn]
    have e2 : flatK ((pre ++ [x]).map (·.1)) = flatK (pre.map (·.1)) ++ [.string x.1.1, .int .i64 x.1.2] := by rw [List.map_append, flatK_app]; rfl
    rw [e1, e2]
    exact own_at hown fun r hr => Below.heap_setCell _ _ _ _ (show r ≠ kb by have := (hown.lt r hr).1; omega)
  · refine ⟨hg.os.trans h3.os, hg.tape.trans h3.tape, hg.output.trans h3.output, by simp [World.setCell]; exact Nat.le_trans h3.size hsz, fun r hr => ?_⟩
    rw [Below.heap_setCell _ _ _ _ (show r ≠ kb by omega), hk r (Nat.lt_of_lt_of_le hr h3.size) (by omega)]
    exact h3.block r hr
theorem c_SKeys {w : World} {f : Nat → Nat} {tb : Nat} {L : List (List KK)} (hN : Norm f w) (h : TreeO w f tb L) (s : Nat) (ks : List KK) (hs : L[s]? = some ks) (hlen : ks.length ≤ 1000) :
    Calls Tryz.prog 56 #[.pointer (some ⟨tb, 0, none⟩), .int .i64 (s : Int)] w fun e w' => ∃ (v : Value) (l : List KK), e = .returned (.tuple #[v, .int .i64 0]) ∧ RdK w' v l ∧ l.map pk = ks ∧ (∀ x ∈ l, okK x) ∧ Below w.heap.size w w' := by
  have hsl := (List.getElem?_eq_some_iff.1 hs).1
  have hI := Lib.hid (c_Sis h s hsl)
  obtain ⟨W7, hW7⟩ : ∃ W7, ((w.alloc (.cells #[.slice none 0 0] 56)).alloc (.cells #[.pointer (some ⟨tb, 0, none⟩)] 62)).alloc (.cells #[.int .i64 (s : Int)] 3) = W7 := ⟨_, rfl⟩
  have hb7 : Below w.heap.size w W7 := by rw [← hW7]; exact (((Below.refl _ w).alloc (Nat.le_refl _) _).alloc (by simp) _).alloc (by simp; omega) _
  have hs7 : W7.heap.size = w.heap.size + 3 := by rw [← hW7]; simp
  have k0 : W7.heap[w.heap.size]? = some (.cells #[.slice none 0 0] 56 (0, 0)) := by
    rw [← hW7, Below.heap_alloc _ _ _ (by simp; omega), Below.heap_alloc _ _ _ (by simp)]; exact heap_alloc_new w _
  have k1 : W7.heap[w.heap.size + 1]? = some (.cells #[.pointer (some ⟨tb, 0, none⟩)] 62 (0, 0)) := by
    rw [← hW7, Below.heap_alloc _ _ _ (by simp)]; exact heap_alloc2_new w _ _
  have k2 : W7.heap[w.heap.size + 2]? = some (.cells #[.int .i64 (s : Int)] 3 (0, 0)) := by
    rw [← hW7]
    have := heap_alloc2_new (w.alloc (.cells #[.slice none 0 0] 56)) (.cells #[.pointer (some ⟨tb, 0, none⟩)] 62) (.cells #[.int .i64 (s : Int)] 3)
    rwa [show (w.alloc (.cells #[.slice none 0 0] 56)).heap.size + 1 = w.heap.size + 2 by simp] at this
  have hN7 : Norm f W7 := fun r hr => hN r (Nat.le_trans hb7.size hr)
  have hT7 : TreeO W7 f tb L := h.turn (Turn.of_below (fun _ => False) hN hb7) id id id id
  obtain ⟨ss, hss, hok, hseq⟩ := eachS_seq hT7 hN7 s ks hs (w.heap.size + 1) (w.heap.size + 2) w.heap.size (by rw [cell_of_row _ _ 0 _ _ _ k1]; rfl) (by rw [cell_of_row _ _ 0 _ _ _ k2]; rfl) (by omega) (by omega) (hN _ (Nat.le_refl _)) hlen
  have hsn : ss.length ≤ 1000 := by have : ss.length = ks.length := by rw [← hss]; simp
                                    omega
  have hE := Lib.hid (c_SEach (w.alloc (.cells #[.slice none 0 0] 56)) tb (s : Int))
  have h0 : ToldO w.heap.size (W7.heap.size + 2) w [] W7 := ⟨⟨_, k0, ⟨rfl, .inl ⟨rfl, rfl⟩⟩⟩, hb7⟩
  have hJ : OwnFrom W7.heap.size (ToldO w.heap.size (W7.heap.size + 2) w) := ToldO.from (by omega) hb7.size
  have hkb : w.heap.size < W7.heap.size := by omega
  replace h0 := Lib.hid h0
  replace hJ := Lib.hid hJ
  replace hseq := Lib.hid hseq
  replace hb7 := Lib.hid hb7
  replace k0 := Lib.hid k0
  replace hss := Lib.hid hss
  replace hok := Lib.hid hok
  replace hs7 := Lib.hid hs7
  clear k1 k2 hT7 hN7 h hN hs
  refine (callsIn_wide (n := 5)).1 ?_
  refine callsIn_of_wp_marks Tryz.func56 rfl trivial ?_ rfl
  simp only [Tryz.ntmps56, List.size_toArray, List.length_cons, List.length_nil, Nat.reduceAdd, Nat.reduceSub, Array.replicate_succ, Array.replicate_zero, List.push_toArray, List.append_toArray, List.nil_append, List.cons_append]
  refine wpIn_wide.2 ?_
  go_wp2_with (first | (go_at_call 69; refine hI.out.mono ?_; rintro e w1 ⟨rfl, e1⟩; cases e1) | (go_at_call 70; refine hE.out.mono ?_; rintro e w2 ⟨rfl, rfl⟩))
  refine (wpIn_wide (n := 5)).1 ?_
  refine rangeA (n := 5) (gf := 82) (lb := #[.pointer (some ⟨w.heap.size + 1, 0, none⟩), .pointer (some ⟨w.heap.size + 2, 0, none⟩)]) (kb := w.heap.size) (w0 := W7) rfl (enters_of Tryz.func82 (by kernel_rfl) rfl) hseq.out (Below.refl _ _) hkb (fun _ => rfl)
    (ToldO w.heap.size (W7.heap.size + 2) w) (fun _ _ _ => False) hJ.out (fun c s A B row hs hg hr => hs.elim) h0.out ?round ?done ?stop
  case round =>
    intro l2 pre x Y hI0 hpre hl2 hl3 hl4
    subst hl4
    simp only [encSA]
    gi_wp2
    refine ⟨⟨by simp, fun r hr _ => Below.heap_alloc _ _ _ hr⟩, OwnFrom.alloc hJ.out _ hI0, ?_⟩
    rintro W2 hI2 hl5 hsz2 hsame
    have hkey : W2.heap[Y.heap.size]? = some (.cells #[.string x.1.1, .int .i64 x.1.2] 31 (0, 0)) := (hsame _ (by omega)).trans (heap_alloc_new Y _)
    have a1 : W2.cell? ⟨Y.heap.size, 0, none⟩ = some (.string x.1.1) := by rw [cell_of_row _ _ 0 _ _ _ hkey]; rfl
    have a2 : W2.cell? ⟨Y.heap.size, 1, none⟩ = some (.int .i64 x.1.2) := by rw [cell_of_row _ _ 1 _ _ _ hkey]; rfl
    obtain ⟨⟨v, q1, q2⟩, q3⟩ := hI2
    have a3 : W2.cell? ⟨w.heap.size, 0, none⟩ = some v := by rw [cell_of_row _ _ 0 _ _ _ q1]; rfl
    have a4 : W2.frozen? ⟨w.heap.size, 0, none⟩ = false := by simp [World.frozen?, q1]
    have lk := heapH_lt q1
    have hvk : v.ownBlock ≠ some w.heap.size := fun e => by have := (q2.lt _ e).1; omega
    have hpl : pre.length + 1 ≤ 1000 := by
      obtain ⟨t, ht⟩ := hpre
      have := congrArg List.length ht
      simp at this; omega
    have hm1 : pre.length + 1 ≤ maxLen ∧ (pre.length + 1) * 24 ≤ 140737488355328 := by unfold maxLen; omega
    obtain ⟨i0, hi0, hz0, hz1, hz2⟩ := info_parts infoKey
    replace hm1 := Lib.hid hm1
    have hWs : W7.heap.size + 2 ≤ W2.heap.size + 1 := by omega
    replace hsame := Lib.hid hsame
    replace hsz2 := Lib.hid hsz2
    replace hI0 := Lib.hid hI0
    clear hkey
    gi_wp2_with (first | (gi_at_builtin; refine wpListIn_append_own_at _ rfl _ _ _ rfl (W7.heap.size + 2) 31 i0 _ 2 24 Tryz.underlying56 hi0 hz0 hz1 hz2 rfl (by omega) v pre.length (flatK (pre.map (·.1))) rfl (q2.alloc _) ⟨W2.heap.size, 0, none⟩ 1 1 [.string x.1.1, .int .i64 x.1.2] rfl rfl (World.news_of_block (cs := #[.string x.1.1, .int .i64 x.1.2]) (t := 31) (fr := (0, 0)) (by exact heap_alloc_new W2 _)) (by simp [Value.oneCell']) hm1.out.1 hm1.out.2 (by rw [World.size_alloc]; exact hWs) ?_; intro v' w5 hown5 hg5 hn5 hat5; obtain ⟨hc5, hf5⟩ := tb_after2 a3 a4 lk hvk hg5; obtain ⟨gg, cap, rfl, _, _, _, _⟩ := row_front hown5 (by omega)))
    have hp := told_push q1 q2 q3 (Nat.le_refl _) (by omega) hg5 rfl hown5
    exact ⟨hp.1.mono (fun r h => h.imp id (fun h => by omega)), hp.2⟩
  case done =>
    rintro Y hI0 hK
    obtain ⟨⟨v, q1, q2⟩, q3⟩ := hI0
    have a3 : Y.cell? ⟨w.heap.size, 0, none⟩ = some v := by rw [cell_of_row _ _ 0 _ _ _ q1]; rfl
    go_wp2
    refine ⟨by simp, .inl ⟨_, _, rfl, run_takeDeferred hK, ?_⟩⟩
    refine ⟨_, results_tmp2 rfl _ _ _, v, ss.map (·.1), rfl, own_rdk (B := W7.heap.size + 2) (n := ss.length) (own_at q2 fun r hr => ?_), by rw [List.map_map]; exact hss.out, ?_, ?_⟩
    · exact World.putObj_heap_other (by have := (q2.lt r hr).1; omega)
    · intro x hx
      obtain ⟨y, hy, rfl⟩ := List.mem_map.1 hx
      exact hok.out y hy
    · exact ⟨q3.os, q3.tape, q3.output, by simpa [World.putObj] using q3.size, fun r hr => (World.putObj_heap_other (by omega)).trans (q3.block r hr)⟩
  case stop =>
    intro c pre Y hx
    exact hx.elim
end Go.Proofs.YtoccmiinkfhohaaGreat
