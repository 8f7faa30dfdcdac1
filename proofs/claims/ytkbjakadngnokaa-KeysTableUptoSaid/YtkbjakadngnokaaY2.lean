/-
  The contracts of the iterators slices.All and Table.Each over a table's names.
-/
import Derived.Test.YtkbjakadngnokaaY1
namespace Go.Proofs.Ytkbjakadngnokaa
open Go.RowKit Go.Shelf Go.Lib Go.Sort Go.Proofs Go.Maps
set_option maxHeartbeats 2000000
set_option maxRecDepth 100000
attribute [local go_sem] Oper.semAt_some

def nth (l : List ByteArray) (k : Nat) : ByteArray := (l[k]?).getD ⟨#[]⟩
def numb (l : List ByteArray) (k : Nat) : List (Nat × ByteArray) := (List.range k).map fun i => (i, nth l i)
theorem numb_succ (l : List ByteArray) (k : Nat) : numb l (k + 1) = numb l k ++ [(k, nth l k)] := by simp [numb, List.range_succ]
theorem numb_pre (l : List ByteArray) {k n : Nat} (h : k ≤ n) : numb l k <+: numb l n := by
  obtain ⟨d, rfl⟩ : ∃ d, n = k + d := ⟨n - k, by omega⟩
  refine ⟨((List.range d).map (k + ·)).map (fun i => (i, nth l i)), ?_⟩
  unfold numb
  rw [List.range_add, List.map_append]
def enc2 (x : Nat × ByteArray) : Array Value := #[.int .i64 (x.1 : Int), .string x.2]
theorem KeepBut.cell {ex : Nat → Prop} {W W' : World} (h : KeepBut ex W W') {b o : Nat} {v : Value} (hb : ¬ ex b) (hc : W.cell? ⟨b, o, none⟩ = some v) : W'.cell? ⟨b, o, none⟩ = some v := by
  rw [World.cell?_of_block (h.2 b (cell_lt hc) hb)]; exact hc
theorem c_All (w : World) (p : Option Addr) (n c : Nat) : Calls Try.prog 41 #[.slice p n c] w fun e w' => e = .returned (.func (.func 49) #[] #[.pointer (some ⟨w.heap.size, 0, none⟩)]) ∧ w' = w.alloc (.cells #[.slice p n c] 33) := by
  go_enter Try.func41, Try.ntmps41
  go_wp2
  go_ret
  exact ⟨rfl, rfl⟩
theorem all_seq (l : List ByteArray) (ab kb : Nat) (p : Option Addr) (c : Nat) (w : World) (hc : w.cell? ⟨ab, 0, none⟩ = some (.slice p l.length c))
    (hrow : ∀ k, k < l.length → ∃ g, p = some ⟨g, 0, none⟩ ∧ g ≠ kb ∧ w.cell? ⟨g, k, none⟩ = some (.string (nth l k))) (hl : l.length ≤ 1099511627776) :
    SeqG 49 #[.pointer (some ⟨ab, 0, none⟩)] enc2 (numb l l.length) kb w := by
  intro n lp J Jx W hW hJ hJx hlp hkb hlo hY h0
  have hc1 : W.cell? ⟨ab, 0, none⟩ = some (.slice p l.length c) := by rw [hW.cell (p := ⟨ab, 0, none⟩) (cell_lt hc)]; exact hc
  have hrow1 : ∀ k, k < l.length → ∃ g, p = some ⟨g, 0, none⟩ ∧ ∀ y, KeepBut (fun r => r = kb) W y → y.cell? ⟨g, k, none⟩ = some (.string (nth l k)) := by
    intro k hk
    obtain ⟨g, e, hne, hcell⟩ := hrow k hk
    refine ⟨g, e, fun y hy => hy.cell hne ?_⟩
    rw [hW.cell (p := ⟨g, k, none⟩) (cell_lt hcell)]; exact hcell
  have hY2 : ∀ k W1, k < l.length → J (numb l k) W1 → YieldAt Fence.wide (n - 1) Try.prog lp #[.int .i64 (k : Int), .string (nth l k)] W1 fun e W' =>
      (e = .returned (.bool true) ∧ J (numb l (k + 1)) W' ∧ KeepBut (fun r => r = kb) W1 W') ∨ (e = .returned (.bool false) ∧ Jx (numb l (k + 1)) W') := by
    intro k W1 hk hJ1
    have := hY (numb l k) (k, nth l k) W1 hJ1 (by rw [← numb_succ]; exact numb_pre l (by omega))
    rw [← numb_succ] at this
    refine this.mono ?_
    rintro e W' (h | ⟨h1, h2, _⟩)
    · exact .inl h
    · exact .inr ⟨h1, h2⟩
  clear hY hrow hc hW hJ hJx hlp hkb hlo
  refine callsIn_of_wp Try.func49 rfl trivial ?_ rfl
  simp only [Try.ntmps49, List.size_toArray, List.length_cons, List.length_nil, Nat.reduceAdd, Nat.reduceSub, Array.replicate_succ, Array.replicate_zero, List.push_toArray, List.append_toArray, List.nil_append, List.cons_append]
  replace hrow1 := Lib.hid hrow1
  replace hY2 := Lib.hid hY2
  gi_wp2
  gi_loopw [7] (fun i wr => ∃ k : Nat, k ≤ l.length ∧ i = .int .i64 (k : Int) ∧ J (numb l k) wr ∧ KeepBut (fun r => r = kb) W wr) (fun i _ => l.length - (intOf i).toNat)
  case atStart => exact ⟨0, Nat.zero_le _, rfl, h0, KeepBut.refl _ _⟩
  case round =>
    obtain ⟨k, hk, rfl, hJs, hkp⟩ := hrel
    rcases Nat.lt_or_ge k l.length with hlt | hge
    · obtain ⟨g, rfl, hcell⟩ := hrow1.out k hlt
      have d1 := hcell wr hkp
      obtain ⟨fn, tmps, assign, body, hy, hR⟩ := hY2.out k wr hlt hJs
      have hlt' : (k : Int) < (l.length : Int) := by omega
      gi_wp2
      refine ⟨(fun h => by cases h), hR.mono ?_⟩
      rintro e W3 (⟨rfl, hJ3, hk3⟩ | ⟨rfl, hJx3⟩)
      · gi_wp2
        go_roundw
        case rel => exact ⟨k + 1, by omega, by simp, hJ3, hkp.trans hk3⟩
        case measure => simp [intOf]; omega
      · gi_wp2
        refine bodyPost_ret (results_none rfl _ _ _) rfl ?_
        exact ⟨⟨_, rfl⟩, .inr ⟨_, hJx3⟩⟩
    · obtain rfl : k = l.length := by omega
      gi_wp2
      go_end0
      exact ⟨⟨_, rfl⟩, .inl hJs⟩
theorem OwnFrom.up {β : Type} {B B' : Nat} {I : β → World → Prop} (h : OwnFrom B I) (hB : B ≤ B') : OwnFrom B' I :=
  fun s W W' row hs hg hr => h s W W' row hs hg (fun r e => ⟨Nat.le_trans hB (hr r e).1, (hr r e).2⟩)
theorem own_keepBut {β : Type} (ex : Nat → Prop) (W0 : World) : OwnFrom W0.heap.size (fun (_ : β) Y => KeepBut ex W0 Y) :=
  fun s A B row hs hg hr => ⟨Nat.le_trans hs.1 hg.size, fun r hlt he => by
    rw [hg.block r (Nat.lt_of_lt_of_le hlt hs.1) (fun e => by have := (hr r e.symm).1; omega)]
    exact hs.2 r hlt he⟩
theorem round_any {n m l2 lp : Nat} {f : FuncId} {tmps : Array Value} {assign body : Code} {w : World} {R : Ending → World → Prop} (h : RoundIn Fence.wide n Try.prog lp f tmps assign body w R) : RoundIn (Fence.wide.inRound l2) m Try.prog lp f tmps assign body w R :=
  ⟨h.1, fun c cs _ => h.2 c cs (room_wide _)⟩
theorem each_seq (l : List ByteArray) (B tb eb kb : Nat) (w : World) (hkb : w.heap.size ≤ kb ∨ kb < B) (hc : w.cell? ⟨eb, 0, none⟩ = some (.pointer (some ⟨tb, 0, none⟩))) (hT : TabS w B tb l []) (hl : l.length ≤ 1099511627776) :
    SeqG 40 #[.pointer (some ⟨eb, 0, none⟩)] enc2 (numb l l.length) kb w := by
  intro n lp J Jx W hW hJ hJx hlp hkb2 hlo hY h0
  have hbA : Below W.heap.size W (W.alloc (.cells #[.func (.yield lp) #[] #[]] 72)) := (Below.refl _ W).alloc (Nat.le_refl _) _
  have hWA := below_after hW hbA
  have hc2 : (W.alloc (.cells #[.func (.yield lp) #[] #[]] 72)).cell? ⟨eb, 0, none⟩ = some (.pointer (some ⟨tb, 0, none⟩)) := by rw [hWA.cell (p := ⟨eb, 0, none⟩) (cell_lt hc)]; exact hc
  have hyb : (W.alloc (.cells #[.func (.yield lp) #[] #[]] 72)).cell? ⟨W.heap.size, 0, none⟩ = some (.func (.yield lp) #[] #[]) := by rw [cell_of_row _ _ _ _ _ _ (heap_alloc_new W _)]; rfl
  have hJ2 : J [] (W.alloc (.cells #[.func (.yield lp) #[] #[]] 72)) := hJ.alloc _ h0
  obtain ⟨bm, vn, vs, D, hB1, hB2, hh0, hm, ht, on, os, hal⟩ := hT
  have hh : (W.alloc (.cells #[.func (.yield lp) #[] #[]] 72)).heap[tb]? = some (rowT bm vn vs) := by rw [hWA.block tb (heap_lt hh0)]; exact hh0
  have hI := Lib.hid (c_is (W.alloc (.cells #[.func (.yield lp) #[] #[]] 72)) tb 1 _ hh rfl)
  obtain ⟨c0, c1, c2, c3, f2, f3⟩ := rowT_cells hh
  have hkbW : kb < (W.alloc (.cells #[.func (.yield lp) #[] #[]] 72)).heap.size := by simp; omega
  have hvn : ∃ p c, vn = .slice p l.length c ∧ ∀ k, k < l.length → ∃ g, p = some ⟨g, 0, none⟩ ∧ (g < w.heap.size ∧ B ≤ g) ∧ w.cell? ⟨g, k, none⟩ = some (.string (nth l k)) := by
    rcases on.2 with ⟨e, h⟩ | ⟨g, cap, cur, e, hgB, hg, _⟩
    · rw [h]; exact ⟨_, _, e, fun k hk => by omega⟩
    · refine ⟨_, _, e, fun k hk => ⟨g, rfl, ⟨heap_lt hg, hgB⟩, ?_⟩⟩
      have := on.cells (g := g) (by rw [e]; rfl) k (.string (nth l k)) (by simp [strs, nth, hk])
      rwa [add_zero_addr] at this
  obtain ⟨p, c, rfl, hrow⟩ := hvn
  have hrow2 : ∀ k, k < l.length → ∃ g, p = some ⟨g, 0, none⟩ ∧ g ≠ kb ∧ ((W.alloc (.cells #[.func (.yield lp) #[] #[]] 72)).alloc (.cells #[.slice p l.length c] 33)).cell? ⟨g, k, none⟩ = some (.string (nth l k)) := by
    intro k hk
    obtain ⟨g, e, hgw, hcell⟩ := hrow k hk
    refine ⟨g, e, by omega, ?_⟩
    rw [(below_after hWA ((Below.refl _ _).alloc (Nat.le_refl _) (.cells #[.slice p l.length c] 33))).cell (p := ⟨g, k, none⟩) hgw.1]; exact hcell
  have hac : ((W.alloc (.cells #[.func (.yield lp) #[] #[]] 72)).alloc (.cells #[.slice p l.length c] 33)).cell? ⟨W.heap.size + 1, 0, none⟩ = some (.slice p l.length c) := by rw [cell_of_row _ _ _ _ _ _ (heap_alloc2_new W _ _)]; rfl
  have hyb3 : ((W.alloc (.cells #[.func (.yield lp) #[] #[]] 72)).alloc (.cells #[.slice p l.length c] 33)).cell? ⟨W.heap.size, 0, none⟩ = some (.func (.yield lp) #[] #[]) := by rw [((Below.refl _ (W.alloc (.cells #[.func (.yield lp) #[] #[]] 72))).alloc (Nat.le_refl _) (.cells #[.slice p l.length c] 33)).cell (p := ⟨W.heap.size, 0, none⟩) (cell_lt hyb)]; exact hyb
  have hsz3 : ((W.alloc (.cells #[.func (.yield lp) #[] #[]] 72)).alloc (.cells #[.slice p l.length c] 33)).heap.size = W.heap.size + 1 + 1 := by simp
  have hJ3 : J [] ((W.alloc (.cells #[.func (.yield lp) #[] #[]] 72)).alloc (.cells #[.slice p l.length c] 33)) := hJ.alloc _ hJ2
  have hkbne : W.heap.size ≠ kb := by omega
  have hac := Lib.hid hac
  have hyb3 := Lib.hid hyb3
  have hrow2 := Lib.hid hrow2
  have hJ := Lib.hid hJ
  have hJx := Lib.hid hJx
  have hY := Lib.hid hY
  have hJ3 := Lib.hid hJ3
  clear hyb hJ2 h0 hbA hWA hW hh hh0 hm ht on os hal hrow hc
  refine callsIn_of_wp_marks Try.func40 rfl trivial ?_ rfl
  simp only [Try.ntmps40, List.size_toArray, List.length_cons, List.length_nil, Nat.reduceAdd, Nat.reduceSub, Array.replicate_succ, Array.replicate_zero, List.push_toArray, List.append_toArray, List.nil_append, List.cons_append]
  gi_wp2_with (first | (refine ⟨trivial, (fun h => by cases h), ?_⟩; gi_at_call 37; refine (callsIn_wide.2 hI.out).mono ?_; rintro e w1 ⟨rfl, rfl⟩) | (refine ⟨trivial, (fun h => by cases h), ?_⟩; gi_at_call 41; refine (callsIn_wide.2 (c_All _ _ _ _)).mono ?_; rintro e w2 ⟨rfl, rfl⟩))
  obtain ⟨W3, hW3⟩ : ∃ W3, (W.alloc (.cells #[.func (.yield lp) #[] #[]] 72)).alloc (.cells #[.slice p l.length c] 33) = W3 := ⟨_, rfl⟩
  rw [hW3] at hac hyb3 hrow2 hsz3 hJ3 ⊢
  clear hW3
  refine rangeG (n := n) (gf := 49) (lb := #[.pointer (some ⟨W.heap.size + 1, 0, none⟩)]) (kb := kb) (w0 := W3) rfl (enters_of Try.func49 (by kernel_rfl) rfl) (all_seq l (W.heap.size + 1) kb p c W3 hac.out hrow2.out hl) (Below.refl _ _) (by omega) (fun _ => rfl)
    (fun pre Y => J pre Y ∧ KeepBut (fun r => r = kb) W3 Y) (fun cd pre Y => cd = .ret ∧ Jx pre Y)
    (fun s A B row hs hg hr => ⟨(OwnFrom.up (B := W.heap.size) hJ.out (by omega)) s A B row hs.1 hg hr, own_keepBut (β := Unit) _ W3 () A B row hs.2 hg hr⟩)
    (fun cd s A B row hs hg hr => ⟨hs.1, (OwnFrom.up (B := W.heap.size) hJx.out (by omega)) s A B row hs.2 hg hr⟩)
    ⟨hJ3.out, KeepBut.refl _ _⟩
    (fun x => { tmps := #[.func (.yield lp) #[] #[], .pointer (some ⟨eb, 0, none⟩), .pointer (some ⟨W.heap.size, 0, none⟩), .int .i64 (x.1 : Int), .string x.2, .pointer (some ⟨tb, 0, none⟩), .bool true, .bool false, .pointer (some ⟨tb, 0, none⟩), .pointer (some ⟨tb, 0, none⟩), .pointer (some ⟨tb, 2, none⟩), .slice p l.length c, .func (.func 49) #[] #[.pointer (some ⟨W.heap.size + 1, 0, none⟩)], .int .i64 (x.1 : Int), .string x.2, undef, undef, undef, undef, undef], defers := [] }) ?assign ?body ?done ?stop
  case assign =>
    intro l2 x Y K hK
    simp only [enc2]
    gi_wp2
    exact hK
  case body =>
    rintro l2 pre x Y ⟨hJ1, hkp⟩ hpre hl2 hl3
    have d1 := hkp.cell (by exact hkbne) hyb3.out
    obtain ⟨fn, tmps, assign, body, hy, hR⟩ := hY.out pre x Y hJ1 hpre
    simp only [enc2] at hy
    gi_wp2
    refine ⟨(fun h => by cases h), (round_any hR).mono ?_⟩
    rintro e Y3 (⟨rfl, hJ3', hk3⟩ | ⟨rfl, hJx3, hk3⟩)
    · gi_wp2
      exact ⟨hk3, hJ3', hkp.trans hk3⟩
    · gi_wp2
      exact ⟨hk3.mono (fun r h => h.imp id (fun h => by omega)), rfl, hJx3⟩
  case done =>
    rintro Y ⟨hJ1, _⟩ hK
    gi_wp2
    refine ⟨by simp, .inl ⟨_, _, rfl, run_takeDeferred hK, ?_⟩⟩
    exact ⟨_, results_none rfl _ _ _, ⟨_, rfl⟩, .inl (OwnFrom.putObj (B := W.heap.size) hJ.out _ hJ1 (by omega) hK rfl)⟩
  case stop =>
    rintro cd pre Y ⟨rfl, hJ1⟩ hK
    gi_wp2
    refine ⟨by simp, .inl ⟨_, _, rfl, run_takeDeferred hK, ?_⟩⟩
    exact ⟨_, results_none rfl _ _ _, ⟨_, rfl⟩, .inr ⟨pre, OwnFrom.putObj (B := W.heap.size) hJx.out _ hJ1 (by omega) hK rfl⟩⟩
end Go.Proofs.Ytkbjakadngnokaa
