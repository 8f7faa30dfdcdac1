/-
  The contract of fmtEFG in the form 'e', where the exponent is one digit.
-/
import Derived.Test.YtbodfdmmfaampaaGreatDoorD8
import Derived.Deep.AppendLies
import Derived.OwnWalk
namespace Go.Proofs.YtbodfdmmfaampaaGreatDoor
open Go.RowKit
set_option maxHeartbeats 1000000
set_option maxRecDepth 100000

def b8 (l : List Nat) : List Value := l.map fun n : Nat => .int .u8 (n : Int)
theorem b8_len (l : List Nat) : (b8 l).length = l.length := by simp [b8]
theorem infoByte : (Tryz.prog.info? 5).map (fun i => (i.zero, i.size, i.bytes)) = some (some (.int .u8 0), 1, 1) := by kernel_rfl
/-- a row of bytes of the call's own, from block B on, that is not block b; block b as in w0 -/
def Buf (w0 w : World) (B b : Nat) (v : Value) (l : List Nat) : Prop :=
  w.ownsRow B 5 1 v l.length (b8 l) ∧ v.ownBlock ≠ some b ∧ Below B w0 w ∧ w.heap[b]? = w0.heap[b]? ∧ b < w.heap.size
theorem own_lo {w : World} {base : Nat} {e : TypeId} {size : Nat} {v : Value} {n : Nat} {xs : List Value} (h : w.ownsRow base e size v n xs) : ∀ k, v.ownBlock = some k → base ≤ k := by
  intro k hk
  rcases h.2 with ⟨rfl, _⟩ | ⟨g, cap, cur, rfl, hb, _⟩
  · cases hk
  · cases hk; exact hb
theorem Buf.step {w0 w w' : World} {B b g n c : Nat} {v : Value} {l news : List Nat} {o : Obj} (h : Buf w0 w B b v l) (hB : B ≤ w.heap.size) (hg : (w.alloc o).grownBy w' v.ownBlock)
    (hown : w'.ownsRow B 5 1 (.slice (some ⟨g, 0, none⟩) n c) n (b8 l ++ b8 news)) (hn : n = (l ++ news).length) (hat : v.ownBlock = some g ∨ g = w.heap.size + 1) :
    Buf w0 w' B b (.slice (some ⟨g, 0, none⟩) n c) (l ++ news) := by
  obtain ⟨h1, h2, h3, h4, h5⟩ := h
  have e : b8 (l ++ news) = b8 l ++ b8 news := by simp [b8]
  refine ⟨by rw [e, ← hn]; exact hown, ?_, (h3.alloc hB o).grown hg (by simp; omega) (own_lo h1), ?_, ?_⟩
  · intro hb
    simp [Value.ownBlock] at hb
    subst hb
    rcases hat with h | h
    · exact h2 h
    · omega
  · rw [hg.block b (by simp; omega) (fun h => h2 h.symm), Below.heap_alloc _ _ _ h5]; exact h4
  · exact Nat.lt_of_lt_of_le h5 (Nat.le_trans (by simp) hg.size)
/-- .. an append from block b itself: no new block ahead of it -/
theorem Buf.step2 {w0 w w' : World} {B b g n c : Nat} {v : Value} {l news : List Nat} (h : Buf w0 w B b v l) (hB : B ≤ w.heap.size) (hg : w.grownBy w' v.ownBlock)
    (hown : w'.ownsRow B 5 1 (.slice (some ⟨g, 0, none⟩) n c) n (b8 l ++ b8 news)) (hn : n = (l ++ news).length) (hat : v.ownBlock = some g ∨ g = w.heap.size) :
    Buf w0 w' B b (.slice (some ⟨g, 0, none⟩) n c) (l ++ news) := by
  obtain ⟨h1, h2, h3, h4, h5⟩ := h
  have e : b8 (l ++ news) = b8 l ++ b8 news := by simp [b8]
  refine ⟨by rw [e, ← hn]; exact hown, ?_, h3.grown hg hB (own_lo h1), ?_, ?_⟩
  · intro hb
    simp [Value.ownBlock] at hb
    subst hb
    rcases hat with h | h
    · exact h2 h
    · omega
  · rw [hg.block b h5 (fun h => h2 h.symm)]; exact h4
  · exact Nat.lt_of_lt_of_le h5 hg.size
section
variable {ops : Array Oper} {rest : List Oper} {o : Oper} {a : Act} {Q : Exit → Act → World → Prop}
/-- append of new bytes to such a row -/
theorem app_buf (hgd : o.guard = none) (s x : Operand) (ho : o.op = .call { callee := .builtin .append, args := #[s, x], argTypes := #[67, 67] })
    {w0 w : World} {B b : Nat} {v : Value} {l : List Nat} (hb : Buf w0 w B b v l) (hB : B ≤ w.heap.size) (hs : a.eval s = v) (news : List Nat) (m n : Nat) (cs : Array Value)
    (hcs : cs.toList = b8 news) (hm : m = news.length) (hm0 : 0 < m) (hn : n = (l ++ news).length) (hn2 : n ≤ 1000000) (hx : a.eval x = .slice (some ⟨w.heap.size, 0, none⟩) m m)
    (h : ∀ g cap w', Buf w0 w' B b (.slice (some ⟨g, 0, none⟩) n cap) (l ++ news) → B ≤ w'.heap.size → wpList Tryz.prog ops Q rest (a.put o.dst (.slice (some ⟨g, 0, none⟩) n cap)) w') :
    wpList Tryz.prog ops Q (o :: rest) a (w.alloc (.cells cs 5)) := by
  obtain ⟨i0, hi0, hz0, hz1, hz2⟩ := info_parts infoByte
  have e1 : l.length + m = n := by rw [hn, hm, List.length_append]
  refine wpList_append_lies _ hgd s x _ ho B 5 i0 _ 1 1 Tryz.underlying67 hi0 hz0 hz1 hz2 rfl (by omega) v l.length (b8 l) hs (hb.1.alloc _) ⟨w.heap.size, 0, none⟩ m m (b8 news) hx (by rw [b8_len]; omega)
    (fun j u hj => World.news_of_block (t := 5) (fr := (0, 0)) (heap_alloc_new w _) j u (by rw [hcs]; exact hj)) ?_ hm0 (by unfold maxLen; omega) (by omega) (by simp; omega) (w.heap.size + 1) (by simp) ?_
  · intro u hu
    obtain ⟨n, _, rfl⟩ := List.mem_map.1 hu
    rfl
  · intro g cap w' hown hg hat hlt
    rw [e1] at hown ⊢
    have hb' := hb.step hB hg hown hn hat
    exact h g cap w' hb' (Nat.le_trans hB (Nat.le_trans (by simp) hg.size))
/-- .. of bytes that lie in block b -/
theorem app_buf2 (hgd : o.guard = none) (s x : Operand) (ho : o.op = .call { callee := .builtin .append, args := #[s, x], argTypes := #[67, 67] })
    {w0 w : World} {B b : Nat} {v : Value} {l : List Nat} (hb : Buf w0 w B b v l) (hB : B ≤ w.heap.size) (hs : a.eval s = v) (news : List Nat) (m n i c : Nat)
    (hm : m = news.length) (hm0 : 0 < m) (hn : n = (l ++ news).length) (hn2 : n ≤ 1000000) (hx : a.eval x = .slice (some ⟨b, i, none⟩) m c)
    (hc : ∀ (j u : Nat), news[j]? = some u → w0.cell? ⟨b, i + j, none⟩ = some (.int .u8 (u : Int)))
    (h : ∀ g cap w', Buf w0 w' B b (.slice (some ⟨g, 0, none⟩) n cap) (l ++ news) → B ≤ w'.heap.size → wpList Tryz.prog ops Q rest (a.put o.dst (.slice (some ⟨g, 0, none⟩) n cap)) w') :
    wpList Tryz.prog ops Q (o :: rest) a w := by
  obtain ⟨i0, hi0, hz0, hz1, hz2⟩ := info_parts infoByte
  have e1 : l.length + m = n := by rw [hn, hm, List.length_append]
  refine wpList_append_lies _ hgd s x _ ho B 5 i0 _ 1 1 Tryz.underlying67 hi0 hz0 hz1 hz2 rfl (by omega) v l.length (b8 l) hs hb.1 ⟨b, i, none⟩ m c (b8 news) hx (by rw [b8_len]; omega) ?_ ?_ hm0 (by unfold maxLen; omega) (by omega) hB w.heap.size rfl ?_
  · intro j u hj
    have hadd : (⟨b, i, none⟩ : Addr).add j = ⟨b, i + j, none⟩ := by unfold Addr.add; split <;> simp_all
    rw [hadd, World.cell?_of_block (w := w0) (w' := w) hb.2.2.2.1]
    simp only [b8, List.getElem?_map, Option.map_eq_some_iff] at hj
    obtain ⟨n, hn, rfl⟩ := hj
    exact hc j n hn
  · intro u hu
    obtain ⟨n, _, rfl⟩ := List.mem_map.1 hu
    rfl
  · intro g cap w' hown hg hat hlt
    rw [e1] at hown ⊢
    have hb' := hb.step2 hB hg hown hn hat
    exact h g cap w' hb' (Nat.le_trans hB hg.size)
end
theorem c_efmt1 (b B : Nat) (c0 e : Nat) (v0 : Value) (he : e < 10) (w : World) (hB : B ≤ w.heap.size) (h : Buf w w B b v0 []) (hc0 : w.cell? ⟨b, 0, none⟩ = some (.int .u8 (c0 : Int))) :
    Calls Tryz.prog 74 #[v0, .bool false, .slice (some ⟨b, 0, none⟩) 32 32, .int .i64 ((e : Int) + 1), .int .i64 1, .int .i64 0, .int .u8 101, .bool true] w fun r w' => ∃ v', r = .returned v' ∧ Buf w w' B b v' ([c0] ++ [101] ++ [43] ++ [48, e + 48]) := by
  have he1 : (e : Int) < 10 := by omega
  have h := Lib.hid h
  go_enter Tryz.func74, Tryz.ntmps74
  go_wp2_with (first
    | (at_builtin; refine app_buf rfl _ _ rfl h.out hB rfl [c0] 1 1 _ rfl rfl (by omega) rfl (by omega) rfl ?_; intro g1 k1 w1 hb1 hB1; replace hb1 := Lib.hid hb1)
    | (at_builtin; refine app_buf rfl _ _ rfl hb1.out hB1 rfl [101] 1 2 _ rfl rfl (by omega) rfl (by omega) rfl ?_; intro g2 k2 w2 hb2 hB2; replace hb2 := Lib.hid hb2)
    | (at_builtin; refine app_buf rfl _ _ rfl hb2.out hB2 rfl [43] 1 3 _ rfl rfl (by omega) rfl (by omega) rfl ?_; intro g3 k3 w3 hb3 hB3; replace hb3 := Lib.hid hb3)
    | (at_builtin; refine app_buf rfl _ _ rfl hb3.out hB3 rfl [48, e + 48] 2 5 _ rfl rfl (by omega) rfl (by omega) rfl ?_; intro g4 k4 w4 hb4 hB4; replace hb4 := Lib.hid hb4))
  go_ret
  exact ⟨_, rfl, hb4.out⟩
theorem c_efmt2 (b B m : Nat) (ds : List Nat) (c0 e : Nat) (v0 : Value) (he : e < 10) (hm : 2 ≤ m) (hm2 : m ≤ 32) (hds : ds.length = m - 1) (w : World) (hB : B ≤ w.heap.size) (h : Buf w w B b v0 []) (hc0 : w.cell? ⟨b, 0, none⟩ = some (.int .u8 (c0 : Int)))
    (hc : ∀ (j u : Nat), ds[j]? = some u → w.cell? ⟨b, 1 + j, none⟩ = some (.int .u8 (u : Int))) :
    Calls Tryz.prog 74 #[v0, .bool false, .slice (some ⟨b, 0, none⟩) 32 32, .int .i64 ((e : Int) + 1), .int .i64 (m : Int), .int .i64 ((m : Int) - 1), .int .u8 101, .bool true] w fun r w' => ∃ v', r = .returned v' ∧ Buf w w' B b v' ([c0] ++ [46] ++ ds ++ [101] ++ [43] ++ [48, e + 48]) := by
  have he1 : (e : Int) < 10 := by omega
  have hm3 : (2 : Int) ≤ (m : Int) := by omega
  have hm4 : (m : Int) ≤ 32 := by omega
  have hne : ((m : Int) != 0) = true := by simp; omega
  have hmin : (m : Int) - 1 + 1 = (m : Int) := by omega
  have h := Lib.hid h
  replace hds := Lib.hid hds
  replace hc := Lib.hid hc
  clear hm hm2
  go_enter Tryz.func74, Tryz.ntmps74
  go_wp2_with (first
    | (at_builtin; refine app_buf rfl _ _ rfl h.out hB rfl [c0] 1 1 _ rfl rfl (by omega) rfl (by omega) rfl ?_; intro g1 k1 w1 hb1 hB1; replace hb1 := Lib.hid hb1)
    | (at_builtin; refine app_buf rfl _ _ rfl hb1.out hB1 rfl [46] 1 2 _ rfl rfl (by omega) rfl (by omega) rfl ?_; intro g2 k2 w2 hb2 hB2; replace hb2 := Lib.hid hb2)
    | (at_builtin; go_loud (refine app_buf2 rfl _ _ rfl hb2.out hB2 rfl ds (m - 1) (2 + (m - 1)) 1 31 hds.out.symm (by omega) (by have := hds.out; simp; omega) (by omega) rfl hc.out ?_); intro g3 k3 w3 hb3 hB3; replace hb3 := Lib.hid hb3))
  go_loopw [0, 114] (fun u0 u1 wr => u0 = .slice (some ⟨g3, 0, none⟩) (2 + (m - 1)) k3 ∧ u1 = .int .i64 0 ∧ wr = w3) (fun _ _ _ => 0)
  case atStart => exact ⟨rfl, rfl, rfl⟩
  case round =>
    obtain ⟨rfl, rfl, rfl⟩ := hrel
    go_wp2_with (first
      | (at_builtin; refine app_buf rfl _ _ rfl hb3.out hB3 rfl [101] 1 (3 + (m - 1)) _ rfl rfl (by omega) (by have := hds.out; simp; omega) (by omega) rfl ?_; intro g4 k4 w4 hb4 hB4; replace hb4 := Lib.hid hb4)
      | (at_builtin; refine app_buf rfl _ _ rfl hb4.out hB4 rfl [43] 1 (4 + (m - 1)) _ rfl rfl (by omega) (by have := hds.out; simp; omega) (by omega) rfl ?_; intro g5 k5 w5 hb5 hB5; replace hb5 := Lib.hid hb5)
      | (at_builtin; refine app_buf rfl _ _ rfl hb5.out hB5 rfl [48, e + 48] 2 (6 + (m - 1)) _ rfl rfl (by omega) (by have := hds.out; simp; omega) (by omega) rfl ?_; intro g6 k6 w6 hb6 hB6; replace hb6 := Lib.hid hb6))
    go_ret
    exact ⟨_, rfl, hb6.out⟩
end Go.Proofs.YtbodfdmmfaampaaGreatDoor
