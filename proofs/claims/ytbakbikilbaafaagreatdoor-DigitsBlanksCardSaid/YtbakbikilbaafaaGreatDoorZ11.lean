/-
  Contracts: Contracts of the program's Point, Of (of texts of bytes below 128), ascii, Show.
-/
import Derived.Test.YtbakbikilbaafaaGreatDoorZ10
import Derived.Shelf.Strings.BuilderK
import Derived.Lib.OthersKept
namespace Go.Proofs.YtbakbikilbaafaaGreatDoor
open Go.RowKit F64 Ieee
set_option linter.unusedVariables false
set_option maxHeartbeats 4000000
set_option maxRecDepth 100000

theorem byteUG_cells (u : Nat) (hu : u < 65536) : Lib.byteCells (byteU u) = [.int .u8 ((u : Int) / 256), .int .u8 ((u : Int) % 256)] := by
  simp only [Lib.byteCells, byteU, List.map_cons, List.map_nil]
  congr 2
  · simp; omega
  · congr 1
    simp
theorem c_putG (B b u : Nat) (bs : List Value) (hu : u < 65536) (w : World) (h : Lib.IsBuilder 93 5 B b bs w) (hl : bs.length ≤ 1000000) (hB : B ≤ w.heap.size) :
    Calls Tryz.prog 129 #[.pointer (some ⟨b, 0, none⟩), .int .u16 (u : Int)] w fun e w' => e = .returned (.tuple #[]) ∧ Lib.IsBuilder 93 5 B b (bs ++ [.int .u8 ((u : Int) / 256), .int .u8 ((u : Int) % 256)]) w' ∧ Below B w w' := by
  have h1 := Lib.hid (s_WriteByte B b bs ((u : Int) / 256) w h (by omega) hB)
  have h2 := Lib.hid (fun W h hB => s_WriteByte B b (bs ++ [.int .u8 ((u : Int) / 256)]) ((u : Int) % 256) W h (by simp; omega) hB)
  have hcat := Lib.hid (List.append_assoc bs [.int .u8 ((u : Int) / 256)] [.int .u8 ((u : Int) % 256)])
  have hu' : (u : Int) < 65536 := by omega
  replace h := Lib.hid h
  go_enter Tryz.func129, Tryz.ntmps129
  go_wp2_with fail
  refine h1.out.mono ?_
  rintro e w1 ⟨rfl, hb1, hbel1⟩
  replace hb1 := Lib.hid hb1
  go_wp2_with fail
  refine (h2.out w1 (.inr hb1.out) (Nat.le_trans hB hbel1.size)).mono ?_
  rintro e w2 ⟨rfl, hb2, hbel2⟩
  replace hb2 := Lib.hid hb2
  go_wp2_with fail
  go_end0
  refine ⟨rfl, ?_, hbel1.trans hbel2⟩
  have := hb2.out
  rw [hcat.out] at this
  exact .inr this
theorem textU_one (u : Nat) : textU [u] = ⟨(byteU u).toArray⟩ := by unfold textU bytesU; simp
theorem c_UPointP (r : Nat) (hr : r < 65536) (w : World) :
    Calls Tryz.prog 91 #[.int .i32 (r : Int)] w fun e w' => e = .returned (.string (textU [r])) ∧ Below w.heap.size w w' := by
  have hP := Lib.hid (c_putG w.heap.size w.heap.size r [] hr (w.alloc (.cells #[.pointer none, .slice none 0 0] 93)) (Lib.fresh_isBuilder 93 5 w) (by simp) (by simp))
  have hS := Lib.hid (fun W h hB => s_String w.heap.size w.heap.size (byteU r) W h hB)
  have r1 : (r : Int) < 65536 := by omega
  have r2 : (0 : Int) ≤ (r : Int) := by omega
  have r3 : ¬ (r : Int) < 0 := by omega
  have r4 : decide ((r : Int) < 0) = false := decide_eq_false (by omega)
  have r5 : decide ((1114111 : Int) < (r : Int)) = false := decide_eq_false (by omega)
  have r6 : ¬ (1114111 : Int) < (r : Int) := by omega
  have hcells := Lib.hid (byteUG_cells r hr)
  have htx := Lib.hid (textU_one r)
  go_enter Tryz.func91, Tryz.ntmps91
  go_wp2_with fail
  refine hP.out.mono ?_
  rintro e w1 ⟨rfl, hb1, hbel1⟩
  rw [List.nil_append] at hb1
  have hbel : Below w.heap.size w w1 := ((Below.refl _ w).alloc (Nat.le_refl _) _).trans hbel1
  have hS2 := Lib.hid (hS.out w1 (by rw [hcells.out]; exact hb1) (by have := hbel1.size; simp at this; omega))
  clear hb1 hbel1 hS hP
  go_wp2_with fail
  refine hS2.out.mono ?_
  rintro e w2 ⟨rfl, hbel2⟩
  go_wp2_with fail
  go_ret
  exact ⟨by rw [htx.out]; rfl, hbel.trans hbel2⟩
theorem builderF_keep {T e : TypeId} {B b : Nat} {bs : List Value} {w w' : World} (h : Lib.IsBuilderF T e B b bs w) (hb : Below w.heap.size w w') : Lib.IsBuilderF T e B b bs w' := by
  have key : ∀ p, Lib.BuilderAtF T e B b p bs w → Lib.BuilderAtF T e B b p bs w' := by
    rintro p ⟨h1, v, h2, h3, h4⟩
    refine ⟨h1, v, ?_, ?_, h4⟩
    · rw [hb.block b (Array.getElem?_eq_some_iff.1 h2).1]; exact h2
    · exact h3.kept (row := none) ⟨hb.os, hb.tape, hb.output, hb.size, fun k hk _ => hb.block k hk⟩ (by cases h : v.ownBlock with | none => exact .inl rfl | some q => exact .inr (by simp))
  rcases h with h | h
  · exact .inl (key _ h)
  · exact .inr (key _ h)
theorem bytesU_take {us : List Nat} {k u : Nat} (h : us[k]? = some u) : Lib.byteCells (bytesU (us.take (k + 1))) = Lib.byteCells (bytesU (us.take k)) ++ Lib.strCells (textU [u]) := by
  rw [bytesU_snoc us k u h, Lib.byteCells_append, textU_one]
  rfl
theorem c_UOf (L : List Nat) (hl : L.length ≤ 10000000) (hL : ∀ c ∈ L, c < 128) (w : World) :
    Calls Tryz.prog 60 #[.string (u8sG L)] w fun e w' => e = .returned (.tuple #[.string (textU L), .int .i64 0, .int .i64 0]) ∧ Below w.heap.size w w' := by
  have hP := Lib.hid (fun c (hc : c < 65536) W => c_UPointP c hc W)
  have hW := Lib.hid (fun bs s W h hlen hB => Any.Builder_WriteString_k lays166 bextra w.heap.size w.heap.size bs s W h hlen hB)
  have hS := Lib.hid (fun l W h hB => Any.Builder_String_any_k lays169 bextra w.heap.size w.heap.size l W h hB)
  have hsz : (u8sG L).size = L.length := uG_size L
  have hget := Lib.hid (fun j c hc h256 h => uG_get L j c hc h256 h)
  have hLb := Lib.hid hL
  have hst := Lib.hid (fun k u (h : L[k]? = some u) => bytesU_take h)
  have hbl := Lib.hid (fun k => bytesU_len (L.take k))
  generalize hSS : u8sG L = S at *
  replace hsz := Lib.hid hsz
  clear hL hSS
  go_enter Tryz.func60, Tryz.ntmps60
  go_wp2_with fail
  go_loopw [] (fun wr => ∃ pos : Nat, pos ≤ L.length ∧ Lib.IsBuilderF 93 5 w.heap.size w.heap.size (Lib.byteCells (bytesU (L.take pos))) wr ∧ wr.heap[w.heap.size + 1]? = some (.stringIter S pos) ∧ Below w.heap.size w wr) (fun wr => S.size - wr.iterPos (w.heap.size + 1))
  case atStart =>
    refine ⟨0, Nat.zero_le _, (Lib.IsBuilderF.of (Lib.fresh_isBuilder 93 5 w)).alloc _, ?_, ((Below.refl _ w).alloc (Nat.le_refl _) _).alloc (by simp) _⟩
    have := World.iter_heap (w.alloc (.cells #[.pointer none, .slice none 0 0] 93)) S 0
    simpa using this
  case round =>
    obtain ⟨pos, hpl, hI, hit, hbw⟩ := hrel
    have hszr : w.heap.size + 1 < wr.heap.size := (Array.getElem?_eq_some_iff.1 hit).1
    have hszS := hsz.out
    by_cases hp : pos < S.size
    · obtain ⟨c, hc⟩ : ∃ c, L[pos]? = some c := ⟨L[pos]'(by omega), List.getElem?_eq_getElem _⟩
      have hc128 := hLb.out c (List.mem_of_getElem? hc)
      have hg := hget.out pos c hc (by omega) hp
      have hnx : ∀ ty, (Instr.next (.pointer (some ⟨w.heap.size + 1, 0, none⟩)) true ty).run Tryz.prog wr = .ok (.tuple #[.bool true, .int .i64 (pos : Int), .int .i32 (c : Int)]) (wr.iterAt (w.heap.size + 1) S (pos + 1)) := fun ty => by
        have := Lib.run_next_ascii_at (P := Tryz.prog) wr (w.heap.size + 1) S pos ty hit hp (by rw [hg]; exact hc128)
        rw [hg] at this
        exact this
      have hI2 := hI.iterAt hit (pos + 1)
      have hit2 := Lib.iterAt_heap wr (w.heap.size + 1) S pos (pos + 1) hit
      have hbw2 := Lib.below_iterAt hbw (k := w.heap.size + 1) (by omega) S (pos + 1)
      have hsz2 : w.heap.size + 1 < (wr.iterAt (w.heap.size + 1) S (pos + 1)).heap.size := by rw [Lib.iterAt_size]; omega
      have hp1 : pos + 1 ≤ L.length := by omega
      have hstep := Lib.hid (hst.out pos c hc)
      have hblen := hbl.out pos
      have htk : (L.take pos).length ≤ pos := List.length_take_le _ _
      have q1 : ((c : Int) == 65533) = false := by simp; omega
      have hcell : (Lib.byteCells (bytesU (L.take pos))).length ≤ 20000000 := by rw [Lib.byteCells_length]; omega
      have hPc := Lib.hid (hP.out c (by omega))
      have hits := Lib.hid hit
      have hmeas : S.size - (pos + 1) < S.size - pos := by omega
      generalize wr.iterAt (w.heap.size + 1) S (pos + 1) = w1 at *
      clear hc hblen htk hp hit hI hbw hg hszS
      have hcs : (textU [c]).size = 2 := by rw [textU_one]; rfl
      generalize textU [c] = tc at *
      go_wp2_with fail
      refine (hPc.out _).mono ?_
      rintro e w2 ⟨rfl, hb2⟩
      have hI3 := builderF_keep hI2 hb2
      have hit3 : w2.heap[w.heap.size + 1]? = some (.stringIter S (pos + 1)) := (hb2.block _ hsz2).trans hit2
      have hbw3 : Below w.heap.size w w2 := hbw2.trans (hb2.mono (by omega))
      clear hI2 hit2 hb2 hbw2
      go_wp2_with fail
      refine (hW.out _ _ _ hI3 (by rw [hcs]; omega) hbw3.size).mono ?_
      rintro e w3 ⟨rfl, h1, b1, k1⟩
      go_wp2_with fail
      go_roundw
      case rel => exact ⟨pos + 1, hp1, by rw [hstep.out]; exact .inr h1, k1.iter hit3 (by omega), hbw3.trans b1⟩
      case measure =>
        simp only [World.iterPos, k1.iter hit3 (by omega), hits.out]
        exact hmeas
    · obtain rfl : pos = L.length := by omega
      have hnx : ∀ ty, (Instr.next (.pointer (some ⟨w.heap.size + 1, 0, none⟩)) true ty).run Tryz.prog wr = _ := fun ty => Lib.run_next_end_at wr (w.heap.size + 1) S L.length ty hit hp
      clear hszS
      go_wp2_with fail
      refine (hS.out _ _ hI (by omega)).mono ?_
      rintro e w2 ⟨rfl, _, b1, _⟩
      go_wp2_with fail
      go_ret3
      exact ⟨rfl, hbw.trans b1⟩
theorem c_dascii (L : List Nat) (hl : L.length ≤ 10000000) (hL : ∀ c ∈ L, c < 128) (w : World) :
    Calls Tryz.prog 26 #[.string (u8sG L)] w fun e w' => e = .returned (.string (textU L)) ∧ Below w.heap.size w w' := by
  have hO := Lib.hid (c_UOf L hl hL w)
  clear hL
  go_enter Tryz.func26, Tryz.ntmps26
  go_wp2_with fail
  refine hO.out.mono ?_
  rintro e w1 ⟨rfl, hb⟩
  go_wp2_with fail
  go_ret
  exact ⟨rfl, hb⟩
/-- a number's text -/
inductive ShowT : Nat → List Nat → Prop
  | nan {x : Nat} (h : F64.isNaN x = true) : ShowT x [78, 97, 78]
  | zero {x : Nat} (h : rung x = 0) : ShowT x [48]
  | inf : ShowT 9218868437227405312 [73, 110, 102, 105, 110, 105, 116, 121]
  | pos {x m v : Nat} {E : Int} (hx0 : 0 < x) (hx : x < 9218868437227405312) (hS : IsSci x m v E) (hE1 : -400 < E) (hE2 : E < 400) (hm1 : 1 ≤ m) (hm2 : m ≤ 18) : ShowT x (txtG m v E)
  | neg {x : Nat} {L : List Nat} (hs : sgn x = true) (h1 : 0 < rung x) (h2 : rung x ≤ 9218868437227405312) (h : ShowT (rung x) L) : ShowT x (45 :: L)
theorem showT_pos (x : Nat) (h0 : 0 < x) (h : x ≤ 9218868437227405312) : ∃ L, ShowT x L := by
  by_cases hi : x = 9218868437227405312
  · rw [hi]; exact ⟨_, .inf⟩
  · obtain ⟨m, v, E, h1, h2, h3, h4, h5⟩ := sci_ex h0 (show x < 9218868437227405312 by omega)
    exact ⟨_, .pos h0 (by omega) h1 h2 h3 h4 h5⟩
theorem showT_ex (x : Nat) (hx : x < 18446744073709551616) : ∃ L, ShowT x L := by
  by_cases hn : F64.isNaN x = true
  · exact ⟨_, .nan hn⟩
  · have hn' : ¬ 9218868437227405312 < rung x := by unfold F64.isNaN at hn; simpa using hn
    by_cases h0 : rung x = 0
    · exact ⟨_, .zero h0⟩
    · obtain ⟨L, hL⟩ := showT_pos (rung x) (by omega) (by omega)
      cases hs : sgn x
      · have hp := wd_parts x hx
        rw [hs] at hp
        have : rung x = x := hp
        rw [this] at hL
        exact ⟨L, hL⟩
      · exact ⟨_, .neg hs (by omega) (by omega) hL⟩
theorem txtG_mem (m v : Nat) (E : Int) : ∀ c ∈ txtG m v E, c < 128 := by
  have hd : ∀ c ∈ dg m v, c < 128 := fun c hc => by have := dgG_dig m v c hc; omega
  have hr : ∀ k, ∀ c ∈ List.replicate k 48, c < 128 := fun k c hc => by have := (List.mem_replicate.1 hc).2; omega
  have hi : ∀ n, ∀ c ∈ itG n, c < 128 := by
    intro n
    induction n using Nat.strongRecOn with
    | ind n ih =>
      intro c hc
      unfold itG Lib.decDigits at hc
      split at hc
      · simp at hc; omega
      · rw [List.map_append, List.mem_append] at hc
        rcases hc with h | h
        · exact ih (n / 10) (by omega) c h
        · simp at h; omega
  intro c hc
  unfold txtG at hc
  split at hc
  · rcases List.mem_append.1 hc with h | h
    · exact hd c h
    · exact hr _ c h
  · split at hc
    · simp only [List.mem_append, List.mem_singleton] at hc
      rcases hc with (h | h) | h
      · exact hd c (List.mem_of_mem_take h)
      · omega
      · exact hd c (List.mem_of_mem_drop h)
    · split at hc
      · simp only [List.mem_append, List.mem_cons, List.not_mem_nil, or_false] at hc
        rcases hc with (h | h) | h
        · omega
        · exact hr _ c h
        · exact hd c h
      · simp only [List.mem_append, List.mem_singleton] at hc
        rcases hc with ((h | h) | h) | h
        · have := sciP_mem m v c h; omega
        · omega
        · unfold exS at h; split at h <;> omega
        · exact hi _ c h
theorem txtG_len (m v : Nat) (E : Int) (hm : m ≤ 18) (h1 : -400 < E) (h2 : E < 400) : (txtG m v E).length ≤ 100 := by
  have hp : (sciP m v).length ≤ m + 1 := by
    unfold sciP
    split
    · rw [dg_len]; omega
    · simp [dg_len]; omega
  have hi := itG_len E.natAbs 2 (by omega)
  unfold txtG
  split
  · simp [dg_len]; omega
  · split
    · simp [dg_len]; omega
    · split
      · simp [dg_len]; omega
      · simp; omega
theorem ShowT.b0 {x : Nat} {L : List Nat} (h : ShowT x L) (hs : sgn x = false) : L.length ≤ 100 ∧ ∀ c ∈ L, c < 128 := by
  cases h with
  | nan h => exact ⟨by decide, by decide⟩
  | zero h => exact ⟨by decide, by decide⟩
  | inf => exact ⟨by decide, by decide⟩
  | pos hx0 hx hS hE1 hE2 hm1 hm2 => exact ⟨txtG_len _ _ _ hm2 hE1 hE2, txtG_mem _ _ _⟩
  | neg hs' h1 h2 h => rw [hs] at hs'; cases hs'
theorem ShowT.b {x : Nat} {L : List Nat} (h : ShowT x L) : L.length ≤ 101 ∧ ∀ c ∈ L, c < 128 := by
  by_cases hs : sgn x = true
  · cases h with
    | nan h => exact ⟨by decide, by decide⟩
    | zero h => exact ⟨by decide, by decide⟩
    | inf => exact ⟨by decide, by decide⟩
    | pos hx0 hx hS hE1 hE2 hm1 hm2 => rw [sgn_small (by omega)] at hs; cases hs
    | neg hs' h1 h2 h =>
      obtain ⟨b1, b2⟩ := h.b0 (sgn_small (rung_lt x))
      refine ⟨by simp; omega, fun c hc => ?_⟩
      rcases List.mem_cons.1 hc with h | h
      · omega
      · exact b2 c h
  · obtain ⟨b1, b2⟩ := h.b0 (by simpa using hs)
    exact ⟨by omega, b2⟩
theorem neg_runG (x : Nat) (w : World) : (Op.unary .neg (.float .f64 x)).run Tryz.prog w = .ok (.float .f64 (x ^^^ 9223372036854775808)) w := by kernel_rfl
theorem c_showPos {x m v : Nat} {E : Int} (hx0 : 0 < x) (hx : x < 9218868437227405312) (hS : IsSci x m v E) (hE1 : -400 < E) (hE2 : E < 400) (hm1 : 1 ≤ m) (hm2 : m ≤ 18) (w : World) (hL : LibW w) :
    Calls Tryz.prog 27 #[.float .f64 x] w fun r w' => r = .returned (.string (u8sG (txtG m v E))) ∧ Below w.heap.size w w' := by
  by_cases h1 : E + 1 ≤ 21
  · by_cases h2 : (m : Int) ≤ E + 1
    · exact c_showPA hx0 hx hS hE1 hE2 hm1 hm2 h2 h1 w hL
    · by_cases h3 : 0 < E + 1
      · exact c_showPB hx0 hx hS hE1 hE2 hm1 hm2 h2 h3 h1 w hL
      · by_cases h4 : -6 < E + 1
        · exact c_showPC hx0 hx hS hE1 hE2 hm1 hm2 h4 (by omega) w hL
        · exact c_showPDn hx0 hx hS hE1 hE2 hm1 hm2 (by omega) w hL
  · exact c_showPDp hx0 hx hS hE1 hE2 hm1 hm2 (by omega) w hL
theorem c_show0 {x : Nat} {L : List Nat} (hx : x < 18446744073709551616) (h : ShowT x L) (hs : sgn x = false ∨ F64.isNaN x = true ∨ rung x = 0) (w : World) (hL : LibW w) :
    Calls Tryz.prog 27 #[.float .f64 x] w fun r w' => r = .returned (.string (u8sG L)) ∧ Below w.heap.size w w' := by
  cases h with
  | nan h =>
    have o1 := ord_self x
    rw [h] at o1
    clear h hs
    go_enter Tryz.func27, Tryz.ntmps27
    go_wp2
    go_ret
    exact ⟨rfl, Below.refl _ _⟩
  | zero h =>
    have o1 := ord_self x
    have o1' : F64.isNaN x = false := by unfold F64.isNaN; rw [h]; decide
    rw [o1'] at o1
    have o2 : (FloatKind.f64.format.order x 0 == some Ordering.eq) = true := by
      have hp := wd_parts x hx
      rw [h] at hp
      cases hsx : sgn x
      · rw [hsx] at hp
        have : x = 0 := hp.symm
        subst this
        decide +kernel
      · rw [hsx] at hp
        have : x = 9223372036854775808 := hp.symm
        subst this
        decide +kernel
    clear h hs o1' hx
    go_enter Tryz.func27, Tryz.ntmps27
    go_wp2
    go_ret
    exact ⟨rfl, Below.refl _ _⟩
  | inf =>
    have o1 : (FloatKind.f64.format.order 9218868437227405312 9218868437227405312 != some Ordering.eq) = false := by decide +kernel
    have o2 : (FloatKind.f64.format.order 9218868437227405312 0 == some Ordering.eq) = false := by decide +kernel
    have o3 : (FloatKind.f64.format.order 9218868437227405312 0 == some Ordering.lt) = false := by decide +kernel
    have hI := Lib.hid (fun W => c_IsInfG 9218868437227405312 (by decide) W)
    have hd : decide (rung 9218868437227405312 = 9218868437227405312) = true := by decide
    rw [hd] at hI
    clear hs hx hd
    go_enter Tryz.func27, Tryz.ntmps27
    go_wp2_with (go_at_call 56; refine (hI.out _).mono ?_; rintro e w1 ⟨rfl, rfl⟩)
    go_ret
    exact ⟨rfl, Below.refl _ _⟩
  | pos hx0 hx hS hE1 hE2 hm1 hm2 => exact c_showPos hx0 hx hS hE1 hE2 hm1 hm2 w hL
  | neg hs' h1 h2 h =>
    exfalso
    rcases hs with h3 | h3 | h3
    · rw [h3] at hs'; cases hs'
    · unfold F64.isNaN at h3; simp at h3; omega
    · omega
theorem c_dshow {x : Nat} {L : List Nat} (hx : x < 18446744073709551616) (h : ShowT x L) (w : World) (hL : LibW w) :
    Calls Tryz.prog 27 #[.float .f64 x] w fun r w' => r = .returned (.string (u8sG L)) ∧ Below w.heap.size w w' := by
  by_cases hc : sgn x = false ∨ F64.isNaN x = true ∨ rung x = 0
  · exact c_show0 hx h hc w hL
  · cases h with
    | nan h => exact absurd (.inr (.inl h)) hc
    | zero h => exact absurd (.inr (.inr h)) hc
    | inf => exact absurd (.inl (by decide)) hc
    | pos hx0 hx hS hE1 hE2 hm1 hm2 => exact absurd (.inl (sgn_small (by omega))) hc
    | @neg x L hs h1 h2 h =>
      have hb := (h.b0 (sgn_small (rung_lt x))).1
      have hI := Lib.hid (fun W hW => c_show0 (by have := rung_lt x; omega) h (.inl (sgn_small (rung_lt x))) W hW)
      have o1 := ord_self x
      have o1' : F64.isNaN x = false := by unfold F64.isNaN; simp; omega
      rw [o1'] at o1
      have hord : ∀ y, FloatKind.f64.format.order x y = double.order x y := fun y => rfl
      have hnum : (FloatKind.f64.format.order x 0 == some Ordering.eq) = false ∧ (FloatKind.f64.format.order x 0 == some Ordering.lt) = true := by
        rcases Nat.lt_or_ge (rung x) 9218868437227405312 with hr | hr
        · have fx : fin x = true := by unfold fin; simp; exact hr
          have f0 : fin 0 = true := by decide
          have hc : compare (SV x) (SV 0) = .lt := by
            have s0 : SV 0 = 0 := by decide +kernel
            have sx : SV x < 0 := by
              unfold SV
              rw [hs]
              have := V_pos h1
              simp
              exact this
            rw [s0]
            simp [compare, compareOfLessAndEq, sx]
          rw [hord, order_fin fx f0, hc]
          exact ⟨rfl, rfl⟩
        · have hx3 : x = 18442240474082181120 := by
            have hp := wd_parts x hx
            rw [hs, show rung x = 9218868437227405312 by omega] at hp
            exact hp.symm
          subst hx3
          exact ⟨by decide +kernel, by decide +kernel⟩
      obtain ⟨o2, o3⟩ := hnum
      have hn := neg_runG x
      have hx2 : x ^^^ 9223372036854775808 = rung x := by rw [b_neg hx, hs]; rfl
      rw [hx2] at hn
      have hcons : (⟨#[45]⟩ : ByteArray) ++ u8sG L = u8sG (45 :: L) := by rw [show (⟨#[45]⟩ : ByteArray) = u8sG [45] from rfl, uG_app]; rfl
      have hsz : (u8sG L).size ≤ 100 := by rw [uG_size]; exact hb
      rw [← hcons]
      have hx1 : ¬ 9223372036854775807 < 1 + (u8sG L).size := by omega
      clear o1' hord hx2 hs h1 h2 hb h hc hsz
      replace hcons := Lib.hid hcons
      generalize u8sG L = T at *
      generalize rung x = y at *
      go_enter Tryz.func27, Tryz.ntmps27
      go_wp2_with fail
      refine (hI.out _ hL).mono ?_
      rintro e w1 ⟨rfl, hb1⟩
      go_wp2_with fail
      go_ret
      exact ⟨rfl, hb1⟩
theorem c_dShow {x : Nat} {L : List Nat} (hx : x < 18446744073709551616) (h : ShowT x L) (w : World) (hL : LibW w) :
    Calls Tryz.prog 10 #[.float .f64 x] w fun r w' => r = .returned (.string (textU L)) ∧ Below w.heap.size w w' := by
  have h1 := Lib.hid (c_dshow hx h w hL)
  obtain ⟨b1, b2⟩ := h.b
  have h2 := Lib.hid (fun W => c_dascii L (by omega) b2 W)
  clear h b1 b2
  go_enter Tryz.func10, Tryz.ntmps10
  go_wp2_with fail
  refine h1.out.mono ?_
  rintro e w1 ⟨rfl, hb⟩
  go_wp2_with fail
  refine (h2.out _).mono ?_
  rintro e w2 ⟨rfl, hb2⟩
  go_wp2_with fail
  go_ret
  exact ⟨rfl, hb.trans (hb2.mono hb.size)⟩
end Go.Proofs.YtbakbikilbaafaaGreatDoor
