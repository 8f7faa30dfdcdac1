/-
  Contracts: Plain: the bytes of a module, read. Plain: a module's bytes, written; what is written is read again. Plain: a whole module's bytes, written and read. A reader's state; bytes in memory. The contracts of the reader's must, take, num, flag, text. The contract of strings.Fields on bytes below 128 (turned from the guide's worked text).
-/
import Derived.WalkKit
import Derived.WalkLawsBesides
import Derived.Test.YtjjogaenejdliaaGreatDoorProg
import Derived.OwnWalk
import Derived.Lib.Hide
import Derived.Deep.Cut
import Derived.OrdersHeld
import Derived.Lib.Walk
import Derived.Lib.Strings
import Derived.Lib.LaidTab
import Derived.Laws.Strings3
import Derived.Deep.OwnRows
import Derived.Deep.LoopGhost
import Derived.Deep.CutBlock
import Derived.Lib.FieldsLaws
import Derived.Lib.SplitLaws
namespace Go.Proofs.YtjjogaenejdliaaGreatDoor
set_option linter.unusedVariables false
set_option maxHeartbeats 1000000
set_option maxRecDepth 100000

/-- a number: seven bits a byte; the i-th byte comes, v is what came -/
def rdN : Nat → Nat → List Nat → Option (Nat × List Nat)
  | _, _, [] => none
  | i, v, c :: r => if 9 ≤ i then none else if c < 128 then (if 0 < c ∨ i = 0 then some (v + c * 2 ^ (7 * i), r) else none) else rdN (i + 1) (v + (c % 128) * 2 ^ (7 * i)) r
def rdNum (b : List Nat) : Option (Nat × List Nat) := rdN 0 0 b
def bytesOk (b : List Nat) : Prop := ∀ x ∈ b, x < 256
/-- what is left is the list's end -/
theorem rdN_some {b : List Nat} {i v n : Nat} {r : List Nat} (h : rdN i v b = some (n, r)) : ∃ k, 0 < k ∧ k ≤ b.length ∧ r = b.drop k := by
  induction b generalizing i v with
  | nil => cases h
  | cons c b ih =>
    unfold rdN at h
    split at h
    · cases h
    · split at h
      · split at h
        · injection h with h
          injection h with _ h
          exact ⟨1, by decide, by simp, by simpa using h.symm⟩
        · cases h
      · obtain ⟨k, h1, h2, h3⟩ := ih h
        exact ⟨k + 1, by omega, by simp; omega, by simpa using h3⟩
theorem rdN_lt {b : List Nat} {i v n : Nat} {r : List Nat} (h : rdN i v b = some (n, r)) (hv : v < 2 ^ (7 * i)) : n < 2 ^ 63 := by
  induction b generalizing i v with
  | nil => cases h
  | cons c b ih =>
    unfold rdN at h
    have e : 2 ^ (7 * (i + 1)) = 128 * 2 ^ (7 * i) := by rw [Nat.mul_add, Nat.pow_add, Nat.mul_comm]
    split at h
    · cases h
    · rename_i h9
      have h9' : i < 9 := Nat.lt_of_not_le h9
      split at h
      · rename_i hc
        split at h
        · injection h with h
          injection h with h _
          have h2 : c * 2 ^ (7 * i) ≤ 127 * 2 ^ (7 * i) := Nat.mul_le_mul_right _ (by omega)
          have h3 : 2 ^ (7 * (i + 1)) ≤ 2 ^ 63 := Nat.pow_le_pow_right (by decide) (by omega)
          omega
        · cases h
      · refine ih h ?_
        have h2 : (c % 128) * 2 ^ (7 * i) ≤ 127 * 2 ^ (7 * i) := Nat.mul_le_mul_right _ (by omega)
        omega
theorem rdNum_some {b : List Nat} {n : Nat} {r : List Nat} (h : rdNum b = some (n, r)) : n < 2 ^ 63 ∧ ∃ k, 0 < k ∧ k ≤ b.length ∧ r = b.drop k := ⟨rdN_lt h (by decide), rdN_some h⟩
def rdFlag (b : List Nat) : Option (Bool × List Nat) := match rdNum b with
  | none => none
  | some (n, r) => if n ≤ 1 then some (n == 1, r) else none
/-- bytes as a string -/
def strOf (l : List Nat) : ByteArray := ⟨(l.map UInt8.ofNat).toArray⟩
def rdText (b : List Nat) : Option (ByteArray × List Nat) := match rdNum b with
  | none => none
  | some (n, r) => if n % 2 = 0 then (if n ≤ r.length then some (strOf (r.take n), r.drop n) else none) else none
/-- a constant: kind, number's bits, text, reference -/
structure VV where
  k : Int
  x : Nat
  s : ByteArray
  r : Int
def numC (u : Nat) : VV := ⟨3, u, ⟨#[]⟩, 0⟩
def textC (s : ByteArray) : VV := ⟨4, 0, s, 0⟩
def be8 (l : List Nat) : Nat := l.foldl (fun u c => u * 256 + c) 0
/-- the bits of a number that is itself, or of the one NaN -/
def fine64 (u : Nat) : Bool := (FloatKind.f64.format.order u u == some Ordering.eq) || u == 9221120237041090560
def rdConst (b : List Nat) : Option (VV × List Nat) := match rdFlag b with
  | none => none
  | some (true, r) => match rdText r with
    | none => none
    | some (s, r) => some (textC s, r)
  | some (false, r) => if 8 ≤ r.length then (if fine64 (be8 (r.take 8)) then some (numC (be8 (r.take 8)), r.drop 8) else none) else none
/-- how many operands an instruction has -/
def nlT : List Nat := [2, 2, 2, 1, 1, 2, 2, 2, 2, 2, 2, 2, 2, 2, 1, 2, 1, 2, 2, 3, 1, 1, 1, 2, 2, 3, 3, 3, 3, 3, 3, 2, 4, 3, 1, 1, 2, 3, 2, 3, 1, 1, 2, 1, 2, 2, 2, 2, 2, 3, 3, 3, 3, 3, 3, 3, 3, 3, 3, 3, 3, 3, 3, 3, 3, 3, 3, 3, 3, 3, 3]
def nlOf (op : Nat) : Nat := nlT.getD op 0
structure IV where
  op : Int
  a : Int
  b : Int
  c : Int
  d : Int
/-- so many times -/
def rdTimes {α : Type} (one : List Nat → Option (α × List Nat)) : Nat → List Nat → Option (List α × List Nat)
  | 0, r => some ([], r)
  | n + 1, r => match one r with
    | none => none
    | some (x, r1) => match rdTimes one n r1 with
      | none => none
      | some (l, r2) => some (x :: l, r2)
def rdMany {α : Type} (one : List Nat → Option (α × List Nat)) (b : List Nat) : Option (List α × List Nat) := match rdNum b with
  | none => none
  | some (n, r) => rdTimes one n r
def rdIns (b : List Nat) : Option (IV × List Nat) := match rdNum b with
  | none => none
  | some (op, r) => if op ≤ 70 then (match rdTimes rdNum (nlOf op) r with
    | none => none
    | some (l, r) => some (⟨(op : Int), ((l.getD 0 0 : Nat) : Int), ((l.getD 1 0 : Nat) : Int), ((l.getD 2 0 : Nat) : Int), ((l.getD 3 0 : Nat) : Int)⟩, r)) else none
structure TV4 where
  f : Int
  t : Int
  a : Int
  g : Int
def rdTry (b : List Nat) : Option (TV4 × List Nat) := match rdTimes rdNum 4 b with
  | none => none
  | some (l, r) => some (⟨((l.getD 0 0 : Nat) : Int), ((l.getD 1 0 : Nat) : Int), ((l.getD 2 0 : Nat) : Int), ((l.getD 3 0 : Nat) : Int)⟩, r)
structure PV2 where
  up : Bool
  n : Int
def rdCap (b : List Nat) : Option (PV2 × List Nat) := match rdFlag b with
  | none => none
  | some (u, r) => match rdNum r with
    | none => none
    | some (n, r) => some (⟨u, (n : Int)⟩, r)
structure FV where
  name : ByteArray
  params : Int
  rest : Bool
  arrow : Bool
  regs : Int
  consts : List VV
  code : List IV
  tries : List TV4
  caps : List PV2
def rdFn (b : List Nat) : Option (FV × List Nat) :=
  (rdText b).bind fun (s, r) => (rdNum r).bind fun (p, r) => (rdFlag r).bind fun (re, r) => (rdFlag r).bind fun (ar, r) => (rdNum r).bind fun (g, r) =>
  (rdMany rdConst r).bind fun (c, r) => (rdMany rdIns r).bind fun (i, r) => (rdMany rdTry r).bind fun (t, r) => (rdMany rdCap r).bind fun (k, r) =>
  some (⟨s, (p : Int), re, ar, (g : Int), c, i, t, k⟩, r)
/-- a module's bytes -/
def rdMod (b : List Nat) : Option (List FV) :=
  if b.take 4 = [76, 78, 84, 49] then (match rdMany rdFn (b.drop 4) with
    | none => none
    | some (l, r) => if r = [] ∧ l ≠ [] then some l else none) else none
/-- behind some rounds -/
def rdPre {α : Type} (one : List Nat → Option (α × List Nat)) (n : Nat) (b : List Nat) (k : Nat) (acc : List α) (r : List Nat) : Prop :=
  rdTimes one n b = (rdTimes one k r).map fun p => (acc ++ p.1, p.2)
theorem rdPre_start {α : Type} (one : List Nat → Option (α × List Nat)) (n : Nat) (b : List Nat) : rdPre one n b n [] b := by
  unfold rdPre
  cases h : rdTimes one n b <;> simp
theorem rdPre_none {α : Type} {one : List Nat → Option (α × List Nat)} {n : Nat} {b : List Nat} {k : Nat} {acc : List α} {r : List Nat} (h : rdPre one n b (k + 1) acc r) (ho : one r = none) : rdTimes one n b = none := by
  unfold rdPre at h
  rw [h]
  simp [rdTimes, ho]
theorem rdPre_next {α : Type} {one : List Nat → Option (α × List Nat)} {n : Nat} {b : List Nat} {k : Nat} {acc : List α} {r r1 : List Nat} {x : α} (h : rdPre one n b (k + 1) acc r) (ho : one r = some (x, r1)) : rdPre one n b k (acc ++ [x]) r1 := by
  unfold rdPre at *
  rw [h]
  simp only [rdTimes, ho]
  cases rdTimes one k r1 <;> simp
theorem rdPre_end {α : Type} {one : List Nat → Option (α × List Nat)} {n : Nat} {b : List Nat} {acc : List α} {r : List Nat} (h : rdPre one n b 0 acc r) : rdTimes one n b = some (acc, r) := by
  unfold rdPre at h
  rw [h]
  simp [rdTimes]
end Go.Proofs.YtjjogaenejdliaaGreatDoor
namespace Go.Proofs.YtjjogaenejdliaaGreatDoor
set_option linter.unusedVariables false
set_option maxHeartbeats 1000000
set_option maxRecDepth 100000

/-- seven bits a byte -/
def leb (n : Nat) : List Nat := if n < 128 then [n] else (n % 128 + 128) :: leb (n / 128)
termination_by n
decreasing_by omega
theorem leb_rd (n i v : Nat) (r : List Nat) (hn : n < 2 ^ (63 - 7 * i)) (hi : i < 9) (h0 : 0 < n ∨ i = 0) : rdN i v (leb n ++ r) = some (v + n * 2 ^ (7 * i), r) := by
  induction n using Nat.strongRecOn generalizing i v with
  | _ n ih =>
    unfold leb
    split
    · rename_i h
      simp only [List.cons_append, List.nil_append, rdN]
      rw [if_neg (by omega), if_pos h, if_pos h0]
    · rename_i h
      simp only [List.cons_append, rdN]
      rw [if_neg (by omega), if_neg (by omega)]
      have hi8 : i < 8 := by
        refine Nat.lt_of_not_le fun h8 => ?_
        have : i = 8 := by omega
        subst this
        have : n < 2 ^ 7 := hn
        omega
      have e : 2 ^ (63 - 7 * i) = 128 * 2 ^ (63 - 7 * (i + 1)) := by
        rw [show 63 - 7 * i = (63 - 7 * (i + 1)) + 7 by omega, Nat.pow_add, Nat.mul_comm]
      have e2 : 2 ^ (7 * (i + 1)) = 128 * 2 ^ (7 * i) := by rw [Nat.mul_add, Nat.pow_add, Nat.mul_comm]
      rw [ih (n / 128) (by omega) (i + 1) _ (by rw [e] at hn; exact Nat.div_lt_of_lt_mul hn) (by omega) (.inl (by omega))]
      have e3 : (n % 128 + 128) % 128 = n % 128 := by omega
      rw [e3, e2]
      have e4 : n = n % 128 + 128 * (n / 128) := (Nat.mod_add_div n 128).symm
      congr 2
      generalize 2 ^ (7 * i) = Q
      calc v + n % 128 * Q + n / 128 * (128 * Q) = v + (n % 128 + 128 * (n / 128)) * Q := by rw [Nat.add_mul, Nat.add_assoc, Nat.mul_comm 128 (n / 128), Nat.mul_assoc]
        _ = v + n * Q := by rw [← e4]
theorem num_rd {n : Nat} (r : List Nat) (hn : n < 2 ^ 63) : rdNum (leb n ++ r) = some (n, r) := by
  have := leb_rd n 0 0 r hn (by decide) (.inr rfl)
  simpa [rdNum] using this
def wrFlag (b : Bool) : List Nat := leb (if b then 1 else 0)
theorem flag_rd (b : Bool) (r : List Nat) : rdFlag (wrFlag b ++ r) = some (b, r) := by
  unfold rdFlag wrFlag
  cases b
  · rw [num_rd r (by decide)]; rfl
  · rw [num_rd r (by decide)]; rfl
def codesB (s : ByteArray) : List Nat := s.data.toList.map (·.toNat)
theorem codesB_len (s : ByteArray) : (codesB s).length = s.size := by
  unfold codesB
  rw [List.length_map, Array.length_toList]
  rfl
theorem strOf_codes (s : ByteArray) : strOf (codesB s) = s := by
  unfold strOf codesB
  rw [List.map_map]
  have : (UInt8.ofNat ∘ fun x : UInt8 => x.toNat) = id := by funext x; exact UInt8.ofNat_toNat
  rw [this]
  simp
def wrText (s : ByteArray) : List Nat := leb s.size ++ codesB s
theorem text_rd (s : ByteArray) (r : List Nat) (h2 : s.size % 2 = 0) (h : s.size < 2 ^ 63) : rdText (wrText s ++ r) = some (s, r) := by
  unfold rdText wrText
  rw [List.append_assoc, num_rd _ h]
  have hl := codesB_len s
  simp only [h2, if_true]
  rw [if_pos (by rw [List.length_append]; omega)]
  rw [List.take_append_of_le_length (by omega), List.drop_append_of_le_length (by omega), List.take_of_length_le (by omega), List.drop_of_length_le (by omega)]
  simp [strOf_codes]
/-- a number's 64 bits, the highest byte first -/
def wr8 (u : Nat) : List Nat := [u / 72057594037927936 % 256, u / 281474976710656 % 256, u / 1099511627776 % 256, u / 4294967296 % 256, u / 16777216 % 256, u / 65536 % 256, u / 256 % 256, u % 256]
theorem be8_wr (u : Nat) (h : u < 2 ^ 64) : be8 (wr8 u) = u := by
  simp only [be8, wr8, List.foldl_cons, List.foldl_nil]
  omega
/-- the bits that are written of a number -/
def nanB (x : Nat) : Nat := if (FloatKind.f64.format.order x x == some Ordering.eq) then x else 9221120237041090560
theorem nanB_fine (x : Nat) : fine64 (nanB x) = true := by
  unfold nanB fine64
  split
  · rename_i h; simp [h]
  · simp
def wrConst (v : VV) : List Nat := if v.k = 4 then wrFlag true ++ wrText v.s else wrFlag false ++ wr8 (nanB v.x)
/-- what is read of a constant that was written -/
def normC (v : VV) : VV := if v.k = 4 then textC v.s else numC (nanB v.x)
def goodC (v : VV) : Prop := v.k = 3 ∨ (v.k = 4 ∧ v.s.size % 2 = 0)
theorem const_rd (v : VV) (r : List Nat) (hg : goodC v) (hs : v.s.size < 2 ^ 63) (hx : v.x < 2 ^ 64) : rdConst (wrConst v ++ r) = some (normC v, r) := by
  unfold rdConst wrConst normC
  have hb : nanB v.x < 2 ^ 64 := by unfold nanB; split <;> omega
  rcases hg with h | ⟨h, h2⟩
  · rw [if_neg (by omega), if_neg (by omega), List.append_assoc, flag_rd]
    have hl : (wr8 (nanB v.x)).length = 8 := rfl
    dsimp only
    rw [if_pos (by rw [List.length_append]; omega), List.take_append_of_le_length (by omega), List.drop_append_of_le_length (by omega), List.take_of_length_le (by omega), List.drop_of_length_le (by omega), be8_wr _ hb, nanB_fine]
    simp
  · rw [if_pos h, if_pos h, List.append_assoc, flag_rd]
    dsimp only
    rw [text_rd v.s r h2 hs]
end Go.Proofs.YtjjogaenejdliaaGreatDoor
namespace Go.Proofs.YtjjogaenejdliaaGreatDoor
set_option linter.unusedVariables false
set_option maxHeartbeats 1000000
set_option maxRecDepth 100000

theorem times_rd {α : Type} {one : List Nat → Option (α × List Nat)} {wr : α → List Nat} {nm : α → α} (l : List α) (r : List Nat) (h : ∀ x ∈ l, ∀ r, one (wr x ++ r) = some (nm x, r)) : rdTimes one l.length (l.flatMap wr ++ r) = some (l.map nm, r) := by
  induction l with
  | nil => rfl
  | cons x l ih =>
    simp only [List.length_cons, List.flatMap_cons, List.append_assoc, rdTimes]
    rw [h x (by simp)]
    dsimp only
    rw [ih (fun y hy => h y (by simp [hy]))]
    rfl
def wrMany {α : Type} (wr : α → List Nat) (l : List α) : List Nat := leb l.length ++ l.flatMap wr
theorem many_rd {α : Type} {one : List Nat → Option (α × List Nat)} {wr : α → List Nat} {nm : α → α} (l : List α) (r : List Nat) (hl : l.length < 2 ^ 63) (h : ∀ x ∈ l, ∀ r, one (wr x ++ r) = some (nm x, r)) : rdMany one (wrMany wr l ++ r) = some (l.map nm, r) := by
  unfold rdMany wrMany
  rw [List.append_assoc, num_rd _ hl]
  exact times_rd l r h
theorem nums_rd (l : List Nat) (r : List Nat) (h : ∀ x ∈ l, x < 2 ^ 63) : rdTimes rdNum l.length (l.flatMap leb ++ r) = some (l, r) := by
  have := times_rd (one := rdNum) (wr := leb) (nm := id) l r (fun x hx r => num_rd r (h x hx))
  simpa using this
/-- a number that may be written -/
def ok63 (z : Int) : Prop := 0 ≤ z ∧ z < 9223372036854775808
theorem ok63_nat {z : Int} (h : ok63 z) : z.toNat < 2 ^ 63 := by
  obtain ⟨h1, h2⟩ := h
  have e : (2 : Nat) ^ 63 = 9223372036854775808 := by decide
  omega
theorem ok63_cast {z : Int} (h : ok63 z) : ((z.toNat : Nat) : Int) = z := Int.toNat_of_nonneg h.1
def argsI (i : IV) : List Int := [i.a, i.b, i.c, i.d]
def goodI (i : IV) : Prop := (0 ≤ i.op ∧ i.op ≤ 70) ∧ (∀ k z, (argsI i)[k]? = some z → ok63 z ∧ (nlOf i.op.toNat ≤ k → z = 0))
def wrIns (i : IV) : List Nat := leb i.op.toNat ++ (((argsI i).take (nlOf i.op.toNat)).map Int.toNat).flatMap leb
theorem nlOf_le (n : Nat) (h : n ≤ 70) : nlOf n ≤ 4 := by
  have h0 : ∀ m : Fin 71, nlOf m.val ≤ 4 := by decide
  exact h0 ⟨n, by omega⟩
theorem ins_rd (i : IV) (r : List Nat) (h : goodI i) : rdIns (wrIns i ++ r) = some (i, r) := by
  obtain ⟨⟨h1, h2⟩, h3⟩ := h
  unfold rdIns wrIns
  have e0 : (2 : Nat) ^ 63 = 9223372036854775808 := by decide
  rw [List.append_assoc, num_rd _ (by omega)]
  dsimp only
  rw [if_pos (by omega)]
  have h4 := nlOf_le i.op.toNat (by omega)
  generalize hn : nlOf i.op.toNat = n at *
  have hlen : (((argsI i).take n).map Int.toNat).length = n := by simp [argsI]; omega
  have hall : ∀ x ∈ ((argsI i).take n).map Int.toNat, x < 2 ^ 63 := fun x hx => by
    obtain ⟨z, hz, rfl⟩ := List.mem_map.1 hx
    obtain ⟨k, hk⟩ := List.getElem?_of_mem (List.mem_of_mem_take hz)
    exact ok63_nat (h3 k z hk).1
  have hr := nums_rd _ r hall
  rw [hlen] at hr
  rw [hr]
  dsimp only
  have hg : ∀ k, k < 4 → ((((((argsI i).take n).map Int.toNat).getD k 0 : Nat)) : Int) = (argsI i).getD k 0 := fun k hk => by
    rw [List.getD_eq_getElem?_getD, List.getD_eq_getElem?_getD, List.getElem?_map, List.getElem?_take]
    have hl4 : (argsI i).length = 4 := rfl
    obtain ⟨z, hz⟩ : ∃ z, (argsI i)[k]? = some z := ⟨_, List.getElem?_eq_getElem (by omega)⟩
    obtain ⟨g1, g2⟩ := h3 k z hz
    rw [hz]
    by_cases hkn : k < n
    · rw [if_pos hkn]
      exact ok63_cast g1
    · rw [if_neg hkn]
      have := g2 (by omega)
      simp [this]
  rw [hg 0 (by decide), hg 1 (by decide), hg 2 (by decide), hg 3 (by decide)]
  have ho : ((i.op.toNat : Nat) : Int) = i.op := Int.toNat_of_nonneg h1
  rw [ho]
  rfl
def goodT (t : TV4) : Prop := (ok63 t.f ∧ ok63 t.t) ∧ ok63 t.a ∧ ok63 t.g
def wrTry (t : TV4) : List Nat := leb t.f.toNat ++ (leb t.t.toNat ++ (leb t.a.toNat ++ leb t.g.toNat))
theorem try_rd (t : TV4) (r : List Nat) (h : goodT t) : rdTry (wrTry t ++ r) = some (t, r) := by
  obtain ⟨⟨h1, h2⟩, h3, h4⟩ := h
  have e := nums_rd [t.f.toNat, t.t.toNat, t.a.toNat, t.g.toNat] r (fun x hx => by
    simp at hx
    rcases hx with rfl | rfl | rfl | rfl
    · exact ok63_nat h1
    · exact ok63_nat h2
    · exact ok63_nat h3
    · exact ok63_nat h4)
  simp only [List.length_cons, List.length_nil, List.flatMap_cons, List.flatMap_nil, List.append_nil, Nat.zero_add, Nat.reduceAdd] at e
  unfold rdTry wrTry
  rw [e]
  simp [ok63_cast h1, ok63_cast h2, ok63_cast h3, ok63_cast h4]
def goodK (c : PV2) : Prop := ok63 c.n
def wrCap (c : PV2) : List Nat := wrFlag c.up ++ leb c.n.toNat
theorem cap_rd (c : PV2) (r : List Nat) (h : goodK c) : rdCap (wrCap c ++ r) = some (c, r) := by
  unfold rdCap wrCap
  rw [List.append_assoc, flag_rd]
  dsimp only
  rw [num_rd _ (ok63_nat h)]
  dsimp only
  rw [ok63_cast h]
def wrFn (f : FV) : List Nat :=
  wrText f.name ++ (leb f.params.toNat ++ (wrFlag f.rest ++ (wrFlag f.arrow ++ (leb f.regs.toNat ++ (wrMany wrConst f.consts ++ (wrMany wrIns f.code ++ (wrMany wrTry f.tries ++ wrMany wrCap f.caps)))))))
def normF (f : FV) : FV := { f with consts := f.consts.map normC }
structure GoodF (f : FV) : Prop where
  name : f.name.size % 2 = 0
  params : ok63 f.params
  regs : ok63 f.regs
  consts : ∀ v ∈ f.consts, goodC v
  code : ∀ i ∈ f.code, goodI i
  tries : ∀ t ∈ f.tries, goodT t
  caps : ∀ c ∈ f.caps, goodK c
/-- what no memory passes -/
structure SizedF (f : FV) : Prop where
  name : f.name.size < 2 ^ 63
  consts : f.consts.length < 2 ^ 63
  code : f.code.length < 2 ^ 63
  tries : f.tries.length < 2 ^ 63
  caps : f.caps.length < 2 ^ 63
  each : ∀ v ∈ f.consts, v.s.size < 2 ^ 63 ∧ v.x < 2 ^ 64
theorem map_same {α : Type} {f : α → α} (l : List α) (h : ∀ x ∈ l, f x = x) : l.map f = l := by
  induction l with
  | nil => rfl
  | cons a l ih => simp only [List.map_cons]; rw [h a (by simp), ih (fun x hx => h x (by simp [hx]))]
theorem fn_rd (f : FV) (r : List Nat) (h : GoodF f) (hz : SizedF f) : rdFn (wrFn f ++ r) = some (normF f, r) := by
  have e1 := fun r => many_rd (one := rdConst) (wr := wrConst) (nm := normC) f.consts r hz.consts (fun x hx r => const_rd x r (h.consts x hx) (hz.each x hx).1 (hz.each x hx).2)
  have e2 := fun r => many_rd (one := rdIns) (wr := wrIns) (nm := id) f.code r hz.code (fun x hx r => ins_rd x r (h.code x hx))
  have e3 := fun r => many_rd (one := rdTry) (wr := wrTry) (nm := id) f.tries r hz.tries (fun x hx r => try_rd x r (h.tries x hx))
  have e4 := fun r => many_rd (one := rdCap) (wr := wrCap) (nm := id) f.caps r hz.caps (fun x hx r => cap_rd x r (h.caps x hx))
  unfold rdFn wrFn
  simp only [List.append_assoc]
  rw [text_rd _ _ h.name hz.name]
  simp only [Option.bind_some]
  rw [num_rd _ (ok63_nat h.params)]
  simp only [Option.bind_some]
  rw [flag_rd]
  simp only [Option.bind_some]
  rw [flag_rd]
  simp only [Option.bind_some]
  rw [num_rd _ (ok63_nat h.regs)]
  simp only [Option.bind_some]
  rw [e1]
  simp only [Option.bind_some]
  rw [e2]
  simp only [Option.bind_some]
  rw [e3]
  simp only [Option.bind_some]
  rw [e4]
  simp only [Option.bind_some, List.map_id, ok63_cast h.params, ok63_cast h.regs]
  rfl
def magic : List Nat := [76, 78, 84, 49]
def wrMod (m : List FV) : List Nat := magic ++ wrMany wrFn m
theorem mod_rd (m : List FV) (h0 : m ≠ []) (hl : m.length < 2 ^ 63) (h : ∀ f ∈ m, GoodF f ∧ SizedF f) : rdMod (wrMod m) = some (m.map normF) := by
  have e := many_rd (one := rdFn) (wr := wrFn) (nm := normF) m [] hl (fun f hf r => fn_rd f r (h f hf).1 (h f hf).2)
  rw [List.append_nil] at e
  unfold rdMod wrMod
  have h4 : (magic ++ wrMany wrFn m).take 4 = [76, 78, 84, 49] := rfl
  have h5 : (magic ++ wrMany wrFn m).drop 4 = wrMany wrFn m := rfl
  rw [if_pos h4, h5, e]
  dsimp only
  rw [if_pos ⟨rfl, by cases m with | nil => exact absurd rfl h0 | cons a l => simp⟩]
theorem nanB_twice (x : Nat) : nanB (nanB x) = nanB x := by
  by_cases h : (FloatKind.f64.format.order x x == some Ordering.eq) = true
  · have : nanB x = x := by unfold nanB; rw [if_pos h]
    rw [this, this]
  · have : nanB x = 9221120237041090560 := by unfold nanB; rw [if_neg h]
    rw [this]
    decide +kernel
theorem const_norm (v : VV) : wrConst (normC v) = wrConst v := by
  unfold normC
  split
  · rename_i h
    unfold wrConst textC
    simp [h]
  · rename_i h
    unfold wrConst numC
    simp [h, nanB_twice]
theorem flat_norm {α : Type} {wr : α → List Nat} {nm : α → α} (l : List α) (h : ∀ x, wr (nm x) = wr x) : (l.map nm).flatMap wr = l.flatMap wr := by
  induction l with
  | nil => rfl
  | cons a l ih => simp [h, ih]
theorem fn_norm (f : FV) : wrFn (normF f) = wrFn f := by
  unfold wrFn normF
  dsimp only
  have : wrMany wrConst (f.consts.map normC) = wrMany wrConst f.consts := by
    unfold wrMany
    rw [flat_norm _ const_norm, List.length_map]
  rw [this]
theorem mod_norm (m : List FV) : wrMod (m.map normF) = wrMod m := by
  unfold wrMod wrMany
  rw [flat_norm _ fn_norm, List.length_map]
theorem good_norm (f : FV) (h : GoodF f) : GoodF (normF f) := ⟨h.name, h.params, h.regs, fun v hv => by
  obtain ⟨u, hu, rfl⟩ := List.mem_map.1 hv
  unfold normC
  split
  · rename_i h4
    exact .inr ⟨rfl, by rcases h.consts u hu with g | ⟨_, g⟩; omega; exact g⟩
  · exact .inl rfl, h.code, h.tries, h.caps⟩
end Go.Proofs.YtjjogaenejdliaaGreatDoor
namespace Go.Proofs.YtjjogaenejdliaaGreatDoor
open Go.RowKit
set_option linter.unusedVariables false
set_option maxHeartbeats 1000000
set_option maxRecDepth 100000

theorem row_lt {w : World} {b : Nat} {o : Obj} (h : w.heap[b]? = some o) : b < w.heap.size := by
  obtain ⟨h1, _⟩ := Array.getElem?_eq_some_iff.1 h
  exact h1
theorem cell_lt {w : World} {a : Addr} {v : Value} (h : w.cell? a = some v) : a.block < w.heap.size := by
  refine Nat.lt_of_not_le fun hle => ?_
  unfold World.cell? at h
  rw [Array.getElem?_eq_none hle] at h
  cases a with
  | mk b o s => cases s <;> simp at h
/-- only blocks of ex turn, of those that are there -/
structure KB (ex : Nat → Prop) (w w' : World) : Prop where
  os : w'.os = w.os
  tape : w'.tape = w.tape
  output : w'.output = w.output
  size : w.heap.size ≤ w'.heap.size
  block : ∀ r, r < w.heap.size → ¬ ex r → w'.heap[r]? = w.heap[r]?
section
variable {ex : Nat → Prop} {w w' w'' : World}
theorem KB.refl (ex : Nat → Prop) (w : World) : KB ex w w := ⟨rfl, rfl, rfl, Nat.le_refl _, fun _ _ _ => rfl⟩
theorem KB.trans (h : KB ex w w') (h' : KB ex w' w'') : KB ex w w'' := ⟨h'.os.trans h.os, h'.tape.trans h.tape, h'.output.trans h.output, Nat.le_trans h.size h'.size, fun r hr hn => (h'.block r (Nat.lt_of_lt_of_le hr h.size) hn).trans (h.block r hr hn)⟩
theorem KB.of_below (h : Below w.heap.size w w') : KB ex w w' := ⟨h.os, h.tape, h.output, h.size, fun r hr _ => h.block r hr⟩
theorem KB.below {B : Nat} (h : KB ex w w') (hB : B ≤ w.heap.size) (hx : ∀ r, ex r → B ≤ r) : Below B w w' := ⟨h.os, h.tape, h.output, h.size, fun r hr => h.block r (Nat.lt_of_lt_of_le hr hB) (fun e => by have := hx r e; omega)⟩
theorem KB.wide {ex' : Nat → Prop} (h : KB ex w w') (hx : ∀ r, ex r → r < w.heap.size → ex' r) : KB ex' w w' := ⟨h.os, h.tape, h.output, h.size, fun r hr hn => h.block r hr (fun e => hn (hx r e hr))⟩
theorem KB.cell (h : KB ex w w') {p : Addr} (hp : ¬ ex p.block) {v : Value} (hc : w.cell? p = some v) : w'.cell? p = some v := by
  rw [World.cell?_of_block (h.block p.block (cell_lt hc) hp)]; exact hc
theorem KB.setCell {b i : Nat} {v : Value} (hb : ex b) : KB ex w (w.setCell ⟨b, i, none⟩ v) := ⟨rfl, rfl, rfl, by simp [World.setCell], fun r _ hn => Below.heap_setCell _ _ _ _ (fun e => hn (by rw [e]; exact hb))⟩
theorem KB.alloc (o : Obj) : KB ex w (w.alloc o) := ⟨rfl, rfl, rfl, by simp, fun r hr _ => Below.heap_alloc _ _ _ hr⟩
end
/-- a slice reads as bytes -/
def RdB (w : World) (v : Value) (bs : List Nat) : Prop := ∃ p c, v = .slice p bs.length c ∧ bs.length ≤ c ∧ c ≤ 9223372036854775807 ∧ ∀ (k : Nat) x, bs[k]? = some x → x < 256 ∧ ∃ b o, p = some ⟨b, o, none⟩ ∧ w.cell? ⟨b, o + k, none⟩ = some (.int .u8 (x : Int))
theorem RdB.keep {w w' : World} {v : Value} {bs : List Nat} (h : RdB w v bs) (hk : ∀ (b o : Nat) (x : Int), w.cell? ⟨b, o, none⟩ = some (.int .u8 x) → w'.cell? ⟨b, o, none⟩ = some (.int .u8 x)) : RdB w' v bs := by
  obtain ⟨p, c, h1, h2, h3, h4⟩ := h
  refine ⟨p, c, h1, h2, h3, fun k x hx => ?_⟩
  obtain ⟨g1, b, o, g2, g3⟩ := h4 k x hx
  exact ⟨g1, b, o, g2, hk b _ _ g3⟩
theorem RdB.below {w w' : World} {v : Value} {bs : List Nat} (h : RdB w v bs) (hb : Below w.heap.size w w') : RdB w' v bs := h.keep fun b o x hc => (hb.cell (p := ⟨b, o, none⟩) (cell_lt hc)).trans hc
/-- a slice's block -/
def Blk (bb : Nat) (v : Value) : Prop := ∀ p n c, v = .slice (some p) n c → p.block = bb
def RS (rb bb : Nat) (w : World) (bs : List Nat) : Prop := ∃ v, Blk bb v ∧ w.heap[rb]? = some (.cells #[v] 62 (0, 0)) ∧ RdB w v bs
theorem RS.lt {rb bb : Nat} {w : World} {bs : List Nat} (h : RS rb bb w bs) : rb < w.heap.size := by
  obtain ⟨v, _, h1, _⟩ := h
  exact row_lt h1
theorem RS.below {rb bb : Nat} {w w' : World} {bs : List Nat} (h : RS rb bb w bs) (hb : Below w.heap.size w w') : RS rb bb w' bs := by
  have hl := h.lt
  obtain ⟨v, h0, h1, h2⟩ := h
  exact ⟨v, h0, (hb.block _ hl).trans h1, h2.below hb⟩
/-- bytes lie in no reader's block -/
theorem RdB.set {rb : Nat} {w : World} {u v v' : Value} {bs : List Nat} (h : RdB w v bs) (hr : w.heap[rb]? = some (.cells #[u] 62 (0, 0))) (hu : ∀ x, u ≠ .int .u8 x) : RdB (w.setCell ⟨rb, 0, none⟩ v') v bs := by
  refine h.keep fun b o x hc => ?_
  have hne : b ≠ rb := fun e => by
    subst e
    rw [cell_of_row _ _ o _ _ _ hr] at hc
    cases o with
    | zero => simp at hc; exact hu x hc
    | succ o => simp at hc
  rw [World.cell?_of_block (w := w) (a := ⟨b, o, none⟩) (Below.heap_setCell _ _ _ _ hne)]
  exact hc
/-- the thrown value -/
def wrongV : List PanicEntry := [{ v := .iface 89 (.agg #[]), recovered := false }]
end Go.Proofs.YtjjogaenejdliaaGreatDoor
namespace Go.Proofs.YtjjogaenejdliaaGreatDoor
open Go.RowKit Go.Lib
set_option linter.unusedVariables false
set_option linter.unusedSimpArgs false
set_option maxHeartbeats 1000000
set_option maxRecDepth 100000

theorem c_mustT (w : World) : Calls Tryz.prog 15 #[.bool true] w fun e w' => e = .returned (.tuple #[]) ∧ w' = w := by
  go_enter Tryz.func15, Tryz.ntmps15
  go_wp2
  go_end0
  exact ⟨rfl, rfl⟩
theorem c_mustF (w : World) : Calls Tryz.prog 15 #[.bool false] w fun e w' => e = .panicked wrongV ∧ w' = w := by
  unfold wrongV
  go_enter Tryz.func15, Tryz.ntmps15
  go_wp2
  exact ⟨rfl, rfl, rfl⟩
section
variable {rb bb : Nat} {w w' : World} {bs : List Nat}
theorem rs_take {p p' : Option Addr} {c c' n : Nat} (hblk : Blk bb (.slice p bs.length c)) (hr : w.heap[rb]? = some (.cells #[.slice p bs.length c] 62 (0, 0))) (hlc : bs.length ≤ c) (hcm : c ≤ 9223372036854775807) (hn : n ≤ bs.length)
    (hcell : ∀ (k : Nat) x, bs[k]? = some x → x < 256 ∧ ∃ b o, p = some ⟨b, o, none⟩ ∧ w.cell? ⟨b, o + k, none⟩ = some (.int .u8 (x : Int)))
    (hp : (p' = p.map (fun x => x.add n) ∧ c' = c - n) ∨ (p' = p ∧ c = n ∧ c' = 0)) :
    RdB (w.setCell ⟨rb, 0, none⟩ (.slice p' (bs.length - n) c')) (.slice p n c) (bs.take n) ∧ RS rb bb (w.setCell ⟨rb, 0, none⟩ (.slice p' (bs.length - n) c')) (bs.drop n) ∧ KB (fun r => r = rb) w (w.setCell ⟨rb, 0, none⟩ (.slice p' (bs.length - n) c')) := by
  have h0 : RdB w (.slice p bs.length c) bs := ⟨p, c, rfl, hlc, hcm, hcell⟩
  obtain ⟨q, d, e1, e2, e3, e4⟩ := h0.set (v' := .slice p' (bs.length - n) c') hr (fun x h => by cases h)
  injection e1 with e1 _ e5
  subst e1 e5
  have hl : (bs.take n).length = n := by simp; omega
  have hblk' : Blk bb (.slice p' (bs.length - n) c') := fun q n' c'' h => by
    injection h with h _ _
    rcases hp with ⟨h2, _⟩ | ⟨h2, _⟩
    · rw [h2] at h
      cases p with
      | none => cases h
      | some a =>
        have := hblk a _ _ rfl
        injection h with h
        rw [← h]
        unfold Addr.add
        split <;> exact this
    · rw [h2] at h
      exact hblk q _ _ (by rw [h])
  refine ⟨⟨p, c, by rw [hl], by omega, hcm, fun k x hx => ?_⟩, ⟨_, hblk', heap_setCell_same w rb 0 _ _ _ hr, ⟨p', c', by rw [List.length_drop], ?_, ?_, fun k x hx => ?_⟩⟩, KB.setCell rfl⟩
  · have hk : k < n := by have := (List.getElem?_eq_some_iff.1 hx).1; omega
    rw [List.getElem?_take, if_pos hk] at hx
    exact e4 k x hx
  · rw [List.length_drop]; rcases hp with ⟨_, h⟩ | ⟨_, h1, h2⟩ <;> omega
  · rcases hp with ⟨_, h⟩ | ⟨_, h1, h2⟩ <;> omega
  · rw [List.getElem?_drop] at hx
    have hk := (List.getElem?_eq_some_iff.1 hx).1
    obtain ⟨g1, b, o, rfl, g2⟩ := e4 (n + k) x hx
    refine ⟨g1, b, o + n, ?_, by rw [show o + n + k = o + (n + k) by omega]; exact g2⟩
    rcases hp with ⟨h, _⟩ | ⟨_, h1, h2⟩
    · rw [h]
      simp only [Option.map_some, Addr.add]
      split
      · rename_i hz; subst hz; rfl
      · rfl
    · omega
theorem c_take (h : RS rb bb w bs) (n : Nat) (hn : n ≤ bs.length) : Calls Tryz.prog 22 #[.pointer (some ⟨rb, 0, none⟩), .int .i64 (n : Int)] w fun e w' => ∃ v, e = .returned v ∧ RdB w' v (bs.take n) ∧ RS rb bb w' (bs.drop n) ∧ KB (fun r => r = rb) w w' := by
  obtain ⟨v, hblk, hr, p, c, rfl, hlc, hcm, hcell⟩ := h
  have hc : w.cell? ⟨rb, 0, none⟩ = some (.slice p bs.length c) := by rw [cell_of_row _ _ 0 _ _ _ hr]; rfl
  have hf : w.frozen? ⟨rb, 0, none⟩ = false := by simp [World.frozen?, hr]
  have p0 : (0 : Int) ≤ (n : Int) := by omega
  have p1 : (n : Int) ≤ (bs.length : Int) := by omega
  have p2 : (n : Int) ≤ (c : Int) := by omega
  have p3 : (bs.length : Int) ≤ (c : Int) := by omega
  have hT := fun (w : World) => c_mustT w
  replace hT := Lib.hid hT
  replace hcell := Lib.hid hcell
  replace hblk := Lib.hid hblk
  go_enter Tryz.func22, Tryz.ntmps22
  go_wp2_with (first | (go_at_call 15; refine (hT.out _).mono ?_; rintro e y ⟨rfl, rfl⟩))
  · go_ret
    subst h
    obtain ⟨g1, g2, g3⟩ := rs_take (p' := p) (c' := 0) hblk.out hr hlc hcm hn hcell.out (.inr ⟨rfl, rfl, rfl⟩)
    exact ⟨_, rfl, g1, g2, g3⟩
  · go_ret
    obtain ⟨g1, g2, g3⟩ := rs_take (n := n) hblk.out hr hlc hcm hn hcell.out (.inl ⟨rfl, rfl⟩)
    exact ⟨_, rfl, g1, g2, g3⟩
theorem c_takeN (h : RS rb bb w bs) (n : Nat) (hn : bs.length < n) : Calls Tryz.prog 22 #[.pointer (some ⟨rb, 0, none⟩), .int .i64 (n : Int)] w fun e w' => e = .panicked wrongV ∧ w' = w := by
  obtain ⟨v, hblk, hr, p, c, rfl, hlc, hcm, hcell⟩ := h
  have hc : w.cell? ⟨rb, 0, none⟩ = some (.slice p bs.length c) := by rw [cell_of_row _ _ 0 _ _ _ hr]; rfl
  have p1 : decide (n ≤ bs.length) = false := by simp; omega
  have hT := fun (w : World) => c_mustF w
  replace hT := Lib.hid hT
  clear hcell hr hn
  go_enter Tryz.func22, Tryz.ntmps22
  go_wp2_with (first | (go_at_call 15; refine (hT.out _).mono ?_; rintro e y ⟨rfl, rfl⟩))
  exact ⟨rfl, rfl, rfl⟩
theorem rdB_one {v : Value} {c : Nat} (h : RdB w v [c]) : ∃ b o d, v = .slice (some ⟨b, o, none⟩) 1 d ∧ c < 256 ∧ w.cell? ⟨b, o, none⟩ = some (.int .u8 (c : Int)) := by
  obtain ⟨p, d, rfl, h1, h2, h3⟩ := h
  obtain ⟨g1, b, o, rfl, g2⟩ := h3 0 c rfl
  exact ⟨b, o, d, rfl, g1, g2⟩
theorem and127 : ∀ c : Fin 256, bits BinOp.and IntKind.u8 ((c.val : Nat) : Int) 127 = ((c.val % 128 : Nat) : Int) := by decide +kernel
theorem or_join (u m i : Nat) (hu : u < 2 ^ (7 * i)) (hi : i < 9) (hm : m < 128) : bits BinOp.or IntKind.u64 (u : Int) (IntKind.u64.wrap ((m : Int) * 2 ^ (7 * i))) = ((u + m * 2 ^ (7 * i) : Nat) : Int) := by
  have h3 : 2 ^ (7 * (i + 1)) ≤ 2 ^ 63 := Nat.pow_le_pow_right (by decide) (by omega)
  have e63 : (2 : Nat) ^ 63 = 9223372036854775808 := by decide
  have e : 2 ^ (7 * (i + 1)) = 128 * 2 ^ (7 * i) := by rw [Nat.mul_add, Nat.pow_add, Nat.mul_comm]
  have h2 : m * 2 ^ (7 * i) ≤ 127 * 2 ^ (7 * i) := Nat.mul_le_mul_right _ (by omega)
  have hc : ((m : Int) * 2 ^ (7 * i)) = ((m * 2 ^ (7 * i) : Nat) : Int) := by push_cast; rfl
  rw [hc]
  have hor : u ||| m * 2 ^ (7 * i) = u + m * 2 ^ (7 * i) := by
    rw [Nat.or_comm, Nat.mul_comm, ← Nat.two_pow_add_eq_or_of_lt hu, Nat.add_comm]
  generalize m * 2 ^ (7 * i) = Q at *
  have hw : IntKind.u64.wrap (Q : Int) = (Q : Int) := by rw [IntKind.wrap_u64]; omega
  rw [hw, u64_or_nat u Q (by omega) (by omega), hor]
theorem c_rnum (h : RS rb bb w bs) : Calls Tryz.prog 45 #[.pointer (some ⟨rb, 0, none⟩)] w fun e w' => KB (fun r => r = rb) w w' ∧ ((∃ n r, rdNum bs = some (n, r) ∧ e = .returned (.int .i64 (n : Int)) ∧ RS rb bb w' r) ∨ (rdNum bs = none ∧ e = .panicked wrongV)) := by
  have hT := fun (w : World) => c_mustT w
  have hF := fun (w : World) => c_mustF w
  have hk0 := KB.refl (fun r => r = rb) w
  replace hT := Lib.hid hT
  replace hF := Lib.hid hF
  replace h := Lib.hid h
  go_enter Tryz.func45, Tryz.ntmps45
  go_wp2_with fail
  go_loopw [3, 4] (fun vv vs wr => ∃ (i u : Nat) (r : List Nat), i ≤ 9 ∧ vv = .int .u64 (u : Int) ∧ vs = .int .i64 (7 * (i : Int)) ∧ rdNum bs = rdN i u r ∧ u < 2 ^ (7 * i) ∧ RS rb bb wr r ∧ KB (fun r => r = rb) w wr) (fun _ vs _ => 70 - (RowKit.intOf vs).toNat)
  case atStart => exact ⟨0, 0, bs, by decide, rfl, rfl, rfl, by decide, h.out, hk0⟩
  case round =>
    obtain ⟨i, u, r, hi, rfl, rfl, he, hu, hR, hK⟩ := hrel
    cases r with
    | nil =>
      have hN := c_takeN hR 1 (by decide)
      replace hN := Lib.hid hN
      replace hK := Lib.hid hK
      replace he := Lib.hid he
      replace hu := Lib.hid hu
      clear hR hk0
      go_wp2_with (go_at_call 22; refine hN.out.mono ?_; rintro e y ⟨rfl, rfl⟩)
      exact ⟨rfl, hK.out, .inr ⟨by rw [he.out]; rfl, rfl⟩⟩
    | cons c r =>
      have hN := c_take hR 1 (by simp)
      simp only [List.take_succ_cons, List.take_zero, List.drop_succ_cons, List.drop_zero] at hN
      replace hK := Lib.hid hK
      replace he := Lib.hid he
      replace hu := Lib.hid hu
      replace hN := Lib.hid hN
      have hrb : RS rb bb wr (c :: r) := hR
      clear hR hk0
      go_wp2_with fail
      refine hN.out.mono ?_
      rintro e y ⟨v, rfl, hv, hR2, hK2⟩
      obtain ⟨b, o, d, rfl, hc, hcell⟩ := rdB_one hv
      have hK3 := hK.out.trans hK2
      clear hv hN
      by_cases h9 : i = 9
      · subst h9
        have hnone : rdNum bs = none := by rw [he.out]; simp [rdN]
        replace hnone := Lib.hid hnone
        replace hK3 := Lib.hid hK3
        clear hK2 he hu hrb
        go_wp2_with (go_at_call 15; refine (hF.out _).mono ?_; rintro e y ⟨rfl, rfl⟩)
        exact ⟨rfl, hK3.out, .inr ⟨hnone.out, rfl⟩⟩
      · have hi9 : i < 9 := by omega
        have p1 : 7 * (i : Int) < 63 := by omega
        have a127 := and127 ⟨c, hc⟩
        simp only at a127
        replace hK3 := Lib.hid hK3
        clear hK2 hrb
        have q0 : (0 : Int) ≤ 7 * (i : Int) := by omega
        have hor := or_join u (c % 128) i hu.out hi9 (by omega)
        have hm : ((c % 128 : Nat) : Int) = (c : Int) % 128 := by omega
        rw [hm] at hor
        have hu2 : u + c % 128 * 2 ^ (7 * i) < 2 ^ (7 * (i + 1)) := by
          have e : 2 ^ (7 * (i + 1)) = 128 * 2 ^ (7 * i) := by rw [Nat.mul_add, Nat.pow_add, Nat.mul_comm]
          have h2 : (c % 128) * 2 ^ (7 * i) ≤ 127 * 2 ^ (7 * i) := Nat.mul_le_mul_right _ (by omega)
          have := hu.out
          omega
        have h63 : u + c % 128 * 2 ^ (7 * i) < 9223372036854775808 := by
          have h3 : 2 ^ (7 * (i + 1)) ≤ 2 ^ 63 := Nat.pow_le_pow_right (by decide) (by omega)
          have e63 : (2 : Nat) ^ 63 = 9223372036854775808 := by decide
          omega
        have hstep : rdNum bs = if c < 128 then (if 0 < c ∨ i = 0 then some (u + c * 2 ^ (7 * i), r) else none) else rdN (i + 1) (u + (c % 128) * 2 ^ (7 * i)) r := by
          rw [he.out]
          simp only [rdN]
          rw [if_neg (by omega)]
        obtain ⟨U, hU⟩ : ∃ U, u + c % 128 * 2 ^ (7 * i) = U := ⟨_, rfl⟩
        rw [hU] at hor hu2 h63 hstep
        replace hstep := Lib.hid hstep
        replace hu2 := Lib.hid hu2
        replace hU := Lib.hid hU
        clear hm hu he
        go_upto_region 7 with (go_at_call 15; refine (hT.out _).mono ?_; rintro e y ⟨rfl, rfl⟩)
        by_cases hc8 : c < 128
        · have hcm : c % 128 = c := by omega
          have hU' := hU.out
          rw [hcm] at hU'
          have hw : IntKind.i64.wrap (U : Int) = (U : Int) := by rw [IntKind.wrap_i64]; omega
          have hw' := Lib.hid hw
          replace hU' := Lib.hid hU'
          rcases Nat.eq_zero_or_pos c with rfl | hpos
          · by_cases hi0 : i = 0
            · subst hi0
              have hres : rdNum bs = some (U, r) := by rw [hstep.out, if_pos hc8, if_pos (.inr rfl), hU'.out]
              replace hres := Lib.hid hres
              clear hor a127 hcm hstep
              go_wp2_with (go_at_call 15; refine (hT.out _).mono ?_; rintro e y ⟨rfl, rfl⟩)
              go_ret
              exact ⟨hK3.out, .inl ⟨U, r, hres.out, rfl, hR2⟩⟩
            · have hres : rdNum bs = none := by rw [hstep.out, if_pos hc8, if_neg (by omega)]
              have hz : (7 * (i : Int) == 0) = false := by simp; omega
              replace hres := Lib.hid hres
              clear hor a127 hcm hstep
              go_wp2_with (go_at_call 15; refine (hF.out _).mono ?_; rintro e y ⟨rfl, rfl⟩)
              exact ⟨rfl, hK3.out, .inr ⟨hres.out, rfl⟩⟩
          · have hres : rdNum bs = some (U, r) := by rw [hstep.out, if_pos hc8, if_pos (.inl hpos), hU'.out]
            have hz : decide (0 < c) = true := by simp; omega
            replace hres := Lib.hid hres
            clear hor a127 hcm hstep
            go_wp2_with (go_at_call 15; refine (hT.out _).mono ?_; rintro e y ⟨rfl, rfl⟩)
            go_ret
            exact ⟨hK3.out, .inl ⟨U, r, hres.out, rfl, hR2⟩⟩
        · have hres : rdNum bs = rdN (i + 1) U r := by rw [hstep.out, if_neg hc8]
          replace hres := Lib.hid hres
          have hw7 : IntKind.i64.wrap (7 * (i : Int) + 7) = 7 * (i : Int) + 7 := by rw [IntKind.wrap_i64]; omega
          clear hor a127 hstep
          go_wp2
          exact ⟨⟨i + 1, U, r, by omega, rfl, by go_num, hres.out, hu2.out, hR2, hK3.out⟩, by simp [RowKit.intOf]; omega⟩
theorem c_rflag (h : RS rb bb w bs) : Calls Tryz.prog 47 #[.pointer (some ⟨rb, 0, none⟩)] w fun e w' => KB (fun r => r = rb) w w' ∧ ((∃ b r, rdFlag bs = some (b, r) ∧ e = .returned (.bool b) ∧ RS rb bb w' r) ∨ (rdFlag bs = none ∧ e = .panicked wrongV)) := by
  have hT := fun (w : World) => c_mustT w
  have hF := fun (w : World) => c_mustF w
  have hN := c_rnum h
  have hfl : rdFlag bs = match rdNum bs with | none => none | some (n, r) => if n ≤ 1 then some (n == 1, r) else none := rfl
  replace hT := Lib.hid hT
  replace hF := Lib.hid hF
  replace hN := Lib.hid hN
  replace hfl := Lib.hid hfl
  clear h
  go_enter Tryz.func47, Tryz.ntmps47
  go_wp2_with fail
  refine hN.out.mono ?_
  rintro e y ⟨hK, ⟨n, r, hn, rfl, hR⟩ | ⟨hn, rfl⟩⟩
  · have hfl2 := hfl.out
    rw [hn] at hfl2
    replace hK := Lib.hid hK
    clear hn hN hfl
    by_cases h1 : n ≤ 1
    · have hd : decide ((n : Int) ≤ 1) = true := by simp; omega
      have hres : rdFlag bs = some (n == 1, r) := by rw [hfl2]; dsimp only; rw [if_pos h1]
      have he : ((n : Int) == 1) = (n == 1) := by rw [Bool.eq_iff_iff]; simp; omega
      replace hres := Lib.hid hres
      clear hfl2 h1
      go_wp2_with (go_at_call 15; refine (hT.out _).mono ?_; rintro e y ⟨rfl, rfl⟩)
      go_ret
      exact ⟨hK.out, .inl ⟨_, r, hres.out, by first | rfl | rw [he], hR⟩⟩
    · have hd : decide ((n : Int) ≤ 1) = false := by simp; omega
      have hres : rdFlag bs = none := by rw [hfl2]; dsimp only; rw [if_neg h1]
      replace hres := Lib.hid hres
      clear hfl2 h1
      go_wp2_with (go_at_call 15; refine (hF.out _).mono ?_; rintro e y ⟨rfl, rfl⟩)
      exact ⟨rfl, hK.out, .inr ⟨hres.out, rfl⟩⟩
  · have hres : rdFlag bs = none := by rw [hfl.out, hn]
    replace hres := Lib.hid hres
    replace hK := Lib.hid hK
    clear hn hfl hN
    go_wp2
    exact ⟨rfl, hK.out, .inr ⟨hres.out, rfl⟩⟩
theorem rdB_str {v : Value} (h : RdB w v bs) : (convert 27 42 v).run Tryz.prog w = .ok (.string (strOf bs)) w := by
  obtain ⟨p, c, rfl, h1, h2, h3⟩ := h
  cases p with
  | none =>
    have : bs = [] := by
      cases bs with
      | nil => rfl
      | cons x l => obtain ⟨_, b, o, h, _⟩ := h3 0 x rfl; cases h
    subst this
    exact run_convert_bytes_nil (P := Tryz.prog) (w := w) 27 5 Tryz.underlying27 Tryz.underlying5 0 c 42 Tryz.underlying42
  | some a =>
    have hb := run_convert_bytes_back (P := Tryz.prog) w 27 42 5 a c (bs.map UInt8.ofNat) Tryz.underlying27 Tryz.underlying5 Tryz.underlying42 (fun j hj => by
      have hj' : j < bs.length := by simpa using hj
      obtain ⟨g1, b, o, e, g2⟩ := h3 j bs[j] (List.getElem?_eq_getElem hj')
      cases e
      have hadd : (⟨b, o, none⟩ : Addr).add j = ⟨b, o + j, none⟩ := by unfold Addr.add; split <;> simp_all
      rw [hadd, g2, List.getElem_map]
      congr 2
      simp
      omega)
    simp only [List.length_map] at hb
    exact hb
theorem c_rtext (h : RS rb bb w bs) : Calls Tryz.prog 46 #[.pointer (some ⟨rb, 0, none⟩)] w fun e w' => KB (fun r => r = rb) w w' ∧ ((∃ s r, rdText bs = some (s, r) ∧ e = .returned (.string s) ∧ RS rb bb w' r) ∨ (rdText bs = none ∧ e = .panicked wrongV)) := by
  have hT := fun (w : World) => c_mustT w
  have hF := fun (w : World) => c_mustF w
  have hN := c_rnum h
  have hfl : rdText bs = match rdNum bs with | none => none | some (n, r) => if n % 2 = 0 then (if n ≤ r.length then some (strOf (r.take n), r.drop n) else none) else none := rfl
  replace hT := Lib.hid hT
  replace hF := Lib.hid hF
  replace hN := Lib.hid hN
  replace hfl := Lib.hid hfl
  clear h
  go_enter Tryz.func46, Tryz.ntmps46
  go_wp2_with fail
  refine hN.out.mono ?_
  rintro e y ⟨hK, ⟨n, r, hn, rfl, hR⟩ | ⟨hn, rfl⟩⟩
  · have hfl2 := hfl.out
    have h63 := (rdNum_some hn).1
    have e63 : (2 : Nat) ^ 63 = 9223372036854775808 := by decide
    rw [hn] at hfl2
    replace hfl2 := Lib.hid hfl2
    clear hn hN hfl
    have hmod : ((n : Int) % 2 == 0) = decide (n % 2 = 0) := by
      rw [Bool.eq_iff_iff]; simp; omega
    by_cases h1 : n % 2 = 0
    · rw [decide_eq_true h1] at hmod
      by_cases h2 : n ≤ r.length
      · have hres : rdText bs = some (strOf (r.take n), r.drop n) := by rw [hfl2.out]; dsimp only; rw [if_pos h1, if_pos h2]
        have hTk := c_take hR n h2
        replace hres := Lib.hid hres
        replace hTk := Lib.hid hTk
        replace hK := Lib.hid hK
        clear hR hfl2 e63 h63
        go_wp2_with (go_at_call 15; refine (hT.out _).mono ?_; rintro e y ⟨rfl, rfl⟩)
        refine hTk.out.mono ?_
        rintro e y2 ⟨v, rfl, hv, hR2, hK2⟩
        have hcv := rdB_str hv
        have hKK := hK.out.trans hK2
        clear hv hTk
        go_wp2
        go_ret
        exact ⟨hKK, .inl ⟨_, _, hres.out, rfl, hR2⟩⟩
      · have hres : rdText bs = none := by rw [hfl2.out]; dsimp only; rw [if_pos h1, if_neg h2]
        have hTk := c_takeN hR n (by omega)
        replace hres := Lib.hid hres
        replace hTk := Lib.hid hTk
        replace hK := Lib.hid hK
        clear hR hfl2 e63 h63 h2
        go_wp2_with (first | (go_at_call 15; refine (hT.out _).mono ?_; rintro e y ⟨rfl, rfl⟩) | (go_at_call 22; refine hTk.out.mono ?_; rintro e y2 ⟨rfl, rfl⟩))
        exact ⟨rfl, hK.out, .inr ⟨hres.out, rfl⟩⟩
    · rw [decide_eq_false h1] at hmod
      have hres : rdText bs = none := by rw [hfl2.out]; dsimp only; rw [if_neg h1]
      replace hres := Lib.hid hres
      replace hK := Lib.hid hK
      clear hR hfl2 e63 h63 h1
      go_wp2_with (go_at_call 15; refine (hF.out _).mono ?_; rintro e y ⟨rfl, rfl⟩)
      exact ⟨rfl, hK.out, .inr ⟨hres.out, rfl⟩⟩
  · have hres : rdText bs = none := by rw [hfl.out, hn]
    replace hres := Lib.hid hres
    replace hK := Lib.hid hK
    clear hn hfl hN
    go_wp2
    exact ⟨rfl, hK.out, .inr ⟨hres.out, rfl⟩⟩
end
end Go.Proofs.YtjjogaenejdliaaGreatDoor
namespace Go.Proofs.YtjjogaenejdliaaGreatDoor
open Go.RowKit Go.Lib
set_option linter.unusedVariables false
set_option linter.unusedSimpArgs false
set_option maxHeartbeats 16000000
set_option maxRecDepth 1000000

/-! 'wasSpace & ^isSpace' at 0 and 1. -/
theorem andNot00 : bits .and .i64 0 (bits .xor .i64 (-1) 0) = 0 := by decide
theorem andNot01 : bits .and .i64 0 (bits .xor .i64 (-1) 1) = 0 := by decide
theorem andNot10 : bits .and .i64 1 (bits .xor .i64 (-1) 0) = 1 := by decide
theorem andNot11 : bits .and .i64 1 (bits .xor .i64 (-1) 1) = 0 := by decide

theorem c_Fields (hi9 : (Tryz.prog.info? 9).map (fun i => (i.zero, i.size, i.bytes)) = some (some (.string ByteArray.empty), 1, 16)) (s : ByteArray) (w : World) (hs : s.size < 4294967281) (hascii : ∀ (j : Nat) b, s.data.toList[j]? = some b → b.toNat < 128)
    (hT : ∀ c : Nat, c < 256 → w.cell? ⟨0, c, none⟩ = some (.int .u8 (if Lib.isSp (UInt8.ofNat c) then 1 else 0))) :
    Calls Tryz.prog 62 #[.string s] w fun e w' =>
      e = .returned (.slice (some ⟨w.heap.size, 0, none⟩) (Lib.fields s.data.toList).length (Lib.fields s.data.toList).length) ∧ w' = w.alloc (.cells ((Lib.fields s.data.toList).map fun l => Value.string ⟨l.toArray⟩).toArray 9) := by
  have HA : Aside (∀ (j : Nat) b, s.data.toList[j]? = some b → b.toNat < 128) := hascii
  have HT : Aside (∀ c : Nat, c < 256 → w.cell? ⟨0, c, none⟩ = some (.int .u8 (if Lib.isSp (UInt8.ofNat c) then 1 else 0))) := hT
  have HT1 : Aside (∀ (o : Obj) (c : Nat), c < 256 → (w.alloc o).cell? ⟨0, c, none⟩ = some (.int .u8 (if Lib.isSp (UInt8.ofNat c) then 1 else 0))) := fun o c hc => by
    rw [World.cell?_alloc_old _ _ _ (Nat.ne_of_lt (World.block_lt_of_cell? _ _ (hT c hc)))]; exact hT c hc
  clear hascii hT
  obtain ⟨N, hN⟩ : ∃ N : Nat, (Lib.fields s.data.toList).length = N := ⟨_, rfl⟩
  rw [hN]
  have hNc : Lib.cntF true s.data.toList = N := by rw [← Lib.fields_length]; exact hN
  have hlen : s.data.toList.length = s.size := (Lib.size_eq s).symm
  go_enter Tryz.func62, Tryz.ntmps62
  go_wp2
  -- ████ THE FIRST PASS: the fields are counted
  go_loopg [3, 4, 5, 6] s.size (fun g s3 s4 s5 s6 wx => w = wx ∧ ∃ (k nn sb : Nat) (ws : Bool), k ≤ s.size ∧ g = s.size - k ∧ s6 = .int .i64 k ∧ s3 = .int .i64 nn ∧ s4 = .int .i64 (if ws then 1 else 0) ∧ s5 = .int .u8 sb ∧ sb < 128 ∧ nn ≤ k ∧
    nn + Lib.cntF ws (s.data.toList.drop k) = N)
  case atStart => exact ⟨rfl, 0, 0, 0, true, Nat.zero_le _, rfl, rfl, rfl, rfl, rfl, by omega, Nat.le_refl _, by simpa using hNc⟩
  case round =>
    obtain ⟨rfl, k, nn, sb, ws, hk, rfl, rfl, rfl, rfl, rfl, hsb, hnk, hc⟩ := hrel
    by_cases hkn : k < s.size
    · have hkz : (k : Int) < (s.size : Int) := by omega
      obtain ⟨x, hx⟩ : ∃ x : UInt8, s[k] = x := ⟨_, rfl⟩
      have hxl : s.data.toList[k]? = some x := by rw [← hx]; exact Lib.data_getElem? s k hkn
      have hx128 : x.toNat < 128 := HA.out k x hxl
      have hxz : (x.toNat : Int) < 256 := by omega
      have hTx : w.cell? ⟨0, x.toNat, none⟩ = some (.int .u8 (if Lib.isSp x then 1 else 0)) := by have := HT.out x.toNat (by omega); simpa using this
      have hor : bits .or .u8 (sb : Int) (x.toNat : Int) = ((sb ||| x.toNat : Nat) : Int) := u8_or_nat _ _ (by omega) (by omega)
      have hor128 : sb ||| x.toNat < 128 := Nat.or_lt_two_pow (n := 7) hsb hx128
      rw [Lib.drop_at hxl, Lib.cntF_step] at hc
      have HC : Aside (nn + ((if ws && !Lib.isSp x then 1 else 0) + Lib.cntF (Lib.isSp x) (s.data.toList.drop (k + 1))) = N) := hc
      clear hc hxl
      have b00 := andNot00; have b01 := andNot01; have b10 := andNot10; have b11 := andNot11
      cases hsx : Lib.isSp x <;> cases ws <;> rw [hsx] at hTx <;> simp only [if_true, Bool.false_eq_true, if_false] at hTx ⊢ <;>
        (go_wp2
         go_roundg (s.size - (k + 1))
         case measure => omega
         case rel =>
           have hc := HC.out
           rw [hsx] at hc
           simp at hc
           first
             | exact ⟨rfl, k + 1, nn, sb ||| x.toNat, false, by omega, rfl, by first | rfl | simp, by first | rfl | (simp; unfold RowKit.wrap64; omega), rfl, by first | rfl | simp, hor128, by omega, by omega⟩
             | exact ⟨rfl, k + 1, nn + 1, sb ||| x.toNat, false, by omega, rfl, by first | rfl | simp, by first | rfl | (simp; unfold RowKit.wrap64; omega), rfl, by first | rfl | simp, hor128, by omega, by omega⟩
             | exact ⟨rfl, k + 1, nn, sb ||| x.toNat, true, by omega, rfl, by first | rfl | simp, by first | rfl | (simp; unfold RowKit.wrap64; omega), rfl, by first | rfl | simp, hor128, by omega, by omega⟩)
    · obtain rfl : k = s.size := by omega
      -- (✋ 'wasSpace' is dead from here on, BUT ITS SLOT HOLDS AN 'if': the walk parts on every 'if' that it sees: behind a variable)
      generalize (if ws = true then (1 : Int) else 0) = v4
      have hkz : ¬ ((s.size : Int) < (s.size : Int)) := by omega
      have hsbz : ¬ ((128 : Int) ≤ (sb : Int)) := by omega
      obtain rfl : N = nn := by rw [← hlen, List.drop_length] at hc; simpa [Lib.cntF] using hc.symm
      clear hc
      have hmk := run_make_row' (P := Tryz.prog) 117 9 (.string ByteArray.empty) 16 Tryz.underlying117 hi9 rfl .i64 .i64 N (by omega) (by omega)
      go_upto_block 2 with fail
      clear hmk
      rw [← Lib.cellsOf_nil]
      -- ████ WHITE SPACE IN FRONT IS PASSED OVER: the loop has two ways out (the string's end; a byte that is none): THEY MEET: all that follows is walked once
      go_cut [12] from 42 to 55 (fun s12 wx => (w.alloc (.cells (Lib.cellsOf [] N) 9)) = wx ∧ ∃ i : Nat, i ≤ s.size ∧ s12 = .int .i64 i ∧ Lib.fieldsGo [] (s.data.toList.drop i) = Lib.fields s.data.toList ∧ ∀ y, s.data.toList[i]? = some y → Lib.isSp y = false)
      case first =>
        go_wp2_with fail
        go_loopg [12] s.size (fun g s12 wx => (w.alloc (.cells (Lib.cellsOf [] N) 9)) = wx ∧ ∃ i : Nat, i ≤ s.size ∧ g = s.size - i ∧ s12 = .int .i64 i ∧ Lib.fieldsGo [] (s.data.toList.drop i) = Lib.fields s.data.toList)
        case atStart => exact ⟨rfl, 0, Nat.zero_le _, rfl, rfl, rfl⟩
        case round =>
          obtain ⟨rfl, i, hi, rfl, rfl, hf⟩ := hrel
          have HF : Aside (Lib.fieldsGo [] (s.data.toList.drop i) = Lib.fields s.data.toList) := hf
          clear hf
          by_cases hin : i < s.size
          · have hiz : (i : Int) < (s.size : Int) := by omega
            obtain ⟨x, hx⟩ : ∃ x : UInt8, s[i] = x := ⟨_, rfl⟩
            have hxl : s.data.toList[i]? = some x := by rw [← hx]; exact Lib.data_getElem? s i hin
            have hx128 : x.toNat < 128 := HA.out i x hxl
            have hxz : (x.toNat : Int) < 256 := by omega
            have hTx : (w.alloc (.cells (Lib.cellsOf [] N) 9)).cell? ⟨0, x.toNat, none⟩ = some (.int .u8 (if Lib.isSp x then 1 else 0)) := by have := HT1.out (.cells (Lib.cellsOf [] N) 9) x.toNat (by omega); simpa using this
            have Hx : Aside (s.data.toList[i]? = some x) := hxl
            clear hxl
            cases hsx : Lib.isSp x <;> rw [hsx] at hTx <;> simp only [if_true, Bool.false_eq_true, if_false] at hTx
            · go_wp2
              go_meet
              exact ⟨rfl, i, hi, rfl, HF.out, fun y hy => by rw [Hx.out] at hy; cases hy; exact hsx⟩
            · go_wp2
              go_roundg (s.size - (i + 1))
              case measure => omega
              case rel => exact ⟨rfl, i + 1, by omega, rfl, by first | rfl | simp, by rw [← HF.out, Lib.drop_at Hx.out, Lib.fieldsGo_sp _ _ hsx]⟩
          · obtain rfl : i = s.size := by omega
            have hiz : ¬ ((s.size : Int) < (s.size : Int)) := by omega
            go_wp2
            go_meet
            exact ⟨rfl, s.size, Nat.le_refl _, rfl, HF.out, fun y hy => by rw [List.getElem?_eq_none (by omega)] at hy; cases hy⟩
      case rest =>
        obtain ⟨rfl, i0, hi0, rfl, hf0, hns0⟩ := hcut
        have H0 : Aside (Lib.fieldsGo [] (s.data.toList.drop i0) = Lib.fields s.data.toList ∧ ∀ y, s.data.toList[i0]? = some y → Lib.isSp y = false) := ⟨hf0, hns0⟩
        clear hf0 hns0
        go_wp2
        -- ████ THE FIELDS, one behind the other
        go_loopg [10, 11, 12] (s.size - i0) (fun g s10 s11 s12 wx => ∃ (done : List ByteArray) (fs i : Nat), s10 = .int .i64 done.length ∧ s11 = .int .i64 fs ∧ s12 = .int .i64 i ∧ fs ≤ i ∧ i ≤ s.size ∧ g = s.size - i ∧ wx = (w.alloc (.cells (Lib.cellsOf done N) 9)) ∧
          done.map (·.data.toList) ++ Lib.fieldsGo ((s.data.toList.drop fs).take (i - fs)) (s.data.toList.drop i) = Lib.fields s.data.toList ∧ (fs = i → ∀ y, s.data.toList[i]? = some y → Lib.isSp y = false))
        case atStart => exact ⟨[], i0, i0, rfl, rfl, rfl, Nat.le_refl _, hi0, rfl, rfl, by rw [Lib.piece_nil]; exact H0.out.1, fun _ => H0.out.2⟩
        case round =>
          obtain ⟨done, fs, i, rfl, rfl, rfl, hfi, hi, rfl, rfl, hinv, hside⟩ := hrel
          clear H0
          by_cases hin : i < s.size
          · have hiz : (i : Int) < (s.size : Int) := by omega
            obtain ⟨x, hx⟩ : ∃ x : UInt8, s[i] = x := ⟨_, rfl⟩
            have hxl : s.data.toList[i]? = some x := by rw [← hx]; exact Lib.data_getElem? s i hin
            have hx128 : x.toNat < 128 := HA.out i x hxl
            have hxz : (x.toNat : Int) < 256 := by omega
            have hTx : (w.alloc (.cells (Lib.cellsOf done N) 9)).cell? ⟨0, x.toNat, none⟩ = some (.int .u8 (if Lib.isSp x then 1 else 0)) := by have := HT1.out (.cells (Lib.cellsOf done N) 9) x.toNat (by omega); simpa using this
            have Hx : Aside (s.data.toList[i]? = some x) := hxl
            clear hxl
            cases hsx : Lib.isSp x <;> rw [hsx] at hTx <;> simp only [if_true, Bool.false_eq_true, if_false] at hTx
            · -- a byte of a field: 'i++; continue'
              have HI : Aside (done.map (·.data.toList) ++ Lib.fieldsGo ((s.data.toList.drop fs).take (i - fs)) (s.data.toList.drop i) = Lib.fields s.data.toList) := hinv
              clear hinv hside
              go_wp2
              go_roundg (s.size - (i + 1))
              case measure => omega
              case rel => exact ⟨done, fs, i + 1, rfl, rfl, by first | rfl | simp, by omega, by omega, rfl, rfl, by rw [Lib.piece_more hfi Hx.out, ← Lib.fieldsGo_more _ _ _ hsx, ← Lib.drop_at Hx.out]; exact HI.out, fun h => by omega⟩
            · -- white space: the field ends here: 'a[na] = s[fieldStart:i]; na++; i++'
              have hlt : fs < i := by
                refine Nat.lt_of_le_of_ne hfi fun h => ?_
                have := hside h x Hx.out
                rw [hsx] at this
                cases this
              rw [Lib.drop_at Hx.out, Lib.fieldsGo_end _ _ _ hsx (Lib.piece_ne hlt (by omega))] at hinv
              have hdN : done.length < N := by
                have := congrArg List.length hinv
                rw [hN] at this
                simp at this
                omega
              have hnext : (Lib.cellsOf done N)[done.length]? = some (.string ByteArray.empty) := Lib.cellsOf_next hdN
              have hdz : ((done.length : Nat) : Int) < (N : Int) := by omega
              have c1 : (fs : Int) ≤ (i : Int) := by omega
              have c2 : (i : Int) ≤ (s.size : Int) := by omega
              have HI : Aside ((done ++ [s.extract fs i]).map (·.data.toList) ++ Lib.fieldsGo [] (s.data.toList.drop (i + 1)) = Lib.fields s.data.toList) := by
                show _ = _
                rw [← hinv, List.map_append, List.map_cons, List.map_nil, Lib.extract_data]
                simp
              clear hinv hside
              go_wp2
              rw [Lib.cellsOf_set hdN]
              clear hnext hTx
              -- ████ white space between fields is passed over
              go_loopg [12] (s.size - (i + 1)) (fun g s12 wx => (w.alloc (.cells (Lib.cellsOf (done ++ [s.extract fs i]) N) 9)) = wx ∧ ∃ j : Nat, i + 1 ≤ j ∧ j ≤ s.size ∧ g = s.size - j ∧ s12 = .int .i64 j ∧ Lib.fieldsGo [] (s.data.toList.drop j) = Lib.fieldsGo [] (s.data.toList.drop (i + 1)))
              case atStart => exact ⟨rfl, i + 1, Nat.le_refl _, by omega, rfl, by first | rfl | simp, rfl⟩
              case round =>
                obtain ⟨rfl, j, hij, hj, rfl, rfl, hfj⟩ := hrel
                have HJ : Aside (Lib.fieldsGo [] (s.data.toList.drop j) = Lib.fieldsGo [] (s.data.toList.drop (i + 1))) := hfj
                clear hfj hx Hx hx128 hxz hsx
                by_cases hjn : j < s.size
                · have hjz : (j : Int) < (s.size : Int) := by omega
                  obtain ⟨x, hx⟩ : ∃ x : UInt8, s[j] = x := ⟨_, rfl⟩
                  have hxl : s.data.toList[j]? = some x := by rw [← hx]; exact Lib.data_getElem? s j hjn
                  have hx128 : x.toNat < 128 := HA.out j x hxl
                  have hxz : (x.toNat : Int) < 256 := by omega
                  have hTx : (w.alloc (.cells (Lib.cellsOf (done ++ [s.extract fs i]) N) 9)).cell? ⟨0, x.toNat, none⟩ = some (.int .u8 (if Lib.isSp x then 1 else 0)) := by have := HT1.out (.cells (Lib.cellsOf (done ++ [s.extract fs i]) N) 9) x.toNat (by omega); simpa using this
                  have Hx : Aside (s.data.toList[j]? = some x) := hxl
                  clear hxl
                  cases hsx : Lib.isSp x <;> rw [hsx] at hTx <;> simp only [if_true, Bool.false_eq_true, if_false] at hTx
                  · go_wp2
                    go_roundg (s.size - j)
                    case measure => omega
                    case rel => exact ⟨done ++ [s.extract fs i], j, j, by simp, rfl, rfl, Nat.le_refl _, hj, rfl, rfl, by rw [Lib.piece_nil, HJ.out]; exact HI.out, fun _ y hy => by rw [Hx.out] at hy; cases hy; exact hsx⟩
                  · go_wp2
                    go_roundg (s.size - (j + 1))
                    case measure => omega
                    case rel => exact ⟨rfl, j + 1, by omega, by omega, rfl, by first | rfl | simp, by rw [← HJ.out, Lib.drop_at Hx.out, Lib.fieldsGo_sp _ _ hsx]⟩
                · obtain rfl : j = s.size := by omega
                  have hjz : ¬ ((s.size : Int) < (s.size : Int)) := by omega
                  go_wp2
                  go_roundg (s.size - s.size)
                  case measure => omega
                  case rel => exact ⟨done ++ [s.extract fs i], s.size, s.size, by simp, rfl, rfl, Nat.le_refl _, Nat.le_refl _, rfl, rfl, by rw [Lib.piece_nil, HJ.out]; exact HI.out, fun _ y hy => by rw [List.getElem?_eq_none (by omega)] at hy; cases hy⟩
          · -- the string's end: 'if fieldStart < len(s) { a[na] = s[fieldStart:] }; return a'
            obtain rfl : i = s.size := by omega
            have hiz : ¬ ((s.size : Int) < (s.size : Int)) := by omega
            rw [← hlen, List.drop_length, hlen] at hinv
            clear hside
            by_cases hfl : fs < s.size
            · have hflz : (fs : Int) < (s.size : Int) := by omega
              have hne := Lib.piece_ne (l := s.data.toList) hfl (by omega)
              have e1 : Lib.fieldsGo ((s.data.toList.drop fs).take (s.size - fs)) [] = [(s.data.toList.drop fs).take (s.size - fs)] := by
                cases hc : (s.data.toList.drop fs).take (s.size - fs) with
                | nil => exact absurd hc hne
                | cons _ _ => rfl
              rw [e1] at hinv
              have hfin : (done ++ [s.extract fs s.size]).map (·.data.toList) = Lib.fields s.data.toList := by rw [← hinv, List.map_append, List.map_cons, List.map_nil, Lib.extract_data]
              have hdN : done.length + 1 = N := by
                have := congrArg List.length hfin
                rw [hN] at this
                simpa using this
              have hnext : (Lib.cellsOf done N)[done.length]? = some (.string ByteArray.empty) := Lib.cellsOf_next (by omega)
              have hdz : ((done.length : Nat) : Int) < (N : Int) := by omega
              have HFin : Aside ((done ++ [s.extract fs s.size]).map (·.data.toList) = Lib.fields s.data.toList) := hfin
              clear hinv hfin e1 hne
              go_wp2
              go_ret
              refine ⟨rfl, ?_⟩
              rw [Lib.cellsOf_set (by omega), ← Lib.pieces_eq HFin.out, ← Lib.cellsOf_full]
              congr 3
              simp; omega
            · obtain rfl : fs = s.size := by omega
              have hflz : ¬ ((s.size : Int) < (s.size : Int)) := by omega
              rw [Lib.piece_nil] at hinv
              have hfin : done.map (·.data.toList) = Lib.fields s.data.toList := by simpa [Lib.fieldsGo] using hinv
              have hdN : done.length = N := by
                have := congrArg List.length hfin
                rw [hN] at this
                simpa using this
              have HFin : Aside (done.map (·.data.toList) = Lib.fields s.data.toList) := hfin
              clear hinv hfin
              go_wp2
              go_ret
              refine ⟨rfl, ?_⟩
              rw [← Lib.pieces_eq HFin.out, ← Lib.cellsOf_full, hdN]
end Go.Proofs.YtjjogaenejdliaaGreatDoor
