/-
  Contracts: The library's contracts that lie in the shelf, laid over this program (printed by layshelf.py). Decimal digits of fixed width, and how many digits a number has: plain facts. Plain facts on the scaling of a number by a power of ten, where it is exact; on whole numbers of 32 bits.
-/
import Derived.Test.YtbakbikilbaafaaGreatDoorChecked
import Derived.Shelf.Strings.Cut
import Derived.Shelf.Strings.Replace
import Derived.Shelf.Strings.Repeat
import Derived.Shelf.Strings.Prefix
import Derived.Shelf.Strings.Trim
import Derived.Shelf.Strings.IndexAnyAll
import Derived.Shelf.Strings.Builder1
import Derived.Shelf.Strconv.Itoa3
import Derived.Shelf.Strconv.Itoa4
import Derived.Shelf.Strconv.Atoi
import Derived.Shelf.Strconv.ToErrorRange
import Derived.Shelf.Small.Bits
import Derived.Shelf.Small.Strs
import Derived.Lib.Hide
namespace Go.Proofs.YtbakbikilbaafaaGreatDoor
open Go.RowKit Go.Shelf
set_option linter.unusedVariables false
set_option maxHeartbeats 1000000
set_option maxRecDepth 100000

def ren : Ren := { f := fun n => bif Nat.beq n 99 then 100 else bif Nat.beq n 101 then 78 else bif Nat.beq n 105 then 65 else bif Nat.beq n 119 then 149 else bif Nat.beq n 129 then 146 else bif Nat.beq n 134 then 109 else bif Nat.beq n 137 then 72 else bif Nat.beq n 138 then 94 else bif Nat.beq n 143 then 96 else bif Nat.beq n 145 then 61 else bif Nat.beq n 151 then 152 else bif Nat.beq n 152 then 113 else bif Nat.beq n 153 then 79 else bif Nat.beq n 154 then 63 else bif Nat.beq n 161 then 80 else bif Nat.beq n 165 then 95 else bif Nat.beq n 166 then 90 else bif Nat.beq n 167 then 70 else bif Nat.beq n 169 then 71 else bif Nat.beq n 170 then 101 else bif Nat.beq n 171 then 66 else bif Nat.beq n 172 then 64 else bif Nat.beq n 173 then 59 else bif Nat.beq n 195 then 133 else bif Nat.beq n 197 then 89 else bif Nat.beq n 205 then 173 else bif Nat.beq n 206 then 142 else bif Nat.beq n 208 then 112 else bif Nat.beq n 212 then 99 else bif Nat.beq n 217 then 105 else bif Nat.beq n 218 then 134 else bif Nat.beq n 219 then 130 else bif Nat.beq n 220 then 92 else bif Nat.beq n 224 then 150 else bif Nat.beq n 225 then 151 else bif Nat.beq n 226 then 114 else bif Nat.beq n 227 then 115 else bif Nat.beq n 228 then 116 else bif Nat.beq n 231 then 117 else bif Nat.beq n 233 then 118 else bif Nat.beq n 235 then 119 else bif Nat.beq n 240 then 104 else bif Nat.beq n 241 then 135 else bif Nat.beq n 243 then 102 else bif Nat.beq n 244 then 97 else bif Nat.beq n 245 then 98 else bif Nat.beq n 246 then 88 else bif Nat.beq n 247 then 136 else bif Nat.beq n 260 then 128 else bif Nat.beq n 263 then 141 else bif Nat.beq n 264 then 107 else bif Nat.beq n 266 then 144 else bif Nat.beq n 267 then 157 else bif Nat.beq n 276 then 143 else bif Nat.beq n 277 then 170 else bif Nat.beq n 279 then 137 else bif Nat.beq n 280 then 138 else bif Nat.beq n 281 then 139 else bif Nat.beq n 282 then 140 else bif Nat.beq n 283 then 124 else bif Nat.beq n 284 then 125 else bif Nat.beq n 285 then 126 else bif Nat.beq n 286 then 127 else bif Nat.beq n 287 then 171 else bif Nat.beq n 314 then 180 else bif Nat.beq n 316 then 172 else bif Nat.beq n 317 then 153 else bif Nat.beq n 318 then 154 else bif Nat.beq n 319 then 155 else bif Nat.beq n 320 then 156 else bif Nat.beq n 321 then 183 else bif Nat.beq n 322 then 200 else bif Nat.beq n 337 then 178 else bif Nat.beq n 338 then 179 else 0, t := fun n => bif Nat.beq n 0 then 0 else bif Nat.beq n 2 then 2 else bif Nat.beq n 3 then 3 else bif Nat.beq n 4 then 4 else bif Nat.beq n 5 then 5 else bif Nat.beq n 9 then 9 else bif Nat.beq n 20 then 20 else bif Nat.beq n 21 then 21 else bif Nat.beq n 37 then 90 else bif Nat.beq n 46 then 89 else bif Nat.beq n 51 then 110 else bif Nat.beq n 53 then 102 else bif Nat.beq n 59 then 78 else bif Nat.beq n 70 then 91 else bif Nat.beq n 72 then 93 else bif Nat.beq n 75 then 83 else bif Nat.beq n 76 then 84 else bif Nat.beq n 80 then 95 else bif Nat.beq n 85 then 146 else bif Nat.beq n 105 then 106 else bif Nat.beq n 109 then 116 else bif Nat.beq n 116 then 130 else bif Nat.beq n 117 then 131 else bif Nat.beq n 119 then 164 else bif Nat.beq n 124 then 135 else bif Nat.beq n 127 then 120 else bif Nat.beq n 138 then 166 else bif Nat.beq n 139 then 167 else bif Nat.beq n 143 then 212 else bif Nat.beq n 145 then 214 else bif Nat.beq n 146 then 151 else bif Nat.beq n 148 then 122 else bif Nat.beq n 164 then 153 else bif Nat.beq n 167 then 145 else bif Nat.beq n 168 then 148 else bif Nat.beq n 171 then 137 else bif Nat.beq n 173 then 139 else bif Nat.beq n 175 then 184 else bif Nat.beq n 210 then 188 else bif Nat.beq n 212 then 161 else bif Nat.beq n 213 then 162 else bif Nat.beq n 232 then 172 else bif Nat.beq n 233 then 235 else 0, g := fun n => bif Nat.beq n 1 then 4 else bif Nat.beq n 3 then 2 else bif Nat.beq n 4 then 3 else bif Nat.beq n 15 then 6 else bif Nat.beq n 16 then 7 else bif Nat.beq n 17 then 1 else bif Nat.beq n 18 then 10 else bif Nat.beq n 19 then 11 else 0 }
theorem bextra : Builder.Extra Tryz.prog ren := {
  sizeBuilder := by as_aux_lemma => kernel_rfl,
  liesBuilder := by as_aux_lemma => kernel_rfl,
  t5 := by as_aux_lemma => kernel_rfl,
  a5 := by as_aux_lemma => exact fun _ => by kernel_rfl,
  z5 := by as_aux_lemma => exact fun _ => by kernel_rfl,
  v5 := by as_aux_lemma => exact fun _ => by kernel_rfl,
  infoByte := by as_aux_lemma => kernel_rfl,
  cellsByte := by as_aux_lemma => kernel_rfl,
  sizeByte := by as_aux_lemma => kernel_rfl,
  neB5 := by decide }
theorem lays145 : Lays.n145 Tryz.prog ren := {
  mixed := by as_aux_lemma => kernel_rfl,
  f145 := by as_aux_lemma => kernel_rfl,
  f217 := by as_aux_lemma => kernel_rfl,
  f219 := by as_aux_lemma => kernel_rfl,
  f220 := by as_aux_lemma => kernel_rfl,
  f224 := by as_aux_lemma => kernel_rfl,
  f225 := by as_aux_lemma => kernel_rfl,
  f266 := by as_aux_lemma => kernel_rfl,
  f267 := by as_aux_lemma => kernel_rfl,
  f314 := by as_aux_lemma => kernel_rfl,
  t3 := by as_aux_lemma => kernel_rfl,
  a3 := by as_aux_lemma => exact fun _ => by kernel_rfl,
  z3 := by as_aux_lemma => exact fun _ => by kernel_rfl,
  v3 := by as_aux_lemma => exact fun _ => by kernel_rfl,
  t4 := by as_aux_lemma => kernel_rfl,
  a4 := by as_aux_lemma => exact fun _ => by kernel_rfl,
  z4 := by as_aux_lemma => exact fun _ => by kernel_rfl,
  v4 := by as_aux_lemma => exact fun _ => by kernel_rfl,
  t5 := by as_aux_lemma => kernel_rfl,
  a5 := by as_aux_lemma => exact fun _ => by kernel_rfl,
  z5 := by as_aux_lemma => exact fun _ => by kernel_rfl,
  v5 := by as_aux_lemma => exact fun _ => by kernel_rfl,
  t9 := by as_aux_lemma => kernel_rfl,
  a9 := by as_aux_lemma => exact fun _ => by kernel_rfl,
  z9 := by as_aux_lemma => exact fun _ => by kernel_rfl,
  v9 := by as_aux_lemma => exact fun _ => by kernel_rfl,
  t46 := by as_aux_lemma => kernel_rfl,
  a46 := by as_aux_lemma => exact fun _ => by kernel_rfl,
  z46 := by as_aux_lemma => exact fun _ => by kernel_rfl,
  v46 := by as_aux_lemma => exact fun _ => by kernel_rfl,
  t51 := by as_aux_lemma => kernel_rfl,
  a51 := by as_aux_lemma => exact fun _ => by kernel_rfl,
  z51 := by as_aux_lemma => exact fun _ => by kernel_rfl,
  v51 := by as_aux_lemma => exact fun _ => by kernel_rfl,
  t59 := by as_aux_lemma => kernel_rfl,
  a59 := by as_aux_lemma => exact fun _ => by kernel_rfl,
  z59 := by as_aux_lemma => exact fun _ => by kernel_rfl,
  v59 := by as_aux_lemma => exact fun _ => by kernel_rfl,
  t146 := by as_aux_lemma => kernel_rfl,
  a146 := by as_aux_lemma => exact fun _ => by kernel_rfl,
  z146 := by as_aux_lemma => exact fun _ => by kernel_rfl,
  v146 := by as_aux_lemma => exact fun _ => by kernel_rfl,
  g1 := by as_aux_lemma => kernel_rfl }
theorem lays154 : Lays.n154 Tryz.prog ren := {
  mixed := by as_aux_lemma => kernel_rfl,
  f138 := by as_aux_lemma => kernel_rfl,
  f143 := by as_aux_lemma => kernel_rfl,
  f154 := by as_aux_lemma => kernel_rfl,
  f165 := by as_aux_lemma => kernel_rfl,
  f166 := by as_aux_lemma => kernel_rfl,
  f169 := by as_aux_lemma => kernel_rfl,
  f195 := by as_aux_lemma => kernel_rfl,
  f197 := by as_aux_lemma => kernel_rfl,
  f217 := by as_aux_lemma => kernel_rfl,
  f218 := by as_aux_lemma => kernel_rfl,
  f219 := by as_aux_lemma => kernel_rfl,
  f224 := by as_aux_lemma => kernel_rfl,
  f225 := by as_aux_lemma => kernel_rfl,
  f240 := by as_aux_lemma => kernel_rfl,
  f241 := by as_aux_lemma => kernel_rfl,
  f260 := by as_aux_lemma => kernel_rfl,
  f266 := by as_aux_lemma => kernel_rfl,
  f267 := by as_aux_lemma => kernel_rfl,
  f276 := by as_aux_lemma => kernel_rfl,
  f277 := by as_aux_lemma => kernel_rfl,
  f314 := by as_aux_lemma => kernel_rfl,
  t0 := by as_aux_lemma => kernel_rfl,
  a0 := by as_aux_lemma => exact fun _ => by kernel_rfl,
  z0 := by as_aux_lemma => exact fun _ => by kernel_rfl,
  v0 := by as_aux_lemma => exact fun _ => by kernel_rfl,
  t3 := by as_aux_lemma => kernel_rfl,
  a3 := by as_aux_lemma => exact fun _ => by kernel_rfl,
  z3 := by as_aux_lemma => exact fun _ => by kernel_rfl,
  v3 := by as_aux_lemma => exact fun _ => by kernel_rfl,
  t4 := by as_aux_lemma => kernel_rfl,
  a4 := by as_aux_lemma => exact fun _ => by kernel_rfl,
  z4 := by as_aux_lemma => exact fun _ => by kernel_rfl,
  v4 := by as_aux_lemma => exact fun _ => by kernel_rfl,
  t5 := by as_aux_lemma => kernel_rfl,
  a5 := by as_aux_lemma => exact fun _ => by kernel_rfl,
  z5 := by as_aux_lemma => exact fun _ => by kernel_rfl,
  v5 := by as_aux_lemma => exact fun _ => by kernel_rfl,
  t9 := by as_aux_lemma => kernel_rfl,
  a9 := by as_aux_lemma => exact fun _ => by kernel_rfl,
  z9 := by as_aux_lemma => exact fun _ => by kernel_rfl,
  v9 := by as_aux_lemma => exact fun _ => by kernel_rfl,
  t20 := by as_aux_lemma => kernel_rfl,
  a20 := by as_aux_lemma => exact fun _ => by kernel_rfl,
  z20 := by as_aux_lemma => exact fun _ => by kernel_rfl,
  v20 := by as_aux_lemma => exact fun _ => by kernel_rfl,
  t21 := by as_aux_lemma => kernel_rfl,
  a21 := by as_aux_lemma => exact fun _ => by kernel_rfl,
  z21 := by as_aux_lemma => exact fun _ => by kernel_rfl,
  v21 := by as_aux_lemma => exact fun _ => by kernel_rfl,
  t37 := by as_aux_lemma => kernel_rfl,
  a37 := by as_aux_lemma => exact fun _ => by kernel_rfl,
  z37 := by as_aux_lemma => exact fun _ => by kernel_rfl,
  v37 := by as_aux_lemma => exact fun _ => by kernel_rfl,
  t46 := by as_aux_lemma => kernel_rfl,
  a46 := by as_aux_lemma => exact fun _ => by kernel_rfl,
  z46 := by as_aux_lemma => exact fun _ => by kernel_rfl,
  v46 := by as_aux_lemma => exact fun _ => by kernel_rfl,
  t51 := by as_aux_lemma => kernel_rfl,
  a51 := by as_aux_lemma => exact fun _ => by kernel_rfl,
  z51 := by as_aux_lemma => exact fun _ => by kernel_rfl,
  v51 := by as_aux_lemma => exact fun _ => by kernel_rfl,
  t70 := by as_aux_lemma => kernel_rfl,
  a70 := by as_aux_lemma => exact fun _ => by kernel_rfl,
  z70 := by as_aux_lemma => exact fun _ => by kernel_rfl,
  v70 := by as_aux_lemma => exact fun _ => by kernel_rfl,
  t72 := by as_aux_lemma => kernel_rfl,
  a72 := by as_aux_lemma => exact fun _ => by kernel_rfl,
  z72 := by as_aux_lemma => exact fun _ => by kernel_rfl,
  v72 := by as_aux_lemma => exact fun _ => by kernel_rfl,
  t75 := by as_aux_lemma => kernel_rfl,
  a75 := by as_aux_lemma => exact fun _ => by kernel_rfl,
  z75 := by as_aux_lemma => exact fun _ => by kernel_rfl,
  v75 := by as_aux_lemma => exact fun _ => by kernel_rfl,
  t76 := by as_aux_lemma => kernel_rfl,
  a76 := by as_aux_lemma => exact fun _ => by kernel_rfl,
  z76 := by as_aux_lemma => exact fun _ => by kernel_rfl,
  v76 := by as_aux_lemma => exact fun _ => by kernel_rfl,
  t105 := by as_aux_lemma => kernel_rfl,
  a105 := by as_aux_lemma => exact fun _ => by kernel_rfl,
  z105 := by as_aux_lemma => exact fun _ => by kernel_rfl,
  v105 := by as_aux_lemma => exact fun _ => by kernel_rfl,
  t119 := by as_aux_lemma => kernel_rfl,
  a119 := by as_aux_lemma => exact fun _ => by kernel_rfl,
  z119 := by as_aux_lemma => exact fun _ => by kernel_rfl,
  t127 := by as_aux_lemma => kernel_rfl,
  a127 := by as_aux_lemma => exact fun _ => by kernel_rfl,
  z127 := by as_aux_lemma => exact fun _ => by kernel_rfl,
  v127 := by as_aux_lemma => exact fun _ => by kernel_rfl,
  t138 := by as_aux_lemma => kernel_rfl,
  a138 := by as_aux_lemma => exact fun _ => by kernel_rfl,
  z138 := by as_aux_lemma => exact fun _ => by kernel_rfl,
  v138 := by as_aux_lemma => exact fun _ => by kernel_rfl,
  t139 := by as_aux_lemma => kernel_rfl,
  a139 := by as_aux_lemma => exact fun _ => by kernel_rfl,
  z139 := by as_aux_lemma => exact fun _ => by kernel_rfl,
  v139 := by as_aux_lemma => exact fun _ => by kernel_rfl,
  t146 := by as_aux_lemma => kernel_rfl,
  a146 := by as_aux_lemma => exact fun _ => by kernel_rfl,
  z146 := by as_aux_lemma => exact fun _ => by kernel_rfl,
  v146 := by as_aux_lemma => exact fun _ => by kernel_rfl,
  t164 := by as_aux_lemma => kernel_rfl,
  a164 := by as_aux_lemma => exact fun _ => by kernel_rfl,
  z164 := by as_aux_lemma => exact fun _ => by kernel_rfl,
  v164 := by as_aux_lemma => exact fun _ => by kernel_rfl,
  g1 := by as_aux_lemma => kernel_rfl,
  g3 := by as_aux_lemma => kernel_rfl,
  g4 := by as_aux_lemma => kernel_rfl }
theorem lays105 : Lays.n105 Tryz.prog ren := {
  mixed := by as_aux_lemma => kernel_rfl,
  f99 := by as_aux_lemma => kernel_rfl,
  f105 := by as_aux_lemma => kernel_rfl,
  f165 := by as_aux_lemma => kernel_rfl,
  f166 := by as_aux_lemma => kernel_rfl,
  f169 := by as_aux_lemma => kernel_rfl,
  f170 := by as_aux_lemma => kernel_rfl,
  f206 := by as_aux_lemma => kernel_rfl,
  f212 := by as_aux_lemma => kernel_rfl,
  f240 := by as_aux_lemma => kernel_rfl,
  f241 := by as_aux_lemma => kernel_rfl,
  f263 := by as_aux_lemma => kernel_rfl,
  f264 := by as_aux_lemma => kernel_rfl,
  f276 := by as_aux_lemma => kernel_rfl,
  f277 := by as_aux_lemma => kernel_rfl,
  t0 := by as_aux_lemma => kernel_rfl,
  a0 := by as_aux_lemma => exact fun _ => by kernel_rfl,
  z0 := by as_aux_lemma => exact fun _ => by kernel_rfl,
  v0 := by as_aux_lemma => exact fun _ => by kernel_rfl,
  t3 := by as_aux_lemma => kernel_rfl,
  a3 := by as_aux_lemma => exact fun _ => by kernel_rfl,
  z3 := by as_aux_lemma => exact fun _ => by kernel_rfl,
  v3 := by as_aux_lemma => exact fun _ => by kernel_rfl,
  t4 := by as_aux_lemma => kernel_rfl,
  a4 := by as_aux_lemma => exact fun _ => by kernel_rfl,
  z4 := by as_aux_lemma => exact fun _ => by kernel_rfl,
  v4 := by as_aux_lemma => exact fun _ => by kernel_rfl,
  t5 := by as_aux_lemma => kernel_rfl,
  a5 := by as_aux_lemma => exact fun _ => by kernel_rfl,
  z5 := by as_aux_lemma => exact fun _ => by kernel_rfl,
  v5 := by as_aux_lemma => exact fun _ => by kernel_rfl,
  t9 := by as_aux_lemma => kernel_rfl,
  a9 := by as_aux_lemma => exact fun _ => by kernel_rfl,
  z9 := by as_aux_lemma => exact fun _ => by kernel_rfl,
  v9 := by as_aux_lemma => exact fun _ => by kernel_rfl,
  t20 := by as_aux_lemma => kernel_rfl,
  a20 := by as_aux_lemma => exact fun _ => by kernel_rfl,
  z20 := by as_aux_lemma => exact fun _ => by kernel_rfl,
  v20 := by as_aux_lemma => exact fun _ => by kernel_rfl,
  t37 := by as_aux_lemma => kernel_rfl,
  a37 := by as_aux_lemma => exact fun _ => by kernel_rfl,
  z37 := by as_aux_lemma => exact fun _ => by kernel_rfl,
  v37 := by as_aux_lemma => exact fun _ => by kernel_rfl,
  t46 := by as_aux_lemma => kernel_rfl,
  a46 := by as_aux_lemma => exact fun _ => by kernel_rfl,
  z46 := by as_aux_lemma => exact fun _ => by kernel_rfl,
  v46 := by as_aux_lemma => exact fun _ => by kernel_rfl,
  t51 := by as_aux_lemma => kernel_rfl,
  a51 := by as_aux_lemma => exact fun _ => by kernel_rfl,
  z51 := by as_aux_lemma => exact fun _ => by kernel_rfl,
  v51 := by as_aux_lemma => exact fun _ => by kernel_rfl,
  t53 := by as_aux_lemma => kernel_rfl,
  a53 := by as_aux_lemma => exact fun _ => by kernel_rfl,
  z53 := by as_aux_lemma => exact fun _ => by kernel_rfl,
  v53 := by as_aux_lemma => exact fun _ => by kernel_rfl,
  t70 := by as_aux_lemma => kernel_rfl,
  a70 := by as_aux_lemma => exact fun _ => by kernel_rfl,
  z70 := by as_aux_lemma => exact fun _ => by kernel_rfl,
  v70 := by as_aux_lemma => exact fun _ => by kernel_rfl,
  t72 := by as_aux_lemma => kernel_rfl,
  a72 := by as_aux_lemma => exact fun _ => by kernel_rfl,
  z72 := by as_aux_lemma => exact fun _ => by kernel_rfl,
  v72 := by as_aux_lemma => exact fun _ => by kernel_rfl,
  t75 := by as_aux_lemma => kernel_rfl,
  a75 := by as_aux_lemma => exact fun _ => by kernel_rfl,
  z75 := by as_aux_lemma => exact fun _ => by kernel_rfl,
  v75 := by as_aux_lemma => exact fun _ => by kernel_rfl,
  t76 := by as_aux_lemma => kernel_rfl,
  a76 := by as_aux_lemma => exact fun _ => by kernel_rfl,
  z76 := by as_aux_lemma => exact fun _ => by kernel_rfl,
  v76 := by as_aux_lemma => exact fun _ => by kernel_rfl,
  t109 := by as_aux_lemma => kernel_rfl,
  a109 := by as_aux_lemma => exact fun _ => by kernel_rfl,
  z109 := by as_aux_lemma => exact fun _ => by kernel_rfl,
  v109 := by as_aux_lemma => exact fun _ => by kernel_rfl,
  t127 := by as_aux_lemma => kernel_rfl,
  a127 := by as_aux_lemma => exact fun _ => by kernel_rfl,
  z127 := by as_aux_lemma => exact fun _ => by kernel_rfl,
  v127 := by as_aux_lemma => exact fun _ => by kernel_rfl,
  t146 := by as_aux_lemma => kernel_rfl,
  a146 := by as_aux_lemma => exact fun _ => by kernel_rfl,
  z146 := by as_aux_lemma => exact fun _ => by kernel_rfl,
  v146 := by as_aux_lemma => exact fun _ => by kernel_rfl,
  t148 := by as_aux_lemma => kernel_rfl,
  a148 := by as_aux_lemma => exact fun _ => by kernel_rfl,
  z148 := by as_aux_lemma => exact fun _ => by kernel_rfl,
  v148 := by as_aux_lemma => exact fun _ => by kernel_rfl,
  t164 := by as_aux_lemma => kernel_rfl,
  a164 := by as_aux_lemma => exact fun _ => by kernel_rfl,
  z164 := by as_aux_lemma => exact fun _ => by kernel_rfl,
  v164 := by as_aux_lemma => exact fun _ => by kernel_rfl }
theorem lays101 : Lays.n101 Tryz.prog ren := {
  mixed := by as_aux_lemma => kernel_rfl,
  f101 := by as_aux_lemma => kernel_rfl,
  f206 := by as_aux_lemma => kernel_rfl,
  f208 := by as_aux_lemma => kernel_rfl,
  t3 := by as_aux_lemma => kernel_rfl,
  a3 := by as_aux_lemma => exact fun _ => by kernel_rfl,
  z3 := by as_aux_lemma => exact fun _ => by kernel_rfl,
  v3 := by as_aux_lemma => exact fun _ => by kernel_rfl,
  t4 := by as_aux_lemma => kernel_rfl,
  a4 := by as_aux_lemma => exact fun _ => by kernel_rfl,
  z4 := by as_aux_lemma => exact fun _ => by kernel_rfl,
  v4 := by as_aux_lemma => exact fun _ => by kernel_rfl,
  t9 := by as_aux_lemma => kernel_rfl,
  a9 := by as_aux_lemma => exact fun _ => by kernel_rfl,
  z9 := by as_aux_lemma => exact fun _ => by kernel_rfl,
  v9 := by as_aux_lemma => exact fun _ => by kernel_rfl }
theorem lays153 : Lays.n153 Tryz.prog ren := {
  mixed := by as_aux_lemma => kernel_rfl,
  f119 := by as_aux_lemma => kernel_rfl,
  f137 := by as_aux_lemma => kernel_rfl,
  f152 := by as_aux_lemma => kernel_rfl,
  f153 := by as_aux_lemma => kernel_rfl,
  f217 := by as_aux_lemma => kernel_rfl,
  f224 := by as_aux_lemma => kernel_rfl,
  f225 := by as_aux_lemma => kernel_rfl,
  f226 := by as_aux_lemma => kernel_rfl,
  f227 := by as_aux_lemma => kernel_rfl,
  f228 := by as_aux_lemma => kernel_rfl,
  f266 := by as_aux_lemma => kernel_rfl,
  t0 := by as_aux_lemma => kernel_rfl,
  a0 := by as_aux_lemma => exact fun _ => by kernel_rfl,
  z0 := by as_aux_lemma => exact fun _ => by kernel_rfl,
  v0 := by as_aux_lemma => exact fun _ => by kernel_rfl,
  t3 := by as_aux_lemma => kernel_rfl,
  a3 := by as_aux_lemma => exact fun _ => by kernel_rfl,
  z3 := by as_aux_lemma => exact fun _ => by kernel_rfl,
  v3 := by as_aux_lemma => exact fun _ => by kernel_rfl,
  t4 := by as_aux_lemma => kernel_rfl,
  a4 := by as_aux_lemma => exact fun _ => by kernel_rfl,
  z4 := by as_aux_lemma => exact fun _ => by kernel_rfl,
  v4 := by as_aux_lemma => exact fun _ => by kernel_rfl,
  t5 := by as_aux_lemma => kernel_rfl,
  a5 := by as_aux_lemma => exact fun _ => by kernel_rfl,
  z5 := by as_aux_lemma => exact fun _ => by kernel_rfl,
  v5 := by as_aux_lemma => exact fun _ => by kernel_rfl,
  t9 := by as_aux_lemma => kernel_rfl,
  a9 := by as_aux_lemma => exact fun _ => by kernel_rfl,
  z9 := by as_aux_lemma => exact fun _ => by kernel_rfl,
  v9 := by as_aux_lemma => exact fun _ => by kernel_rfl,
  t21 := by as_aux_lemma => kernel_rfl,
  a21 := by as_aux_lemma => exact fun _ => by kernel_rfl,
  z21 := by as_aux_lemma => exact fun _ => by kernel_rfl,
  v21 := by as_aux_lemma => exact fun _ => by kernel_rfl,
  t46 := by as_aux_lemma => kernel_rfl,
  a46 := by as_aux_lemma => exact fun _ => by kernel_rfl,
  z46 := by as_aux_lemma => exact fun _ => by kernel_rfl,
  v46 := by as_aux_lemma => exact fun _ => by kernel_rfl,
  t116 := by as_aux_lemma => kernel_rfl,
  a116 := by as_aux_lemma => exact fun _ => by kernel_rfl,
  z116 := by as_aux_lemma => exact fun _ => by kernel_rfl,
  t117 := by as_aux_lemma => kernel_rfl,
  a117 := by as_aux_lemma => exact fun _ => by kernel_rfl,
  z117 := by as_aux_lemma => exact fun _ => by kernel_rfl,
  v117 := by as_aux_lemma => exact fun _ => by kernel_rfl,
  t124 := by as_aux_lemma => kernel_rfl,
  a124 := by as_aux_lemma => exact fun _ => by kernel_rfl,
  z124 := by as_aux_lemma => exact fun _ => by kernel_rfl,
  v124 := by as_aux_lemma => exact fun _ => by kernel_rfl }
theorem lays161 : Lays.n161 Tryz.prog ren := {
  mixed := by as_aux_lemma => kernel_rfl,
  f119 := by as_aux_lemma => kernel_rfl,
  f137 := by as_aux_lemma => kernel_rfl,
  f151 := by as_aux_lemma => kernel_rfl,
  f152 := by as_aux_lemma => kernel_rfl,
  f161 := by as_aux_lemma => kernel_rfl,
  f197 := by as_aux_lemma => kernel_rfl,
  f217 := by as_aux_lemma => kernel_rfl,
  f224 := by as_aux_lemma => kernel_rfl,
  f225 := by as_aux_lemma => kernel_rfl,
  f227 := by as_aux_lemma => kernel_rfl,
  f228 := by as_aux_lemma => kernel_rfl,
  f231 := by as_aux_lemma => kernel_rfl,
  f233 := by as_aux_lemma => kernel_rfl,
  f235 := by as_aux_lemma => kernel_rfl,
  f260 := by as_aux_lemma => kernel_rfl,
  f266 := by as_aux_lemma => kernel_rfl,
  t0 := by as_aux_lemma => kernel_rfl,
  a0 := by as_aux_lemma => exact fun _ => by kernel_rfl,
  z0 := by as_aux_lemma => exact fun _ => by kernel_rfl,
  v0 := by as_aux_lemma => exact fun _ => by kernel_rfl,
  t3 := by as_aux_lemma => kernel_rfl,
  a3 := by as_aux_lemma => exact fun _ => by kernel_rfl,
  z3 := by as_aux_lemma => exact fun _ => by kernel_rfl,
  v3 := by as_aux_lemma => exact fun _ => by kernel_rfl,
  t4 := by as_aux_lemma => kernel_rfl,
  a4 := by as_aux_lemma => exact fun _ => by kernel_rfl,
  z4 := by as_aux_lemma => exact fun _ => by kernel_rfl,
  v4 := by as_aux_lemma => exact fun _ => by kernel_rfl,
  t5 := by as_aux_lemma => kernel_rfl,
  a5 := by as_aux_lemma => exact fun _ => by kernel_rfl,
  z5 := by as_aux_lemma => exact fun _ => by kernel_rfl,
  v5 := by as_aux_lemma => exact fun _ => by kernel_rfl,
  t9 := by as_aux_lemma => kernel_rfl,
  a9 := by as_aux_lemma => exact fun _ => by kernel_rfl,
  z9 := by as_aux_lemma => exact fun _ => by kernel_rfl,
  v9 := by as_aux_lemma => exact fun _ => by kernel_rfl,
  t21 := by as_aux_lemma => kernel_rfl,
  a21 := by as_aux_lemma => exact fun _ => by kernel_rfl,
  z21 := by as_aux_lemma => exact fun _ => by kernel_rfl,
  v21 := by as_aux_lemma => exact fun _ => by kernel_rfl,
  t46 := by as_aux_lemma => kernel_rfl,
  a46 := by as_aux_lemma => exact fun _ => by kernel_rfl,
  z46 := by as_aux_lemma => exact fun _ => by kernel_rfl,
  v46 := by as_aux_lemma => exact fun _ => by kernel_rfl,
  t105 := by as_aux_lemma => kernel_rfl,
  a105 := by as_aux_lemma => exact fun _ => by kernel_rfl,
  z105 := by as_aux_lemma => exact fun _ => by kernel_rfl,
  v105 := by as_aux_lemma => exact fun _ => by kernel_rfl,
  t116 := by as_aux_lemma => kernel_rfl,
  a116 := by as_aux_lemma => exact fun _ => by kernel_rfl,
  z116 := by as_aux_lemma => exact fun _ => by kernel_rfl,
  t117 := by as_aux_lemma => kernel_rfl,
  a117 := by as_aux_lemma => exact fun _ => by kernel_rfl,
  z117 := by as_aux_lemma => exact fun _ => by kernel_rfl,
  v117 := by as_aux_lemma => exact fun _ => by kernel_rfl,
  t119 := by as_aux_lemma => kernel_rfl,
  a119 := by as_aux_lemma => exact fun _ => by kernel_rfl,
  z119 := by as_aux_lemma => exact fun _ => by kernel_rfl,
  t124 := by as_aux_lemma => kernel_rfl,
  a124 := by as_aux_lemma => exact fun _ => by kernel_rfl,
  z124 := by as_aux_lemma => exact fun _ => by kernel_rfl,
  v124 := by as_aux_lemma => exact fun _ => by kernel_rfl,
  t138 := by as_aux_lemma => kernel_rfl,
  a138 := by as_aux_lemma => exact fun _ => by kernel_rfl,
  z138 := by as_aux_lemma => exact fun _ => by kernel_rfl,
  v138 := by as_aux_lemma => exact fun _ => by kernel_rfl,
  t139 := by as_aux_lemma => kernel_rfl,
  a139 := by as_aux_lemma => exact fun _ => by kernel_rfl,
  z139 := by as_aux_lemma => exact fun _ => by kernel_rfl,
  v139 := by as_aux_lemma => exact fun _ => by kernel_rfl,
  g3 := by as_aux_lemma => kernel_rfl,
  g4 := by as_aux_lemma => kernel_rfl }
theorem lays137 : Lays.n137 Tryz.prog ren := {
  mixed := by as_aux_lemma => kernel_rfl,
  f137 := by as_aux_lemma => kernel_rfl,
  f217 := by as_aux_lemma => kernel_rfl,
  f266 := by as_aux_lemma => kernel_rfl,
  t3 := by as_aux_lemma => kernel_rfl,
  a3 := by as_aux_lemma => exact fun _ => by kernel_rfl,
  z3 := by as_aux_lemma => exact fun _ => by kernel_rfl,
  v3 := by as_aux_lemma => exact fun _ => by kernel_rfl,
  t5 := by as_aux_lemma => kernel_rfl,
  a5 := by as_aux_lemma => exact fun _ => by kernel_rfl,
  z5 := by as_aux_lemma => exact fun _ => by kernel_rfl,
  v5 := by as_aux_lemma => exact fun _ => by kernel_rfl,
  t9 := by as_aux_lemma => kernel_rfl,
  a9 := by as_aux_lemma => exact fun _ => by kernel_rfl,
  z9 := by as_aux_lemma => exact fun _ => by kernel_rfl,
  v9 := by as_aux_lemma => exact fun _ => by kernel_rfl }
theorem lays172 : Lays.n172 Tryz.prog ren := {
  mixed := by as_aux_lemma => kernel_rfl,
  f129 := by as_aux_lemma => kernel_rfl,
  f171 := by as_aux_lemma => kernel_rfl,
  f172 := by as_aux_lemma => kernel_rfl,
  f205 := by as_aux_lemma => kernel_rfl,
  f243 := by as_aux_lemma => kernel_rfl,
  f244 := by as_aux_lemma => kernel_rfl,
  f245 := by as_aux_lemma => kernel_rfl,
  f246 := by as_aux_lemma => kernel_rfl,
  f247 := by as_aux_lemma => kernel_rfl,
  f279 := by as_aux_lemma => kernel_rfl,
  f280 := by as_aux_lemma => kernel_rfl,
  f281 := by as_aux_lemma => kernel_rfl,
  f282 := by as_aux_lemma => kernel_rfl,
  f283 := by as_aux_lemma => kernel_rfl,
  f284 := by as_aux_lemma => kernel_rfl,
  f285 := by as_aux_lemma => kernel_rfl,
  f286 := by as_aux_lemma => kernel_rfl,
  f287 := by as_aux_lemma => kernel_rfl,
  f316 := by as_aux_lemma => kernel_rfl,
  f317 := by as_aux_lemma => kernel_rfl,
  f318 := by as_aux_lemma => kernel_rfl,
  f319 := by as_aux_lemma => kernel_rfl,
  f320 := by as_aux_lemma => kernel_rfl,
  f321 := by as_aux_lemma => kernel_rfl,
  f322 := by as_aux_lemma => kernel_rfl,
  f337 := by as_aux_lemma => kernel_rfl,
  f338 := by as_aux_lemma => kernel_rfl,
  t0 := by as_aux_lemma => kernel_rfl,
  a0 := by as_aux_lemma => exact fun _ => by kernel_rfl,
  z0 := by as_aux_lemma => exact fun _ => by kernel_rfl,
  v0 := by as_aux_lemma => exact fun _ => by kernel_rfl,
  t2 := by as_aux_lemma => kernel_rfl,
  a2 := by as_aux_lemma => exact fun _ => by kernel_rfl,
  z2 := by as_aux_lemma => exact fun _ => by kernel_rfl,
  v2 := by as_aux_lemma => exact fun _ => by kernel_rfl,
  t3 := by as_aux_lemma => kernel_rfl,
  a3 := by as_aux_lemma => exact fun _ => by kernel_rfl,
  z3 := by as_aux_lemma => exact fun _ => by kernel_rfl,
  v3 := by as_aux_lemma => exact fun _ => by kernel_rfl,
  t4 := by as_aux_lemma => kernel_rfl,
  a4 := by as_aux_lemma => exact fun _ => by kernel_rfl,
  z4 := by as_aux_lemma => exact fun _ => by kernel_rfl,
  v4 := by as_aux_lemma => exact fun _ => by kernel_rfl,
  t5 := by as_aux_lemma => kernel_rfl,
  a5 := by as_aux_lemma => exact fun _ => by kernel_rfl,
  z5 := by as_aux_lemma => exact fun _ => by kernel_rfl,
  v5 := by as_aux_lemma => exact fun _ => by kernel_rfl,
  t9 := by as_aux_lemma => kernel_rfl,
  a9 := by as_aux_lemma => exact fun _ => by kernel_rfl,
  z9 := by as_aux_lemma => exact fun _ => by kernel_rfl,
  v9 := by as_aux_lemma => exact fun _ => by kernel_rfl,
  t20 := by as_aux_lemma => kernel_rfl,
  a20 := by as_aux_lemma => exact fun _ => by kernel_rfl,
  z20 := by as_aux_lemma => exact fun _ => by kernel_rfl,
  v20 := by as_aux_lemma => exact fun _ => by kernel_rfl,
  t21 := by as_aux_lemma => kernel_rfl,
  a21 := by as_aux_lemma => exact fun _ => by kernel_rfl,
  z21 := by as_aux_lemma => exact fun _ => by kernel_rfl,
  v21 := by as_aux_lemma => exact fun _ => by kernel_rfl,
  t37 := by as_aux_lemma => kernel_rfl,
  a37 := by as_aux_lemma => exact fun _ => by kernel_rfl,
  z37 := by as_aux_lemma => exact fun _ => by kernel_rfl,
  v37 := by as_aux_lemma => exact fun _ => by kernel_rfl,
  t46 := by as_aux_lemma => kernel_rfl,
  a46 := by as_aux_lemma => exact fun _ => by kernel_rfl,
  z46 := by as_aux_lemma => exact fun _ => by kernel_rfl,
  v46 := by as_aux_lemma => exact fun _ => by kernel_rfl,
  t51 := by as_aux_lemma => kernel_rfl,
  a51 := by as_aux_lemma => exact fun _ => by kernel_rfl,
  z51 := by as_aux_lemma => exact fun _ => by kernel_rfl,
  v51 := by as_aux_lemma => exact fun _ => by kernel_rfl,
  t53 := by as_aux_lemma => kernel_rfl,
  a53 := by as_aux_lemma => exact fun _ => by kernel_rfl,
  z53 := by as_aux_lemma => exact fun _ => by kernel_rfl,
  v53 := by as_aux_lemma => exact fun _ => by kernel_rfl,
  t75 := by as_aux_lemma => kernel_rfl,
  a75 := by as_aux_lemma => exact fun _ => by kernel_rfl,
  z75 := by as_aux_lemma => exact fun _ => by kernel_rfl,
  v75 := by as_aux_lemma => exact fun _ => by kernel_rfl,
  t76 := by as_aux_lemma => kernel_rfl,
  a76 := by as_aux_lemma => exact fun _ => by kernel_rfl,
  z76 := by as_aux_lemma => exact fun _ => by kernel_rfl,
  v76 := by as_aux_lemma => exact fun _ => by kernel_rfl,
  t85 := by as_aux_lemma => kernel_rfl,
  a85 := by as_aux_lemma => exact fun _ => by kernel_rfl,
  z85 := by as_aux_lemma => exact fun _ => by kernel_rfl,
  v85 := by as_aux_lemma => exact fun _ => by kernel_rfl,
  t127 := by as_aux_lemma => kernel_rfl,
  a127 := by as_aux_lemma => exact fun _ => by kernel_rfl,
  z127 := by as_aux_lemma => exact fun _ => by kernel_rfl,
  v127 := by as_aux_lemma => exact fun _ => by kernel_rfl,
  t143 := by as_aux_lemma => kernel_rfl,
  a143 := by as_aux_lemma => exact fun _ => by kernel_rfl,
  z143 := by as_aux_lemma => exact fun _ => by kernel_rfl,
  v143 := by as_aux_lemma => exact fun _ => by kernel_rfl,
  t145 := by as_aux_lemma => kernel_rfl,
  a145 := by as_aux_lemma => exact fun _ => by kernel_rfl,
  z145 := by as_aux_lemma => exact fun _ => by kernel_rfl,
  v145 := by as_aux_lemma => exact fun _ => by kernel_rfl,
  t167 := by as_aux_lemma => kernel_rfl,
  a167 := by as_aux_lemma => exact fun _ => by kernel_rfl,
  z167 := by as_aux_lemma => exact fun _ => by kernel_rfl,
  v167 := by as_aux_lemma => exact fun _ => by kernel_rfl,
  t168 := by as_aux_lemma => kernel_rfl,
  a168 := by as_aux_lemma => exact fun _ => by kernel_rfl,
  z168 := by as_aux_lemma => exact fun _ => by kernel_rfl,
  v168 := by as_aux_lemma => exact fun _ => by kernel_rfl,
  t171 := by as_aux_lemma => kernel_rfl,
  a171 := by as_aux_lemma => exact fun _ => by kernel_rfl,
  z171 := by as_aux_lemma => exact fun _ => by kernel_rfl,
  v171 := by as_aux_lemma => exact fun _ => by kernel_rfl,
  t173 := by as_aux_lemma => kernel_rfl,
  a173 := by as_aux_lemma => exact fun _ => by kernel_rfl,
  z173 := by as_aux_lemma => exact fun _ => by kernel_rfl,
  v173 := by as_aux_lemma => exact fun _ => by kernel_rfl,
  t175 := by as_aux_lemma => kernel_rfl,
  a175 := by as_aux_lemma => exact fun _ => by kernel_rfl,
  z175 := by as_aux_lemma => exact fun _ => by kernel_rfl,
  v175 := by as_aux_lemma => exact fun _ => by kernel_rfl,
  t210 := by as_aux_lemma => kernel_rfl,
  a210 := by as_aux_lemma => exact fun _ => by kernel_rfl,
  z210 := by as_aux_lemma => exact fun _ => by kernel_rfl,
  v210 := by as_aux_lemma => exact fun _ => by kernel_rfl,
  t212 := by as_aux_lemma => kernel_rfl,
  a212 := by as_aux_lemma => exact fun _ => by kernel_rfl,
  z212 := by as_aux_lemma => exact fun _ => by kernel_rfl,
  v212 := by as_aux_lemma => exact fun _ => by kernel_rfl,
  t213 := by as_aux_lemma => kernel_rfl,
  a213 := by as_aux_lemma => exact fun _ => by kernel_rfl,
  z213 := by as_aux_lemma => exact fun _ => by kernel_rfl,
  t232 := by as_aux_lemma => kernel_rfl,
  a232 := by as_aux_lemma => exact fun _ => by kernel_rfl,
  z232 := by as_aux_lemma => exact fun _ => by kernel_rfl,
  v232 := by as_aux_lemma => exact fun _ => by kernel_rfl,
  t233 := by as_aux_lemma => kernel_rfl,
  a233 := by as_aux_lemma => exact fun _ => by kernel_rfl,
  z233 := by as_aux_lemma => exact fun _ => by kernel_rfl,
  v233 := by as_aux_lemma => exact fun _ => by kernel_rfl,
  g15 := by as_aux_lemma => kernel_rfl,
  g16 := by as_aux_lemma => kernel_rfl,
  g17 := by as_aux_lemma => kernel_rfl,
  g18 := by as_aux_lemma => kernel_rfl,
  g19 := by as_aux_lemma => kernel_rfl }
theorem lays171 : LaysM.n171 Tryz.prog ren := {
  mixed := by as_aux_lemma => kernel_rfl,
  f129 := by as_aux_lemma => kernel_rfl,
  f171 := by as_aux_lemma => kernel_rfl,
  f243 := by as_aux_lemma => kernel_rfl,
  f246 := by as_aux_lemma => kernel_rfl,
  f283 := by as_aux_lemma => kernel_rfl,
  f284 := by as_aux_lemma => kernel_rfl,
  f285 := by as_aux_lemma => kernel_rfl,
  f286 := by as_aux_lemma => kernel_rfl,
  f317 := by as_aux_lemma => kernel_rfl,
  f318 := by as_aux_lemma => kernel_rfl,
  f319 := by as_aux_lemma => kernel_rfl,
  f320 := by as_aux_lemma => kernel_rfl,
  f337 := by as_aux_lemma => kernel_rfl,
  f338 := by as_aux_lemma => kernel_rfl,
  t0 := by as_aux_lemma => kernel_rfl,
  a0 := by as_aux_lemma => exact fun _ => by kernel_rfl,
  z0 := by as_aux_lemma => exact fun _ => by kernel_rfl,
  v0 := by as_aux_lemma => exact fun _ => by kernel_rfl,
  t2 := by as_aux_lemma => kernel_rfl,
  a2 := by as_aux_lemma => exact fun _ => by kernel_rfl,
  z2 := by as_aux_lemma => exact fun _ => by kernel_rfl,
  v2 := by as_aux_lemma => exact fun _ => by kernel_rfl,
  t3 := by as_aux_lemma => kernel_rfl,
  a3 := by as_aux_lemma => exact fun _ => by kernel_rfl,
  z3 := by as_aux_lemma => exact fun _ => by kernel_rfl,
  v3 := by as_aux_lemma => exact fun _ => by kernel_rfl,
  t4 := by as_aux_lemma => kernel_rfl,
  a4 := by as_aux_lemma => exact fun _ => by kernel_rfl,
  z4 := by as_aux_lemma => exact fun _ => by kernel_rfl,
  v4 := by as_aux_lemma => exact fun _ => by kernel_rfl,
  t5 := by as_aux_lemma => kernel_rfl,
  a5 := by as_aux_lemma => exact fun _ => by kernel_rfl,
  z5 := by as_aux_lemma => exact fun _ => by kernel_rfl,
  v5 := by as_aux_lemma => exact fun _ => by kernel_rfl,
  t9 := by as_aux_lemma => kernel_rfl,
  a9 := by as_aux_lemma => exact fun _ => by kernel_rfl,
  z9 := by as_aux_lemma => exact fun _ => by kernel_rfl,
  v9 := by as_aux_lemma => exact fun _ => by kernel_rfl,
  t20 := by as_aux_lemma => kernel_rfl,
  a20 := by as_aux_lemma => exact fun _ => by kernel_rfl,
  z20 := by as_aux_lemma => exact fun _ => by kernel_rfl,
  v20 := by as_aux_lemma => exact fun _ => by kernel_rfl,
  t37 := by as_aux_lemma => kernel_rfl,
  a37 := by as_aux_lemma => exact fun _ => by kernel_rfl,
  z37 := by as_aux_lemma => exact fun _ => by kernel_rfl,
  v37 := by as_aux_lemma => exact fun _ => by kernel_rfl,
  t46 := by as_aux_lemma => kernel_rfl,
  a46 := by as_aux_lemma => exact fun _ => by kernel_rfl,
  z46 := by as_aux_lemma => exact fun _ => by kernel_rfl,
  v46 := by as_aux_lemma => exact fun _ => by kernel_rfl,
  t51 := by as_aux_lemma => kernel_rfl,
  a51 := by as_aux_lemma => exact fun _ => by kernel_rfl,
  z51 := by as_aux_lemma => exact fun _ => by kernel_rfl,
  v51 := by as_aux_lemma => exact fun _ => by kernel_rfl,
  t53 := by as_aux_lemma => kernel_rfl,
  a53 := by as_aux_lemma => exact fun _ => by kernel_rfl,
  z53 := by as_aux_lemma => exact fun _ => by kernel_rfl,
  v53 := by as_aux_lemma => exact fun _ => by kernel_rfl,
  t171 := by as_aux_lemma => kernel_rfl,
  a171 := by as_aux_lemma => exact fun _ => by kernel_rfl,
  z171 := by as_aux_lemma => exact fun _ => by kernel_rfl,
  v171 := by as_aux_lemma => exact fun _ => by kernel_rfl,
  t173 := by as_aux_lemma => kernel_rfl,
  a173 := by as_aux_lemma => exact fun _ => by kernel_rfl,
  z173 := by as_aux_lemma => exact fun _ => by kernel_rfl,
  v173 := by as_aux_lemma => exact fun _ => by kernel_rfl,
  t212 := by as_aux_lemma => kernel_rfl,
  a212 := by as_aux_lemma => exact fun _ => by kernel_rfl,
  z212 := by as_aux_lemma => exact fun _ => by kernel_rfl,
  v212 := by as_aux_lemma => exact fun _ => by kernel_rfl,
  t213 := by as_aux_lemma => kernel_rfl,
  a213 := by as_aux_lemma => exact fun _ => by kernel_rfl,
  z213 := by as_aux_lemma => exact fun _ => by kernel_rfl,
  t232 := by as_aux_lemma => kernel_rfl,
  a232 := by as_aux_lemma => exact fun _ => by kernel_rfl,
  z232 := by as_aux_lemma => exact fun _ => by kernel_rfl,
  v232 := by as_aux_lemma => exact fun _ => by kernel_rfl,
  t233 := by as_aux_lemma => kernel_rfl,
  a233 := by as_aux_lemma => exact fun _ => by kernel_rfl,
  z233 := by as_aux_lemma => exact fun _ => by kernel_rfl,
  v233 := by as_aux_lemma => exact fun _ => by kernel_rfl,
  g17 := by as_aux_lemma => kernel_rfl,
  g18 := by as_aux_lemma => kernel_rfl,
  g19 := by as_aux_lemma => kernel_rfl,
  i0 := by as_aux_lemma => kernel_rfl,
  i2 := by as_aux_lemma => kernel_rfl,
  i3 := by as_aux_lemma => kernel_rfl,
  i4 := by as_aux_lemma => kernel_rfl,
  i5 := by as_aux_lemma => kernel_rfl,
  i9 := by as_aux_lemma => kernel_rfl,
  i20 := by as_aux_lemma => kernel_rfl,
  i37 := by as_aux_lemma => kernel_rfl,
  i46 := by as_aux_lemma => kernel_rfl,
  i51 := by as_aux_lemma => kernel_rfl,
  i53 := by as_aux_lemma => kernel_rfl,
  i171 := by as_aux_lemma => kernel_rfl,
  i173 := by as_aux_lemma => kernel_rfl,
  i212 := by as_aux_lemma => kernel_rfl,
  i232 := by as_aux_lemma => kernel_rfl,
  i233 := by as_aux_lemma => kernel_rfl,
  m17 := by as_aux_lemma => kernel_rfl,
  m18 := by as_aux_lemma => kernel_rfl,
  m19 := by as_aux_lemma => kernel_rfl }
theorem lays173 : LaysM.n173 Tryz.prog ren := {
  mixed := by as_aux_lemma => kernel_rfl,
  f129 := by as_aux_lemma => kernel_rfl,
  f173 := by as_aux_lemma => kernel_rfl,
  f246 := by as_aux_lemma => kernel_rfl,
  f283 := by as_aux_lemma => kernel_rfl,
  f284 := by as_aux_lemma => kernel_rfl,
  f285 := by as_aux_lemma => kernel_rfl,
  f286 := by as_aux_lemma => kernel_rfl,
  f317 := by as_aux_lemma => kernel_rfl,
  f318 := by as_aux_lemma => kernel_rfl,
  f319 := by as_aux_lemma => kernel_rfl,
  f320 := by as_aux_lemma => kernel_rfl,
  f337 := by as_aux_lemma => kernel_rfl,
  f338 := by as_aux_lemma => kernel_rfl,
  t0 := by as_aux_lemma => kernel_rfl,
  a0 := by as_aux_lemma => exact fun _ => by kernel_rfl,
  z0 := by as_aux_lemma => exact fun _ => by kernel_rfl,
  v0 := by as_aux_lemma => exact fun _ => by kernel_rfl,
  t2 := by as_aux_lemma => kernel_rfl,
  a2 := by as_aux_lemma => exact fun _ => by kernel_rfl,
  z2 := by as_aux_lemma => exact fun _ => by kernel_rfl,
  v2 := by as_aux_lemma => exact fun _ => by kernel_rfl,
  t3 := by as_aux_lemma => kernel_rfl,
  a3 := by as_aux_lemma => exact fun _ => by kernel_rfl,
  z3 := by as_aux_lemma => exact fun _ => by kernel_rfl,
  v3 := by as_aux_lemma => exact fun _ => by kernel_rfl,
  t4 := by as_aux_lemma => kernel_rfl,
  a4 := by as_aux_lemma => exact fun _ => by kernel_rfl,
  z4 := by as_aux_lemma => exact fun _ => by kernel_rfl,
  v4 := by as_aux_lemma => exact fun _ => by kernel_rfl,
  t5 := by as_aux_lemma => kernel_rfl,
  a5 := by as_aux_lemma => exact fun _ => by kernel_rfl,
  z5 := by as_aux_lemma => exact fun _ => by kernel_rfl,
  v5 := by as_aux_lemma => exact fun _ => by kernel_rfl,
  t9 := by as_aux_lemma => kernel_rfl,
  a9 := by as_aux_lemma => exact fun _ => by kernel_rfl,
  z9 := by as_aux_lemma => exact fun _ => by kernel_rfl,
  v9 := by as_aux_lemma => exact fun _ => by kernel_rfl,
  t20 := by as_aux_lemma => kernel_rfl,
  a20 := by as_aux_lemma => exact fun _ => by kernel_rfl,
  z20 := by as_aux_lemma => exact fun _ => by kernel_rfl,
  v20 := by as_aux_lemma => exact fun _ => by kernel_rfl,
  t37 := by as_aux_lemma => kernel_rfl,
  a37 := by as_aux_lemma => exact fun _ => by kernel_rfl,
  z37 := by as_aux_lemma => exact fun _ => by kernel_rfl,
  v37 := by as_aux_lemma => exact fun _ => by kernel_rfl,
  t46 := by as_aux_lemma => kernel_rfl,
  a46 := by as_aux_lemma => exact fun _ => by kernel_rfl,
  z46 := by as_aux_lemma => exact fun _ => by kernel_rfl,
  v46 := by as_aux_lemma => exact fun _ => by kernel_rfl,
  t51 := by as_aux_lemma => kernel_rfl,
  a51 := by as_aux_lemma => exact fun _ => by kernel_rfl,
  z51 := by as_aux_lemma => exact fun _ => by kernel_rfl,
  v51 := by as_aux_lemma => exact fun _ => by kernel_rfl,
  t53 := by as_aux_lemma => kernel_rfl,
  a53 := by as_aux_lemma => exact fun _ => by kernel_rfl,
  z53 := by as_aux_lemma => exact fun _ => by kernel_rfl,
  v53 := by as_aux_lemma => exact fun _ => by kernel_rfl,
  t171 := by as_aux_lemma => kernel_rfl,
  a171 := by as_aux_lemma => exact fun _ => by kernel_rfl,
  z171 := by as_aux_lemma => exact fun _ => by kernel_rfl,
  v171 := by as_aux_lemma => exact fun _ => by kernel_rfl,
  t173 := by as_aux_lemma => kernel_rfl,
  a173 := by as_aux_lemma => exact fun _ => by kernel_rfl,
  z173 := by as_aux_lemma => exact fun _ => by kernel_rfl,
  v173 := by as_aux_lemma => exact fun _ => by kernel_rfl,
  t212 := by as_aux_lemma => kernel_rfl,
  a212 := by as_aux_lemma => exact fun _ => by kernel_rfl,
  z212 := by as_aux_lemma => exact fun _ => by kernel_rfl,
  v212 := by as_aux_lemma => exact fun _ => by kernel_rfl,
  t213 := by as_aux_lemma => kernel_rfl,
  a213 := by as_aux_lemma => exact fun _ => by kernel_rfl,
  z213 := by as_aux_lemma => exact fun _ => by kernel_rfl,
  t232 := by as_aux_lemma => kernel_rfl,
  a232 := by as_aux_lemma => exact fun _ => by kernel_rfl,
  z232 := by as_aux_lemma => exact fun _ => by kernel_rfl,
  v232 := by as_aux_lemma => exact fun _ => by kernel_rfl,
  t233 := by as_aux_lemma => kernel_rfl,
  a233 := by as_aux_lemma => exact fun _ => by kernel_rfl,
  z233 := by as_aux_lemma => exact fun _ => by kernel_rfl,
  v233 := by as_aux_lemma => exact fun _ => by kernel_rfl,
  g17 := by as_aux_lemma => kernel_rfl,
  g18 := by as_aux_lemma => kernel_rfl,
  g19 := by as_aux_lemma => kernel_rfl,
  i0 := by as_aux_lemma => kernel_rfl,
  i2 := by as_aux_lemma => kernel_rfl,
  i3 := by as_aux_lemma => kernel_rfl,
  i4 := by as_aux_lemma => kernel_rfl,
  i5 := by as_aux_lemma => kernel_rfl,
  i9 := by as_aux_lemma => kernel_rfl,
  i20 := by as_aux_lemma => kernel_rfl,
  i37 := by as_aux_lemma => kernel_rfl,
  i46 := by as_aux_lemma => kernel_rfl,
  i51 := by as_aux_lemma => kernel_rfl,
  i53 := by as_aux_lemma => kernel_rfl,
  i171 := by as_aux_lemma => kernel_rfl,
  i173 := by as_aux_lemma => kernel_rfl,
  i212 := by as_aux_lemma => kernel_rfl,
  i232 := by as_aux_lemma => kernel_rfl,
  i233 := by as_aux_lemma => kernel_rfl,
  m17 := by as_aux_lemma => kernel_rfl,
  m18 := by as_aux_lemma => kernel_rfl,
  m19 := by as_aux_lemma => kernel_rfl }
theorem lays134 : Lays.n134 Tryz.prog ren := {
  mixed := by as_aux_lemma => kernel_rfl,
  f129 := by as_aux_lemma => kernel_rfl,
  f134 := by as_aux_lemma => kernel_rfl,
  t3 := by as_aux_lemma => kernel_rfl,
  a3 := by as_aux_lemma => exact fun _ => by kernel_rfl,
  z3 := by as_aux_lemma => exact fun _ => by kernel_rfl,
  v3 := by as_aux_lemma => exact fun _ => by kernel_rfl,
  t4 := by as_aux_lemma => kernel_rfl,
  a4 := by as_aux_lemma => exact fun _ => by kernel_rfl,
  z4 := by as_aux_lemma => exact fun _ => by kernel_rfl,
  v4 := by as_aux_lemma => exact fun _ => by kernel_rfl,
  t5 := by as_aux_lemma => kernel_rfl,
  a5 := by as_aux_lemma => exact fun _ => by kernel_rfl,
  z5 := by as_aux_lemma => exact fun _ => by kernel_rfl,
  v5 := by as_aux_lemma => exact fun _ => by kernel_rfl,
  t9 := by as_aux_lemma => kernel_rfl,
  a9 := by as_aux_lemma => exact fun _ => by kernel_rfl,
  z9 := by as_aux_lemma => exact fun _ => by kernel_rfl,
  v9 := by as_aux_lemma => exact fun _ => by kernel_rfl,
  t46 := by as_aux_lemma => kernel_rfl,
  a46 := by as_aux_lemma => exact fun _ => by kernel_rfl,
  z46 := by as_aux_lemma => exact fun _ => by kernel_rfl,
  v46 := by as_aux_lemma => exact fun _ => by kernel_rfl,
  t53 := by as_aux_lemma => kernel_rfl,
  a53 := by as_aux_lemma => exact fun _ => by kernel_rfl,
  z53 := by as_aux_lemma => exact fun _ => by kernel_rfl,
  v53 := by as_aux_lemma => exact fun _ => by kernel_rfl }
theorem lays167 : Lays.n167 Tryz.prog ren := {
  mixed := by as_aux_lemma => kernel_rfl,
  f167 := by as_aux_lemma => kernel_rfl,
  f240 := by as_aux_lemma => kernel_rfl,
  f276 := by as_aux_lemma => kernel_rfl,
  t0 := by as_aux_lemma => kernel_rfl,
  a0 := by as_aux_lemma => exact fun _ => by kernel_rfl,
  z0 := by as_aux_lemma => exact fun _ => by kernel_rfl,
  v0 := by as_aux_lemma => exact fun _ => by kernel_rfl,
  t4 := by as_aux_lemma => kernel_rfl,
  a4 := by as_aux_lemma => exact fun _ => by kernel_rfl,
  z4 := by as_aux_lemma => exact fun _ => by kernel_rfl,
  v4 := by as_aux_lemma => exact fun _ => by kernel_rfl,
  t5 := by as_aux_lemma => kernel_rfl,
  a5 := by as_aux_lemma => exact fun _ => by kernel_rfl,
  z5 := by as_aux_lemma => exact fun _ => by kernel_rfl,
  v5 := by as_aux_lemma => exact fun _ => by kernel_rfl,
  t9 := by as_aux_lemma => kernel_rfl,
  a9 := by as_aux_lemma => exact fun _ => by kernel_rfl,
  z9 := by as_aux_lemma => exact fun _ => by kernel_rfl,
  v9 := by as_aux_lemma => exact fun _ => by kernel_rfl,
  t20 := by as_aux_lemma => kernel_rfl,
  a20 := by as_aux_lemma => exact fun _ => by kernel_rfl,
  z20 := by as_aux_lemma => exact fun _ => by kernel_rfl,
  v20 := by as_aux_lemma => exact fun _ => by kernel_rfl,
  t37 := by as_aux_lemma => kernel_rfl,
  a37 := by as_aux_lemma => exact fun _ => by kernel_rfl,
  z37 := by as_aux_lemma => exact fun _ => by kernel_rfl,
  v37 := by as_aux_lemma => exact fun _ => by kernel_rfl,
  t70 := by as_aux_lemma => kernel_rfl,
  a70 := by as_aux_lemma => exact fun _ => by kernel_rfl,
  z70 := by as_aux_lemma => exact fun _ => by kernel_rfl,
  v70 := by as_aux_lemma => exact fun _ => by kernel_rfl,
  t72 := by as_aux_lemma => kernel_rfl,
  a72 := by as_aux_lemma => exact fun _ => by kernel_rfl,
  z72 := by as_aux_lemma => exact fun _ => by kernel_rfl,
  v72 := by as_aux_lemma => exact fun _ => by kernel_rfl,
  t75 := by as_aux_lemma => kernel_rfl,
  a75 := by as_aux_lemma => exact fun _ => by kernel_rfl,
  z75 := by as_aux_lemma => exact fun _ => by kernel_rfl,
  v75 := by as_aux_lemma => exact fun _ => by kernel_rfl,
  t164 := by as_aux_lemma => kernel_rfl,
  a164 := by as_aux_lemma => exact fun _ => by kernel_rfl,
  z164 := by as_aux_lemma => exact fun _ => by kernel_rfl,
  v164 := by as_aux_lemma => exact fun _ => by kernel_rfl }
theorem lays166 : Lays.n166 Tryz.prog ren := {
  mixed := by as_aux_lemma => kernel_rfl,
  f166 := by as_aux_lemma => kernel_rfl,
  f240 := by as_aux_lemma => kernel_rfl,
  f276 := by as_aux_lemma => kernel_rfl,
  t0 := by as_aux_lemma => kernel_rfl,
  a0 := by as_aux_lemma => exact fun _ => by kernel_rfl,
  z0 := by as_aux_lemma => exact fun _ => by kernel_rfl,
  v0 := by as_aux_lemma => exact fun _ => by kernel_rfl,
  t3 := by as_aux_lemma => kernel_rfl,
  a3 := by as_aux_lemma => exact fun _ => by kernel_rfl,
  z3 := by as_aux_lemma => exact fun _ => by kernel_rfl,
  v3 := by as_aux_lemma => exact fun _ => by kernel_rfl,
  t4 := by as_aux_lemma => kernel_rfl,
  a4 := by as_aux_lemma => exact fun _ => by kernel_rfl,
  z4 := by as_aux_lemma => exact fun _ => by kernel_rfl,
  v4 := by as_aux_lemma => exact fun _ => by kernel_rfl,
  t9 := by as_aux_lemma => kernel_rfl,
  a9 := by as_aux_lemma => exact fun _ => by kernel_rfl,
  z9 := by as_aux_lemma => exact fun _ => by kernel_rfl,
  v9 := by as_aux_lemma => exact fun _ => by kernel_rfl,
  t20 := by as_aux_lemma => kernel_rfl,
  a20 := by as_aux_lemma => exact fun _ => by kernel_rfl,
  z20 := by as_aux_lemma => exact fun _ => by kernel_rfl,
  v20 := by as_aux_lemma => exact fun _ => by kernel_rfl,
  t37 := by as_aux_lemma => kernel_rfl,
  a37 := by as_aux_lemma => exact fun _ => by kernel_rfl,
  z37 := by as_aux_lemma => exact fun _ => by kernel_rfl,
  v37 := by as_aux_lemma => exact fun _ => by kernel_rfl,
  t70 := by as_aux_lemma => kernel_rfl,
  a70 := by as_aux_lemma => exact fun _ => by kernel_rfl,
  z70 := by as_aux_lemma => exact fun _ => by kernel_rfl,
  v70 := by as_aux_lemma => exact fun _ => by kernel_rfl,
  t72 := by as_aux_lemma => kernel_rfl,
  a72 := by as_aux_lemma => exact fun _ => by kernel_rfl,
  z72 := by as_aux_lemma => exact fun _ => by kernel_rfl,
  v72 := by as_aux_lemma => exact fun _ => by kernel_rfl,
  t75 := by as_aux_lemma => kernel_rfl,
  a75 := by as_aux_lemma => exact fun _ => by kernel_rfl,
  z75 := by as_aux_lemma => exact fun _ => by kernel_rfl,
  v75 := by as_aux_lemma => exact fun _ => by kernel_rfl,
  t164 := by as_aux_lemma => kernel_rfl,
  a164 := by as_aux_lemma => exact fun _ => by kernel_rfl,
  z164 := by as_aux_lemma => exact fun _ => by kernel_rfl,
  v164 := by as_aux_lemma => exact fun _ => by kernel_rfl }
theorem lays169 : Lays.n169 Tryz.prog ren := {
  mixed := by as_aux_lemma => kernel_rfl,
  f169 := by as_aux_lemma => kernel_rfl,
  t0 := by as_aux_lemma => kernel_rfl,
  a0 := by as_aux_lemma => exact fun _ => by kernel_rfl,
  z0 := by as_aux_lemma => exact fun _ => by kernel_rfl,
  v0 := by as_aux_lemma => exact fun _ => by kernel_rfl,
  t3 := by as_aux_lemma => kernel_rfl,
  a3 := by as_aux_lemma => exact fun _ => by kernel_rfl,
  z3 := by as_aux_lemma => exact fun _ => by kernel_rfl,
  v3 := by as_aux_lemma => exact fun _ => by kernel_rfl,
  t9 := by as_aux_lemma => kernel_rfl,
  a9 := by as_aux_lemma => exact fun _ => by kernel_rfl,
  z9 := by as_aux_lemma => exact fun _ => by kernel_rfl,
  v9 := by as_aux_lemma => exact fun _ => by kernel_rfl,
  t37 := by as_aux_lemma => kernel_rfl,
  a37 := by as_aux_lemma => exact fun _ => by kernel_rfl,
  z37 := by as_aux_lemma => exact fun _ => by kernel_rfl,
  v37 := by as_aux_lemma => exact fun _ => by kernel_rfl,
  t70 := by as_aux_lemma => kernel_rfl,
  a70 := by as_aux_lemma => exact fun _ => by kernel_rfl,
  z70 := by as_aux_lemma => exact fun _ => by kernel_rfl,
  v70 := by as_aux_lemma => exact fun _ => by kernel_rfl,
  t72 := by as_aux_lemma => kernel_rfl,
  a72 := by as_aux_lemma => exact fun _ => by kernel_rfl,
  z72 := by as_aux_lemma => exact fun _ => by kernel_rfl,
  v72 := by as_aux_lemma => exact fun _ => by kernel_rfl,
  t127 := by as_aux_lemma => kernel_rfl,
  a127 := by as_aux_lemma => exact fun _ => by kernel_rfl,
  z127 := by as_aux_lemma => exact fun _ => by kernel_rfl,
  v127 := by as_aux_lemma => exact fun _ => by kernel_rfl }
theorem lays245 : LaysC.n245 Tryz.prog ren := {
  mixed := by as_aux_lemma => kernel_rfl,
  f129 := by as_aux_lemma => kernel_rfl,
  f171 := by as_aux_lemma => kernel_rfl,
  f205 := by as_aux_lemma => kernel_rfl,
  f243 := by as_aux_lemma => kernel_rfl,
  f245 := by as_aux_lemma => kernel_rfl,
  f246 := by as_aux_lemma => kernel_rfl,
  f279 := by as_aux_lemma => kernel_rfl,
  f280 := by as_aux_lemma => kernel_rfl,
  f281 := by as_aux_lemma => kernel_rfl,
  f282 := by as_aux_lemma => kernel_rfl,
  f283 := by as_aux_lemma => kernel_rfl,
  f284 := by as_aux_lemma => kernel_rfl,
  f285 := by as_aux_lemma => kernel_rfl,
  f286 := by as_aux_lemma => kernel_rfl,
  f316 := by as_aux_lemma => kernel_rfl,
  f317 := by as_aux_lemma => kernel_rfl,
  f318 := by as_aux_lemma => kernel_rfl,
  f319 := by as_aux_lemma => kernel_rfl,
  f320 := by as_aux_lemma => kernel_rfl,
  f337 := by as_aux_lemma => kernel_rfl,
  f338 := by as_aux_lemma => kernel_rfl,
  t0 := by as_aux_lemma => kernel_rfl,
  a0 := by as_aux_lemma => exact fun _ => by kernel_rfl,
  z0 := by as_aux_lemma => exact fun _ => by kernel_rfl,
  v0 := by as_aux_lemma => exact fun _ => by kernel_rfl,
  t2 := by as_aux_lemma => kernel_rfl,
  a2 := by as_aux_lemma => exact fun _ => by kernel_rfl,
  z2 := by as_aux_lemma => exact fun _ => by kernel_rfl,
  v2 := by as_aux_lemma => exact fun _ => by kernel_rfl,
  t3 := by as_aux_lemma => kernel_rfl,
  a3 := by as_aux_lemma => exact fun _ => by kernel_rfl,
  z3 := by as_aux_lemma => exact fun _ => by kernel_rfl,
  v3 := by as_aux_lemma => exact fun _ => by kernel_rfl,
  t4 := by as_aux_lemma => kernel_rfl,
  a4 := by as_aux_lemma => exact fun _ => by kernel_rfl,
  z4 := by as_aux_lemma => exact fun _ => by kernel_rfl,
  v4 := by as_aux_lemma => exact fun _ => by kernel_rfl,
  t5 := by as_aux_lemma => kernel_rfl,
  a5 := by as_aux_lemma => exact fun _ => by kernel_rfl,
  z5 := by as_aux_lemma => exact fun _ => by kernel_rfl,
  v5 := by as_aux_lemma => exact fun _ => by kernel_rfl,
  t9 := by as_aux_lemma => kernel_rfl,
  a9 := by as_aux_lemma => exact fun _ => by kernel_rfl,
  z9 := by as_aux_lemma => exact fun _ => by kernel_rfl,
  v9 := by as_aux_lemma => exact fun _ => by kernel_rfl,
  t20 := by as_aux_lemma => kernel_rfl,
  a20 := by as_aux_lemma => exact fun _ => by kernel_rfl,
  z20 := by as_aux_lemma => exact fun _ => by kernel_rfl,
  v20 := by as_aux_lemma => exact fun _ => by kernel_rfl,
  t37 := by as_aux_lemma => kernel_rfl,
  a37 := by as_aux_lemma => exact fun _ => by kernel_rfl,
  z37 := by as_aux_lemma => exact fun _ => by kernel_rfl,
  v37 := by as_aux_lemma => exact fun _ => by kernel_rfl,
  t46 := by as_aux_lemma => kernel_rfl,
  a46 := by as_aux_lemma => exact fun _ => by kernel_rfl,
  z46 := by as_aux_lemma => exact fun _ => by kernel_rfl,
  v46 := by as_aux_lemma => exact fun _ => by kernel_rfl,
  t51 := by as_aux_lemma => kernel_rfl,
  a51 := by as_aux_lemma => exact fun _ => by kernel_rfl,
  z51 := by as_aux_lemma => exact fun _ => by kernel_rfl,
  v51 := by as_aux_lemma => exact fun _ => by kernel_rfl,
  t53 := by as_aux_lemma => kernel_rfl,
  a53 := by as_aux_lemma => exact fun _ => by kernel_rfl,
  z53 := by as_aux_lemma => exact fun _ => by kernel_rfl,
  v53 := by as_aux_lemma => exact fun _ => by kernel_rfl,
  t75 := by as_aux_lemma => kernel_rfl,
  a75 := by as_aux_lemma => exact fun _ => by kernel_rfl,
  z75 := by as_aux_lemma => exact fun _ => by kernel_rfl,
  v75 := by as_aux_lemma => exact fun _ => by kernel_rfl,
  t127 := by as_aux_lemma => kernel_rfl,
  a127 := by as_aux_lemma => exact fun _ => by kernel_rfl,
  z127 := by as_aux_lemma => exact fun _ => by kernel_rfl,
  v127 := by as_aux_lemma => exact fun _ => by kernel_rfl,
  t143 := by as_aux_lemma => kernel_rfl,
  a143 := by as_aux_lemma => exact fun _ => by kernel_rfl,
  z143 := by as_aux_lemma => exact fun _ => by kernel_rfl,
  v143 := by as_aux_lemma => exact fun _ => by kernel_rfl,
  t145 := by as_aux_lemma => kernel_rfl,
  a145 := by as_aux_lemma => exact fun _ => by kernel_rfl,
  z145 := by as_aux_lemma => exact fun _ => by kernel_rfl,
  v145 := by as_aux_lemma => exact fun _ => by kernel_rfl,
  t167 := by as_aux_lemma => kernel_rfl,
  a167 := by as_aux_lemma => exact fun _ => by kernel_rfl,
  z167 := by as_aux_lemma => exact fun _ => by kernel_rfl,
  v167 := by as_aux_lemma => exact fun _ => by kernel_rfl,
  t168 := by as_aux_lemma => kernel_rfl,
  a168 := by as_aux_lemma => exact fun _ => by kernel_rfl,
  z168 := by as_aux_lemma => exact fun _ => by kernel_rfl,
  v168 := by as_aux_lemma => exact fun _ => by kernel_rfl,
  t171 := by as_aux_lemma => kernel_rfl,
  a171 := by as_aux_lemma => exact fun _ => by kernel_rfl,
  z171 := by as_aux_lemma => exact fun _ => by kernel_rfl,
  v171 := by as_aux_lemma => exact fun _ => by kernel_rfl,
  t173 := by as_aux_lemma => kernel_rfl,
  a173 := by as_aux_lemma => exact fun _ => by kernel_rfl,
  z173 := by as_aux_lemma => exact fun _ => by kernel_rfl,
  v173 := by as_aux_lemma => exact fun _ => by kernel_rfl,
  t210 := by as_aux_lemma => kernel_rfl,
  a210 := by as_aux_lemma => exact fun _ => by kernel_rfl,
  z210 := by as_aux_lemma => exact fun _ => by kernel_rfl,
  v210 := by as_aux_lemma => exact fun _ => by kernel_rfl,
  t212 := by as_aux_lemma => kernel_rfl,
  a212 := by as_aux_lemma => exact fun _ => by kernel_rfl,
  z212 := by as_aux_lemma => exact fun _ => by kernel_rfl,
  v212 := by as_aux_lemma => exact fun _ => by kernel_rfl,
  t213 := by as_aux_lemma => kernel_rfl,
  a213 := by as_aux_lemma => exact fun _ => by kernel_rfl,
  z213 := by as_aux_lemma => exact fun _ => by kernel_rfl,
  t232 := by as_aux_lemma => kernel_rfl,
  a232 := by as_aux_lemma => exact fun _ => by kernel_rfl,
  z232 := by as_aux_lemma => exact fun _ => by kernel_rfl,
  v232 := by as_aux_lemma => exact fun _ => by kernel_rfl,
  t233 := by as_aux_lemma => kernel_rfl,
  a233 := by as_aux_lemma => exact fun _ => by kernel_rfl,
  z233 := by as_aux_lemma => exact fun _ => by kernel_rfl,
  v233 := by as_aux_lemma => exact fun _ => by kernel_rfl,
  g15 := by as_aux_lemma => kernel_rfl,
  g16 := by as_aux_lemma => kernel_rfl,
  g17 := by as_aux_lemma => kernel_rfl,
  g18 := by as_aux_lemma => kernel_rfl,
  g19 := by as_aux_lemma => kernel_rfl,
  t80 := by as_aux_lemma => kernel_rfl,
  a80 := by as_aux_lemma => exact fun _ => by kernel_rfl,
  z80 := by as_aux_lemma => exact fun _ => by kernel_rfl,
  v80 := by as_aux_lemma => exact fun _ => by kernel_rfl,
  i0 := by as_aux_lemma => kernel_rfl,
  i2 := by as_aux_lemma => kernel_rfl,
  i3 := by as_aux_lemma => kernel_rfl,
  i4 := by as_aux_lemma => kernel_rfl,
  i5 := by as_aux_lemma => kernel_rfl,
  i9 := by as_aux_lemma => kernel_rfl,
  i20 := by as_aux_lemma => kernel_rfl,
  i37 := by as_aux_lemma => kernel_rfl,
  i46 := by as_aux_lemma => kernel_rfl,
  i51 := by as_aux_lemma => kernel_rfl,
  i53 := by as_aux_lemma => kernel_rfl,
  i75 := by as_aux_lemma => kernel_rfl,
  i80 := by as_aux_lemma => kernel_rfl,
  i127 := by as_aux_lemma => kernel_rfl,
  i143 := by as_aux_lemma => kernel_rfl,
  i145 := by as_aux_lemma => kernel_rfl,
  i167 := by as_aux_lemma => kernel_rfl,
  i168 := by as_aux_lemma => kernel_rfl,
  i171 := by as_aux_lemma => kernel_rfl,
  i173 := by as_aux_lemma => kernel_rfl,
  i210 := by as_aux_lemma => kernel_rfl,
  i212 := by as_aux_lemma => kernel_rfl,
  i232 := by as_aux_lemma => kernel_rfl,
  i233 := by as_aux_lemma => kernel_rfl,
  m15 := by as_aux_lemma => kernel_rfl,
  m16 := by as_aux_lemma => kernel_rfl,
  m17 := by as_aux_lemma => kernel_rfl,
  m18 := by as_aux_lemma => kernel_rfl,
  m19 := by as_aux_lemma => kernel_rfl,
  c0 := by as_aux_lemma => kernel_rfl,
  c2 := by as_aux_lemma => kernel_rfl,
  c3 := by as_aux_lemma => kernel_rfl,
  c4 := by as_aux_lemma => kernel_rfl,
  c5 := by as_aux_lemma => kernel_rfl,
  c9 := by as_aux_lemma => kernel_rfl,
  c20 := by as_aux_lemma => kernel_rfl,
  c37 := by as_aux_lemma => kernel_rfl,
  c46 := by as_aux_lemma => kernel_rfl,
  c51 := by as_aux_lemma => kernel_rfl,
  c53 := by as_aux_lemma => kernel_rfl,
  c75 := by as_aux_lemma => kernel_rfl,
  c80 := by as_aux_lemma => kernel_rfl,
  c127 := by as_aux_lemma => kernel_rfl,
  c143 := by as_aux_lemma => kernel_rfl,
  c145 := by as_aux_lemma => kernel_rfl,
  c167 := by as_aux_lemma => kernel_rfl,
  c168 := by as_aux_lemma => kernel_rfl,
  c171 := by as_aux_lemma => kernel_rfl,
  c173 := by as_aux_lemma => kernel_rfl,
  c210 := by as_aux_lemma => kernel_rfl,
  c212 := by as_aux_lemma => kernel_rfl,
  c213 := by as_aux_lemma => kernel_rfl,
  c232 := by as_aux_lemma => kernel_rfl,
  c233 := by as_aux_lemma => kernel_rfl }
end Go.Proofs.YtbakbikilbaafaaGreatDoor
namespace Go.Proofs.YtbakbikilbaafaaGreatDoor

/-- the last n decimal digits of u, the highest one first -/
def fw : Nat → Nat → List Nat
  | 0, _ => []
  | n + 1, u => fw n (u / 10) ++ [u % 10]
theorem fw_len (n u : Nat) : (fw n u).length = n := by
  induction n generalizing u with
  | zero => rfl
  | succ n ih => simp [fw, ih]
theorem fw_lt (n u : Nat) : ∀ x ∈ fw n u, x < 10 := by
  induction n generalizing u with
  | zero => intro x h; cases h
  | succ n ih =>
    intro x h
    rcases List.mem_append.1 h with h | h
    · exact ih _ x h
    · rw [List.mem_singleton.1 h]; exact Nat.mod_lt _ (by decide)
theorem fw_mod (n u : Nat) : fw n (u % 10 ^ n) = fw n u := by
  induction n generalizing u with
  | zero => rfl
  | succ n ih =>
    have e1 : u % 10 ^ (n + 1) / 10 = u / 10 % 10 ^ n := by
      rw [Nat.pow_succ, Nat.mul_comm, Nat.mod_mul_right_div_self]
    have e2 : u % 10 ^ (n + 1) % 10 = u % 10 := by
      rw [Nat.pow_succ]; exact Nat.mod_mul_left_mod _ _ _
    simp only [fw]
    rw [e1, e2, ih]
theorem fw_add (a b u : Nat) : fw (a + b) u = fw a (u / 10 ^ b) ++ fw b u := by
  induction b generalizing u with
  | zero => simp [fw]
  | succ b ih =>
    rw [← Nat.add_assoc]
    simp only [fw]
    rw [ih, List.append_assoc, Nat.div_div_eq_div_mul, Nat.pow_succ, Nat.mul_comm 10]
theorem fw_one (u : Nat) : fw 1 u = [u % 10] := rfl
theorem fw_two (u : Nat) : fw 2 u = [u / 10 % 10, u % 10] := rfl
theorem fw_zero (n : Nat) : fw n 0 = List.replicate n 0 := by
  induction n with
  | zero => rfl
  | succ n ih => simp only [fw, Nat.zero_div, Nat.zero_mod]; rw [ih, ← List.replicate_succ']
theorem fw_shift (n q i : Nat) : fw (n + q) (i * 10 ^ q) = fw n i ++ List.replicate q 0 := by
  rw [fw_add, Nat.mul_div_cancel _ (Nat.pow_pos (by decide)), ← fw_mod q, Nat.mul_mod_left, fw_zero]
theorem fw_get (n u i : Nat) (h : i < n) : (fw n u)[i]? = some (u / 10 ^ (n - 1 - i) % 10) := by
  induction n generalizing u with
  | zero => omega
  | succ n ih =>
    simp only [fw]
    rcases Nat.lt_or_ge i n with h1 | h1
    · rw [List.getElem?_append_left (by rw [fw_len]; exact h1), ih _ h1, Nat.div_div_eq_div_mul, ← Nat.pow_succ']
      have : (n - 1 - i).succ = n + 1 - 1 - i := by omega
      rw [this]
    · have : i = n := by omega
      subst this
      rw [List.getElem?_append_right (by rw [fw_len]; omega), fw_len]
      simp
/-- u has n digits -/
def IsNd (u n : Nat) : Prop := 1 ≤ n ∧ 10 ^ (n - 1) ≤ u ∧ u < 10 ^ n
theorem IsNd.one {u n m : Nat} (h : IsNd u n) (h' : IsNd u m) : n = m := by
  obtain ⟨h1, h2, h3⟩ := h
  obtain ⟨g1, g2, g3⟩ := h'
  rcases Nat.lt_trichotomy n m with h | h | h
  · exfalso
    have := Nat.pow_le_pow_right (n := 10) (by decide) (show n ≤ m - 1 by omega)
    omega
  · exact h
  · exfalso
    have := Nat.pow_le_pow_right (n := 10) (by decide) (show m ≤ n - 1 by omega)
    omega
theorem IsNd.pos {u n : Nat} (h : IsNd u n) : 0 < u := Nat.lt_of_lt_of_le (Nat.pow_pos (by decide)) h.2.1
theorem IsNd.shift {u n : Nat} (h : IsNd u n) (q : Nat) : IsNd (u * 10 ^ q) (n + q) := by
  obtain ⟨h1, h2, h3⟩ := h
  refine ⟨by omega, ?_, ?_⟩
  · have : n + q - 1 = (n - 1) + q := by omega
    rw [this, Nat.pow_add]
    exact Nat.mul_le_mul_right _ h2
  · rw [Nat.pow_add]
    exact Nat.mul_lt_mul_of_pos_right h3 (Nat.pow_pos (by decide))
theorem IsNd.step {u n : Nat} (h : IsNd (u / 10) n) : IsNd u (n + 1) := by
  obtain ⟨h1, h2, h3⟩ := h
  refine ⟨by omega, ?_, ?_⟩
  · have : n + 1 - 1 = (n - 1) + 1 := by omega
    rw [this, Nat.pow_succ]
    omega
  · rw [Nat.pow_succ]; omega
theorem IsNd.digit {u : Nat} (h : 0 < u) (h1 : u < 10) : IsNd u 1 := ⟨by omega, by simp; omega, by simpa using h1⟩
/-- the trailing noughts of a number's digits: m digits are left, the last one is no nought -/
theorem fw_trim (n u : Nat) (h : 0 < u) (hu : u < 10 ^ n) : ∃ m v, 1 ≤ m ∧ m ≤ n ∧ u = v * 10 ^ (n - m) ∧ v % 10 ≠ 0 ∧ fw n u = fw m v ++ List.replicate (n - m) 0 := by
  induction n generalizing u with
  | zero => simp at hu; omega
  | succ n ih =>
    by_cases hd : u % 10 = 0
    · obtain ⟨m, v, h1, h2, h3, h4, h5⟩ := ih (u / 10) (by omega) (by rw [Nat.pow_succ] at hu; omega)
      refine ⟨m, v, h1, by omega, ?_, h4, ?_⟩
      · have : n + 1 - m = n - m + 1 := by omega
        rw [this, Nat.pow_succ, ← Nat.mul_assoc, ← h3]; omega
      · have e : n + 1 - m = n - m + 1 := by omega
        rw [e, List.replicate_succ', ← List.append_assoc, ← h5, ← hd]; rfl
    · exact ⟨n + 1, u, by omega, Nat.le_refl _, by simp, hd, by simp⟩
end Go.Proofs.YtbakbikilbaafaaGreatDoor
namespace Go.Proofs.YtbakbikilbaafaaGreatDoor

def b2n (b : Bool) : Nat := if b then 1 else 0
def W64 : Nat := 18446744073709551616
theorem W64_eq : W64 = 18446744073709551616 := rfl
/-- what uscale answers -/
def usc (x ph pl s : Nat) : Nat :=
  if x * ph / W64 / 2 ^ s * 2 ^ s ≠ x * ph / W64 then x * ph / W64 / 2 ^ s ||| 1
  else ((x * ph / W64 + W64 - b2n (decide (x * ph % W64 < x * pl / W64))) % W64) / 2 ^ s ||| b2n (decide (1 < (x * ph % W64 + W64 - x * pl / W64) % W64))
theorem or_one (q : Nat) : q ||| 1 = q / 2 * 2 + 1 := by
  apply Nat.eq_of_testBit_eq
  intro i
  cases i with
  | zero => simp [Nat.testBit_zero]
  | succ j =>
    rw [Nat.testBit_or, Nat.testBit_succ, Nat.testBit_succ, Nat.testBit_succ]
    have : (q / 2 * 2 + 1) / 2 = q / 2 := by omega
    rw [this]; simp
theorem or_b2n (q : Nat) (b : Bool) : q ||| b2n b = if b then q / 2 * 2 + 1 else q := by
  cases b
  · simp [b2n]
  · simp [b2n, or_one]
theorem usc_exact (x ph s : Nat) (hx : x < W64) (hp : ph < W64) (hm : x * ph % W64 ≠ 1) :
    usc x ph 0 s = if x * ph % (W64 * 2 ^ s) = 0 then x * ph / (W64 * 2 ^ s) else x * ph / (W64 * 2 ^ s) / 2 * 2 + 1 := by
  have hhi : x * ph / W64 < W64 := by
    apply Nat.div_lt_of_lt_mul
    exact Nat.mul_lt_mul'' hx hp
  have e1 : x * ph / (W64 * 2 ^ s) = x * ph / W64 / 2 ^ s := (Nat.div_div_eq_div_mul _ _ _).symm
  have e2 : x * ph % (W64 * 2 ^ s) = x * ph % W64 + W64 * (x * ph / W64 % 2 ^ s) := Nat.mod_mul
  have e3 : x * 0 / W64 = 0 := by simp
  unfold usc
  rw [e1, e2, e3]
  have hmid : x * ph % W64 < W64 := Nat.mod_lt _ (by decide)
  generalize x * ph % W64 = mid at *
  generalize x * ph / W64 = hi at *
  have hW : W64 = 18446744073709551616 := rfl
  have hd := Nat.div_add_mod hi (2 ^ s)
  rw [Nat.mul_comm] at hd
  by_cases h0 : hi % 2 ^ s = 0
  · rw [h0] at hd ⊢
    simp only [Nat.add_zero] at hd
    rw [if_neg (by omega), or_b2n]
    have f1 : decide (mid < 0) = false := by simp
    rw [f1]
    have f2 : (hi + W64 - b2n false) % W64 = hi := by
      have : b2n false = 0 := rfl
      rw [this, Nat.sub_zero, Nat.add_mod_right, Nat.mod_eq_of_lt hhi]
    have f3 : (mid + W64 - 0) % W64 = mid := by rw [Nat.sub_zero, Nat.add_mod_right, Nat.mod_eq_of_lt hmid]
    rw [f2, f3]
    by_cases h1 : mid = 0
    · subst h1; simp
    · rw [if_pos (by simp; omega), if_neg (by simp; omega)]
  · rw [if_pos (by omega), or_one, if_neg]
    intro h
    have : W64 * (hi % 2 ^ s) = 0 := by omega
    rcases Nat.mul_eq_zero.1 this with h | h
    · rw [hW] at h; omega
    · exact h0 h
theorem usc_lt (x ph s : Nat) (hx : x < W64) (hp : ph < W64) (hm : x * ph % W64 ≠ 1) (hs : 2 ≤ s) : usc x ph 0 s < 9223372036854775808 := by
  rw [usc_exact x ph s hx hp hm]
  have hd : x * ph / (W64 * 2 ^ s) ≤ 4611686018427387904 := by
    rw [← Nat.div_div_eq_div_mul]
    have h1 : x * ph / W64 < W64 := Nat.div_lt_of_lt_mul (Nat.mul_lt_mul'' hx hp)
    have h2 : x * ph / W64 / 2 ^ s ≤ x * ph / W64 / 2 ^ 2 := Nat.div_le_div_left (Nat.pow_le_pow_right (by decide) hs) (by decide)
    rw [W64_eq] at h1 h2 ⊢
    omega
  split <;> omega
theorem usc_floor (x ph s : Nat) (hx : x < W64) (hp : ph < W64) (hm : x * ph % W64 ≠ 1) : usc x ph 0 s / 4 = x * ph / (W64 * 2 ^ s * 4) := by
  rw [usc_exact x ph s hx hp hm, ← Nat.div_div_eq_div_mul (x * ph) (W64 * 2 ^ s) 4]
  generalize x * ph / (W64 * 2 ^ s) = q
  split <;> omega
theorem usc_ceil (x ph s v : Nat) (hx : x < W64) (hp : ph < W64) (hm : x * ph % W64 ≠ 1) (h : x * ph ≤ v * (W64 * 2 ^ s * 4)) : (usc x ph 0 s + 3) / 4 ≤ v := by
  rw [usc_exact x ph s hx hp hm]
  have hD : 0 < W64 * 2 ^ s := Nat.mul_pos (by decide) (Nat.two_pow_pos _)
  generalize W64 * 2 ^ s = D at *
  have h' : x * ph ≤ 4 * v * D := by rw [show 4 * v * D = v * (D * 4) by rw [Nat.mul_comm D 4, ← Nat.mul_assoc, Nat.mul_comm v 4]]; exact h
  generalize x * ph = X at *
  have hq : X / D ≤ 4 * v := by
    have := Nat.div_le_div_right (c := D) h'
    rwa [Nat.mul_div_cancel _ hD] at this
  have hd := Nat.div_add_mod X D
  split
  · omega
  · rename_i hne
    have : X / D ≠ 4 * v := by
      intro e
      rw [e, Nat.mul_comm] at hd
      omega
    omega
/-- floors of logarithms, as the library reckons them -/
def l10 (x : Int) : Int := x * 78913 / 262144
def l2 (x : Int) : Int := x * 108853 / 32768
def skw (x : Int) : Int := (x * 631305 - 261663) / 2097152
def pOf (b : Bool) (k : Nat) : Nat := (if b then -(skw ((k : Int) - 53)) else -(l10 ((k : Int) - 53))).toNat
def kFacts (b : Bool) (k : Nat) : Bool :=
  let p := pOf b k
  let lp := (l2 p).toNat
  decide ((if b then -(skw ((k : Int) - 53)) else -(l10 ((k : Int) - 53))) = (p : Int)) && decide (l2 p = (lp : Int)) && decide (7 ≤ p) && decide (p ≤ 17) && decide (k + lp ≤ 59) && decide (lp ≤ 57) && decide (10 ^ p < 10 * 2 ^ (54 - k)) && decide (10 ^ p * 2 ^ (63 - lp) < 18446744073709551616)
theorem kFacts_all : ∀ b : Bool, ∀ k : Nat, k < 33 → 1 ≤ k → kFacts b k = true := by decide +kernel
/-- the scaled number's digits: i times 10 to a power below -/
theorem short_plain (i k p lp s ph mn mx : Nat) (hk : 1 ≤ k) (hk2 : k ≤ 32) (hp : 7 ≤ p) (hlp : k + lp ≤ 59) (hlp2 : lp ≤ 57) (h10 : 10 ^ p < 10 * 2 ^ (54 - k)) (hph : ph = 10 ^ p * 2 ^ (63 - lp)) (hph2 : ph < W64)
    (hs : s = 61 - k - lp) (hmx : mx = i * 2 ^ (64 - k) + 1024) (hmn : mn = i * 2 ^ (64 - k) - 1024 ∨ mn = i * 2 ^ (64 - k) - 512) (hmxw : mx < W64) :
    usc mx ph 0 s / 4 / 10 = i * 10 ^ (p - 1) ∧ (usc mn ph 0 s + 3) / 4 ≤ i * 10 ^ (p - 1) * 10 ∧ usc mx ph 0 s < 9223372036854775808 ∧ usc mn ph 0 s < 9223372036854775808 := by
  have hm : i * 2 ^ (64 - k) < W64 := by omega
  have hD : W64 * 2 ^ s * 4 = 2 ^ (66 + s) := by
    show 2 ^ 64 * 2 ^ s * 2 ^ 2 = _
    rw [← Nat.pow_add, ← Nat.pow_add]
    have : 64 + s + 2 = 66 + s := by omega
    rw [this]
  have hv : i * 10 ^ (p - 1) * 10 = i * 10 ^ p := by
    rw [Nat.mul_assoc, ← Nat.pow_succ]
    have : (p - 1).succ = p := by omega
    rw [this]
  have hmph : i * 2 ^ (64 - k) * ph = i * 10 ^ p * 2 ^ (66 + s) := by
    rw [hph, show i * 2 ^ (64 - k) * (10 ^ p * 2 ^ (63 - lp)) = i * 10 ^ p * (2 ^ (64 - k) * 2 ^ (63 - lp)) by ac_rfl, ← Nat.pow_add]
    have : 64 - k + (63 - lp) = 66 + s := by omega
    rw [this]
  have hev : ∀ x, x * ph % W64 ≠ 1 := by
    intro x h
    have e : x * ph = x * 10 ^ p * 2 ^ (62 - lp) * 2 := by
      rw [hph]
      have : 63 - lp = 62 - lp + 1 := by omega
      rw [this, Nat.pow_succ]; ac_rfl
    rw [e] at h
    generalize x * 10 ^ p * 2 ^ (62 - lp) = z at h
    rw [W64_eq] at h
    omega
  have hext : 1024 * ph < 10 * 2 ^ (66 + s) := by
    rw [hph]
    have e1 : 1024 * (10 ^ p * 2 ^ (63 - lp)) = 10 ^ p * 2 ^ (73 - lp) := by
      rw [show (1024 : Nat) = 2 ^ 10 from rfl, show 2 ^ 10 * (10 ^ p * 2 ^ (63 - lp)) = 10 ^ p * (2 ^ 10 * 2 ^ (63 - lp)) by ac_rfl, ← Nat.pow_add]
      have : 10 + (63 - lp) = 73 - lp := by omega
      rw [this]
    have e2 : 10 * 2 ^ (66 + s) = 10 * 2 ^ (54 - k) * 2 ^ (73 - lp) := by
      rw [Nat.mul_assoc, ← Nat.pow_add]
      have : 54 - k + (73 - lp) = 66 + s := by omega
      rw [this]
    rw [e1, e2]
    exact Nat.mul_lt_mul_of_pos_right h10 (Nat.two_pow_pos (73 - lp))
  refine ⟨?_, ?_, usc_lt mx ph s hmxw hph2 (hev _) (by omega), usc_lt mn ph s (by rcases hmn with h | h <;> omega) hph2 (hev _) (by omega)⟩
  · rw [usc_floor mx ph s hmxw hph2 (hev _), hD, hmx, Nat.add_mul, hmph, Nat.mul_comm (i * 10 ^ p), Nat.mul_add_div (Nat.two_pow_pos _), ← hv]
    generalize i * 10 ^ (p - 1) = z
    have : 1024 * ph / 2 ^ (66 + s) < 10 := Nat.div_lt_of_lt_mul (by rw [Nat.mul_comm (2 ^ (66 + s))]; exact hext)
    generalize 1024 * ph / 2 ^ (66 + s) = o at this ⊢
    omega
  · apply usc_ceil mn ph s _ (by rcases hmn with h | h <;> omega) hph2 (hev _)
    rw [hD, hv, ← hmph]
    exact Nat.mul_le_mul_right _ (by rcases hmn with h | h <;> omega)
end Go.Proofs.YtbakbikilbaafaaGreatDoor
