/-
  Contracts: The library's contracts that lie in the shelf, laid over this program (printed by layshelf.py). Contracts of the library's functions, out of the shelf; ParseFloat above atof64. Plain: the text of a number, in the standard's form; the library's functions on texts at it.
-/
import Derived.Test.YtbakbikilbaafaaGreatDoorChecked
import Derived.Shelf.Strings.Cut
import Derived.Shelf.Strings.Replace
import Derived.Shelf.Strings.Repeat
import Derived.Shelf.Strings.Prefix
import Derived.Shelf.Strings.Trim
import Derived.Shelf.Strings.IndexAnyAll
import Derived.Shelf.Strings.Builder1
import Derived.Shelf.Strconv.Itoa3
import Derived.Shelf.Strconv.Itoa4
import Derived.Shelf.Strconv.Atoi
import Derived.Shelf.Strconv.ToErrorRange
import Derived.Shelf.Small.Bits
import Derived.Shelf.Small.Strs
import Derived.Test.YtbakbikilbaafaaGreatDoorS8
import Derived.WalkLawsBesides
import Derived.Lib.AppendIntMem
import Derived.Lib.IndexBytes
import Derived.Lib.ReplaceLaws
namespace Go.Proofs.YtbakbikilbaafaaGreatDoor
open Go.RowKit Go.Shelf
set_option linter.unusedVariables false
set_option maxHeartbeats 1000000
set_option maxRecDepth 100000

def ren : Ren := { f := fun n => bif Nat.beq n 99 then 100 else bif Nat.beq n 101 then 78 else bif Nat.beq n 105 then 65 else bif Nat.beq n 119 then 149 else bif Nat.beq n 129 then 146 else bif Nat.beq n 134 then 109 else bif Nat.beq n 137 then 72 else bif Nat.beq n 138 then 94 else bif Nat.beq n 143 then 96 else bif Nat.beq n 145 then 61 else bif Nat.beq n 151 then 152 else bif Nat.beq n 152 then 113 else bif Nat.beq n 153 then 79 else bif Nat.beq n 154 then 63 else bif Nat.beq n 161 then 80 else bif Nat.beq n 165 then 95 else bif Nat.beq n 166 then 90 else bif Nat.beq n 167 then 70 else bif Nat.beq n 169 then 71 else bif Nat.beq n 170 then 101 else bif Nat.beq n 171 then 66 else bif Nat.beq n 172 then 64 else bif Nat.beq n 173 then 59 else bif Nat.beq n 195 then 133 else bif Nat.beq n 197 then 89 else bif Nat.beq n 205 then 173 else bif Nat.beq n 206 then 142 else bif Nat.beq n 208 then 112 else bif Nat.beq n 212 then 99 else bif Nat.beq n 217 then 105 else bif Nat.beq n 218 then 134 else bif Nat.beq n 219 then 130 else bif Nat.beq n 220 then 92 else bif Nat.beq n 224 then 150 else bif Nat.beq n 225 then 151 else bif Nat.beq n 226 then 114 else bif Nat.beq n 227 then 115 else bif Nat.beq n 228 then 116 else bif Nat.beq n 231 then 117 else bif Nat.beq n 233 then 118 else bif Nat.beq n 235 then 119 else bif Nat.beq n 240 then 104 else bif Nat.beq n 241 then 135 else bif Nat.beq n 243 then 102 else bif Nat.beq n 244 then 97 else bif Nat.beq n 245 then 98 else bif Nat.beq n 246 then 88 else bif Nat.beq n 247 then 136 else bif Nat.beq n 260 then 128 else bif Nat.beq n 263 then 141 else bif Nat.beq n 264 then 107 else bif Nat.beq n 266 then 144 else bif Nat.beq n 267 then 157 else bif Nat.beq n 276 then 143 else bif Nat.beq n 277 then 170 else bif Nat.beq n 279 then 137 else bif Nat.beq n 280 then 138 else bif Nat.beq n 281 then 139 else bif Nat.beq n 282 then 140 else bif Nat.beq n 283 then 124 else bif Nat.beq n 284 then 125 else bif Nat.beq n 285 then 126 else bif Nat.beq n 286 then 127 else bif Nat.beq n 287 then 171 else bif Nat.beq n 314 then 180 else bif Nat.beq n 316 then 172 else bif Nat.beq n 317 then 153 else bif Nat.beq n 318 then 154 else bif Nat.beq n 319 then 155 else bif Nat.beq n 320 then 156 else bif Nat.beq n 321 then 183 else bif Nat.beq n 322 then 200 else bif Nat.beq n 337 then 178 else bif Nat.beq n 338 then 179 else 0, t := fun n => bif Nat.beq n 0 then 0 else bif Nat.beq n 2 then 2 else bif Nat.beq n 3 then 3 else bif Nat.beq n 4 then 4 else bif Nat.beq n 5 then 5 else bif Nat.beq n 9 then 9 else bif Nat.beq n 20 then 20 else bif Nat.beq n 21 then 21 else bif Nat.beq n 37 then 90 else bif Nat.beq n 46 then 89 else bif Nat.beq n 51 then 110 else bif Nat.beq n 53 then 102 else bif Nat.beq n 59 then 78 else bif Nat.beq n 70 then 91 else bif Nat.beq n 72 then 93 else bif Nat.beq n 75 then 83 else bif Nat.beq n 76 then 84 else bif Nat.beq n 80 then 95 else bif Nat.beq n 85 then 146 else bif Nat.beq n 105 then 106 else bif Nat.beq n 109 then 116 else bif Nat.beq n 116 then 130 else bif Nat.beq n 117 then 131 else bif Nat.beq n 119 then 164 else bif Nat.beq n 124 then 135 else bif Nat.beq n 127 then 120 else bif Nat.beq n 138 then 166 else bif Nat.beq n 139 then 167 else bif Nat.beq n 143 then 212 else bif Nat.beq n 145 then 214 else bif Nat.beq n 146 then 151 else bif Nat.beq n 148 then 122 else bif Nat.beq n 164 then 153 else bif Nat.beq n 167 then 145 else bif Nat.beq n 168 then 148 else bif Nat.beq n 171 then 137 else bif Nat.beq n 173 then 139 else bif Nat.beq n 175 then 184 else bif Nat.beq n 210 then 188 else bif Nat.beq n 212 then 161 else bif Nat.beq n 213 then 162 else bif Nat.beq n 232 then 172 else bif Nat.beq n 233 then 235 else 0, g := fun n => bif Nat.beq n 1 then 4 else bif Nat.beq n 3 then 2 else bif Nat.beq n 4 then 3 else bif Nat.beq n 15 then 6 else bif Nat.beq n 16 then 7 else bif Nat.beq n 17 then 1 else bif Nat.beq n 18 then 10 else bif Nat.beq n 19 then 11 else 0 }
theorem bextra : Builder.Extra Tryz.prog ren := {
  sizeBuilder := by as_aux_lemma => kernel_rfl,
  liesBuilder := by as_aux_lemma => kernel_rfl,
  t5 := by as_aux_lemma => kernel_rfl,
  a5 := by as_aux_lemma => exact fun _ => by kernel_rfl,
  z5 := by as_aux_lemma => exact fun _ => by kernel_rfl,
  v5 := by as_aux_lemma => exact fun _ => by kernel_rfl,
  infoByte := by as_aux_lemma => kernel_rfl,
  cellsByte := by as_aux_lemma => kernel_rfl,
  sizeByte := by as_aux_lemma => kernel_rfl,
  neB5 := by decide }
theorem lays145 : Lays.n145 Tryz.prog ren := {
  mixed := by as_aux_lemma => kernel_rfl,
  f145 := by as_aux_lemma => kernel_rfl,
  f217 := by as_aux_lemma => kernel_rfl,
  f219 := by as_aux_lemma => kernel_rfl,
  f220 := by as_aux_lemma => kernel_rfl,
  f224 := by as_aux_lemma => kernel_rfl,
  f225 := by as_aux_lemma => kernel_rfl,
  f266 := by as_aux_lemma => kernel_rfl,
  f267 := by as_aux_lemma => kernel_rfl,
  f314 := by as_aux_lemma => kernel_rfl,
  t3 := by as_aux_lemma => kernel_rfl,
  a3 := by as_aux_lemma => exact fun _ => by kernel_rfl,
  z3 := by as_aux_lemma => exact fun _ => by kernel_rfl,
  v3 := by as_aux_lemma => exact fun _ => by kernel_rfl,
  t4 := by as_aux_lemma => kernel_rfl,
  a4 := by as_aux_lemma => exact fun _ => by kernel_rfl,
  z4 := by as_aux_lemma => exact fun _ => by kernel_rfl,
  v4 := by as_aux_lemma => exact fun _ => by kernel_rfl,
  t5 := by as_aux_lemma => kernel_rfl,
  a5 := by as_aux_lemma => exact fun _ => by kernel_rfl,
  z5 := by as_aux_lemma => exact fun _ => by kernel_rfl,
  v5 := by as_aux_lemma => exact fun _ => by kernel_rfl,
  t9 := by as_aux_lemma => kernel_rfl,
  a9 := by as_aux_lemma => exact fun _ => by kernel_rfl,
  z9 := by as_aux_lemma => exact fun _ => by kernel_rfl,
  v9 := by as_aux_lemma => exact fun _ => by kernel_rfl,
  t46 := by as_aux_lemma => kernel_rfl,
  a46 := by as_aux_lemma => exact fun _ => by kernel_rfl,
  z46 := by as_aux_lemma => exact fun _ => by kernel_rfl,
  v46 := by as_aux_lemma => exact fun _ => by kernel_rfl,
  t51 := by as_aux_lemma => kernel_rfl,
  a51 := by as_aux_lemma => exact fun _ => by kernel_rfl,
  z51 := by as_aux_lemma => exact fun _ => by kernel_rfl,
  v51 := by as_aux_lemma => exact fun _ => by kernel_rfl,
  t59 := by as_aux_lemma => kernel_rfl,
  a59 := by as_aux_lemma => exact fun _ => by kernel_rfl,
  z59 := by as_aux_lemma => exact fun _ => by kernel_rfl,
  v59 := by as_aux_lemma => exact fun _ => by kernel_rfl,
  t146 := by as_aux_lemma => kernel_rfl,
  a146 := by as_aux_lemma => exact fun _ => by kernel_rfl,
  z146 := by as_aux_lemma => exact fun _ => by kernel_rfl,
  v146 := by as_aux_lemma => exact fun _ => by kernel_rfl,
  g1 := by as_aux_lemma => kernel_rfl }
theorem lays154 : Lays.n154 Tryz.prog ren := {
  mixed := by as_aux_lemma => kernel_rfl,
  f138 := by as_aux_lemma => kernel_rfl,
  f143 := by as_aux_lemma => kernel_rfl,
  f154 := by as_aux_lemma => kernel_rfl,
  f165 := by as_aux_lemma => kernel_rfl,
  f166 := by as_aux_lemma => kernel_rfl,
  f169 := by as_aux_lemma => kernel_rfl,
  f195 := by as_aux_lemma => kernel_rfl,
  f197 := by as_aux_lemma => kernel_rfl,
  f217 := by as_aux_lemma => kernel_rfl,
  f218 := by as_aux_lemma => kernel_rfl,
  f219 := by as_aux_lemma => kernel_rfl,
  f224 := by as_aux_lemma => kernel_rfl,
  f225 := by as_aux_lemma => kernel_rfl,
  f240 := by as_aux_lemma => kernel_rfl,
  f241 := by as_aux_lemma => kernel_rfl,
  f260 := by as_aux_lemma => kernel_rfl,
  f266 := by as_aux_lemma => kernel_rfl,
  f267 := by as_aux_lemma => kernel_rfl,
  f276 := by as_aux_lemma => kernel_rfl,
  f277 := by as_aux_lemma => kernel_rfl,
  f314 := by as_aux_lemma => kernel_rfl,
  t0 := by as_aux_lemma => kernel_rfl,
  a0 := by as_aux_lemma => exact fun _ => by kernel_rfl,
  z0 := by as_aux_lemma => exact fun _ => by kernel_rfl,
  v0 := by as_aux_lemma => exact fun _ => by kernel_rfl,
  t3 := by as_aux_lemma => kernel_rfl,
  a3 := by as_aux_lemma => exact fun _ => by kernel_rfl,
  z3 := by as_aux_lemma => exact fun _ => by kernel_rfl,
  v3 := by as_aux_lemma => exact fun _ => by kernel_rfl,
  t4 := by as_aux_lemma => kernel_rfl,
  a4 := by as_aux_lemma => exact fun _ => by kernel_rfl,
  z4 := by as_aux_lemma => exact fun _ => by kernel_rfl,
  v4 := by as_aux_lemma => exact fun _ => by kernel_rfl,
  t5 := by as_aux_lemma => kernel_rfl,
  a5 := by as_aux_lemma => exact fun _ => by kernel_rfl,
  z5 := by as_aux_lemma => exact fun _ => by kernel_rfl,
  v5 := by as_aux_lemma => exact fun _ => by kernel_rfl,
  t9 := by as_aux_lemma => kernel_rfl,
  a9 := by as_aux_lemma => exact fun _ => by kernel_rfl,
  z9 := by as_aux_lemma => exact fun _ => by kernel_rfl,
  v9 := by as_aux_lemma => exact fun _ => by kernel_rfl,
  t20 := by as_aux_lemma => kernel_rfl,
  a20 := by as_aux_lemma => exact fun _ => by kernel_rfl,
  z20 := by as_aux_lemma => exact fun _ => by kernel_rfl,
  v20 := by as_aux_lemma => exact fun _ => by kernel_rfl,
  t21 := by as_aux_lemma => kernel_rfl,
  a21 := by as_aux_lemma => exact fun _ => by kernel_rfl,
  z21 := by as_aux_lemma => exact fun _ => by kernel_rfl,
  v21 := by as_aux_lemma => exact fun _ => by kernel_rfl,
  t37 := by as_aux_lemma => kernel_rfl,
  a37 := by as_aux_lemma => exact fun _ => by kernel_rfl,
  z37 := by as_aux_lemma => exact fun _ => by kernel_rfl,
  v37 := by as_aux_lemma => exact fun _ => by kernel_rfl,
  t46 := by as_aux_lemma => kernel_rfl,
  a46 := by as_aux_lemma => exact fun _ => by kernel_rfl,
  z46 := by as_aux_lemma => exact fun _ => by kernel_rfl,
  v46 := by as_aux_lemma => exact fun _ => by kernel_rfl,
  t51 := by as_aux_lemma => kernel_rfl,
  a51 := by as_aux_lemma => exact fun _ => by kernel_rfl,
  z51 := by as_aux_lemma => exact fun _ => by kernel_rfl,
  v51 := by as_aux_lemma => exact fun _ => by kernel_rfl,
  t70 := by as_aux_lemma => kernel_rfl,
  a70 := by as_aux_lemma => exact fun _ => by kernel_rfl,
  z70 := by as_aux_lemma => exact fun _ => by kernel_rfl,
  v70 := by as_aux_lemma => exact fun _ => by kernel_rfl,
  t72 := by as_aux_lemma => kernel_rfl,
  a72 := by as_aux_lemma => exact fun _ => by kernel_rfl,
  z72 := by as_aux_lemma => exact fun _ => by kernel_rfl,
  v72 := by as_aux_lemma => exact fun _ => by kernel_rfl,
  t75 := by as_aux_lemma => kernel_rfl,
  a75 := by as_aux_lemma => exact fun _ => by kernel_rfl,
  z75 := by as_aux_lemma => exact fun _ => by kernel_rfl,
  v75 := by as_aux_lemma => exact fun _ => by kernel_rfl,
  t76 := by as_aux_lemma => kernel_rfl,
  a76 := by as_aux_lemma => exact fun _ => by kernel_rfl,
  z76 := by as_aux_lemma => exact fun _ => by kernel_rfl,
  v76 := by as_aux_lemma => exact fun _ => by kernel_rfl,
  t105 := by as_aux_lemma => kernel_rfl,
  a105 := by as_aux_lemma => exact fun _ => by kernel_rfl,
  z105 := by as_aux_lemma => exact fun _ => by kernel_rfl,
  v105 := by as_aux_lemma => exact fun _ => by kernel_rfl,
  t119 := by as_aux_lemma => kernel_rfl,
  a119 := by as_aux_lemma => exact fun _ => by kernel_rfl,
  z119 := by as_aux_lemma => exact fun _ => by kernel_rfl,
  t127 := by as_aux_lemma => kernel_rfl,
  a127 := by as_aux_lemma => exact fun _ => by kernel_rfl,
  z127 := by as_aux_lemma => exact fun _ => by kernel_rfl,
  v127 := by as_aux_lemma => exact fun _ => by kernel_rfl,
  t138 := by as_aux_lemma => kernel_rfl,
  a138 := by as_aux_lemma => exact fun _ => by kernel_rfl,
  z138 := by as_aux_lemma => exact fun _ => by kernel_rfl,
  v138 := by as_aux_lemma => exact fun _ => by kernel_rfl,
  t139 := by as_aux_lemma => kernel_rfl,
  a139 := by as_aux_lemma => exact fun _ => by kernel_rfl,
  z139 := by as_aux_lemma => exact fun _ => by kernel_rfl,
  v139 := by as_aux_lemma => exact fun _ => by kernel_rfl,
  t146 := by as_aux_lemma => kernel_rfl,
  a146 := by as_aux_lemma => exact fun _ => by kernel_rfl,
  z146 := by as_aux_lemma => exact fun _ => by kernel_rfl,
  v146 := by as_aux_lemma => exact fun _ => by kernel_rfl,
  t164 := by as_aux_lemma => kernel_rfl,
  a164 := by as_aux_lemma => exact fun _ => by kernel_rfl,
  z164 := by as_aux_lemma => exact fun _ => by kernel_rfl,
  v164 := by as_aux_lemma => exact fun _ => by kernel_rfl,
  g1 := by as_aux_lemma => kernel_rfl,
  g3 := by as_aux_lemma => kernel_rfl,
  g4 := by as_aux_lemma => kernel_rfl }
theorem lays105 : Lays.n105 Tryz.prog ren := {
  mixed := by as_aux_lemma => kernel_rfl,
  f99 := by as_aux_lemma => kernel_rfl,
  f105 := by as_aux_lemma => kernel_rfl,
  f165 := by as_aux_lemma => kernel_rfl,
  f166 := by as_aux_lemma => kernel_rfl,
  f169 := by as_aux_lemma => kernel_rfl,
  f170 := by as_aux_lemma => kernel_rfl,
  f206 := by as_aux_lemma => kernel_rfl,
  f212 := by as_aux_lemma => kernel_rfl,
  f240 := by as_aux_lemma => kernel_rfl,
  f241 := by as_aux_lemma => kernel_rfl,
  f263 := by as_aux_lemma => kernel_rfl,
  f264 := by as_aux_lemma => kernel_rfl,
  f276 := by as_aux_lemma => kernel_rfl,
  f277 := by as_aux_lemma => kernel_rfl,
  t0 := by as_aux_lemma => kernel_rfl,
  a0 := by as_aux_lemma => exact fun _ => by kernel_rfl,
  z0 := by as_aux_lemma => exact fun _ => by kernel_rfl,
  v0 := by as_aux_lemma => exact fun _ => by kernel_rfl,
  t3 := by as_aux_lemma => kernel_rfl,
  a3 := by as_aux_lemma => exact fun _ => by kernel_rfl,
  z3 := by as_aux_lemma => exact fun _ => by kernel_rfl,
  v3 := by as_aux_lemma => exact fun _ => by kernel_rfl,
  t4 := by as_aux_lemma => kernel_rfl,
  a4 := by as_aux_lemma => exact fun _ => by kernel_rfl,
  z4 := by as_aux_lemma => exact fun _ => by kernel_rfl,
  v4 := by as_aux_lemma => exact fun _ => by kernel_rfl,
  t5 := by as_aux_lemma => kernel_rfl,
  a5 := by as_aux_lemma => exact fun _ => by kernel_rfl,
  z5 := by as_aux_lemma => exact fun _ => by kernel_rfl,
  v5 := by as_aux_lemma => exact fun _ => by kernel_rfl,
  t9 := by as_aux_lemma => kernel_rfl,
  a9 := by as_aux_lemma => exact fun _ => by kernel_rfl,
  z9 := by as_aux_lemma => exact fun _ => by kernel_rfl,
  v9 := by as_aux_lemma => exact fun _ => by kernel_rfl,
  t20 := by as_aux_lemma => kernel_rfl,
  a20 := by as_aux_lemma => exact fun _ => by kernel_rfl,
  z20 := by as_aux_lemma => exact fun _ => by kernel_rfl,
  v20 := by as_aux_lemma => exact fun _ => by kernel_rfl,
  t37 := by as_aux_lemma => kernel_rfl,
  a37 := by as_aux_lemma => exact fun _ => by kernel_rfl,
  z37 := by as_aux_lemma => exact fun _ => by kernel_rfl,
  v37 := by as_aux_lemma => exact fun _ => by kernel_rfl,
  t46 := by as_aux_lemma => kernel_rfl,
  a46 := by as_aux_lemma => exact fun _ => by kernel_rfl,
  z46 := by as_aux_lemma => exact fun _ => by kernel_rfl,
  v46 := by as_aux_lemma => exact fun _ => by kernel_rfl,
  t51 := by as_aux_lemma => kernel_rfl,
  a51 := by as_aux_lemma => exact fun _ => by kernel_rfl,
  z51 := by as_aux_lemma => exact fun _ => by kernel_rfl,
  v51 := by as_aux_lemma => exact fun _ => by kernel_rfl,
  t53 := by as_aux_lemma => kernel_rfl,
  a53 := by as_aux_lemma => exact fun _ => by kernel_rfl,
  z53 := by as_aux_lemma => exact fun _ => by kernel_rfl,
  v53 := by as_aux_lemma => exact fun _ => by kernel_rfl,
  t70 := by as_aux_lemma => kernel_rfl,
  a70 := by as_aux_lemma => exact fun _ => by kernel_rfl,
  z70 := by as_aux_lemma => exact fun _ => by kernel_rfl,
  v70 := by as_aux_lemma => exact fun _ => by kernel_rfl,
  t72 := by as_aux_lemma => kernel_rfl,
  a72 := by as_aux_lemma => exact fun _ => by kernel_rfl,
  z72 := by as_aux_lemma => exact fun _ => by kernel_rfl,
  v72 := by as_aux_lemma => exact fun _ => by kernel_rfl,
  t75 := by as_aux_lemma => kernel_rfl,
  a75 := by as_aux_lemma => exact fun _ => by kernel_rfl,
  z75 := by as_aux_lemma => exact fun _ => by kernel_rfl,
  v75 := by as_aux_lemma => exact fun _ => by kernel_rfl,
  t76 := by as_aux_lemma => kernel_rfl,
  a76 := by as_aux_lemma => exact fun _ => by kernel_rfl,
  z76 := by as_aux_lemma => exact fun _ => by kernel_rfl,
  v76 := by as_aux_lemma => exact fun _ => by kernel_rfl,
  t109 := by as_aux_lemma => kernel_rfl,
  a109 := by as_aux_lemma => exact fun _ => by kernel_rfl,
  z109 := by as_aux_lemma => exact fun _ => by kernel_rfl,
  v109 := by as_aux_lemma => exact fun _ => by kernel_rfl,
  t127 := by as_aux_lemma => kernel_rfl,
  a127 := by as_aux_lemma => exact fun _ => by kernel_rfl,
  z127 := by as_aux_lemma => exact fun _ => by kernel_rfl,
  v127 := by as_aux_lemma => exact fun _ => by kernel_rfl,
  t146 := by as_aux_lemma => kernel_rfl,
  a146 := by as_aux_lemma => exact fun _ => by kernel_rfl,
  z146 := by as_aux_lemma => exact fun _ => by kernel_rfl,
  v146 := by as_aux_lemma => exact fun _ => by kernel_rfl,
  t148 := by as_aux_lemma => kernel_rfl,
  a148 := by as_aux_lemma => exact fun _ => by kernel_rfl,
  z148 := by as_aux_lemma => exact fun _ => by kernel_rfl,
  v148 := by as_aux_lemma => exact fun _ => by kernel_rfl,
  t164 := by as_aux_lemma => kernel_rfl,
  a164 := by as_aux_lemma => exact fun _ => by kernel_rfl,
  z164 := by as_aux_lemma => exact fun _ => by kernel_rfl,
  v164 := by as_aux_lemma => exact fun _ => by kernel_rfl }
theorem lays101 : Lays.n101 Tryz.prog ren := {
  mixed := by as_aux_lemma => kernel_rfl,
  f101 := by as_aux_lemma => kernel_rfl,
  f206 := by as_aux_lemma => kernel_rfl,
  f208 := by as_aux_lemma => kernel_rfl,
  t3 := by as_aux_lemma => kernel_rfl,
  a3 := by as_aux_lemma => exact fun _ => by kernel_rfl,
  z3 := by as_aux_lemma => exact fun _ => by kernel_rfl,
  v3 := by as_aux_lemma => exact fun _ => by kernel_rfl,
  t4 := by as_aux_lemma => kernel_rfl,
  a4 := by as_aux_lemma => exact fun _ => by kernel_rfl,
  z4 := by as_aux_lemma => exact fun _ => by kernel_rfl,
  v4 := by as_aux_lemma => exact fun _ => by kernel_rfl,
  t9 := by as_aux_lemma => kernel_rfl,
  a9 := by as_aux_lemma => exact fun _ => by kernel_rfl,
  z9 := by as_aux_lemma => exact fun _ => by kernel_rfl,
  v9 := by as_aux_lemma => exact fun _ => by kernel_rfl }
theorem lays153 : Lays.n153 Tryz.prog ren := {
  mixed := by as_aux_lemma => kernel_rfl,
  f119 := by as_aux_lemma => kernel_rfl,
  f137 := by as_aux_lemma => kernel_rfl,
  f152 := by as_aux_lemma => kernel_rfl,
  f153 := by as_aux_lemma => kernel_rfl,
  f217 := by as_aux_lemma => kernel_rfl,
  f224 := by as_aux_lemma => kernel_rfl,
  f225 := by as_aux_lemma => kernel_rfl,
  f226 := by as_aux_lemma => kernel_rfl,
  f227 := by as_aux_lemma => kernel_rfl,
  f228 := by as_aux_lemma => kernel_rfl,
  f266 := by as_aux_lemma => kernel_rfl,
  t0 := by as_aux_lemma => kernel_rfl,
  a0 := by as_aux_lemma => exact fun _ => by kernel_rfl,
  z0 := by as_aux_lemma => exact fun _ => by kernel_rfl,
  v0 := by as_aux_lemma => exact fun _ => by kernel_rfl,
  t3 := by as_aux_lemma => kernel_rfl,
  a3 := by as_aux_lemma => exact fun _ => by kernel_rfl,
  z3 := by as_aux_lemma => exact fun _ => by kernel_rfl,
  v3 := by as_aux_lemma => exact fun _ => by kernel_rfl,
  t4 := by as_aux_lemma => kernel_rfl,
  a4 := by as_aux_lemma => exact fun _ => by kernel_rfl,
  z4 := by as_aux_lemma => exact fun _ => by kernel_rfl,
  v4 := by as_aux_lemma => exact fun _ => by kernel_rfl,
  t5 := by as_aux_lemma => kernel_rfl,
  a5 := by as_aux_lemma => exact fun _ => by kernel_rfl,
  z5 := by as_aux_lemma => exact fun _ => by kernel_rfl,
  v5 := by as_aux_lemma => exact fun _ => by kernel_rfl,
  t9 := by as_aux_lemma => kernel_rfl,
  a9 := by as_aux_lemma => exact fun _ => by kernel_rfl,
  z9 := by as_aux_lemma => exact fun _ => by kernel_rfl,
  v9 := by as_aux_lemma => exact fun _ => by kernel_rfl,
  t21 := by as_aux_lemma => kernel_rfl,
  a21 := by as_aux_lemma => exact fun _ => by kernel_rfl,
  z21 := by as_aux_lemma => exact fun _ => by kernel_rfl,
  v21 := by as_aux_lemma => exact fun _ => by kernel_rfl,
  t46 := by as_aux_lemma => kernel_rfl,
  a46 := by as_aux_lemma => exact fun _ => by kernel_rfl,
  z46 := by as_aux_lemma => exact fun _ => by kernel_rfl,
  v46 := by as_aux_lemma => exact fun _ => by kernel_rfl,
  t116 := by as_aux_lemma => kernel_rfl,
  a116 := by as_aux_lemma => exact fun _ => by kernel_rfl,
  z116 := by as_aux_lemma => exact fun _ => by kernel_rfl,
  t117 := by as_aux_lemma => kernel_rfl,
  a117 := by as_aux_lemma => exact fun _ => by kernel_rfl,
  z117 := by as_aux_lemma => exact fun _ => by kernel_rfl,
  v117 := by as_aux_lemma => exact fun _ => by kernel_rfl,
  t124 := by as_aux_lemma => kernel_rfl,
  a124 := by as_aux_lemma => exact fun _ => by kernel_rfl,
  z124 := by as_aux_lemma => exact fun _ => by kernel_rfl,
  v124 := by as_aux_lemma => exact fun _ => by kernel_rfl }
theorem lays161 : Lays.n161 Tryz.prog ren := {
  mixed := by as_aux_lemma => kernel_rfl,
  f119 := by as_aux_lemma => kernel_rfl,
  f137 := by as_aux_lemma => kernel_rfl,
  f151 := by as_aux_lemma => kernel_rfl,
  f152 := by as_aux_lemma => kernel_rfl,
  f161 := by as_aux_lemma => kernel_rfl,
  f197 := by as_aux_lemma => kernel_rfl,
  f217 := by as_aux_lemma => kernel_rfl,
  f224 := by as_aux_lemma => kernel_rfl,
  f225 := by as_aux_lemma => kernel_rfl,
  f227 := by as_aux_lemma => kernel_rfl,
  f228 := by as_aux_lemma => kernel_rfl,
  f231 := by as_aux_lemma => kernel_rfl,
  f233 := by as_aux_lemma => kernel_rfl,
  f235 := by as_aux_lemma => kernel_rfl,
  f260 := by as_aux_lemma => kernel_rfl,
  f266 := by as_aux_lemma => kernel_rfl,
  t0 := by as_aux_lemma => kernel_rfl,
  a0 := by as_aux_lemma => exact fun _ => by kernel_rfl,
  z0 := by as_aux_lemma => exact fun _ => by kernel_rfl,
  v0 := by as_aux_lemma => exact fun _ => by kernel_rfl,
  t3 := by as_aux_lemma => kernel_rfl,
  a3 := by as_aux_lemma => exact fun _ => by kernel_rfl,
  z3 := by as_aux_lemma => exact fun _ => by kernel_rfl,
  v3 := by as_aux_lemma => exact fun _ => by kernel_rfl,
  t4 := by as_aux_lemma => kernel_rfl,
  a4 := by as_aux_lemma => exact fun _ => by kernel_rfl,
  z4 := by as_aux_lemma => exact fun _ => by kernel_rfl,
  v4 := by as_aux_lemma => exact fun _ => by kernel_rfl,
  t5 := by as_aux_lemma => kernel_rfl,
  a5 := by as_aux_lemma => exact fun _ => by kernel_rfl,
  z5 := by as_aux_lemma => exact fun _ => by kernel_rfl,
  v5 := by as_aux_lemma => exact fun _ => by kernel_rfl,
  t9 := by as_aux_lemma => kernel_rfl,
  a9 := by as_aux_lemma => exact fun _ => by kernel_rfl,
  z9 := by as_aux_lemma => exact fun _ => by kernel_rfl,
  v9 := by as_aux_lemma => exact fun _ => by kernel_rfl,
  t21 := by as_aux_lemma => kernel_rfl,
  a21 := by as_aux_lemma => exact fun _ => by kernel_rfl,
  z21 := by as_aux_lemma => exact fun _ => by kernel_rfl,
  v21 := by as_aux_lemma => exact fun _ => by kernel_rfl,
  t46 := by as_aux_lemma => kernel_rfl,
  a46 := by as_aux_lemma => exact fun _ => by kernel_rfl,
  z46 := by as_aux_lemma => exact fun _ => by kernel_rfl,
  v46 := by as_aux_lemma => exact fun _ => by kernel_rfl,
  t105 := by as_aux_lemma => kernel_rfl,
  a105 := by as_aux_lemma => exact fun _ => by kernel_rfl,
  z105 := by as_aux_lemma => exact fun _ => by kernel_rfl,
  v105 := by as_aux_lemma => exact fun _ => by kernel_rfl,
  t116 := by as_aux_lemma => kernel_rfl,
  a116 := by as_aux_lemma => exact fun _ => by kernel_rfl,
  z116 := by as_aux_lemma => exact fun _ => by kernel_rfl,
  t117 := by as_aux_lemma => kernel_rfl,
  a117 := by as_aux_lemma => exact fun _ => by kernel_rfl,
  z117 := by as_aux_lemma => exact fun _ => by kernel_rfl,
  v117 := by as_aux_lemma => exact fun _ => by kernel_rfl,
  t119 := by as_aux_lemma => kernel_rfl,
  a119 := by as_aux_lemma => exact fun _ => by kernel_rfl,
  z119 := by as_aux_lemma => exact fun _ => by kernel_rfl,
  t124 := by as_aux_lemma => kernel_rfl,
  a124 := by as_aux_lemma => exact fun _ => by kernel_rfl,
  z124 := by as_aux_lemma => exact fun _ => by kernel_rfl,
  v124 := by as_aux_lemma => exact fun _ => by kernel_rfl,
  t138 := by as_aux_lemma => kernel_rfl,
  a138 := by as_aux_lemma => exact fun _ => by kernel_rfl,
  z138 := by as_aux_lemma => exact fun _ => by kernel_rfl,
  v138 := by as_aux_lemma => exact fun _ => by kernel_rfl,
  t139 := by as_aux_lemma => kernel_rfl,
  a139 := by as_aux_lemma => exact fun _ => by kernel_rfl,
  z139 := by as_aux_lemma => exact fun _ => by kernel_rfl,
  v139 := by as_aux_lemma => exact fun _ => by kernel_rfl,
  g3 := by as_aux_lemma => kernel_rfl,
  g4 := by as_aux_lemma => kernel_rfl }
theorem lays137 : Lays.n137 Tryz.prog ren := {
  mixed := by as_aux_lemma => kernel_rfl,
  f137 := by as_aux_lemma => kernel_rfl,
  f217 := by as_aux_lemma => kernel_rfl,
  f266 := by as_aux_lemma => kernel_rfl,
  t3 := by as_aux_lemma => kernel_rfl,
  a3 := by as_aux_lemma => exact fun _ => by kernel_rfl,
  z3 := by as_aux_lemma => exact fun _ => by kernel_rfl,
  v3 := by as_aux_lemma => exact fun _ => by kernel_rfl,
  t5 := by as_aux_lemma => kernel_rfl,
  a5 := by as_aux_lemma => exact fun _ => by kernel_rfl,
  z5 := by as_aux_lemma => exact fun _ => by kernel_rfl,
  v5 := by as_aux_lemma => exact fun _ => by kernel_rfl,
  t9 := by as_aux_lemma => kernel_rfl,
  a9 := by as_aux_lemma => exact fun _ => by kernel_rfl,
  z9 := by as_aux_lemma => exact fun _ => by kernel_rfl,
  v9 := by as_aux_lemma => exact fun _ => by kernel_rfl }
theorem lays172 : Lays.n172 Tryz.prog ren := {
  mixed := by as_aux_lemma => kernel_rfl,
  f129 := by as_aux_lemma => kernel_rfl,
  f171 := by as_aux_lemma => kernel_rfl,
  f172 := by as_aux_lemma => kernel_rfl,
  f205 := by as_aux_lemma => kernel_rfl,
  f243 := by as_aux_lemma => kernel_rfl,
  f244 := by as_aux_lemma => kernel_rfl,
  f245 := by as_aux_lemma => kernel_rfl,
  f246 := by as_aux_lemma => kernel_rfl,
  f247 := by as_aux_lemma => kernel_rfl,
  f279 := by as_aux_lemma => kernel_rfl,
  f280 := by as_aux_lemma => kernel_rfl,
  f281 := by as_aux_lemma => kernel_rfl,
  f282 := by as_aux_lemma => kernel_rfl,
  f283 := by as_aux_lemma => kernel_rfl,
  f284 := by as_aux_lemma => kernel_rfl,
  f285 := by as_aux_lemma => kernel_rfl,
  f286 := by as_aux_lemma => kernel_rfl,
  f287 := by as_aux_lemma => kernel_rfl,
  f316 := by as_aux_lemma => kernel_rfl,
  f317 := by as_aux_lemma => kernel_rfl,
  f318 := by as_aux_lemma => kernel_rfl,
  f319 := by as_aux_lemma => kernel_rfl,
  f320 := by as_aux_lemma => kernel_rfl,
  f321 := by as_aux_lemma => kernel_rfl,
  f322 := by as_aux_lemma => kernel_rfl,
  f337 := by as_aux_lemma => kernel_rfl,
  f338 := by as_aux_lemma => kernel_rfl,
  t0 := by as_aux_lemma => kernel_rfl,
  a0 := by as_aux_lemma => exact fun _ => by kernel_rfl,
  z0 := by as_aux_lemma => exact fun _ => by kernel_rfl,
  v0 := by as_aux_lemma => exact fun _ => by kernel_rfl,
  t2 := by as_aux_lemma => kernel_rfl,
  a2 := by as_aux_lemma => exact fun _ => by kernel_rfl,
  z2 := by as_aux_lemma => exact fun _ => by kernel_rfl,
  v2 := by as_aux_lemma => exact fun _ => by kernel_rfl,
  t3 := by as_aux_lemma => kernel_rfl,
  a3 := by as_aux_lemma => exact fun _ => by kernel_rfl,
  z3 := by as_aux_lemma => exact fun _ => by kernel_rfl,
  v3 := by as_aux_lemma => exact fun _ => by kernel_rfl,
  t4 := by as_aux_lemma => kernel_rfl,
  a4 := by as_aux_lemma => exact fun _ => by kernel_rfl,
  z4 := by as_aux_lemma => exact fun _ => by kernel_rfl,
  v4 := by as_aux_lemma => exact fun _ => by kernel_rfl,
  t5 := by as_aux_lemma => kernel_rfl,
  a5 := by as_aux_lemma => exact fun _ => by kernel_rfl,
  z5 := by as_aux_lemma => exact fun _ => by kernel_rfl,
  v5 := by as_aux_lemma => exact fun _ => by kernel_rfl,
  t9 := by as_aux_lemma => kernel_rfl,
  a9 := by as_aux_lemma => exact fun _ => by kernel_rfl,
  z9 := by as_aux_lemma => exact fun _ => by kernel_rfl,
  v9 := by as_aux_lemma => exact fun _ => by kernel_rfl,
  t20 := by as_aux_lemma => kernel_rfl,
  a20 := by as_aux_lemma => exact fun _ => by kernel_rfl,
  z20 := by as_aux_lemma => exact fun _ => by kernel_rfl,
  v20 := by as_aux_lemma => exact fun _ => by kernel_rfl,
  t21 := by as_aux_lemma => kernel_rfl,
  a21 := by as_aux_lemma => exact fun _ => by kernel_rfl,
  z21 := by as_aux_lemma => exact fun _ => by kernel_rfl,
  v21 := by as_aux_lemma => exact fun _ => by kernel_rfl,
  t37 := by as_aux_lemma => kernel_rfl,
  a37 := by as_aux_lemma => exact fun _ => by kernel_rfl,
  z37 := by as_aux_lemma => exact fun _ => by kernel_rfl,
  v37 := by as_aux_lemma => exact fun _ => by kernel_rfl,
  t46 := by as_aux_lemma => kernel_rfl,
  a46 := by as_aux_lemma => exact fun _ => by kernel_rfl,
  z46 := by as_aux_lemma => exact fun _ => by kernel_rfl,
  v46 := by as_aux_lemma => exact fun _ => by kernel_rfl,
  t51 := by as_aux_lemma => kernel_rfl,
  a51 := by as_aux_lemma => exact fun _ => by kernel_rfl,
  z51 := by as_aux_lemma => exact fun _ => by kernel_rfl,
  v51 := by as_aux_lemma => exact fun _ => by kernel_rfl,
  t53 := by as_aux_lemma => kernel_rfl,
  a53 := by as_aux_lemma => exact fun _ => by kernel_rfl,
  z53 := by as_aux_lemma => exact fun _ => by kernel_rfl,
  v53 := by as_aux_lemma => exact fun _ => by kernel_rfl,
  t75 := by as_aux_lemma => kernel_rfl,
  a75 := by as_aux_lemma => exact fun _ => by kernel_rfl,
  z75 := by as_aux_lemma => exact fun _ => by kernel_rfl,
  v75 := by as_aux_lemma => exact fun _ => by kernel_rfl,
  t76 := by as_aux_lemma => kernel_rfl,
  a76 := by as_aux_lemma => exact fun _ => by kernel_rfl,
  z76 := by as_aux_lemma => exact fun _ => by kernel_rfl,
  v76 := by as_aux_lemma => exact fun _ => by kernel_rfl,
  t85 := by as_aux_lemma => kernel_rfl,
  a85 := by as_aux_lemma => exact fun _ => by kernel_rfl,
  z85 := by as_aux_lemma => exact fun _ => by kernel_rfl,
  v85 := by as_aux_lemma => exact fun _ => by kernel_rfl,
  t127 := by as_aux_lemma => kernel_rfl,
  a127 := by as_aux_lemma => exact fun _ => by kernel_rfl,
  z127 := by as_aux_lemma => exact fun _ => by kernel_rfl,
  v127 := by as_aux_lemma => exact fun _ => by kernel_rfl,
  t143 := by as_aux_lemma => kernel_rfl,
  a143 := by as_aux_lemma => exact fun _ => by kernel_rfl,
  z143 := by as_aux_lemma => exact fun _ => by kernel_rfl,
  v143 := by as_aux_lemma => exact fun _ => by kernel_rfl,
  t145 := by as_aux_lemma => kernel_rfl,
  a145 := by as_aux_lemma => exact fun _ => by kernel_rfl,
  z145 := by as_aux_lemma => exact fun _ => by kernel_rfl,
  v145 := by as_aux_lemma => exact fun _ => by kernel_rfl,
  t167 := by as_aux_lemma => kernel_rfl,
  a167 := by as_aux_lemma => exact fun _ => by kernel_rfl,
  z167 := by as_aux_lemma => exact fun _ => by kernel_rfl,
  v167 := by as_aux_lemma => exact fun _ => by kernel_rfl,
  t168 := by as_aux_lemma => kernel_rfl,
  a168 := by as_aux_lemma => exact fun _ => by kernel_rfl,
  z168 := by as_aux_lemma => exact fun _ => by kernel_rfl,
  v168 := by as_aux_lemma => exact fun _ => by kernel_rfl,
  t171 := by as_aux_lemma => kernel_rfl,
  a171 := by as_aux_lemma => exact fun _ => by kernel_rfl,
  z171 := by as_aux_lemma => exact fun _ => by kernel_rfl,
  v171 := by as_aux_lemma => exact fun _ => by kernel_rfl,
  t173 := by as_aux_lemma => kernel_rfl,
  a173 := by as_aux_lemma => exact fun _ => by kernel_rfl,
  z173 := by as_aux_lemma => exact fun _ => by kernel_rfl,
  v173 := by as_aux_lemma => exact fun _ => by kernel_rfl,
  t175 := by as_aux_lemma => kernel_rfl,
  a175 := by as_aux_lemma => exact fun _ => by kernel_rfl,
  z175 := by as_aux_lemma => exact fun _ => by kernel_rfl,
  v175 := by as_aux_lemma => exact fun _ => by kernel_rfl,
  t210 := by as_aux_lemma => kernel_rfl,
  a210 := by as_aux_lemma => exact fun _ => by kernel_rfl,
  z210 := by as_aux_lemma => exact fun _ => by kernel_rfl,
  v210 := by as_aux_lemma => exact fun _ => by kernel_rfl,
  t212 := by as_aux_lemma => kernel_rfl,
  a212 := by as_aux_lemma => exact fun _ => by kernel_rfl,
  z212 := by as_aux_lemma => exact fun _ => by kernel_rfl,
  v212 := by as_aux_lemma => exact fun _ => by kernel_rfl,
  t213 := by as_aux_lemma => kernel_rfl,
  a213 := by as_aux_lemma => exact fun _ => by kernel_rfl,
  z213 := by as_aux_lemma => exact fun _ => by kernel_rfl,
  t232 := by as_aux_lemma => kernel_rfl,
  a232 := by as_aux_lemma => exact fun _ => by kernel_rfl,
  z232 := by as_aux_lemma => exact fun _ => by kernel_rfl,
  v232 := by as_aux_lemma => exact fun _ => by kernel_rfl,
  t233 := by as_aux_lemma => kernel_rfl,
  a233 := by as_aux_lemma => exact fun _ => by kernel_rfl,
  z233 := by as_aux_lemma => exact fun _ => by kernel_rfl,
  v233 := by as_aux_lemma => exact fun _ => by kernel_rfl,
  g15 := by as_aux_lemma => kernel_rfl,
  g16 := by as_aux_lemma => kernel_rfl,
  g17 := by as_aux_lemma => kernel_rfl,
  g18 := by as_aux_lemma => kernel_rfl,
  g19 := by as_aux_lemma => kernel_rfl }
theorem lays171 : LaysM.n171 Tryz.prog ren := {
  mixed := by as_aux_lemma => kernel_rfl,
  f129 := by as_aux_lemma => kernel_rfl,
  f171 := by as_aux_lemma => kernel_rfl,
  f243 := by as_aux_lemma => kernel_rfl,
  f246 := by as_aux_lemma => kernel_rfl,
  f283 := by as_aux_lemma => kernel_rfl,
  f284 := by as_aux_lemma => kernel_rfl,
  f285 := by as_aux_lemma => kernel_rfl,
  f286 := by as_aux_lemma => kernel_rfl,
  f317 := by as_aux_lemma => kernel_rfl,
  f318 := by as_aux_lemma => kernel_rfl,
  f319 := by as_aux_lemma => kernel_rfl,
  f320 := by as_aux_lemma => kernel_rfl,
  f337 := by as_aux_lemma => kernel_rfl,
  f338 := by as_aux_lemma => kernel_rfl,
  t0 := by as_aux_lemma => kernel_rfl,
  a0 := by as_aux_lemma => exact fun _ => by kernel_rfl,
  z0 := by as_aux_lemma => exact fun _ => by kernel_rfl,
  v0 := by as_aux_lemma => exact fun _ => by kernel_rfl,
  t2 := by as_aux_lemma => kernel_rfl,
  a2 := by as_aux_lemma => exact fun _ => by kernel_rfl,
  z2 := by as_aux_lemma => exact fun _ => by kernel_rfl,
  v2 := by as_aux_lemma => exact fun _ => by kernel_rfl,
  t3 := by as_aux_lemma => kernel_rfl,
  a3 := by as_aux_lemma => exact fun _ => by kernel_rfl,
  z3 := by as_aux_lemma => exact fun _ => by kernel_rfl,
  v3 := by as_aux_lemma => exact fun _ => by kernel_rfl,
  t4 := by as_aux_lemma => kernel_rfl,
  a4 := by as_aux_lemma => exact fun _ => by kernel_rfl,
  z4 := by as_aux_lemma => exact fun _ => by kernel_rfl,
  v4 := by as_aux_lemma => exact fun _ => by kernel_rfl,
  t5 := by as_aux_lemma => kernel_rfl,
  a5 := by as_aux_lemma => exact fun _ => by kernel_rfl,
  z5 := by as_aux_lemma => exact fun _ => by kernel_rfl,
  v5 := by as_aux_lemma => exact fun _ => by kernel_rfl,
  t9 := by as_aux_lemma => kernel_rfl,
  a9 := by as_aux_lemma => exact fun _ => by kernel_rfl,
  z9 := by as_aux_lemma => exact fun _ => by kernel_rfl,
  v9 := by as_aux_lemma => exact fun _ => by kernel_rfl,
  t20 := by as_aux_lemma => kernel_rfl,
  a20 := by as_aux_lemma => exact fun _ => by kernel_rfl,
  z20 := by as_aux_lemma => exact fun _ => by kernel_rfl,
  v20 := by as_aux_lemma => exact fun _ => by kernel_rfl,
  t37 := by as_aux_lemma => kernel_rfl,
  a37 := by as_aux_lemma => exact fun _ => by kernel_rfl,
  z37 := by as_aux_lemma => exact fun _ => by kernel_rfl,
  v37 := by as_aux_lemma => exact fun _ => by kernel_rfl,
  t46 := by as_aux_lemma => kernel_rfl,
  a46 := by as_aux_lemma => exact fun _ => by kernel_rfl,
  z46 := by as_aux_lemma => exact fun _ => by kernel_rfl,
  v46 := by as_aux_lemma => exact fun _ => by kernel_rfl,
  t51 := by as_aux_lemma => kernel_rfl,
  a51 := by as_aux_lemma => exact fun _ => by kernel_rfl,
  z51 := by as_aux_lemma => exact fun _ => by kernel_rfl,
  v51 := by as_aux_lemma => exact fun _ => by kernel_rfl,
  t53 := by as_aux_lemma => kernel_rfl,
  a53 := by as_aux_lemma => exact fun _ => by kernel_rfl,
  z53 := by as_aux_lemma => exact fun _ => by kernel_rfl,
  v53 := by as_aux_lemma => exact fun _ => by kernel_rfl,
  t171 := by as_aux_lemma => kernel_rfl,
  a171 := by as_aux_lemma => exact fun _ => by kernel_rfl,
  z171 := by as_aux_lemma => exact fun _ => by kernel_rfl,
  v171 := by as_aux_lemma => exact fun _ => by kernel_rfl,
  t173 := by as_aux_lemma => kernel_rfl,
  a173 := by as_aux_lemma => exact fun _ => by kernel_rfl,
  z173 := by as_aux_lemma => exact fun _ => by kernel_rfl,
  v173 := by as_aux_lemma => exact fun _ => by kernel_rfl,
  t212 := by as_aux_lemma => kernel_rfl,
  a212 := by as_aux_lemma => exact fun _ => by kernel_rfl,
  z212 := by as_aux_lemma => exact fun _ => by kernel_rfl,
  v212 := by as_aux_lemma => exact fun _ => by kernel_rfl,
  t213 := by as_aux_lemma => kernel_rfl,
  a213 := by as_aux_lemma => exact fun _ => by kernel_rfl,
  z213 := by as_aux_lemma => exact fun _ => by kernel_rfl,
  t232 := by as_aux_lemma => kernel_rfl,
  a232 := by as_aux_lemma => exact fun _ => by kernel_rfl,
  z232 := by as_aux_lemma => exact fun _ => by kernel_rfl,
  v232 := by as_aux_lemma => exact fun _ => by kernel_rfl,
  t233 := by as_aux_lemma => kernel_rfl,
  a233 := by as_aux_lemma => exact fun _ => by kernel_rfl,
  z233 := by as_aux_lemma => exact fun _ => by kernel_rfl,
  v233 := by as_aux_lemma => exact fun _ => by kernel_rfl,
  g17 := by as_aux_lemma => kernel_rfl,
  g18 := by as_aux_lemma => kernel_rfl,
  g19 := by as_aux_lemma => kernel_rfl,
  i0 := by as_aux_lemma => kernel_rfl,
  i2 := by as_aux_lemma => kernel_rfl,
  i3 := by as_aux_lemma => kernel_rfl,
  i4 := by as_aux_lemma => kernel_rfl,
  i5 := by as_aux_lemma => kernel_rfl,
  i9 := by as_aux_lemma => kernel_rfl,
  i20 := by as_aux_lemma => kernel_rfl,
  i37 := by as_aux_lemma => kernel_rfl,
  i46 := by as_aux_lemma => kernel_rfl,
  i51 := by as_aux_lemma => kernel_rfl,
  i53 := by as_aux_lemma => kernel_rfl,
  i171 := by as_aux_lemma => kernel_rfl,
  i173 := by as_aux_lemma => kernel_rfl,
  i212 := by as_aux_lemma => kernel_rfl,
  i232 := by as_aux_lemma => kernel_rfl,
  i233 := by as_aux_lemma => kernel_rfl,
  m17 := by as_aux_lemma => kernel_rfl,
  m18 := by as_aux_lemma => kernel_rfl,
  m19 := by as_aux_lemma => kernel_rfl }
theorem lays134 : Lays.n134 Tryz.prog ren := {
  mixed := by as_aux_lemma => kernel_rfl,
  f129 := by as_aux_lemma => kernel_rfl,
  f134 := by as_aux_lemma => kernel_rfl,
  t3 := by as_aux_lemma => kernel_rfl,
  a3 := by as_aux_lemma => exact fun _ => by kernel_rfl,
  z3 := by as_aux_lemma => exact fun _ => by kernel_rfl,
  v3 := by as_aux_lemma => exact fun _ => by kernel_rfl,
  t4 := by as_aux_lemma => kernel_rfl,
  a4 := by as_aux_lemma => exact fun _ => by kernel_rfl,
  z4 := by as_aux_lemma => exact fun _ => by kernel_rfl,
  v4 := by as_aux_lemma => exact fun _ => by kernel_rfl,
  t5 := by as_aux_lemma => kernel_rfl,
  a5 := by as_aux_lemma => exact fun _ => by kernel_rfl,
  z5 := by as_aux_lemma => exact fun _ => by kernel_rfl,
  v5 := by as_aux_lemma => exact fun _ => by kernel_rfl,
  t9 := by as_aux_lemma => kernel_rfl,
  a9 := by as_aux_lemma => exact fun _ => by kernel_rfl,
  z9 := by as_aux_lemma => exact fun _ => by kernel_rfl,
  v9 := by as_aux_lemma => exact fun _ => by kernel_rfl,
  t46 := by as_aux_lemma => kernel_rfl,
  a46 := by as_aux_lemma => exact fun _ => by kernel_rfl,
  z46 := by as_aux_lemma => exact fun _ => by kernel_rfl,
  v46 := by as_aux_lemma => exact fun _ => by kernel_rfl,
  t53 := by as_aux_lemma => kernel_rfl,
  a53 := by as_aux_lemma => exact fun _ => by kernel_rfl,
  z53 := by as_aux_lemma => exact fun _ => by kernel_rfl,
  v53 := by as_aux_lemma => exact fun _ => by kernel_rfl }
theorem lays167 : Lays.n167 Tryz.prog ren := {
  mixed := by as_aux_lemma => kernel_rfl,
  f167 := by as_aux_lemma => kernel_rfl,
  f240 := by as_aux_lemma => kernel_rfl,
  f276 := by as_aux_lemma => kernel_rfl,
  t0 := by as_aux_lemma => kernel_rfl,
  a0 := by as_aux_lemma => exact fun _ => by kernel_rfl,
  z0 := by as_aux_lemma => exact fun _ => by kernel_rfl,
  v0 := by as_aux_lemma => exact fun _ => by kernel_rfl,
  t4 := by as_aux_lemma => kernel_rfl,
  a4 := by as_aux_lemma => exact fun _ => by kernel_rfl,
  z4 := by as_aux_lemma => exact fun _ => by kernel_rfl,
  v4 := by as_aux_lemma => exact fun _ => by kernel_rfl,
  t5 := by as_aux_lemma => kernel_rfl,
  a5 := by as_aux_lemma => exact fun _ => by kernel_rfl,
  z5 := by as_aux_lemma => exact fun _ => by kernel_rfl,
  v5 := by as_aux_lemma => exact fun _ => by kernel_rfl,
  t9 := by as_aux_lemma => kernel_rfl,
  a9 := by as_aux_lemma => exact fun _ => by kernel_rfl,
  z9 := by as_aux_lemma => exact fun _ => by kernel_rfl,
  v9 := by as_aux_lemma => exact fun _ => by kernel_rfl,
  t20 := by as_aux_lemma => kernel_rfl,
  a20 := by as_aux_lemma => exact fun _ => by kernel_rfl,
  z20 := by as_aux_lemma => exact fun _ => by kernel_rfl,
  v20 := by as_aux_lemma => exact fun _ => by kernel_rfl,
  t37 := by as_aux_lemma => kernel_rfl,
  a37 := by as_aux_lemma => exact fun _ => by kernel_rfl,
  z37 := by as_aux_lemma => exact fun _ => by kernel_rfl,
  v37 := by as_aux_lemma => exact fun _ => by kernel_rfl,
  t70 := by as_aux_lemma => kernel_rfl,
  a70 := by as_aux_lemma => exact fun _ => by kernel_rfl,
  z70 := by as_aux_lemma => exact fun _ => by kernel_rfl,
  v70 := by as_aux_lemma => exact fun _ => by kernel_rfl,
  t72 := by as_aux_lemma => kernel_rfl,
  a72 := by as_aux_lemma => exact fun _ => by kernel_rfl,
  z72 := by as_aux_lemma => exact fun _ => by kernel_rfl,
  v72 := by as_aux_lemma => exact fun _ => by kernel_rfl,
  t75 := by as_aux_lemma => kernel_rfl,
  a75 := by as_aux_lemma => exact fun _ => by kernel_rfl,
  z75 := by as_aux_lemma => exact fun _ => by kernel_rfl,
  v75 := by as_aux_lemma => exact fun _ => by kernel_rfl,
  t164 := by as_aux_lemma => kernel_rfl,
  a164 := by as_aux_lemma => exact fun _ => by kernel_rfl,
  z164 := by as_aux_lemma => exact fun _ => by kernel_rfl,
  v164 := by as_aux_lemma => exact fun _ => by kernel_rfl }
theorem lays166 : Lays.n166 Tryz.prog ren := {
  mixed := by as_aux_lemma => kernel_rfl,
  f166 := by as_aux_lemma => kernel_rfl,
  f240 := by as_aux_lemma => kernel_rfl,
  f276 := by as_aux_lemma => kernel_rfl,
  t0 := by as_aux_lemma => kernel_rfl,
  a0 := by as_aux_lemma => exact fun _ => by kernel_rfl,
  z0 := by as_aux_lemma => exact fun _ => by kernel_rfl,
  v0 := by as_aux_lemma => exact fun _ => by kernel_rfl,
  t3 := by as_aux_lemma => kernel_rfl,
  a3 := by as_aux_lemma => exact fun _ => by kernel_rfl,
  z3 := by as_aux_lemma => exact fun _ => by kernel_rfl,
  v3 := by as_aux_lemma => exact fun _ => by kernel_rfl,
  t4 := by as_aux_lemma => kernel_rfl,
  a4 := by as_aux_lemma => exact fun _ => by kernel_rfl,
  z4 := by as_aux_lemma => exact fun _ => by kernel_rfl,
  v4 := by as_aux_lemma => exact fun _ => by kernel_rfl,
  t9 := by as_aux_lemma => kernel_rfl,
  a9 := by as_aux_lemma => exact fun _ => by kernel_rfl,
  z9 := by as_aux_lemma => exact fun _ => by kernel_rfl,
  v9 := by as_aux_lemma => exact fun _ => by kernel_rfl,
  t20 := by as_aux_lemma => kernel_rfl,
  a20 := by as_aux_lemma => exact fun _ => by kernel_rfl,
  z20 := by as_aux_lemma => exact fun _ => by kernel_rfl,
  v20 := by as_aux_lemma => exact fun _ => by kernel_rfl,
  t37 := by as_aux_lemma => kernel_rfl,
  a37 := by as_aux_lemma => exact fun _ => by kernel_rfl,
  z37 := by as_aux_lemma => exact fun _ => by kernel_rfl,
  v37 := by as_aux_lemma => exact fun _ => by kernel_rfl,
  t70 := by as_aux_lemma => kernel_rfl,
  a70 := by as_aux_lemma => exact fun _ => by kernel_rfl,
  z70 := by as_aux_lemma => exact fun _ => by kernel_rfl,
  v70 := by as_aux_lemma => exact fun _ => by kernel_rfl,
  t72 := by as_aux_lemma => kernel_rfl,
  a72 := by as_aux_lemma => exact fun _ => by kernel_rfl,
  z72 := by as_aux_lemma => exact fun _ => by kernel_rfl,
  v72 := by as_aux_lemma => exact fun _ => by kernel_rfl,
  t75 := by as_aux_lemma => kernel_rfl,
  a75 := by as_aux_lemma => exact fun _ => by kernel_rfl,
  z75 := by as_aux_lemma => exact fun _ => by kernel_rfl,
  v75 := by as_aux_lemma => exact fun _ => by kernel_rfl,
  t164 := by as_aux_lemma => kernel_rfl,
  a164 := by as_aux_lemma => exact fun _ => by kernel_rfl,
  z164 := by as_aux_lemma => exact fun _ => by kernel_rfl,
  v164 := by as_aux_lemma => exact fun _ => by kernel_rfl }
theorem lays169 : Lays.n169 Tryz.prog ren := {
  mixed := by as_aux_lemma => kernel_rfl,
  f169 := by as_aux_lemma => kernel_rfl,
  t0 := by as_aux_lemma => kernel_rfl,
  a0 := by as_aux_lemma => exact fun _ => by kernel_rfl,
  z0 := by as_aux_lemma => exact fun _ => by kernel_rfl,
  v0 := by as_aux_lemma => exact fun _ => by kernel_rfl,
  t3 := by as_aux_lemma => kernel_rfl,
  a3 := by as_aux_lemma => exact fun _ => by kernel_rfl,
  z3 := by as_aux_lemma => exact fun _ => by kernel_rfl,
  v3 := by as_aux_lemma => exact fun _ => by kernel_rfl,
  t9 := by as_aux_lemma => kernel_rfl,
  a9 := by as_aux_lemma => exact fun _ => by kernel_rfl,
  z9 := by as_aux_lemma => exact fun _ => by kernel_rfl,
  v9 := by as_aux_lemma => exact fun _ => by kernel_rfl,
  t37 := by as_aux_lemma => kernel_rfl,
  a37 := by as_aux_lemma => exact fun _ => by kernel_rfl,
  z37 := by as_aux_lemma => exact fun _ => by kernel_rfl,
  v37 := by as_aux_lemma => exact fun _ => by kernel_rfl,
  t70 := by as_aux_lemma => kernel_rfl,
  a70 := by as_aux_lemma => exact fun _ => by kernel_rfl,
  z70 := by as_aux_lemma => exact fun _ => by kernel_rfl,
  v70 := by as_aux_lemma => exact fun _ => by kernel_rfl,
  t72 := by as_aux_lemma => kernel_rfl,
  a72 := by as_aux_lemma => exact fun _ => by kernel_rfl,
  z72 := by as_aux_lemma => exact fun _ => by kernel_rfl,
  v72 := by as_aux_lemma => exact fun _ => by kernel_rfl,
  t127 := by as_aux_lemma => kernel_rfl,
  a127 := by as_aux_lemma => exact fun _ => by kernel_rfl,
  z127 := by as_aux_lemma => exact fun _ => by kernel_rfl,
  v127 := by as_aux_lemma => exact fun _ => by kernel_rfl }
theorem lays245 : LaysC.n245 Tryz.prog ren := {
  mixed := by as_aux_lemma => kernel_rfl,
  f129 := by as_aux_lemma => kernel_rfl,
  f171 := by as_aux_lemma => kernel_rfl,
  f205 := by as_aux_lemma => kernel_rfl,
  f243 := by as_aux_lemma => kernel_rfl,
  f245 := by as_aux_lemma => kernel_rfl,
  f246 := by as_aux_lemma => kernel_rfl,
  f279 := by as_aux_lemma => kernel_rfl,
  f280 := by as_aux_lemma => kernel_rfl,
  f281 := by as_aux_lemma => kernel_rfl,
  f282 := by as_aux_lemma => kernel_rfl,
  f283 := by as_aux_lemma => kernel_rfl,
  f284 := by as_aux_lemma => kernel_rfl,
  f285 := by as_aux_lemma => kernel_rfl,
  f286 := by as_aux_lemma => kernel_rfl,
  f316 := by as_aux_lemma => kernel_rfl,
  f317 := by as_aux_lemma => kernel_rfl,
  f318 := by as_aux_lemma => kernel_rfl,
  f319 := by as_aux_lemma => kernel_rfl,
  f320 := by as_aux_lemma => kernel_rfl,
  f337 := by as_aux_lemma => kernel_rfl,
  f338 := by as_aux_lemma => kernel_rfl,
  t0 := by as_aux_lemma => kernel_rfl,
  a0 := by as_aux_lemma => exact fun _ => by kernel_rfl,
  z0 := by as_aux_lemma => exact fun _ => by kernel_rfl,
  v0 := by as_aux_lemma => exact fun _ => by kernel_rfl,
  t2 := by as_aux_lemma => kernel_rfl,
  a2 := by as_aux_lemma => exact fun _ => by kernel_rfl,
  z2 := by as_aux_lemma => exact fun _ => by kernel_rfl,
  v2 := by as_aux_lemma => exact fun _ => by kernel_rfl,
  t3 := by as_aux_lemma => kernel_rfl,
  a3 := by as_aux_lemma => exact fun _ => by kernel_rfl,
  z3 := by as_aux_lemma => exact fun _ => by kernel_rfl,
  v3 := by as_aux_lemma => exact fun _ => by kernel_rfl,
  t4 := by as_aux_lemma => kernel_rfl,
  a4 := by as_aux_lemma => exact fun _ => by kernel_rfl,
  z4 := by as_aux_lemma => exact fun _ => by kernel_rfl,
  v4 := by as_aux_lemma => exact fun _ => by kernel_rfl,
  t5 := by as_aux_lemma => kernel_rfl,
  a5 := by as_aux_lemma => exact fun _ => by kernel_rfl,
  z5 := by as_aux_lemma => exact fun _ => by kernel_rfl,
  v5 := by as_aux_lemma => exact fun _ => by kernel_rfl,
  t9 := by as_aux_lemma => kernel_rfl,
  a9 := by as_aux_lemma => exact fun _ => by kernel_rfl,
  z9 := by as_aux_lemma => exact fun _ => by kernel_rfl,
  v9 := by as_aux_lemma => exact fun _ => by kernel_rfl,
  t20 := by as_aux_lemma => kernel_rfl,
  a20 := by as_aux_lemma => exact fun _ => by kernel_rfl,
  z20 := by as_aux_lemma => exact fun _ => by kernel_rfl,
  v20 := by as_aux_lemma => exact fun _ => by kernel_rfl,
  t37 := by as_aux_lemma => kernel_rfl,
  a37 := by as_aux_lemma => exact fun _ => by kernel_rfl,
  z37 := by as_aux_lemma => exact fun _ => by kernel_rfl,
  v37 := by as_aux_lemma => exact fun _ => by kernel_rfl,
  t46 := by as_aux_lemma => kernel_rfl,
  a46 := by as_aux_lemma => exact fun _ => by kernel_rfl,
  z46 := by as_aux_lemma => exact fun _ => by kernel_rfl,
  v46 := by as_aux_lemma => exact fun _ => by kernel_rfl,
  t51 := by as_aux_lemma => kernel_rfl,
  a51 := by as_aux_lemma => exact fun _ => by kernel_rfl,
  z51 := by as_aux_lemma => exact fun _ => by kernel_rfl,
  v51 := by as_aux_lemma => exact fun _ => by kernel_rfl,
  t53 := by as_aux_lemma => kernel_rfl,
  a53 := by as_aux_lemma => exact fun _ => by kernel_rfl,
  z53 := by as_aux_lemma => exact fun _ => by kernel_rfl,
  v53 := by as_aux_lemma => exact fun _ => by kernel_rfl,
  t75 := by as_aux_lemma => kernel_rfl,
  a75 := by as_aux_lemma => exact fun _ => by kernel_rfl,
  z75 := by as_aux_lemma => exact fun _ => by kernel_rfl,
  v75 := by as_aux_lemma => exact fun _ => by kernel_rfl,
  t127 := by as_aux_lemma => kernel_rfl,
  a127 := by as_aux_lemma => exact fun _ => by kernel_rfl,
  z127 := by as_aux_lemma => exact fun _ => by kernel_rfl,
  v127 := by as_aux_lemma => exact fun _ => by kernel_rfl,
  t143 := by as_aux_lemma => kernel_rfl,
  a143 := by as_aux_lemma => exact fun _ => by kernel_rfl,
  z143 := by as_aux_lemma => exact fun _ => by kernel_rfl,
  v143 := by as_aux_lemma => exact fun _ => by kernel_rfl,
  t145 := by as_aux_lemma => kernel_rfl,
  a145 := by as_aux_lemma => exact fun _ => by kernel_rfl,
  z145 := by as_aux_lemma => exact fun _ => by kernel_rfl,
  v145 := by as_aux_lemma => exact fun _ => by kernel_rfl,
  t167 := by as_aux_lemma => kernel_rfl,
  a167 := by as_aux_lemma => exact fun _ => by kernel_rfl,
  z167 := by as_aux_lemma => exact fun _ => by kernel_rfl,
  v167 := by as_aux_lemma => exact fun _ => by kernel_rfl,
  t168 := by as_aux_lemma => kernel_rfl,
  a168 := by as_aux_lemma => exact fun _ => by kernel_rfl,
  z168 := by as_aux_lemma => exact fun _ => by kernel_rfl,
  v168 := by as_aux_lemma => exact fun _ => by kernel_rfl,
  t171 := by as_aux_lemma => kernel_rfl,
  a171 := by as_aux_lemma => exact fun _ => by kernel_rfl,
  z171 := by as_aux_lemma => exact fun _ => by kernel_rfl,
  v171 := by as_aux_lemma => exact fun _ => by kernel_rfl,
  t173 := by as_aux_lemma => kernel_rfl,
  a173 := by as_aux_lemma => exact fun _ => by kernel_rfl,
  z173 := by as_aux_lemma => exact fun _ => by kernel_rfl,
  v173 := by as_aux_lemma => exact fun _ => by kernel_rfl,
  t210 := by as_aux_lemma => kernel_rfl,
  a210 := by as_aux_lemma => exact fun _ => by kernel_rfl,
  z210 := by as_aux_lemma => exact fun _ => by kernel_rfl,
  v210 := by as_aux_lemma => exact fun _ => by kernel_rfl,
  t212 := by as_aux_lemma => kernel_rfl,
  a212 := by as_aux_lemma => exact fun _ => by kernel_rfl,
  z212 := by as_aux_lemma => exact fun _ => by kernel_rfl,
  v212 := by as_aux_lemma => exact fun _ => by kernel_rfl,
  t213 := by as_aux_lemma => kernel_rfl,
  a213 := by as_aux_lemma => exact fun _ => by kernel_rfl,
  z213 := by as_aux_lemma => exact fun _ => by kernel_rfl,
  t232 := by as_aux_lemma => kernel_rfl,
  a232 := by as_aux_lemma => exact fun _ => by kernel_rfl,
  z232 := by as_aux_lemma => exact fun _ => by kernel_rfl,
  v232 := by as_aux_lemma => exact fun _ => by kernel_rfl,
  t233 := by as_aux_lemma => kernel_rfl,
  a233 := by as_aux_lemma => exact fun _ => by kernel_rfl,
  z233 := by as_aux_lemma => exact fun _ => by kernel_rfl,
  v233 := by as_aux_lemma => exact fun _ => by kernel_rfl,
  g15 := by as_aux_lemma => kernel_rfl,
  g16 := by as_aux_lemma => kernel_rfl,
  g17 := by as_aux_lemma => kernel_rfl,
  g18 := by as_aux_lemma => kernel_rfl,
  g19 := by as_aux_lemma => kernel_rfl,
  t80 := by as_aux_lemma => kernel_rfl,
  a80 := by as_aux_lemma => exact fun _ => by kernel_rfl,
  z80 := by as_aux_lemma => exact fun _ => by kernel_rfl,
  v80 := by as_aux_lemma => exact fun _ => by kernel_rfl,
  i0 := by as_aux_lemma => kernel_rfl,
  i2 := by as_aux_lemma => kernel_rfl,
  i3 := by as_aux_lemma => kernel_rfl,
  i4 := by as_aux_lemma => kernel_rfl,
  i5 := by as_aux_lemma => kernel_rfl,
  i9 := by as_aux_lemma => kernel_rfl,
  i20 := by as_aux_lemma => kernel_rfl,
  i37 := by as_aux_lemma => kernel_rfl,
  i46 := by as_aux_lemma => kernel_rfl,
  i51 := by as_aux_lemma => kernel_rfl,
  i53 := by as_aux_lemma => kernel_rfl,
  i75 := by as_aux_lemma => kernel_rfl,
  i80 := by as_aux_lemma => kernel_rfl,
  i127 := by as_aux_lemma => kernel_rfl,
  i143 := by as_aux_lemma => kernel_rfl,
  i145 := by as_aux_lemma => kernel_rfl,
  i167 := by as_aux_lemma => kernel_rfl,
  i168 := by as_aux_lemma => kernel_rfl,
  i171 := by as_aux_lemma => kernel_rfl,
  i173 := by as_aux_lemma => kernel_rfl,
  i210 := by as_aux_lemma => kernel_rfl,
  i212 := by as_aux_lemma => kernel_rfl,
  i232 := by as_aux_lemma => kernel_rfl,
  i233 := by as_aux_lemma => kernel_rfl,
  m15 := by as_aux_lemma => kernel_rfl,
  m16 := by as_aux_lemma => kernel_rfl,
  m17 := by as_aux_lemma => kernel_rfl,
  m18 := by as_aux_lemma => kernel_rfl,
  m19 := by as_aux_lemma => kernel_rfl,
  c0 := by as_aux_lemma => kernel_rfl,
  c2 := by as_aux_lemma => kernel_rfl,
  c3 := by as_aux_lemma => kernel_rfl,
  c4 := by as_aux_lemma => kernel_rfl,
  c5 := by as_aux_lemma => kernel_rfl,
  c9 := by as_aux_lemma => kernel_rfl,
  c20 := by as_aux_lemma => kernel_rfl,
  c37 := by as_aux_lemma => kernel_rfl,
  c46 := by as_aux_lemma => kernel_rfl,
  c51 := by as_aux_lemma => kernel_rfl,
  c53 := by as_aux_lemma => kernel_rfl,
  c75 := by as_aux_lemma => kernel_rfl,
  c80 := by as_aux_lemma => kernel_rfl,
  c127 := by as_aux_lemma => kernel_rfl,
  c143 := by as_aux_lemma => kernel_rfl,
  c145 := by as_aux_lemma => kernel_rfl,
  c167 := by as_aux_lemma => kernel_rfl,
  c168 := by as_aux_lemma => kernel_rfl,
  c171 := by as_aux_lemma => kernel_rfl,
  c173 := by as_aux_lemma => kernel_rfl,
  c210 := by as_aux_lemma => kernel_rfl,
  c212 := by as_aux_lemma => kernel_rfl,
  c213 := by as_aux_lemma => kernel_rfl,
  c232 := by as_aux_lemma => kernel_rfl,
  c233 := by as_aux_lemma => kernel_rfl }
end Go.Proofs.YtbakbikilbaafaaGreatDoor
namespace Go.Proofs.YtbakbikilbaafaaGreatDoor
open Go.RowKit F64
set_option linter.unusedVariables false
set_option maxHeartbeats 2000000
set_option maxRecDepth 100000

theorem s_Cut (s sep : ByteArray) (m : Int) (w : World) (hs : s.size < 4294967281) (hm : w.cell? ⟨4, 0, none⟩ = some (.int .i64 m)) :
    Calls Tryz.prog 61 #[.string s, .string sep] w fun e w' => e = .returned (.tuple #[.string ⟨(Lib.cut s.data.toList sep.data.toList).1.toArray⟩, .string ⟨(Lib.cut s.data.toList sep.data.toList).2.1.toArray⟩, .bool (Lib.cut s.data.toList sep.data.toList).2.2]) ∧ ∃ n, w' = w.drewN n :=
  Any.strings_Cut lays145 s sep m w hs hm
theorem s_Replace (s old new : ByteArray) (n m : Int) (w : World) (hs : s.size < 4294967281) (hm : w.cell? ⟨4, 0, none⟩ = some (.int .i64 m)) (h1 : 1 ≤ old.size) (hlen : s.size + Lib.countB s old * new.size ≤ 140737488355328) :
    Calls Tryz.prog 63 #[.string s, .string old, .string new, .int .i64 n] w fun e w' => e = .returned (.string ⟨(Lib.replace s.data.toList old.data.toList new.data.toList n).toArray⟩) ∧ Below w.heap.size w w' :=
  Any.strings_Replace lays154 bextra s old new n m w hs hm h1 hlen
theorem s_Repeat (s : ByteArray) (c : Nat) (w : World) (hc : c ≤ 9223372036854775807) (hlen : s.size * c ≤ 140737488355328) :
    Calls Tryz.prog 65 #[.string s, .int .i64 c] w fun e w' => e = .returned (.string ⟨(Lib.repeatL s.data.toList c).toArray⟩) ∧ Below w.heap.size w w' :=
  Any.strings_Repeat lays105 bextra s c w hc hlen
theorem s_TrimPrefix (s p : ByteArray) (w : World) :
    Calls Tryz.prog 78 #[.string s, .string p] w fun e w' => e = .returned (.string ⟨(Lib.trimPrefix s.data.toList p.data.toList).toArray⟩) ∧ w' = w :=
  Any.strings_TrimPrefix lays101 s p w
theorem s_IndexAny (s chars : ByteArray) (w : World) (hs : s.size < 4294967281) (hcs : chars.size < 4294967281) (has : ∀ (j : Nat) b, s.data.toList[j]? = some b → b.toNat < 128) (hac : ∀ (j : Nat) b, chars.data.toList[j]? = some b → b.toNat < 128) :
    Calls Tryz.prog 79 #[.string s, .string chars] w fun e w' => e = .returned (.int .i64 (Lib.indexAny s.data.toList chars.data.toList)) ∧ Below w.heap.size w w' :=
  Any.strings_IndexAny_laid lays153 (by kernel_rfl) s chars w hs hcs has hac
theorem s_TrimLeft (s : ByteArray) (c : UInt8) (hc : c.toNat < 128) (w : World) :
    Calls Tryz.prog 80 #[.string s, .string ⟨#[c]⟩] w fun e w' => e = .returned (.string ⟨(Lib.trimLeftB s.data.toList c).toArray⟩) ∧ w' = w :=
  Any.strings_TrimLeft_one lays161 s c hc w
theorem s_IndexByte (s : ByteArray) (c : Int) (w : World) :
    Calls Tryz.prog 72 #[.string s, .int .u8 c] w fun e w' => e = .returned (.int .i64 (Lib.indexByte s.data.toList c.toNat.toUInt8)) ∧ w' = w :=
  Any.strings_IndexByte lays137 s c w
theorem s_Atoi (s : ByteArray) (n : Int) (hl : s.size ≤ 18) (h : Lib.atoi s.data.toList = some n) (w : World) :
    Calls Tryz.prog 64 #[.string s] w fun e w' => e = .returned (.tuple #[.int .i64 n, .nilIface]) ∧ ∃ t, w' = Lib.bytesWorld w 5 t :=
  Any.strconv_Atoi lays172 s n hl h w
theorem s_Itoa (n : Int) (h0 : -9223372036854775808 ≤ n) (h1 : n ≤ 9223372036854775807) (w : World) (htab : Lib.TabIs Tryz.prog w "internal/strconv.uint64pow10" .u64 Lib.pow10Tab) :
    Calls Tryz.prog 66 #[.int .i64 n] w fun e w' => e = .returned (.string ⟨(Lib.itoa n).toArray⟩) ∧ Below w.heap.size w w' := by
  refine (Any.strconv_Itoa lays171 n h0 h1 w htab).mono ?_
  rintro e w' ⟨he, k, os, rfl⟩
  exact ⟨he, Lib.below_grow _ _ (Nat.le_refl _) _ _⟩
theorem s_LZ64 (x : Int) (w : World) (h0 : 0 ≤ x) (h1 : x ≤ 18446744073709551615) :
    Calls Tryz.prog 109 #[.int .u64 x] w fun e w' => e = .returned (.int .i64 (64 - (Lib.bitLen x.toNat : Int))) ∧ w' = w :=
  Any.bits_LeadingZeros64 lays134 x w h0 h1
theorem s_WriteByte (B b : Nat) (bs : List Value) (c : Int) (w : World) (h : Lib.IsBuilder 93 5 B b bs w) (hlen : bs.length + 1 ≤ 140737488355328) (hBw : B ≤ w.heap.size) :
    Calls Tryz.prog 70 #[.pointer (some ⟨b, 0, none⟩), .int .u8 c] w fun e w' => e = .returned .nilIface ∧ (Lib.BuilderAt 93 5 B b (.pointer (some ⟨b, 0, none⟩)) (bs ++ [.int .u8 c]) w' ∧ Below B w w') :=
  Any.Builder_WriteByte lays167 bextra B b bs c w h hlen hBw
theorem s_String (B b : Nat) (l : List UInt8) (w : World) (h : Lib.IsBuilder 93 5 B b (Lib.byteCells l) w) (hBw : B ≤ w.heap.size) :
    Calls Tryz.prog 71 #[.pointer (some ⟨b, 0, none⟩)] w fun e w' => e = .returned (.string ⟨l.toArray⟩) ∧ Below B w w' :=
  Any.Builder_String_any lays169 bextra B b l w h hBw
theorem s_toErr (fn s : ByteArray) (base bits : Int) (ev : Value) (w : World) (hlim : s.size ≤ 281474976710656) (hv : w.cell? ⟨7, 0, none⟩ = some ev) (hev : ev = .nilIface ∨ ∃ te pe, ev = .iface te pe) :
    Calls Tryz.prog 98 #[.string fn, .string s, .int .i64 base, .int .i64 bits, errR] w fun e w' => (∃ v, e = .returned v) ∧ Below w.heap.size w w' :=
  (Any.strconv_toError_range lays245 fn s base bits ev w hlim hv hev).mono fun e w' ⟨N, h1, _, _, h4⟩ => ⟨⟨_, h1⟩, h4⟩
/-- what ParseFloat answers -/
def PfR (v : Nat) (r : Ending) : Prop := ∃ er, r = .returned (.tuple #[.float .f64 v, er])
theorem c_PFI (S : ByteArray) (v : Nat) (w : World) (hA : Calls Tryz.prog 175 #[.string S] w fun r w' => AtR v S.size r ∧ Below w.heap.size w w') :
    Calls Tryz.prog 106 #[.string S, .int .i64 64] w fun r w' => (∃ er, r = .returned (.tuple #[.float .f64 v, er]) ∧ (er = .nilIface ∨ er = errR)) ∧ Below w.heap.size w w' := by
  have hP : Calls Tryz.prog 145 #[.string S, .int .i64 64] w fun r w' => AtR v S.size r ∧ Below w.heap.size w w' := by
    replace hA := Lib.hid hA
    go_enter Tryz.func145, Tryz.ntmps145
    go_wp2_with fail
    refine hA.out.mono ?_
    rintro e w1 ⟨⟨er, rfl, her⟩, hb⟩
    replace her := Lib.hid her
    go_wp2_with fail
    go_ret3
    exact ⟨⟨_, rfl, her.out⟩, hb⟩
  replace hP := Lib.hid hP
  have hs : ((S.size : Int) != (S.size : Int)) = false := by simp
  go_enter Tryz.func106, Tryz.ntmps106
  go_wp2_with fail
  refine hP.out.mono ?_
  rintro e w1 ⟨⟨er, rfl, her⟩, hb⟩
  replace her := Lib.hid her
  go_wp2_with fail
  go_ret2
  exact ⟨⟨_, rfl, her.out⟩, hb⟩
theorem c_ParseFloat (S : ByteArray) (v : Nat) (w : World) (hL : LibW w) (hS : S.size ≤ 281474976710656) (hA : Calls Tryz.prog 175 #[.string S] w fun r w' => AtR v S.size r ∧ Below w.heap.size w w') :
    Calls Tryz.prog 75 #[.string S, .int .i64 64] w fun r w' => PfR v r ∧ Below w.heap.size w w' := by
  have hP := Lib.hid (c_PFI S v w hA)
  have hE := Lib.hid (fun W (hb : Below w.heap.size w W) => by
    obtain ⟨te, pe, he⟩ := (hL.keep hb).er
    exact s_toErr ⟨#[80, 97, 114, 115, 101, 70, 108, 111, 97, 116]⟩ S 0 64 _ W hS he (.inr ⟨te, pe, rfl⟩))
  clear hA hL
  go_enter Tryz.func75, Tryz.ntmps75
  go_wp2_with fail
  refine hP.out.mono ?_
  rintro e w1 ⟨⟨er, rfl, her⟩, hb⟩
  rcases her with rfl | rfl
  · go_wp2_with fail
    go_ret2
    exact ⟨⟨_, rfl⟩, hb⟩
  · have hE2 := hE.out w1 hb
    unfold errR at *
    go_wp2_with fail
    refine hE2.mono ?_
    rintro e w2 ⟨⟨x, rfl⟩, hb2⟩
    go_wp2_with fail
    go_ret2
    exact ⟨⟨_, rfl⟩, hb.trans (hb2.mono hb.size)⟩
end Go.Proofs.YtbakbikilbaafaaGreatDoor
namespace Go.Proofs.YtbakbikilbaafaaGreatDoor
open Go.RowKit F64
set_option linter.unusedVariables false
set_option maxHeartbeats 1000000
set_option maxRecDepth 100000

theorem uG_app (a b : List Nat) : u8sG a ++ u8sG b = u8sG (a ++ b) := by
  unfold u8sG
  apply ByteArray.ext
  simp
theorem uG_size (l : List Nat) : (u8sG l).size = l.length := by simp [u8sG, ByteArray.size]
theorem uG_data (l : List Nat) : (u8sG l).data.toList = l.map UInt8.ofNat := by simp [u8sG]
theorem uG_get (l : List Nat) (j c : Nat) (hc : l[j]? = some c) (h256 : c < 256) (h : j < (u8sG l).size) : ((u8sG l)[j]'h).toNat = c := by
  have hj : j < l.length := by rw [← uG_size]; exact h
  have e : (u8sG l)[j]'h = UInt8.ofNat (l[j]'hj) := by
    have h1 : (u8sG l)[j]'h = (u8sG l).data[j]'h := rfl
    rw [h1]
    simp [u8sG]
  rw [e]
  rw [List.getElem?_eq_getElem hj] at hc
  cases hc
  simp; omega
theorem uG_extract (a b : List Nat) (n i : Nat) (hn : n = (a ++ b).length) (hi : i = a.length) : (u8sG (a ++ b)).extract i n = u8sG b := by
  subst hn hi
  apply ByteArray.ext
  simp only [u8sG, ByteArray.data_extract]
  simp
  exact List.take_of_length_le (by simp)
theorem uG_extract0 (a b : List Nat) (i : Nat) (hi : i = a.length) : (u8sG (a ++ b)).extract 0 i = u8sG a := by
  subst hi
  apply ByteArray.ext
  simp only [u8sG, ByteArray.data_extract]
  simp
theorem uG_mk (l : List UInt8) : (⟨l.toArray⟩ : ByteArray) = u8sG (l.map UInt8.toNat) := by
  unfold u8sG
  rw [List.map_map]
  have : (UInt8.ofNat ∘ UInt8.toNat) = id := by funext x; simp
  rw [this, List.map_id]
theorem index_hit (c : UInt8) : ∀ (A B : List UInt8), c ∉ A → Lib.index (A ++ c :: B) [c] = A.length
  | [], B, _ => by simp [Lib.index]
  | a :: A, B, h => by
    have h1 : a ≠ c := fun e => h (by rw [e]; exact List.mem_cons_self ..)
    have h2 : c ∉ A := fun e => h (List.mem_cons_of_mem _ e)
    have ih := index_hit c A B h2
    show Lib.index (a :: (A ++ c :: B)) [c] = _
    unfold Lib.index
    rw [ih]
    have e1 : [c].isPrefixOf (a :: (A ++ c :: B)) = false := by simp [List.isPrefixOf, Ne.symm h1]
    rw [e1]
    have e2 : ((A.length : Int) == -1) = false := beq_eq_false_iff_ne.2 (by omega)
    simp only [Bool.false_eq_true, if_false, e2, List.length_cons]
    omega
theorem index_miss (c : UInt8) : ∀ (A : List UInt8), c ∉ A → Lib.index A [c] = -1
  | [], _ => rfl
  | a :: A, h => by
    have h1 : a ≠ c := fun e => h (by rw [e]; exact List.mem_cons_self ..)
    have h2 : c ∉ A := fun e => h (List.mem_cons_of_mem _ e)
    have ih := index_miss c A h2
    unfold Lib.index
    rw [ih]
    have e1 : [c].isPrefixOf (a :: A) = false := by simp [List.isPrefixOf, Ne.symm h1]
    rw [e1]
    rfl
theorem cut_hit (c : UInt8) (A B : List UInt8) (h : c ∉ A) : Lib.cut (A ++ c :: B) [c] = (A, B, true) := by
  unfold Lib.cut
  rw [index_hit c A B h, if_pos (by omega)]
  have e : ((A.length : Int)).toNat = A.length := rfl
  rw [e]
  simp
theorem replace_miss (c : UInt8) (A : List UInt8) (h : c ∉ A) : Lib.replace A [c] [] 1 = A := by
  unfold Lib.replace
  have e : ([c] == ([] : List UInt8)) = false := rfl
  rw [e]
  have hc : Lib.count A [c] = 0 := by
    unfold Lib.count Lib.countFrom
    rw [index_miss c A h]
    rfl
  simp only [Bool.false_eq_true, if_false]
  unfold Lib.replaceNum
  rw [hc, if_pos (by omega)]
  rfl
theorem replace_hit (c : UInt8) (A B : List UInt8) (h : c ∉ A) : Lib.replace (A ++ c :: B) [c] [] 1 = A ++ B := by
  unfold Lib.replace
  have e : ([c] == ([] : List UInt8)) = false := rfl
  rw [e]
  have hi := index_hit c A B h
  have hc : 1 ≤ Lib.count (A ++ c :: B) [c] := by
    unfold Lib.count Lib.countFrom
    rw [hi]
    have e2 : ((A.length : Int) == -1) = false := beq_eq_false_iff_ne.2 (by omega)
    rw [e2]
    simp only [Bool.false_eq_true, if_false]
    omega
  simp only [Bool.false_eq_true, if_false]
  unfold Lib.replaceNum
  rw [if_neg (by omega)]
  have e1 : (1 : Int).toNat = 1 := rfl
  rw [e1]
  unfold Lib.replaceK
  rw [hi]
  have e2 : ((A.length : Int) == -1) = false := beq_eq_false_iff_ne.2 (by omega)
  rw [e2]
  have e3 : ((A.length : Int)).toNat = A.length := rfl
  simp only [Bool.false_eq_true, if_false, e3]
  unfold Lib.replaceK
  simp
/-- bytes ahead of the exponent -/
def sciP (m v : Nat) : List Nat := if m = 1 then dg m v else (dg m v).take 1 ++ [46] ++ (dg m v).drop 1
theorem sciG_P (m v : Nat) (E : Int) : sciG m v E = sciP m v ++ 101 :: (exS E :: exD E.natAbs) := by
  unfold sciG sciP; simp
theorem dgG_dig (m v : Nat) : ∀ x ∈ dg m v, 48 ≤ x ∧ x ≤ 57 := by
  intro x hx
  obtain ⟨y, hy, rfl⟩ := List.mem_map.1 hx
  have := fw_lt m v y hy
  omega
theorem sciP_mem (m v : Nat) : ∀ x ∈ sciP m v, x = 46 ∨ 48 ≤ x ∧ x ≤ 57 := by
  intro x hx
  unfold sciP at hx
  split at hx
  · exact .inr (dgG_dig m v x hx)
  · simp only [List.mem_append, List.mem_cons, List.not_mem_nil, or_false] at hx
    rcases hx with (h | h) | h
    · exact .inr (dgG_dig m v x (List.mem_of_mem_take h))
    · exact .inl h
    · exact .inr (dgG_dig m v x (List.mem_of_mem_drop h))
theorem ofNat_mem {l : List Nat} {c : Nat} (hc : c < 256) (h : ∀ x ∈ l, x < 256 ∧ x ≠ c) : UInt8.ofNat c ∉ l.map UInt8.ofNat := by
  intro hm
  obtain ⟨y, hy, e⟩ := List.mem_map.1 hm
  obtain ⟨h1, h2⟩ := h y hy
  have := congrArg UInt8.toNat e
  simp at this
  omega
theorem cut_sci (m v : Nat) (E : Int) : Lib.cut (u8sG (sciG m v E)).data.toList [101] = ((sciP m v).map UInt8.ofNat, (exS E :: exD E.natAbs).map UInt8.ofNat, true) := by
  rw [uG_data, sciG_P, List.map_append, List.map_cons]
  exact cut_hit 101 _ _ (ofNat_mem (c := 101) (by decide) (fun x hx => by rcases sciP_mem m v x hx with h | h <;> omega))
theorem replace_sci (m v : Nat) (hm : 1 ≤ m) : Lib.replace ((sciP m v).map UInt8.ofNat) [46] [] 1 = (dg m v).map UInt8.ofNat := by
  unfold sciP
  split
  · exact replace_miss 46 _ (ofNat_mem (c := 46) (by decide) (fun x hx => by have := dgG_dig m v x hx; omega))
  · rw [List.append_assoc, List.map_append, List.singleton_append, List.map_cons]
    have := replace_hit 46 (((dg m v).take 1).map UInt8.ofNat) (((dg m v).drop 1).map UInt8.ofNat) (ofNat_mem (c := 46) (by decide) (fun x hx => by have := dgG_dig m v x (List.mem_of_mem_take hx); omega))
    rw [show UInt8.ofNat 46 = 46 from rfl, this, ← List.map_append, List.take_append_drop]
theorem atoi_exp : ∀ E : Int, -1000 < E → E < 1000 → Lib.atoi ((exS E :: exD E.natAbs).map UInt8.ofNat) = some E := by
  have h1 : ∀ e : Fin 1000, Lib.atoi ((exS (e.val : Int) :: exD e.val).map UInt8.ofNat) = some (e.val : Int) := by decide +kernel
  have h2 : ∀ e : Fin 1000, e.val ≠ 0 → Lib.atoi ((exS (-(e.val : Int)) :: exD e.val).map UInt8.ofNat) = some (-(e.val : Int)) := by decide +kernel
  intro E ha hb
  by_cases h : 0 ≤ E
  · obtain ⟨e, rfl⟩ : ∃ e : Nat, E = (e : Int) := ⟨E.toNat, by omega⟩
    exact h1 ⟨e, by omega⟩
  · obtain ⟨e, he, rfl⟩ : ∃ e : Nat, e ≠ 0 ∧ E = -(e : Int) := ⟨E.natAbs, by omega, by omega⟩
    rw [Int.natAbs_neg]
    exact h2 ⟨e, by omega⟩ he
theorem repeat_zero (k : Nat) : Lib.repeatL [48] k = (List.replicate k 48).map UInt8.ofNat := by
  induction k with
  | zero => rfl
  | succ k ih => rw [List.replicate_succ, List.map_cons, Lib.repeatL, ih]; rfl
/-- a whole number's digits -/
def itG (n : Nat) : List Nat := (Lib.decDigits n).map UInt8.toNat
/-- a positive finite number's text, of digits v (m of them) and exponent E -/
def txtG (m v : Nat) (E : Int) : List Nat :=
  if (m : Int) ≤ E + 1 ∧ E + 1 ≤ 21 then dg m v ++ List.replicate (E + 1 - m).toNat 48
  else if 0 < E + 1 ∧ E + 1 ≤ 21 then (dg m v).take (E + 1).toNat ++ [46] ++ (dg m v).drop (E + 1).toNat
  else if -6 < E + 1 ∧ E + 1 ≤ 0 then [48, 46] ++ List.replicate (-(E + 1)).toNat 48 ++ dg m v
  else sciP m v ++ [101] ++ [exS E] ++ itG E.natAbs
end Go.Proofs.YtbakbikilbaafaaGreatDoor
