/- The laying of strings.Join, strings.Split, strings.CutPrefix and strconv.Atoi at this program. Printed by laytxt.py. What the proofs of this seat share: how Go data lie in memory (rows of cells), as Lean predicates over worlds. What a row of Go data gives at one place. -/
import Derived.Test.YtjnghnkilnhacaaGreatDoorProg
import Derived.Shelf.Strings.SplitShaped
import Derived.Shelf.Strings.OnBuilder
import Derived.Shelf.Strconv.ErrVarAll
import Derived.Shelf.Small.Wraps
import Derived.WalkKit
import Derived.ProofKit
import Derived.Below
import Derived.BigQuiet
import Derived.Deep.QuietTactic
import Derived.Deep.LoopGhost
import Derived.WalkSpells
import Derived.Outline
import Derived.Shelf.Abstract
import Derived.OwnWalk
import Derived.StillTailTactics
import Derived.Laws.MakeOwn
import Derived.Laws.OwnMore
import Derived.Laws.Rows
import Derived.Deep.AppendLies
import Derived.Deep.Draws
import Derived.Maps.AppendAt
namespace Go.Proofs.YtjnghnkilnhacaaGreatDoor
open Go.Shelf
set_option linter.unusedVariables false

def tLayJoin_ren : Ren := ⟨fun | 156 => 22 | 165 => 43 | 166 => 44 | 169 => 45 | 240 => 69 | 241 => 70 | 276 => 86 | 277 => 87 | n => n, fun | 31 => 38 | 9 => 9 | 3 => 3 | 4 => 4 | 0 => 0 | 20 => 20 | 72 => 70 | 76 => 74 | 70 => 68 | 37 => 22 | 75 => 73 | 127 => 96 | 164 => 107 | 5 => 5 | 80 => 76 | n => n, fun | n => n⟩
set_option maxRecDepth 100000 in
theorem tLayJoin : Lays.n156 Tryz.prog tLayJoin_ren where
  mixed := by kernel_rfl
  f156 := Tryz.func22.trans (congrArg some (by kernel_rfl))
  f165 := Tryz.func43.trans (congrArg some (by kernel_rfl))
  f166 := Tryz.func44.trans (congrArg some (by kernel_rfl))
  f169 := Tryz.func45.trans (congrArg some (by kernel_rfl))
  f240 := Tryz.func69.trans (congrArg some (by kernel_rfl))
  f241 := Tryz.func70.trans (congrArg some (by kernel_rfl))
  f276 := Tryz.func86.trans (congrArg some (by kernel_rfl))
  f277 := Tryz.func87.trans (congrArg some (by kernel_rfl))
  t0 := Tryz.underlying0
  a0 := Tryz.isAgg0
  z0 := Tryz.sizeOf0
  v0 := Tryz.zeroValue0
  t3 := Tryz.underlying3
  a3 := Tryz.isAgg3
  z3 := Tryz.sizeOf3
  v3 := Tryz.zeroValue3
  t4 := Tryz.underlying4
  a4 := Tryz.isAgg4
  z4 := Tryz.sizeOf4
  v4 := Tryz.zeroValue4
  t9 := Tryz.underlying9
  a9 := Tryz.isAgg9
  z9 := Tryz.sizeOf9
  v9 := Tryz.zeroValue9
  t20 := Tryz.underlying20
  a20 := Tryz.isAgg20
  z20 := Tryz.sizeOf20
  v20 := Tryz.zeroValue20
  t31 := Tryz.underlying38
  a31 := Tryz.isAgg38
  z31 := Tryz.sizeOf38
  v31 := Tryz.zeroValue38
  t37 := Tryz.underlying22
  a37 := Tryz.isAgg22
  z37 := Tryz.sizeOf22
  v37 := Tryz.zeroValue22
  t70 := Tryz.underlying68
  a70 := Tryz.isAgg68
  z70 := Tryz.sizeOf68
  v70 := Tryz.zeroValue68
  t72 := Tryz.underlying70
  a72 := Tryz.isAgg70
  z72 := Tryz.sizeOf70
  v72 := Tryz.zeroValue70
  t75 := Tryz.underlying73
  a75 := Tryz.isAgg73
  z75 := Tryz.sizeOf73
  v75 := Tryz.zeroValue73
  t76 := Tryz.underlying74
  a76 := Tryz.isAgg74
  z76 := Tryz.sizeOf74
  v76 := Tryz.zeroValue74
  t127 := Tryz.underlying96
  a127 := Tryz.isAgg96
  z127 := Tryz.sizeOf96
  v127 := Tryz.zeroValue96
  t164 := Tryz.underlying107
  a164 := Tryz.isAgg107
  z164 := Tryz.sizeOf107
  v164 := Tryz.zeroValue107

def tLaySplit_ren : Ren := ⟨fun | 146 => 53 | 221 => 77 | 268 => 90 | 138 => 91 | 143 => 76 | 195 => 103 | 197 => 75 | 218 => 104 | 219 => 89 | 260 => 88 | 217 => 99 | 225 => 100 | 224 => 101 | 267 => 102 | 266 => 116 | 314 => 117 | n => n, fun | 9 => 9 | 31 => 38 | 3 => 3 | 4 => 4 | 0 => 0 | 105 => 97 | 21 => 21 | 5 => 5 | 46 => 119 | 119 => 118 | 139 => 122 | 138 => 121 | 146 => 136 | 51 => 133 | n => n, fun | 1 => 0 | 3 => 1 | 4 => 2 | n => n⟩
set_option maxRecDepth 100000 in
theorem tLaySplit : LaysM.n146 Tryz.prog tLaySplit_ren where
  mixed := by kernel_rfl
  f138 := Tryz.func91.trans (congrArg some (by kernel_rfl))
  f143 := Tryz.func76.trans (congrArg some (by kernel_rfl))
  f146 := Tryz.func53.trans (congrArg some (by kernel_rfl))
  f195 := Tryz.func103.trans (congrArg some (by kernel_rfl))
  f197 := Tryz.func75.trans (congrArg some (by kernel_rfl))
  f217 := Tryz.func99.trans (congrArg some (by kernel_rfl))
  f218 := Tryz.func104.trans (congrArg some (by kernel_rfl))
  f219 := Tryz.func89.trans (congrArg some (by kernel_rfl))
  f221 := Tryz.func77.trans (congrArg some (by kernel_rfl))
  f224 := Tryz.func101.trans (congrArg some (by kernel_rfl))
  f225 := Tryz.func100.trans (congrArg some (by kernel_rfl))
  f260 := Tryz.func88.trans (congrArg some (by kernel_rfl))
  f266 := Tryz.func116.trans (congrArg some (by kernel_rfl))
  f267 := Tryz.func102.trans (congrArg some (by kernel_rfl))
  f268 := Tryz.func90.trans (congrArg some (by kernel_rfl))
  f314 := Tryz.func117.trans (congrArg some (by kernel_rfl))
  t0 := Tryz.underlying0
  a0 := Tryz.isAgg0
  z0 := Tryz.sizeOf0
  v0 := Tryz.zeroValue0
  t3 := Tryz.underlying3
  a3 := Tryz.isAgg3
  z3 := Tryz.sizeOf3
  v3 := Tryz.zeroValue3
  t4 := Tryz.underlying4
  a4 := Tryz.isAgg4
  z4 := Tryz.sizeOf4
  v4 := Tryz.zeroValue4
  t5 := Tryz.underlying5
  a5 := Tryz.isAgg5
  z5 := Tryz.sizeOf5
  v5 := Tryz.zeroValue5
  t9 := Tryz.underlying9
  a9 := Tryz.isAgg9
  z9 := Tryz.sizeOf9
  v9 := Tryz.zeroValue9
  t21 := Tryz.underlying21
  a21 := Tryz.isAgg21
  z21 := Tryz.sizeOf21
  v21 := Tryz.zeroValue21
  t31 := Tryz.underlying38
  a31 := Tryz.isAgg38
  z31 := Tryz.sizeOf38
  v31 := Tryz.zeroValue38
  t46 := Tryz.underlying119
  a46 := Tryz.isAgg119
  z46 := Tryz.sizeOf119
  v46 := Tryz.zeroValue119
  t51 := Tryz.underlying133
  a51 := Tryz.isAgg133
  z51 := Tryz.sizeOf133
  v51 := Tryz.zeroValue133
  t105 := Tryz.underlying97
  a105 := Tryz.isAgg97
  z105 := Tryz.sizeOf97
  v105 := Tryz.zeroValue97
  t119 := Tryz.underlying118
  a119 := Tryz.isAgg118
  z119 := Tryz.sizeOf118
  t138 := Tryz.underlying121
  a138 := Tryz.isAgg121
  z138 := Tryz.sizeOf121
  v138 := Tryz.zeroValue121
  t139 := Tryz.underlying122
  a139 := Tryz.isAgg122
  z139 := Tryz.sizeOf122
  v139 := Tryz.zeroValue122
  t146 := Tryz.underlying136
  a146 := Tryz.isAgg136
  z146 := Tryz.sizeOf136
  v146 := Tryz.zeroValue136
  g1 := by kernel_rfl
  g3 := by kernel_rfl
  g4 := by kernel_rfl
  i0 := by kernel_rfl
  i3 := by kernel_rfl
  i4 := by kernel_rfl
  i5 := by kernel_rfl
  i9 := by kernel_rfl
  i21 := by kernel_rfl
  i31 := by kernel_rfl
  i46 := by kernel_rfl
  i51 := by kernel_rfl
  i105 := by kernel_rfl
  i138 := by kernel_rfl
  i139 := by kernel_rfl
  i146 := by kernel_rfl
  m1 := by kernel_rfl
  s1_3 := fun w h => Go.Proofs.cell_of_shapedOpen_int (zero := #[.int .i64 0]) (t := 3) h (of_decide_eq_true (by kernel_rfl)) (by kernel_rfl) rfl (by kernel_rfl) (by kernel_rfl) Tryz.underlying3
  m3 := by kernel_rfl
  m4 := by kernel_rfl

def tLayAtoi_ren : Ren := ⟨fun | 172 => 79 | 244 => 93 | 245 => 94 | 247 => 106 | 279 => 107 | 280 => 108 | 281 => 109 | 282 => 110 | 287 => 118 | 316 => 119 | 171 => 42 | 205 => 120 | 321 => 123 | 322 => 124 | 243 => 68 | 246 => 85 | 283 => 95 | 284 => 96 | 285 => 97 | 286 => 98 | 129 => 112 | 317 => 111 | 318 => 113 | 319 => 114 | 320 => 115 | 337 => 121 | 338 => 122 | n => n, fun | 9 => 9 | 3 => 3 | 75 => 73 | 76 => 74 | 4 => 4 | 5 => 5 | 167 => 125 | 37 => 22 | 0 => 0 | 85 => 126 | 2 => 2 | 168 => 128 | 53 => 113 | 175 => 138 | 46 => 119 | 210 => 142 | 127 => 96 | 145 => 148 | 143 => 146 | 21 => 21 | 171 => 112 | 173 => 116 | 212 => 132 | 51 => 133 | 20 => 20 | 213 => 134 | 232 => 149 | 233 => 150 | 80 => 76 | n => n, fun | 15 => 4 | 16 => 5 | 17 => 3 | 18 => 6 | 19 => 7 | n => n⟩
set_option maxRecDepth 100000 in
theorem tLayAtoi : LaysC.n172 Tryz.prog tLayAtoi_ren where
  mixed := by kernel_rfl
  f129 := Tryz.func112.trans (congrArg some (by kernel_rfl))
  f171 := Tryz.func42.trans (congrArg some (by kernel_rfl))
  f172 := Tryz.func79.trans (congrArg some (by kernel_rfl))
  f205 := Tryz.func120.trans (congrArg some (by kernel_rfl))
  f243 := Tryz.func68.trans (congrArg some (by kernel_rfl))
  f244 := Tryz.func93.trans (congrArg some (by kernel_rfl))
  f245 := Tryz.func94.trans (congrArg some (by kernel_rfl))
  f246 := Tryz.func85.trans (congrArg some (by kernel_rfl))
  f247 := Tryz.func106.trans (congrArg some (by kernel_rfl))
  f279 := Tryz.func107.trans (congrArg some (by kernel_rfl))
  f280 := Tryz.func108.trans (congrArg some (by kernel_rfl))
  f281 := Tryz.func109.trans (congrArg some (by kernel_rfl))
  f282 := Tryz.func110.trans (congrArg some (by kernel_rfl))
  f283 := Tryz.func95.trans (congrArg some (by kernel_rfl))
  f284 := Tryz.func96.trans (congrArg some (by kernel_rfl))
  f285 := Tryz.func97.trans (congrArg some (by kernel_rfl))
  f286 := Tryz.func98.trans (congrArg some (by kernel_rfl))
  f287 := Tryz.func118.trans (congrArg some (by kernel_rfl))
  f316 := Tryz.func119.trans (congrArg some (by kernel_rfl))
  f317 := Tryz.func111.trans (congrArg some (by kernel_rfl))
  f318 := Tryz.func113.trans (congrArg some (by kernel_rfl))
  f319 := Tryz.func114.trans (congrArg some (by kernel_rfl))
  f320 := Tryz.func115.trans (congrArg some (by kernel_rfl))
  f321 := Tryz.func123.trans (congrArg some (by kernel_rfl))
  f322 := Tryz.func124.trans (congrArg some (by kernel_rfl))
  f337 := Tryz.func121.trans (congrArg some (by kernel_rfl))
  f338 := Tryz.func122.trans (congrArg some (by kernel_rfl))
  t0 := Tryz.underlying0
  a0 := Tryz.isAgg0
  z0 := Tryz.sizeOf0
  v0 := Tryz.zeroValue0
  t2 := Tryz.underlying2
  a2 := Tryz.isAgg2
  z2 := Tryz.sizeOf2
  v2 := Tryz.zeroValue2
  t3 := Tryz.underlying3
  a3 := Tryz.isAgg3
  z3 := Tryz.sizeOf3
  v3 := Tryz.zeroValue3
  t4 := Tryz.underlying4
  a4 := Tryz.isAgg4
  z4 := Tryz.sizeOf4
  v4 := Tryz.zeroValue4
  t5 := Tryz.underlying5
  a5 := Tryz.isAgg5
  z5 := Tryz.sizeOf5
  v5 := Tryz.zeroValue5
  t9 := Tryz.underlying9
  a9 := Tryz.isAgg9
  z9 := Tryz.sizeOf9
  v9 := Tryz.zeroValue9
  t20 := Tryz.underlying20
  a20 := Tryz.isAgg20
  z20 := Tryz.sizeOf20
  v20 := Tryz.zeroValue20
  t21 := Tryz.underlying21
  a21 := Tryz.isAgg21
  z21 := Tryz.sizeOf21
  v21 := Tryz.zeroValue21
  t37 := Tryz.underlying22
  a37 := Tryz.isAgg22
  z37 := Tryz.sizeOf22
  v37 := Tryz.zeroValue22
  t46 := Tryz.underlying119
  a46 := Tryz.isAgg119
  z46 := Tryz.sizeOf119
  v46 := Tryz.zeroValue119
  t51 := Tryz.underlying133
  a51 := Tryz.isAgg133
  z51 := Tryz.sizeOf133
  v51 := Tryz.zeroValue133
  t53 := Tryz.underlying113
  a53 := Tryz.isAgg113
  z53 := Tryz.sizeOf113
  v53 := Tryz.zeroValue113
  t75 := Tryz.underlying73
  a75 := Tryz.isAgg73
  z75 := Tryz.sizeOf73
  v75 := Tryz.zeroValue73
  t76 := Tryz.underlying74
  a76 := Tryz.isAgg74
  z76 := Tryz.sizeOf74
  v76 := Tryz.zeroValue74
  t85 := Tryz.underlying126
  a85 := Tryz.isAgg126
  z85 := Tryz.sizeOf126
  v85 := Tryz.zeroValue126
  t127 := Tryz.underlying96
  a127 := Tryz.isAgg96
  z127 := Tryz.sizeOf96
  v127 := Tryz.zeroValue96
  t143 := Tryz.underlying146
  a143 := Tryz.isAgg146
  z143 := Tryz.sizeOf146
  v143 := Tryz.zeroValue146
  t145 := Tryz.underlying148
  a145 := Tryz.isAgg148
  z145 := Tryz.sizeOf148
  v145 := Tryz.zeroValue148
  t167 := Tryz.underlying125
  a167 := Tryz.isAgg125
  z167 := Tryz.sizeOf125
  v167 := Tryz.zeroValue125
  t168 := Tryz.underlying128
  a168 := Tryz.isAgg128
  z168 := Tryz.sizeOf128
  v168 := Tryz.zeroValue128
  t171 := Tryz.underlying112
  a171 := Tryz.isAgg112
  z171 := Tryz.sizeOf112
  v171 := Tryz.zeroValue112
  t173 := Tryz.underlying116
  a173 := Tryz.isAgg116
  z173 := Tryz.sizeOf116
  v173 := Tryz.zeroValue116
  t175 := Tryz.underlying138
  a175 := Tryz.isAgg138
  z175 := Tryz.sizeOf138
  v175 := Tryz.zeroValue138
  t210 := Tryz.underlying142
  a210 := Tryz.isAgg142
  z210 := Tryz.sizeOf142
  v210 := Tryz.zeroValue142
  t212 := Tryz.underlying132
  a212 := Tryz.isAgg132
  z212 := Tryz.sizeOf132
  v212 := Tryz.zeroValue132
  t213 := Tryz.underlying134
  a213 := Tryz.isAgg134
  z213 := Tryz.sizeOf134
  t232 := Tryz.underlying149
  a232 := Tryz.isAgg149
  z232 := Tryz.sizeOf149
  v232 := Tryz.zeroValue149
  t233 := Tryz.underlying150
  a233 := Tryz.isAgg150
  z233 := Tryz.sizeOf150
  v233 := Tryz.zeroValue150
  g15 := by kernel_rfl
  g16 := by kernel_rfl
  g17 := by kernel_rfl
  g18 := by kernel_rfl
  g19 := by kernel_rfl
  t80 := Tryz.underlying76
  a80 := Tryz.isAgg76
  z80 := Tryz.sizeOf76
  v80 := Tryz.zeroValue76
  i0 := by kernel_rfl
  i2 := by kernel_rfl
  i3 := by kernel_rfl
  i4 := by kernel_rfl
  i5 := by kernel_rfl
  i9 := by kernel_rfl
  i20 := by kernel_rfl
  i21 := by kernel_rfl
  i37 := by kernel_rfl
  i46 := by kernel_rfl
  i51 := by kernel_rfl
  i53 := by kernel_rfl
  i75 := by kernel_rfl
  i76 := by kernel_rfl
  i80 := by kernel_rfl
  i85 := by kernel_rfl
  i127 := by kernel_rfl
  i143 := by kernel_rfl
  i145 := by kernel_rfl
  i167 := by kernel_rfl
  i168 := by kernel_rfl
  i171 := by kernel_rfl
  i173 := by kernel_rfl
  i175 := by kernel_rfl
  i210 := by kernel_rfl
  i212 := by kernel_rfl
  i232 := by kernel_rfl
  i233 := by kernel_rfl
  m15 := by kernel_rfl
  m16 := by kernel_rfl
  m17 := by kernel_rfl
  m18 := by kernel_rfl
  m19 := by kernel_rfl
  c0 := by kernel_rfl
  c2 := by kernel_rfl
  c3 := by kernel_rfl
  c4 := by kernel_rfl
  c5 := by kernel_rfl
  c9 := by kernel_rfl
  c20 := by kernel_rfl
  c21 := by kernel_rfl
  c37 := by kernel_rfl
  c46 := by kernel_rfl
  c51 := by kernel_rfl
  c53 := by kernel_rfl
  c75 := by kernel_rfl
  c76 := by kernel_rfl
  c80 := by kernel_rfl
  c85 := by kernel_rfl
  c127 := by kernel_rfl
  c143 := by kernel_rfl
  c145 := by kernel_rfl
  c167 := by kernel_rfl
  c168 := by kernel_rfl
  c171 := by kernel_rfl
  c173 := by kernel_rfl
  c175 := by kernel_rfl
  c210 := by kernel_rfl
  c212 := by kernel_rfl
  c213 := by kernel_rfl
  c232 := by kernel_rfl
  c233 := by kernel_rfl

def tLayCut_ren : Ren := ⟨fun | 103 => 78 | 210 => 92 | 206 => 105 | n => n, fun | 9 => 9 | 4 => 4 | 24 => 101 | 3 => 3 | n => n, fun | n => n⟩
set_option maxRecDepth 100000 in
theorem tLayCut : Lays.n103 Tryz.prog tLayCut_ren where
  mixed := by kernel_rfl
  f103 := Tryz.func78.trans (congrArg some (by kernel_rfl))
  f206 := Tryz.func105.trans (congrArg some (by kernel_rfl))
  f210 := Tryz.func92.trans (congrArg some (by kernel_rfl))
  t3 := Tryz.underlying3
  a3 := Tryz.isAgg3
  z3 := Tryz.sizeOf3
  v3 := Tryz.zeroValue3
  t4 := Tryz.underlying4
  a4 := Tryz.isAgg4
  z4 := Tryz.sizeOf4
  v4 := Tryz.zeroValue4
  t9 := Tryz.underlying9
  a9 := Tryz.isAgg9
  z9 := Tryz.sizeOf9
  v9 := Tryz.zeroValue9
  t24 := Tryz.underlying101
  a24 := Tryz.isAgg101
  z24 := Tryz.sizeOf101
  v24 := Tryz.zeroValue101

theorem tLayExtra : Builder.Extra Tryz.prog tLayJoin_ren where
  sizeBuilder := by kernel_rfl
  liesBuilder := by kernel_rfl
  t5 := Tryz.underlying5
  a5 := Tryz.isAgg5
  z5 := Tryz.sizeOf5
  v5 := Tryz.zeroValue5
  infoByte := by kernel_rfl
  cellsByte := by kernel_rfl
  sizeByte := by kernel_rfl
  neB5 := by decide
end Go.Proofs.YtjnghnkilnhacaaGreatDoor
namespace Go.Proofs.YtjnghnkilnhacaaGreatDoor
open Go.RowKit

theorem ret_bool {a b : Bool} (h : a = b) : Ending.returned (.bool a) = Ending.returned (.bool b) := by rw [h]
theorem ret_int {a b : Int} (h : a = b) : Ending.returned (.int .i64 a) = Ending.returned (.int .i64 b) := by rw [h]
theorem hide {p : Prop} (h : p) : Hid p := h

/-- A type of Go data: how many cells a value takes, and when cells in a world read as a datum; the blocks that are reached are among S. -/
structure Ty (α : Type) where
  size : Nat
  rel : World → (Nat → Prop) → α → List Value → Prop
  len : ∀ {w S x cs}, rel w S x cs → cs.length = size
  one : ∀ {w S x cs}, rel w S x cs → ∀ u ∈ cs, u.oneCell' = true
  mono : ∀ {w w' S S' x cs}, rel w S x cs → (∀ b, S b → S' b) → (∀ b, S b → w'.heap[b]? = w.heap[b]?) → rel w' S' x cs

/-- Blocks that lie in a world. -/
def Old (w : World) (b : Nat) : Prop := b < w.heap.size
/-- Blocks from lo on and below hi. -/
def In (lo hi : Nat) (b : Nat) : Prop := lo ≤ b ∧ b < hi

/-- A row of elements in block b from place off on. -/
def RowAt {α : Type} (T : Ty α) (w : World) (S : Nat → Prop) (b off : Nat) (xs : List α) : Prop :=
  ∀ k (h : k < xs.length), ∃ cs, T.rel w S xs[k] cs ∧ ∀ j u, cs[j]? = some u → w.cell? ⟨b, off + k * T.size + j, none⟩ = some u
/-- A row of elements that a slice leads to. -/
def Row {α : Type} (T : Ty α) (w : World) (S : Nat → Prop) (A : Option Addr) (xs : List α) : Prop :=
  0 < xs.length → ∃ b off, A = some ⟨b, off, none⟩ ∧ S b ∧ RowAt T w S b off xs

theorem RowAt.mono {α : Type} {T : Ty α} {w w' : World} {S S' : Nat → Prop} {b off : Nat} {xs : List α} (h : RowAt T w S b off xs)
    (h2 : ∀ b, S b → S' b) (h3 : ∀ b, S b → w'.heap[b]? = w.heap[b]?) (h4 : w'.heap[b]? = w.heap[b]?) : RowAt T w' S' b off xs := fun k hk => by
  obtain ⟨cs, hr, hcs⟩ := h k hk
  exact ⟨cs, T.mono hr h2 h3, fun j u hu => (World.cell?_of_block h4).trans (hcs j u hu)⟩
theorem Row.mono {α : Type} {T : Ty α} {w w' : World} {S S' : Nat → Prop} {A : Option Addr} {xs : List α} (h : Row T w S A xs)
    (h2 : ∀ b, S b → S' b) (h3 : ∀ b, S b → w'.heap[b]? = w.heap[b]?) : Row T w' S' A xs := fun hp => by
  obtain ⟨b, off, rfl, hb, hc⟩ := h hp
  exact ⟨b, off, rfl, h2 b hb, hc.mono h2 h3 (h3 b hb)⟩
theorem Row.old {α : Type} {T : Ty α} {w w' : World} {A : Option Addr} {xs : List α} (h : Row T w (Old w) A xs) (hb : Below w.heap.size w w') : Row T w' (Old w') A xs :=
  h.mono (fun _ hx => Nat.lt_of_lt_of_le hx hb.size) fun _ hx => hb.block _ hx
theorem Row.nil {α : Type} {T : Ty α} {w : World} {S : Nat → Prop} {A : Option Addr} : Row T w S A [] := fun h => absurd h (by simp)

def flat {α : Type} (size : Nat) (enc : α → List Value) (hl : ∀ x, (enc x).length = size) (h1 : ∀ x, ∀ u ∈ enc x, u.oneCell' = true) : Ty α where
  size := size
  rel _ _ x cs := cs = enc x
  len h := by rw [h]; exact hl _
  one h := by rw [h]; exact h1 _
  mono h _ _ := h

def tInt : Ty Int := flat 1 (fun n => [.int .i64 n]) (fun _ => rfl) (fun _ u hu => by simp at hu; subst hu; rfl)

/-- A slice value reads as a list. -/
def Sl {α : Type} (T : Ty α) (w : World) (S : Nat → Prop) (xs : List α) (v : Value) : Prop :=
  ∃ A c, v = .slice A xs.length c ∧ xs.length ≤ c ∧ c ≤ maxLen ∧ Row T w S A xs
theorem Sl.mono {α : Type} {T : Ty α} {w w' : World} {S S' : Nat → Prop} {v : Value} {xs : List α} (h : Sl T w S xs v)
    (h2 : ∀ b, S b → S' b) (h3 : ∀ b, S b → w'.heap[b]? = w.heap[b]?) : Sl T w' S' xs v := by
  obtain ⟨A, c, rfl, h4, h5, h6⟩ := h; exact ⟨A, c, rfl, h4, h5, h6.mono h2 h3⟩
theorem Sl.old {α : Type} {T : Ty α} {w w' : World} {v : Value} {xs : List α} (h : Sl T w (Old w) xs v) (hb : Below w.heap.size w w') : Sl T w' (Old w') xs v :=
  h.mono (fun _ hx => Nat.lt_of_lt_of_le hx hb.size) fun _ hx => hb.block _ hx
structure Op where
  Kind : Int
  Key : Int
  Value : Int
structure Txn where
  Session : Int
  Ops : List Op
  Done : Bool

def tOp : Ty Op := flat 3 (fun s => [.int .i64 s.Kind, .int .i64 s.Key, .int .i64 s.Value]) (fun _ => rfl) (fun _ u hu => by simp at hu; rcases hu with rfl | rfl | rfl <;> rfl)
def tTxn : Ty Txn where
  size := 3
  rel w S x cs := ∃ v, cs = [.int .i64 x.Session, v, .bool x.Done] ∧ Sl tOp w S x.Ops v
  len h := by obtain ⟨A, rfl, _⟩ := h; rfl
  one h u hu := by
    obtain ⟨v, rfl, A, c, rfl, _⟩ := h
    simp at hu
    rcases hu with rfl | rfl | rfl <;> rfl
  mono h h2 h3 := by obtain ⟨v, rfl, h4⟩ := h; exact ⟨v, rfl, h4.mono h2 h3⟩

/-! ### Blocks that are known whole; slices of the call's own -/
def Blk (w : World) (g : Nat) (t : TypeId) (cs : Array Value) : Prop := w.heap[g]? = some (.cells cs t (0, 0))
section
variable {w w' : World} {g : Nat} {t : TypeId} {cs : Array Value}
theorem Blk.lt (h : Blk w g t cs) : g < w.heap.size := by
  rcases Nat.lt_or_ge g w.heap.size with hlt | hge
  · exact hlt
  · unfold Blk at h; rw [Array.getElem?_eq_none hge] at h; cases h
theorem Blk.cell (h : Blk w g t cs) (i : Nat) : w.cell? ⟨g, i, none⟩ = cs[i]? := cell_of_row w g i cs t (0, 0) h
theorem Blk.frozen (h : Blk w g t cs) (i : Nat) : w.frozen? ⟨g, i, none⟩ = false := by
  unfold Blk at h
  simp [World.frozen?, h]
theorem Blk.new (w : World) (t : TypeId) (cs : Array Value) : Blk (w.alloc (.cells cs t)) w.heap.size t cs := heap_alloc_new w _
theorem Blk.of (h : Blk w g t cs) (e : w'.heap[g]? = w.heap[g]?) : Blk w' g t cs := e.trans h
theorem Blk.alloc (h : Blk w g t cs) (o : Obj) : Blk (w.alloc o) g t cs := (Below.heap_alloc w o g h.lt).trans h
theorem Blk.set_ (h : Blk w g t cs) (i : Nat) (u : Value) : Blk (w.setCell ⟨g, i, none⟩ u) g t (cs.setIfInBounds i u) := by
  unfold Blk at h ⊢
  simp [World.setCell, Array.getElem?_modify, h]
theorem Blk.far (h : Blk w g t cs) {p : Addr} (hp : g ≠ p.block) (u : Value) : Blk (w.setCell p u) g t cs := (Below.heap_setCell w p u g hp).trans h
theorem Blk.below {B : Nat} (h : Blk w g t cs) (hb : Below B w w') (hg : g < B) : Blk w' g t cs := (hb.block g hg).trans h
theorem Blk.ne_ {g' : Nat} {t' : TypeId} {cs' : Array Value} (h : Blk w g t cs) (h' : Blk w g' t' cs') (hne : t ≠ t') : g ≠ g' := by
  rintro rfl
  unfold Blk at h h'
  rw [h] at h'
  injection h' with h'
  injection h' with _ ht
  exact hne ht
/-- A cell of a block that is known whole: there, and not frozen. -/
theorem Blk.there (h : Blk w g t cs) {i : Nat} (hi : i < cs.size) : (∃ u, w.cell? ⟨g, i, none⟩ = some u) ∧ w.frozen? ⟨g, i, none⟩ = false :=
  ⟨⟨cs[i], by rw [h.cell, Array.getElem?_eq_getElem hi]⟩, h.frozen i⟩
end
/-- Behind a call that only makes memory all old cells and marks read as before. -/
theorem bcell {W w1 : World} (hb : Below W.heap.size W w1) : (∀ b o, b < W.heap.size → w1.cell? ⟨b, o, none⟩ = W.cell? ⟨b, o, none⟩) ∧ (∀ b o, b < W.heap.size → w1.frozen? ⟨b, o, none⟩ = W.frozen? ⟨b, o, none⟩) :=
  ⟨fun b o h => hb.cell (p := ⟨b, o, none⟩) h, fun b o h => hb.frozen (p := ⟨b, o, none⟩) h⟩
theorem below_drewN {B : Nat} {a w : World} (h : Below B a w) (n : Nat) : Below B a (w.drewN n) := ⟨h.os, h.tape, h.output, h.size, h.block⟩

/-- A slice of the call's own: it reads as xs, its block is known whole, and what its elements lead to lies elsewhere. -/
def Own {α : Type} (T : Ty α) (e : TypeId) (w : World) (S : Nat → Prop) (xs : List α) (v : Value) : Prop :=
  (v = .slice none 0 0 ∧ xs = []) ∨
  ∃ g cap cur S', v = .slice (some ⟨g, 0, none⟩) xs.length cap ∧ S g ∧ Blk w g e cur ∧ xs.length ≤ cap ∧ cap ≤ maxLen ∧ cur.size = cap * T.size ∧
    (∀ b, S' b → S b ∧ b ≠ g) ∧ RowAt T w S' g 0 xs
theorem Own.sl {α : Type} {T : Ty α} {e : TypeId} {w : World} {S : Nat → Prop} {xs : List α} {v : Value} (h : Own T e w S xs v) : Sl T w S xs v := by
  rcases h with ⟨rfl, rfl⟩ | ⟨g, cap, cur, S', rfl, hg, hB, h1, h2, h3, h4, h5⟩
  · exact ⟨none, 0, rfl, by simp, by simp [maxLen], Row.nil⟩
  · exact ⟨some ⟨g, 0, none⟩, cap, rfl, h1, h2, fun _ => ⟨g, 0, rfl, hg, h5.mono (fun b hb => (h4 b hb).1) (fun _ _ => rfl) rfl⟩⟩
theorem Own.mono {α : Type} {T : Ty α} {e : TypeId} {w w' : World} {S S2 : Nat → Prop} {xs : List α} {v : Value} (h : Own T e w S xs v) (h1 : ∀ b, S b → S2 b) (h2 : ∀ b, S b → w'.heap[b]? = w.heap[b]?) : Own T e w' S2 xs v := by
  rcases h with h | ⟨g, cap, cur, S', rfl, hg, hB, h3, h4, h5, h6, h7⟩
  · exact .inl h
  · exact .inr ⟨g, cap, cur, S', rfl, h1 g hg, hB.of (h2 g hg), h3, h4, h5, fun b hb => ⟨h1 b (h6 b hb).1, (h6 b hb).2⟩, h7.mono (fun _ h => h) (fun b hb => h2 b (h6 b hb).1) (h2 g hg)⟩
/-- What a call hands back lies in blocks that it made. -/
def New (w w' : World) (b : Nat) : Prop := w.heap.size ≤ b ∧ b < w'.heap.size
theorem New.old {w w' : World} {b : Nat} (h : New w w' b) : Old w' b := h.2
theorem Own.old {α : Type} {T : Ty α} {e : TypeId} {w w' : World} {xs : List α} {v : Value} (h : Own T e w' (New w w') xs v) : Sl T w' (Old w') xs v :=
  h.sl.mono (fun _ hb => hb.2) fun _ _ => rfl

/-- One step of filling a made row whose first k elements are there. -/
theorem RowAt.snoc {α : Type} {T : Ty α} {w w' : World} {S S' : Nat → Prop} {b off k : Nat} {xs : List α} (hk : k < xs.length) (h : RowAt T w S b off (xs.take k))
    (hS : ∀ b, S b → S' b) (hw : ∀ b, S b → w'.heap[b]? = w.heap[b]?)
    (hold : ∀ j, j < k * T.size → w'.cell? ⟨b, off + j, none⟩ = w.cell? ⟨b, off + j, none⟩)
    (hnew : ∃ cs, T.rel w' S' xs[k] cs ∧ ∀ j u, cs[j]? = some u → w'.cell? ⟨b, off + k * T.size + j, none⟩ = some u) : RowAt T w' S' b off (xs.take (k + 1)) := fun i hi => by
  rw [List.length_take] at hi
  rcases Nat.lt_or_ge i k with hlt | hge
  · obtain ⟨cs, hr, hcs⟩ := h i (by rw [List.length_take]; omega)
    refine ⟨cs, ?_, fun j u hu => ?_⟩
    · have e : (xs.take (k + 1))[i]'(by rw [List.length_take]; omega) = (xs.take k)[i]'(by rw [List.length_take]; omega) := by simp
      rw [e]
      exact T.mono hr hS hw
    · have hj : j < T.size := by rw [← T.len hr]; exact (List.getElem?_eq_some_iff.1 hu).1
      have h1 : i * T.size + j < k * T.size := by
        have : (i + 1) * T.size ≤ k * T.size := Nat.mul_le_mul_right _ hlt
        rw [Nat.add_mul] at this
        omega
      rw [Nat.add_assoc, hold _ h1, ← Nat.add_assoc]
      exact hcs j u hu
  · obtain rfl : i = k := by omega
    simpa using hnew
theorem RowAt.zero {α : Type} {T : Ty α} {w : World} {S : Nat → Prop} {b off : Nat} : RowAt T w S b off ([] : List α) := fun _ h => absurd h (by simp)
theorem RowAt.take0 {α : Type} {T : Ty α} {w : World} {S : Nat → Prop} {b off : Nat} {xs : List α} : RowAt T w S b off (xs.take 0) := fun _ h => absurd h (by simp)

/-- What is known of a row that is being filled: block g whole, room for n elements, the first k of xs there. -/
structure Filling {α : Type} (T : Ty α) (e : TypeId) (w : World) (S : Nat → Prop) (g n k : Nat) (xs : List α) : Prop where
  ex : ∃ cur, Blk w g e cur ∧ cur.size = n * T.size
  row : RowAt T w S g 0 (xs.take k)
  ne : ¬ S g
theorem Filling.later {α : Type} {T : Ty α} {e : TypeId} {w w' : World} {S S' : Nat → Prop} {g n k : Nat} {xs : List α} (h : Filling T e w S g n k xs)
    (hb : Below w.heap.size w w') (hS : ∀ b, S b → S' b) (hO : ∀ b, S b → Old w b) (hg : ¬ S' g) : Filling T e w' S' g n k xs := by
  obtain ⟨⟨cur, hB, hc⟩, hr, _⟩ := h
  exact ⟨⟨cur, hB.below hb hB.lt, hc⟩, hr.mono hS (fun b h => hb.block b (hO b h)) (hb.block g hB.lt), hg⟩
theorem Filling.there {α : Type} {T : Ty α} {e : TypeId} {w : World} {S : Nat → Prop} {g n k : Nat} {xs : List α} (h : Filling T e w S g n k xs) {i : Nat} (hi : i < n * T.size) :
    (∃ u, w.cell? ⟨g, i, none⟩ = some u) ∧ w.frozen? ⟨g, i, none⟩ = false := by
  obtain ⟨⟨cur, hB, hc⟩, _, _⟩ := h
  exact hB.there (by omega)
/-- A row that has been filled is a slice of the call's own. -/
theorem Filling.own {α : Type} {T : Ty α} {e : TypeId} {w : World} {S S' : Nat → Prop} {g n : Nat} {xs : List α} (h : Filling T e w S g n xs.length xs) (hn : n = xs.length) (hm : n ≤ maxLen) (hg : S' g) (hS : ∀ b, S b → S' b) :
    Own T e w S' xs (.slice (some ⟨g, 0, none⟩) n n) := by
  subst hn
  obtain ⟨⟨cur, hB, hc⟩, hrow, hne⟩ := h
  exact .inr ⟨g, _, cur, S, rfl, hg, hB, Nat.le_refl _, hm, hc, fun b hb => ⟨hS b hb, fun e => hne (e ▸ hb)⟩, by simpa using hrow⟩

theorem run_make_rowN {P : Program} (t e : TypeId) (i : TypeInfo) (z : Value) (ht : P.underlying t = some (.slice e)) (hi : P.info? e = some i) (hz : i.zero = some z)
    (kl kc : IntKind) (n c : Nat) (hnc : n ≤ c) (hbytes : i.bytes * c ≤ 281474976710656) (h63 : c ≤ 9223372036854775807) (w : World) :
    (Instr.makeSlice t (.int kl (n : Int)) (.int kc (c : Int))).run P w = .ok (.slice (some ⟨w.heap.size, 0, none⟩) n c) (w.alloc (.cells (madeCells z.cells (c * i.size)) e)) := by
  have hb : (i.bytes : Int) * (c : Int) ≤ 281474976710656 := by
    have h : ((i.bytes * c : Nat) : Int) ≤ 281474976710656 := by omega
    rwa [Int.natCast_mul] at h
  have hr := run_make (P := P) w t e i z ht hi hz kl kc n c (by omega) (by omega) hb (by omega)
  simp only [Int.toNat_natCast] at hr
  exact hr
/-- A row that 'make' has just laid. -/
theorem Filling.made {α : Type} {T : Ty α} {e : TypeId} (w : World) (z : Array Value) (m n : Nat) (xs : List α) (S : Nat → Prop) (hm : m = n * T.size) (hS : ¬ S w.heap.size) :
    Filling T e (w.alloc (.cells (madeCells z m) e)) S w.heap.size n 0 xs :=
  ⟨⟨_, Blk.new _ _ _, by unfold madeCells; simp [hm]⟩, RowAt.take0, hS⟩

/-! ### Sizes -/
def tot {α : Type} (f : α → Nat) (xs : List α) : Nat := (xs.map f).sum
theorem tot_take {α : Type} (f : α → Nat) (xs : List α) (k : Nat) (h : k < xs.length) : tot f (xs.take (k + 1)) = tot f (xs.take k) + f xs[k] := by
  unfold tot
  rw [List.take_succ_eq_append_getElem h, List.map_append, List.sum_append]
  simp
theorem tot_mono {α : Type} (f : α → Nat) (xs : List α) (k : Nat) : tot f (xs.take k) ≤ tot f xs := by
  have h : tot f (xs.take k) + tot f (xs.drop k) = tot f xs := by
    unfold tot
    rw [← List.sum_append, ← List.map_append, List.take_append_drop]
  omega

/-- The first k elements all pass. -/
def Upto {α : Type} (p : α → Bool) (xs : List α) (k : Nat) : Prop := ∀ j (hj : j < xs.length), j < k → p xs[j] = true
theorem Upto.zero {α : Type} {p : α → Bool} {xs : List α} : Upto p xs 0 := fun _ _ h => absurd h (by omega)
theorem Upto.succ {α : Type} {p : α → Bool} {xs : List α} {k : Nat} (h : Upto p xs k) (hk : k < xs.length) (hp : p xs[k] = true) : Upto p xs (k + 1) := fun j hj h1 => by
  rcases Nat.lt_succ_iff_lt_or_eq.1 h1 with h2 | rfl
  · exact h j hj h2
  · exact hp
theorem Upto.all {α : Type} {p : α → Bool} {xs : List α} (h : Upto p xs xs.length) : xs.all p = true := by
  rw [List.all_eq_true]
  intro x hx
  obtain ⟨j, hj, rfl⟩ := List.getElem_of_mem hx
  exact h j hj hj
theorem all_false {α : Type} {p : α → Bool} {xs : List α} {k : Nat} (hk : k < xs.length) (hp : p xs[k] = false) : xs.all p = false := by
  rw [List.all_eq_false]
  exact ⟨_, List.getElem_mem hk, by simp [hp]⟩
/-- A number lies in a range. -/
def inR (n lo hi : Int) : Bool := decide (lo ≤ n) && decide (n ≤ hi)
theorem inR_iff {n lo hi : Int} : inR n lo hi = true ↔ lo ≤ n ∧ n ≤ hi := by simp [inR]

/-- What is asked of a function value that is a predicate and may lay blocks of its own. -/
def Pred (P : Program) (g : Nat) (lb : Array Value) (w : World) (v : Value) (q : Bool) : Prop :=
  ∀ W : World, Below w.heap.size w W → Calls P g (#[v] ++ lb) W fun e w' => e = .returned (.bool q) ∧ Below w.heap.size w w'
def one_ : List Value → Value
  | [v] => v
  | l => .agg l.toArray

/-- The first place of a list whose element a predicate takes, or -1. -/
def idx {α : Type} (p : α → Bool) : List α → Int
  | [] => -1
  | x :: xs => if p x then 0 else (match idx p xs with | .ofNat n => .ofNat (n + 1) | .negSucc n => .negSucc n)
theorem idx_neg {α : Type} (p : α → Bool) (xs : List α) : (0 ≤ idx p xs) ↔ xs.any p = true := by
  induction xs with
  | nil => simp [idx]
  | cons x xs ih =>
    by_cases h : p x = true
    · simp [idx, h]
    · simp only [idx, h, List.any_cons, Bool.false_or, ← ih]
      cases idx p xs with
      | ofNat n => simp; omega
      | negSucc n => simp
theorem idx_hit {α : Type} (p : α → Bool) : ∀ (xs : List α) (k : Nat) (h : k < xs.length), p xs[k] = true → (∀ j (hj : j < xs.length), j < k → p xs[j] = false) → idx p xs = k
  | [], k, h, _, _ => absurd h (by simp)
  | x :: xs, 0, h, hp, _ => by simp at hp; simp [idx, hp]
  | x :: xs, k + 1, h, hp, hb => by
    have h0 : p x = false := hb 0 (by simp) (by omega)
    have h1 := idx_hit p xs k (by simpa using h) (by simpa using hp) (fun j hj hk => by have := hb (j + 1) (by simpa using hj) (by omega); simpa using this)
    simp only [idx, h0, h1]
    rfl
theorem idx_miss {α : Type} (p : α → Bool) (xs : List α) (h : ∀ j (hj : j < xs.length), p xs[j] = false) : idx p xs = -1 := by
  induction xs with
  | nil => rfl
  | cons x xs ih =>
    have h0 : p x = false := h 0 (by simp)
    have h1 := ih (fun j hj => by have := h (j + 1) (by simpa using hj); simpa using this)
    simp only [idx, h0, h1]
    rfl
end Go.Proofs.YtjnghnkilnhacaaGreatDoor
namespace Go.Proofs.YtjnghnkilnhacaaGreatDoor
open Go.RowKit

theorem at_Op {xs : List Op} {A : Option Addr} {w wr : World} {k : Nat} (hR : Row tOp w (Old w) A xs) (hb : Below w.heap.size w wr) (hk : k < xs.length) :
    ∃ b off, A = some ⟨b, off, none⟩ ∧ Old w b ∧ wr.cell? ⟨b, off + k * 3, none⟩ = some (.int .i64 xs[k].Kind) ∧ wr.cell? ⟨b, off + k * 3 + 1, none⟩ = some (.int .i64 xs[k].Key) ∧ wr.cell? ⟨b, off + k * 3 + 2, none⟩ = some (.int .i64 xs[k].Value) := by
  obtain ⟨b, off, rfl, hbS, hc⟩ := hR (by omega)
  obtain ⟨cs, hr, hcs⟩ := hc k hk
  obtain rfl := hr
  exact ⟨b, off, rfl, hbS, by simpa [tOp, flat] using (hb.cell (p := ⟨b, off + k * tOp.size + 0, none⟩) hbS).trans (hcs 0 _ rfl), by simpa [tOp, flat] using (hb.cell (p := ⟨b, off + k * tOp.size + 1, none⟩) hbS).trans (hcs 1 _ rfl), by simpa [tOp, flat] using (hb.cell (p := ⟨b, off + k * tOp.size + 2, none⟩) hbS).trans (hcs 2 _ rfl)⟩
theorem at_Txn {xs : List Txn} {A : Option Addr} {w wr : World} {k : Nat} (hR : Row tTxn w (Old w) A xs) (hb : Below w.heap.size w wr) (hk : k < xs.length) :
    ∃ b off A2 c2, A = some ⟨b, off, none⟩ ∧ Old w b ∧ wr.cell? ⟨b, off + k * 3, none⟩ = some (.int .i64 xs[k].Session) ∧ wr.cell? ⟨b, off + k * 3 + 1, none⟩ = some (.slice A2 xs[k].Ops.length c2) ∧ wr.cell? ⟨b, off + k * 3 + 2, none⟩ = some (.bool xs[k].Done) ∧ xs[k].Ops.length ≤ c2 ∧ c2 ≤ maxLen ∧ Row tOp wr (Old wr) A2 xs[k].Ops := by
  obtain ⟨b, off, rfl, hbS, hc⟩ := hR (by omega)
  obtain ⟨cs, hr, hcs⟩ := hc k hk
  obtain ⟨v, rfl, A2, c2, rfl, h1, h2, h3⟩ := hr
  exact ⟨b, off, A2, c2, rfl, hbS, by simpa [tTxn] using (hb.cell (p := ⟨b, off + k * tTxn.size + 0, none⟩) hbS).trans (hcs 0 _ rfl), by simpa [tTxn] using (hb.cell (p := ⟨b, off + k * tTxn.size + 1, none⟩) hbS).trans (hcs 1 _ rfl), by simpa [tTxn] using (hb.cell (p := ⟨b, off + k * tTxn.size + 2, none⟩) hbS).trans (hcs 2 _ rfl), h1, h2, h3.old hb⟩
end Go.Proofs.YtjnghnkilnhacaaGreatDoor
