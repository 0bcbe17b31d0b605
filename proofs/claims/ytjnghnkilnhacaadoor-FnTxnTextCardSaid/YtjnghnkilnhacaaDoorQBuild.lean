/- The laying of strings.Join, strings.Split, strings.CutPrefix and strconv.Atoi at this program. Printed by laytxt.py. What the proofs of this seat share: how Go data lie in memory (rows of cells), as Lean predicates over worlds. What a row of Go data gives at one place. append onto a slice of the call's own, in the words of Own and Row. Over any program. -/
import Derived.Test.YtjnghnkilnhacaaDoorProg
import Derived.Shelf.Strings.SplitShaped
import Derived.Shelf.Strings.OnBuilder
import Derived.Shelf.Strconv.ErrVarAll
import Derived.Shelf.Small.Wraps
import Derived.WalkKit
import Derived.ProofKit
import Derived.Below
import Derived.BigQuiet
import Derived.Deep.QuietTactic
import Derived.Deep.LoopGhost
import Derived.WalkSpells
import Derived.Outline
import Derived.Shelf.Abstract
import Derived.OwnWalk
import Derived.StillTailTactics
import Derived.Laws.MakeOwn
import Derived.Laws.OwnMore
import Derived.Laws.Rows
import Derived.Deep.AppendLies
import Derived.Deep.Draws
import Derived.Maps.AppendAt
import Derived.BigFrame
namespace Go.Proofs.YtjnghnkilnhacaaDoor
open Go.Shelf
set_option linter.unusedVariables false

def tLayJoin_ren : Ren := ⟨fun | 156 => 34 | 165 => 56 | 166 => 57 | 169 => 58 | 240 => 72 | 241 => 73 | 276 => 88 | 277 => 89 | n => n, fun | 31 => 37 | 9 => 9 | 3 => 3 | 4 => 4 | 0 => 0 | 20 => 20 | 72 => 80 | 76 => 68 | 70 => 78 | 37 => 30 | 75 => 67 | 127 => 88 | 164 => 105 | 5 => 5 | 80 => 49 | n => n, fun | n => n⟩
set_option maxRecDepth 100000 in
theorem tLayJoin : Lays.n156 Tryd.prog tLayJoin_ren where
  mixed := by kernel_rfl
  f156 := Tryd.func34.trans (congrArg some (by kernel_rfl))
  f165 := Tryd.func56.trans (congrArg some (by kernel_rfl))
  f166 := Tryd.func57.trans (congrArg some (by kernel_rfl))
  f169 := Tryd.func58.trans (congrArg some (by kernel_rfl))
  f240 := Tryd.func72.trans (congrArg some (by kernel_rfl))
  f241 := Tryd.func73.trans (congrArg some (by kernel_rfl))
  f276 := Tryd.func88.trans (congrArg some (by kernel_rfl))
  f277 := Tryd.func89.trans (congrArg some (by kernel_rfl))
  t0 := Tryd.underlying0
  a0 := Tryd.isAgg0
  z0 := Tryd.sizeOf0
  v0 := Tryd.zeroValue0
  t3 := Tryd.underlying3
  a3 := Tryd.isAgg3
  z3 := Tryd.sizeOf3
  v3 := Tryd.zeroValue3
  t4 := Tryd.underlying4
  a4 := Tryd.isAgg4
  z4 := Tryd.sizeOf4
  v4 := Tryd.zeroValue4
  t9 := Tryd.underlying9
  a9 := Tryd.isAgg9
  z9 := Tryd.sizeOf9
  v9 := Tryd.zeroValue9
  t20 := Tryd.underlying20
  a20 := Tryd.isAgg20
  z20 := Tryd.sizeOf20
  v20 := Tryd.zeroValue20
  t31 := Tryd.underlying37
  a31 := Tryd.isAgg37
  z31 := Tryd.sizeOf37
  v31 := Tryd.zeroValue37
  t37 := Tryd.underlying30
  a37 := Tryd.isAgg30
  z37 := Tryd.sizeOf30
  v37 := Tryd.zeroValue30
  t70 := Tryd.underlying78
  a70 := Tryd.isAgg78
  z70 := Tryd.sizeOf78
  v70 := Tryd.zeroValue78
  t72 := Tryd.underlying80
  a72 := Tryd.isAgg80
  z72 := Tryd.sizeOf80
  v72 := Tryd.zeroValue80
  t75 := Tryd.underlying67
  a75 := Tryd.isAgg67
  z75 := Tryd.sizeOf67
  v75 := Tryd.zeroValue67
  t76 := Tryd.underlying68
  a76 := Tryd.isAgg68
  z76 := Tryd.sizeOf68
  v76 := Tryd.zeroValue68
  t127 := Tryd.underlying88
  a127 := Tryd.isAgg88
  z127 := Tryd.sizeOf88
  v127 := Tryd.zeroValue88
  t164 := Tryd.underlying105
  a164 := Tryd.isAgg105
  z164 := Tryd.sizeOf105
  v164 := Tryd.zeroValue105

def tLaySplit_ren : Ren := ⟨fun | 146 => 21 | 221 => 42 | 268 => 59 | 138 => 60 | 143 => 61 | 195 => 74 | 197 => 75 | 218 => 76 | 219 => 77 | 260 => 90 | 217 => 91 | 225 => 92 | 224 => 93 | 267 => 94 | 266 => 103 | 314 => 104 | n => n, fun | 9 => 9 | 31 => 37 | 3 => 3 | 4 => 4 | 0 => 0 | 105 => 89 | 21 => 21 | 5 => 5 | 46 => 108 | 119 => 120 | 139 => 123 | 138 => 122 | 146 => 124 | 51 => 117 | n => n, fun | 1 => 0 | 3 => 4 | 4 => 5 | n => n⟩
set_option maxRecDepth 100000 in
theorem tLaySplit : LaysM.n146 Tryd.prog tLaySplit_ren where
  mixed := by kernel_rfl
  f138 := Tryd.func60.trans (congrArg some (by kernel_rfl))
  f143 := Tryd.func61.trans (congrArg some (by kernel_rfl))
  f146 := Tryd.func21.trans (congrArg some (by kernel_rfl))
  f195 := Tryd.func74.trans (congrArg some (by kernel_rfl))
  f197 := Tryd.func75.trans (congrArg some (by kernel_rfl))
  f217 := Tryd.func91.trans (congrArg some (by kernel_rfl))
  f218 := Tryd.func76.trans (congrArg some (by kernel_rfl))
  f219 := Tryd.func77.trans (congrArg some (by kernel_rfl))
  f221 := Tryd.func42.trans (congrArg some (by kernel_rfl))
  f224 := Tryd.func93.trans (congrArg some (by kernel_rfl))
  f225 := Tryd.func92.trans (congrArg some (by kernel_rfl))
  f260 := Tryd.func90.trans (congrArg some (by kernel_rfl))
  f266 := Tryd.func103.trans (congrArg some (by kernel_rfl))
  f267 := Tryd.func94.trans (congrArg some (by kernel_rfl))
  f268 := Tryd.func59.trans (congrArg some (by kernel_rfl))
  f314 := Tryd.func104.trans (congrArg some (by kernel_rfl))
  t0 := Tryd.underlying0
  a0 := Tryd.isAgg0
  z0 := Tryd.sizeOf0
  v0 := Tryd.zeroValue0
  t3 := Tryd.underlying3
  a3 := Tryd.isAgg3
  z3 := Tryd.sizeOf3
  v3 := Tryd.zeroValue3
  t4 := Tryd.underlying4
  a4 := Tryd.isAgg4
  z4 := Tryd.sizeOf4
  v4 := Tryd.zeroValue4
  t5 := Tryd.underlying5
  a5 := Tryd.isAgg5
  z5 := Tryd.sizeOf5
  v5 := Tryd.zeroValue5
  t9 := Tryd.underlying9
  a9 := Tryd.isAgg9
  z9 := Tryd.sizeOf9
  v9 := Tryd.zeroValue9
  t21 := Tryd.underlying21
  a21 := Tryd.isAgg21
  z21 := Tryd.sizeOf21
  v21 := Tryd.zeroValue21
  t31 := Tryd.underlying37
  a31 := Tryd.isAgg37
  z31 := Tryd.sizeOf37
  v31 := Tryd.zeroValue37
  t46 := Tryd.underlying108
  a46 := Tryd.isAgg108
  z46 := Tryd.sizeOf108
  v46 := Tryd.zeroValue108
  t51 := Tryd.underlying117
  a51 := Tryd.isAgg117
  z51 := Tryd.sizeOf117
  v51 := Tryd.zeroValue117
  t105 := Tryd.underlying89
  a105 := Tryd.isAgg89
  z105 := Tryd.sizeOf89
  v105 := Tryd.zeroValue89
  t119 := Tryd.underlying120
  a119 := Tryd.isAgg120
  z119 := Tryd.sizeOf120
  t138 := Tryd.underlying122
  a138 := Tryd.isAgg122
  z138 := Tryd.sizeOf122
  v138 := Tryd.zeroValue122
  t139 := Tryd.underlying123
  a139 := Tryd.isAgg123
  z139 := Tryd.sizeOf123
  v139 := Tryd.zeroValue123
  t146 := Tryd.underlying124
  a146 := Tryd.isAgg124
  z146 := Tryd.sizeOf124
  v146 := Tryd.zeroValue124
  g1 := by kernel_rfl
  g3 := by kernel_rfl
  g4 := by kernel_rfl
  i0 := by kernel_rfl
  i3 := by kernel_rfl
  i4 := by kernel_rfl
  i5 := by kernel_rfl
  i9 := by kernel_rfl
  i21 := by kernel_rfl
  i31 := by kernel_rfl
  i46 := by kernel_rfl
  i51 := by kernel_rfl
  i105 := by kernel_rfl
  i138 := by kernel_rfl
  i139 := by kernel_rfl
  i146 := by kernel_rfl
  m1 := by kernel_rfl
  s1_3 := fun w h => Go.Proofs.cell_of_shapedOpen_int (zero := #[.int .i64 0]) (t := 3) h (of_decide_eq_true (by kernel_rfl)) (by kernel_rfl) rfl (by kernel_rfl) (by kernel_rfl) Tryd.underlying3
  m3 := by kernel_rfl
  m4 := by kernel_rfl

def tLayAtoi_ren : Ren := ⟨fun | 172 => 44 | 244 => 63 | 245 => 64 | 247 => 79 | 279 => 80 | 280 => 81 | 281 => 82 | 282 => 83 | 287 => 95 | 316 => 96 | 171 => 32 | 205 => 97 | 321 => 105 | 322 => 106 | 243 => 54 | 246 => 71 | 283 => 84 | 284 => 85 | 285 => 86 | 286 => 87 | 129 => 99 | 317 => 98 | 318 => 100 | 319 => 101 | 320 => 102 | 337 => 107 | 338 => 108 | n => n, fun | 9 => 9 | 3 => 3 | 75 => 67 | 76 => 68 | 4 => 4 | 5 => 5 | 167 => 93 | 37 => 30 | 0 => 0 | 85 => 94 | 2 => 2 | 168 => 96 | 53 => 100 | 175 => 109 | 46 => 108 | 210 => 113 | 127 => 88 | 145 => 129 | 143 => 127 | 21 => 21 | 171 => 99 | 173 => 103 | 212 => 116 | 51 => 117 | 20 => 20 | 213 => 118 | 232 => 131 | 233 => 132 | 80 => 49 | n => n, fun | 15 => 1 | 16 => 2 | 17 => 3 | 18 => 6 | 19 => 7 | n => n⟩
set_option maxRecDepth 100000 in
theorem tLayAtoi : LaysC.n172 Tryd.prog tLayAtoi_ren where
  mixed := by kernel_rfl
  f129 := Tryd.func99.trans (congrArg some (by kernel_rfl))
  f171 := Tryd.func32.trans (congrArg some (by kernel_rfl))
  f172 := Tryd.func44.trans (congrArg some (by kernel_rfl))
  f205 := Tryd.func97.trans (congrArg some (by kernel_rfl))
  f243 := Tryd.func54.trans (congrArg some (by kernel_rfl))
  f244 := Tryd.func63.trans (congrArg some (by kernel_rfl))
  f245 := Tryd.func64.trans (congrArg some (by kernel_rfl))
  f246 := Tryd.func71.trans (congrArg some (by kernel_rfl))
  f247 := Tryd.func79.trans (congrArg some (by kernel_rfl))
  f279 := Tryd.func80.trans (congrArg some (by kernel_rfl))
  f280 := Tryd.func81.trans (congrArg some (by kernel_rfl))
  f281 := Tryd.func82.trans (congrArg some (by kernel_rfl))
  f282 := Tryd.func83.trans (congrArg some (by kernel_rfl))
  f283 := Tryd.func84.trans (congrArg some (by kernel_rfl))
  f284 := Tryd.func85.trans (congrArg some (by kernel_rfl))
  f285 := Tryd.func86.trans (congrArg some (by kernel_rfl))
  f286 := Tryd.func87.trans (congrArg some (by kernel_rfl))
  f287 := Tryd.func95.trans (congrArg some (by kernel_rfl))
  f316 := Tryd.func96.trans (congrArg some (by kernel_rfl))
  f317 := Tryd.func98.trans (congrArg some (by kernel_rfl))
  f318 := Tryd.func100.trans (congrArg some (by kernel_rfl))
  f319 := Tryd.func101.trans (congrArg some (by kernel_rfl))
  f320 := Tryd.func102.trans (congrArg some (by kernel_rfl))
  f321 := Tryd.func105.trans (congrArg some (by kernel_rfl))
  f322 := Tryd.func106.trans (congrArg some (by kernel_rfl))
  f337 := Tryd.func107.trans (congrArg some (by kernel_rfl))
  f338 := Tryd.func108.trans (congrArg some (by kernel_rfl))
  t0 := Tryd.underlying0
  a0 := Tryd.isAgg0
  z0 := Tryd.sizeOf0
  v0 := Tryd.zeroValue0
  t2 := Tryd.underlying2
  a2 := Tryd.isAgg2
  z2 := Tryd.sizeOf2
  v2 := Tryd.zeroValue2
  t3 := Tryd.underlying3
  a3 := Tryd.isAgg3
  z3 := Tryd.sizeOf3
  v3 := Tryd.zeroValue3
  t4 := Tryd.underlying4
  a4 := Tryd.isAgg4
  z4 := Tryd.sizeOf4
  v4 := Tryd.zeroValue4
  t5 := Tryd.underlying5
  a5 := Tryd.isAgg5
  z5 := Tryd.sizeOf5
  v5 := Tryd.zeroValue5
  t9 := Tryd.underlying9
  a9 := Tryd.isAgg9
  z9 := Tryd.sizeOf9
  v9 := Tryd.zeroValue9
  t20 := Tryd.underlying20
  a20 := Tryd.isAgg20
  z20 := Tryd.sizeOf20
  v20 := Tryd.zeroValue20
  t21 := Tryd.underlying21
  a21 := Tryd.isAgg21
  z21 := Tryd.sizeOf21
  v21 := Tryd.zeroValue21
  t37 := Tryd.underlying30
  a37 := Tryd.isAgg30
  z37 := Tryd.sizeOf30
  v37 := Tryd.zeroValue30
  t46 := Tryd.underlying108
  a46 := Tryd.isAgg108
  z46 := Tryd.sizeOf108
  v46 := Tryd.zeroValue108
  t51 := Tryd.underlying117
  a51 := Tryd.isAgg117
  z51 := Tryd.sizeOf117
  v51 := Tryd.zeroValue117
  t53 := Tryd.underlying100
  a53 := Tryd.isAgg100
  z53 := Tryd.sizeOf100
  v53 := Tryd.zeroValue100
  t75 := Tryd.underlying67
  a75 := Tryd.isAgg67
  z75 := Tryd.sizeOf67
  v75 := Tryd.zeroValue67
  t76 := Tryd.underlying68
  a76 := Tryd.isAgg68
  z76 := Tryd.sizeOf68
  v76 := Tryd.zeroValue68
  t85 := Tryd.underlying94
  a85 := Tryd.isAgg94
  z85 := Tryd.sizeOf94
  v85 := Tryd.zeroValue94
  t127 := Tryd.underlying88
  a127 := Tryd.isAgg88
  z127 := Tryd.sizeOf88
  v127 := Tryd.zeroValue88
  t143 := Tryd.underlying127
  a143 := Tryd.isAgg127
  z143 := Tryd.sizeOf127
  v143 := Tryd.zeroValue127
  t145 := Tryd.underlying129
  a145 := Tryd.isAgg129
  z145 := Tryd.sizeOf129
  v145 := Tryd.zeroValue129
  t167 := Tryd.underlying93
  a167 := Tryd.isAgg93
  z167 := Tryd.sizeOf93
  v167 := Tryd.zeroValue93
  t168 := Tryd.underlying96
  a168 := Tryd.isAgg96
  z168 := Tryd.sizeOf96
  v168 := Tryd.zeroValue96
  t171 := Tryd.underlying99
  a171 := Tryd.isAgg99
  z171 := Tryd.sizeOf99
  v171 := Tryd.zeroValue99
  t173 := Tryd.underlying103
  a173 := Tryd.isAgg103
  z173 := Tryd.sizeOf103
  v173 := Tryd.zeroValue103
  t175 := Tryd.underlying109
  a175 := Tryd.isAgg109
  z175 := Tryd.sizeOf109
  v175 := Tryd.zeroValue109
  t210 := Tryd.underlying113
  a210 := Tryd.isAgg113
  z210 := Tryd.sizeOf113
  v210 := Tryd.zeroValue113
  t212 := Tryd.underlying116
  a212 := Tryd.isAgg116
  z212 := Tryd.sizeOf116
  v212 := Tryd.zeroValue116
  t213 := Tryd.underlying118
  a213 := Tryd.isAgg118
  z213 := Tryd.sizeOf118
  t232 := Tryd.underlying131
  a232 := Tryd.isAgg131
  z232 := Tryd.sizeOf131
  v232 := Tryd.zeroValue131
  t233 := Tryd.underlying132
  a233 := Tryd.isAgg132
  z233 := Tryd.sizeOf132
  v233 := Tryd.zeroValue132
  g15 := by kernel_rfl
  g16 := by kernel_rfl
  g17 := by kernel_rfl
  g18 := by kernel_rfl
  g19 := by kernel_rfl
  t80 := Tryd.underlying49
  a80 := Tryd.isAgg49
  z80 := Tryd.sizeOf49
  v80 := Tryd.zeroValue49
  i0 := by kernel_rfl
  i2 := by kernel_rfl
  i3 := by kernel_rfl
  i4 := by kernel_rfl
  i5 := by kernel_rfl
  i9 := by kernel_rfl
  i20 := by kernel_rfl
  i21 := by kernel_rfl
  i37 := by kernel_rfl
  i46 := by kernel_rfl
  i51 := by kernel_rfl
  i53 := by kernel_rfl
  i75 := by kernel_rfl
  i76 := by kernel_rfl
  i80 := by kernel_rfl
  i85 := by kernel_rfl
  i127 := by kernel_rfl
  i143 := by kernel_rfl
  i145 := by kernel_rfl
  i167 := by kernel_rfl
  i168 := by kernel_rfl
  i171 := by kernel_rfl
  i173 := by kernel_rfl
  i175 := by kernel_rfl
  i210 := by kernel_rfl
  i212 := by kernel_rfl
  i232 := by kernel_rfl
  i233 := by kernel_rfl
  m15 := by kernel_rfl
  m16 := by kernel_rfl
  m17 := by kernel_rfl
  m18 := by kernel_rfl
  m19 := by kernel_rfl
  c0 := by kernel_rfl
  c2 := by kernel_rfl
  c3 := by kernel_rfl
  c4 := by kernel_rfl
  c5 := by kernel_rfl
  c9 := by kernel_rfl
  c20 := by kernel_rfl
  c21 := by kernel_rfl
  c37 := by kernel_rfl
  c46 := by kernel_rfl
  c51 := by kernel_rfl
  c53 := by kernel_rfl
  c75 := by kernel_rfl
  c76 := by kernel_rfl
  c80 := by kernel_rfl
  c85 := by kernel_rfl
  c127 := by kernel_rfl
  c143 := by kernel_rfl
  c145 := by kernel_rfl
  c167 := by kernel_rfl
  c168 := by kernel_rfl
  c171 := by kernel_rfl
  c173 := by kernel_rfl
  c175 := by kernel_rfl
  c210 := by kernel_rfl
  c212 := by kernel_rfl
  c213 := by kernel_rfl
  c232 := by kernel_rfl
  c233 := by kernel_rfl

def tLayCut_ren : Ren := ⟨fun | 103 => 43 | 210 => 62 | 206 => 78 | n => n, fun | 9 => 9 | 4 => 4 | 24 => 64 | 3 => 3 | n => n, fun | n => n⟩
set_option maxRecDepth 100000 in
theorem tLayCut : Lays.n103 Tryd.prog tLayCut_ren where
  mixed := by kernel_rfl
  f103 := Tryd.func43.trans (congrArg some (by kernel_rfl))
  f206 := Tryd.func78.trans (congrArg some (by kernel_rfl))
  f210 := Tryd.func62.trans (congrArg some (by kernel_rfl))
  t3 := Tryd.underlying3
  a3 := Tryd.isAgg3
  z3 := Tryd.sizeOf3
  v3 := Tryd.zeroValue3
  t4 := Tryd.underlying4
  a4 := Tryd.isAgg4
  z4 := Tryd.sizeOf4
  v4 := Tryd.zeroValue4
  t9 := Tryd.underlying9
  a9 := Tryd.isAgg9
  z9 := Tryd.sizeOf9
  v9 := Tryd.zeroValue9
  t24 := Tryd.underlying64
  a24 := Tryd.isAgg64
  z24 := Tryd.sizeOf64
  v24 := Tryd.zeroValue64

theorem tLayExtra : Builder.Extra Tryd.prog tLayJoin_ren where
  sizeBuilder := by kernel_rfl
  liesBuilder := by kernel_rfl
  t5 := Tryd.underlying5
  a5 := Tryd.isAgg5
  z5 := Tryd.sizeOf5
  v5 := Tryd.zeroValue5
  infoByte := by kernel_rfl
  cellsByte := by kernel_rfl
  sizeByte := by kernel_rfl
  neB5 := by decide
end Go.Proofs.YtjnghnkilnhacaaDoor
namespace Go.Proofs.YtjnghnkilnhacaaDoor
open Go.RowKit

theorem ret_bool {a b : Bool} (h : a = b) : Ending.returned (.bool a) = Ending.returned (.bool b) := by rw [h]
theorem ret_int {a b : Int} (h : a = b) : Ending.returned (.int .i64 a) = Ending.returned (.int .i64 b) := by rw [h]
theorem hide {p : Prop} (h : p) : Hid p := h

/-- A type of Go data: how many cells a value takes, and when cells in a world read as a datum; the blocks that are reached are among S. -/
structure Ty (α : Type) where
  size : Nat
  rel : World → (Nat → Prop) → α → List Value → Prop
  len : ∀ {w S x cs}, rel w S x cs → cs.length = size
  one : ∀ {w S x cs}, rel w S x cs → ∀ u ∈ cs, u.oneCell' = true
  mono : ∀ {w w' S S' x cs}, rel w S x cs → (∀ b, S b → S' b) → (∀ b, S b → w'.heap[b]? = w.heap[b]?) → rel w' S' x cs

/-- Blocks that lie in a world. -/
def Old (w : World) (b : Nat) : Prop := b < w.heap.size
/-- Blocks from lo on and below hi. -/
def In (lo hi : Nat) (b : Nat) : Prop := lo ≤ b ∧ b < hi

/-- A row of elements in block b from place off on. -/
def RowAt {α : Type} (T : Ty α) (w : World) (S : Nat → Prop) (b off : Nat) (xs : List α) : Prop :=
  ∀ k (h : k < xs.length), ∃ cs, T.rel w S xs[k] cs ∧ ∀ j u, cs[j]? = some u → w.cell? ⟨b, off + k * T.size + j, none⟩ = some u
/-- A row of elements that a slice leads to. -/
def Row {α : Type} (T : Ty α) (w : World) (S : Nat → Prop) (A : Option Addr) (xs : List α) : Prop :=
  0 < xs.length → ∃ b off, A = some ⟨b, off, none⟩ ∧ S b ∧ RowAt T w S b off xs

theorem RowAt.mono {α : Type} {T : Ty α} {w w' : World} {S S' : Nat → Prop} {b off : Nat} {xs : List α} (h : RowAt T w S b off xs)
    (h2 : ∀ b, S b → S' b) (h3 : ∀ b, S b → w'.heap[b]? = w.heap[b]?) (h4 : w'.heap[b]? = w.heap[b]?) : RowAt T w' S' b off xs := fun k hk => by
  obtain ⟨cs, hr, hcs⟩ := h k hk
  exact ⟨cs, T.mono hr h2 h3, fun j u hu => (World.cell?_of_block h4).trans (hcs j u hu)⟩
theorem Row.mono {α : Type} {T : Ty α} {w w' : World} {S S' : Nat → Prop} {A : Option Addr} {xs : List α} (h : Row T w S A xs)
    (h2 : ∀ b, S b → S' b) (h3 : ∀ b, S b → w'.heap[b]? = w.heap[b]?) : Row T w' S' A xs := fun hp => by
  obtain ⟨b, off, rfl, hb, hc⟩ := h hp
  exact ⟨b, off, rfl, h2 b hb, hc.mono h2 h3 (h3 b hb)⟩
theorem Row.old {α : Type} {T : Ty α} {w w' : World} {A : Option Addr} {xs : List α} (h : Row T w (Old w) A xs) (hb : Below w.heap.size w w') : Row T w' (Old w') A xs :=
  h.mono (fun _ hx => Nat.lt_of_lt_of_le hx hb.size) fun _ hx => hb.block _ hx
theorem Row.nil {α : Type} {T : Ty α} {w : World} {S : Nat → Prop} {A : Option Addr} : Row T w S A [] := fun h => absurd h (by simp)

def flat {α : Type} (size : Nat) (enc : α → List Value) (hl : ∀ x, (enc x).length = size) (h1 : ∀ x, ∀ u ∈ enc x, u.oneCell' = true) : Ty α where
  size := size
  rel _ _ x cs := cs = enc x
  len h := by rw [h]; exact hl _
  one h := by rw [h]; exact h1 _
  mono h _ _ := h

def tInt : Ty Int := flat 1 (fun n => [.int .i64 n]) (fun _ => rfl) (fun _ u hu => by simp at hu; subst hu; rfl)

/-- A slice value reads as a list. -/
def Sl {α : Type} (T : Ty α) (w : World) (S : Nat → Prop) (xs : List α) (v : Value) : Prop :=
  ∃ A c, v = .slice A xs.length c ∧ xs.length ≤ c ∧ c ≤ maxLen ∧ Row T w S A xs
theorem Sl.mono {α : Type} {T : Ty α} {w w' : World} {S S' : Nat → Prop} {v : Value} {xs : List α} (h : Sl T w S xs v)
    (h2 : ∀ b, S b → S' b) (h3 : ∀ b, S b → w'.heap[b]? = w.heap[b]?) : Sl T w' S' xs v := by
  obtain ⟨A, c, rfl, h4, h5, h6⟩ := h; exact ⟨A, c, rfl, h4, h5, h6.mono h2 h3⟩
theorem Sl.old {α : Type} {T : Ty α} {w w' : World} {v : Value} {xs : List α} (h : Sl T w (Old w) xs v) (hb : Below w.heap.size w w') : Sl T w' (Old w') xs v :=
  h.mono (fun _ hx => Nat.lt_of_lt_of_le hx hb.size) fun _ hx => hb.block _ hx
structure Op where
  Kind : Int
  Key : Int
  Value : Int
structure Txn where
  Session : Int
  Ops : List Op
  Done : Bool

def tOp : Ty Op := flat 3 (fun s => [.int .i64 s.Kind, .int .i64 s.Key, .int .i64 s.Value]) (fun _ => rfl) (fun _ u hu => by simp at hu; rcases hu with rfl | rfl | rfl <;> rfl)
def tTxn : Ty Txn where
  size := 3
  rel w S x cs := ∃ v, cs = [.int .i64 x.Session, v, .bool x.Done] ∧ Sl tOp w S x.Ops v
  len h := by obtain ⟨A, rfl, _⟩ := h; rfl
  one h u hu := by
    obtain ⟨v, rfl, A, c, rfl, _⟩ := h
    simp at hu
    rcases hu with rfl | rfl | rfl <;> rfl
  mono h h2 h3 := by obtain ⟨v, rfl, h4⟩ := h; exact ⟨v, rfl, h4.mono h2 h3⟩

/-! ### Blocks that are known whole; slices of the call's own -/
def Blk (w : World) (g : Nat) (t : TypeId) (cs : Array Value) : Prop := w.heap[g]? = some (.cells cs t (0, 0))
section
variable {w w' : World} {g : Nat} {t : TypeId} {cs : Array Value}
theorem Blk.lt (h : Blk w g t cs) : g < w.heap.size := by
  rcases Nat.lt_or_ge g w.heap.size with hlt | hge
  · exact hlt
  · unfold Blk at h; rw [Array.getElem?_eq_none hge] at h; cases h
theorem Blk.cell (h : Blk w g t cs) (i : Nat) : w.cell? ⟨g, i, none⟩ = cs[i]? := cell_of_row w g i cs t (0, 0) h
theorem Blk.frozen (h : Blk w g t cs) (i : Nat) : w.frozen? ⟨g, i, none⟩ = false := by
  unfold Blk at h
  simp [World.frozen?, h]
theorem Blk.new (w : World) (t : TypeId) (cs : Array Value) : Blk (w.alloc (.cells cs t)) w.heap.size t cs := heap_alloc_new w _
theorem Blk.of (h : Blk w g t cs) (e : w'.heap[g]? = w.heap[g]?) : Blk w' g t cs := e.trans h
theorem Blk.alloc (h : Blk w g t cs) (o : Obj) : Blk (w.alloc o) g t cs := (Below.heap_alloc w o g h.lt).trans h
theorem Blk.set_ (h : Blk w g t cs) (i : Nat) (u : Value) : Blk (w.setCell ⟨g, i, none⟩ u) g t (cs.setIfInBounds i u) := by
  unfold Blk at h ⊢
  simp [World.setCell, Array.getElem?_modify, h]
theorem Blk.far (h : Blk w g t cs) {p : Addr} (hp : g ≠ p.block) (u : Value) : Blk (w.setCell p u) g t cs := (Below.heap_setCell w p u g hp).trans h
theorem Blk.below {B : Nat} (h : Blk w g t cs) (hb : Below B w w') (hg : g < B) : Blk w' g t cs := (hb.block g hg).trans h
/-- A cell of a block that is known whole: there, and not frozen. -/
theorem Blk.there (h : Blk w g t cs) {i : Nat} (hi : i < cs.size) : (∃ u, w.cell? ⟨g, i, none⟩ = some u) ∧ w.frozen? ⟨g, i, none⟩ = false :=
  ⟨⟨cs[i], by rw [h.cell, Array.getElem?_eq_getElem hi]⟩, h.frozen i⟩
end
/-- Behind a call that only makes memory all old cells and marks read as before. -/
theorem bcell {W w1 : World} (hb : Below W.heap.size W w1) : (∀ b o, b < W.heap.size → w1.cell? ⟨b, o, none⟩ = W.cell? ⟨b, o, none⟩) ∧ (∀ b o, b < W.heap.size → w1.frozen? ⟨b, o, none⟩ = W.frozen? ⟨b, o, none⟩) :=
  ⟨fun b o h => hb.cell (p := ⟨b, o, none⟩) h, fun b o h => hb.frozen (p := ⟨b, o, none⟩) h⟩
theorem below_drewN {B : Nat} {a w : World} (h : Below B a w) (n : Nat) : Below B a (w.drewN n) := ⟨h.os, h.tape, h.output, h.size, h.block⟩

/-- A slice of the call's own: it reads as xs, its block is known whole, and what its elements lead to lies elsewhere. -/
def Own {α : Type} (T : Ty α) (e : TypeId) (w : World) (S : Nat → Prop) (xs : List α) (v : Value) : Prop :=
  (v = .slice none 0 0 ∧ xs = []) ∨
  ∃ g cap cur S', v = .slice (some ⟨g, 0, none⟩) xs.length cap ∧ S g ∧ Blk w g e cur ∧ xs.length ≤ cap ∧ cap ≤ maxLen ∧ cur.size = cap * T.size ∧
    (∀ b, S' b → S b ∧ b ≠ g) ∧ RowAt T w S' g 0 xs
theorem Own.sl {α : Type} {T : Ty α} {e : TypeId} {w : World} {S : Nat → Prop} {xs : List α} {v : Value} (h : Own T e w S xs v) : Sl T w S xs v := by
  rcases h with ⟨rfl, rfl⟩ | ⟨g, cap, cur, S', rfl, hg, hB, h1, h2, h3, h4, h5⟩
  · exact ⟨none, 0, rfl, by simp, by simp [maxLen], Row.nil⟩
  · exact ⟨some ⟨g, 0, none⟩, cap, rfl, h1, h2, fun _ => ⟨g, 0, rfl, hg, h5.mono (fun b hb => (h4 b hb).1) (fun _ _ => rfl) rfl⟩⟩
theorem Own.mono {α : Type} {T : Ty α} {e : TypeId} {w w' : World} {S S2 : Nat → Prop} {xs : List α} {v : Value} (h : Own T e w S xs v) (h1 : ∀ b, S b → S2 b) (h2 : ∀ b, S b → w'.heap[b]? = w.heap[b]?) : Own T e w' S2 xs v := by
  rcases h with h | ⟨g, cap, cur, S', rfl, hg, hB, h3, h4, h5, h6, h7⟩
  · exact .inl h
  · exact .inr ⟨g, cap, cur, S', rfl, h1 g hg, hB.of (h2 g hg), h3, h4, h5, fun b hb => ⟨h1 b (h6 b hb).1, (h6 b hb).2⟩, h7.mono (fun _ h => h) (fun b hb => h2 b (h6 b hb).1) (h2 g hg)⟩
/-- What a call hands back lies in blocks that it made. -/
def New (w w' : World) (b : Nat) : Prop := w.heap.size ≤ b ∧ b < w'.heap.size
theorem New.old {w w' : World} {b : Nat} (h : New w w' b) : Old w' b := h.2
theorem Own.old {α : Type} {T : Ty α} {e : TypeId} {w w' : World} {xs : List α} {v : Value} (h : Own T e w' (New w w') xs v) : Sl T w' (Old w') xs v :=
  h.sl.mono (fun _ hb => hb.2) fun _ _ => rfl

theorem RowAt.zero {α : Type} {T : Ty α} {w : World} {S : Nat → Prop} {b off : Nat} : RowAt T w S b off ([] : List α) := fun _ h => absurd h (by simp)
theorem RowAt.take0 {α : Type} {T : Ty α} {w : World} {S : Nat → Prop} {b off : Nat} {xs : List α} : RowAt T w S b off (xs.take 0) := fun _ h => absurd h (by simp)

/-- What is known of a row that is being filled: block g whole, room for n elements, the first k of xs there. -/
structure Filling {α : Type} (T : Ty α) (e : TypeId) (w : World) (S : Nat → Prop) (g n k : Nat) (xs : List α) : Prop where
  ex : ∃ cur, Blk w g e cur ∧ cur.size = n * T.size
  row : RowAt T w S g 0 (xs.take k)
  ne : ¬ S g
theorem Filling.later {α : Type} {T : Ty α} {e : TypeId} {w w' : World} {S S' : Nat → Prop} {g n k : Nat} {xs : List α} (h : Filling T e w S g n k xs)
    (hb : Below w.heap.size w w') (hS : ∀ b, S b → S' b) (hO : ∀ b, S b → Old w b) (hg : ¬ S' g) : Filling T e w' S' g n k xs := by
  obtain ⟨⟨cur, hB, hc⟩, hr, _⟩ := h
  exact ⟨⟨cur, hB.below hb hB.lt, hc⟩, hr.mono hS (fun b h => hb.block b (hO b h)) (hb.block g hB.lt), hg⟩
theorem Filling.there {α : Type} {T : Ty α} {e : TypeId} {w : World} {S : Nat → Prop} {g n k : Nat} {xs : List α} (h : Filling T e w S g n k xs) {i : Nat} (hi : i < n * T.size) :
    (∃ u, w.cell? ⟨g, i, none⟩ = some u) ∧ w.frozen? ⟨g, i, none⟩ = false := by
  obtain ⟨⟨cur, hB, hc⟩, _, _⟩ := h
  exact hB.there (by omega)
/-- A row that has been filled is a slice of the call's own. -/
theorem Filling.own {α : Type} {T : Ty α} {e : TypeId} {w : World} {S S' : Nat → Prop} {g n : Nat} {xs : List α} (h : Filling T e w S g n xs.length xs) (hn : n = xs.length) (hm : n ≤ maxLen) (hg : S' g) (hS : ∀ b, S b → S' b) :
    Own T e w S' xs (.slice (some ⟨g, 0, none⟩) n n) := by
  subst hn
  obtain ⟨⟨cur, hB, hc⟩, hrow, hne⟩ := h
  exact .inr ⟨g, _, cur, S, rfl, hg, hB, Nat.le_refl _, hm, hc, fun b hb => ⟨hS b hb, fun e => hne (e ▸ hb)⟩, by simpa using hrow⟩

theorem run_make_rowN {P : Program} (t e : TypeId) (i : TypeInfo) (z : Value) (ht : P.underlying t = some (.slice e)) (hi : P.info? e = some i) (hz : i.zero = some z)
    (kl kc : IntKind) (n c : Nat) (hnc : n ≤ c) (hbytes : i.bytes * c ≤ 281474976710656) (h63 : c ≤ 9223372036854775807) (w : World) :
    (Instr.makeSlice t (.int kl (n : Int)) (.int kc (c : Int))).run P w = .ok (.slice (some ⟨w.heap.size, 0, none⟩) n c) (w.alloc (.cells (madeCells z.cells (c * i.size)) e)) := by
  have hb : (i.bytes : Int) * (c : Int) ≤ 281474976710656 := by
    have h : ((i.bytes * c : Nat) : Int) ≤ 281474976710656 := by omega
    rwa [Int.natCast_mul] at h
  have hr := run_make (P := P) w t e i z ht hi hz kl kc n c (by omega) (by omega) hb (by omega)
  simp only [Int.toNat_natCast] at hr
  exact hr
/-- A row that 'make' has just laid. -/
theorem Filling.made {α : Type} {T : Ty α} {e : TypeId} (w : World) (z : Array Value) (m n : Nat) (xs : List α) (S : Nat → Prop) (hm : m = n * T.size) (hS : ¬ S w.heap.size) :
    Filling T e (w.alloc (.cells (madeCells z m) e)) S w.heap.size n 0 xs :=
  ⟨⟨_, Blk.new _ _ _, by unfold madeCells; simp [hm]⟩, RowAt.take0, hS⟩

/-! ### Sizes -/
def tot {α : Type} (f : α → Nat) (xs : List α) : Nat := (xs.map f).sum
/-- The first k elements all pass. -/
def Upto {α : Type} (p : α → Bool) (xs : List α) (k : Nat) : Prop := ∀ j (hj : j < xs.length), j < k → p xs[j] = true
theorem Upto.zero {α : Type} {p : α → Bool} {xs : List α} : Upto p xs 0 := fun _ _ h => absurd h (by omega)
theorem Upto.succ {α : Type} {p : α → Bool} {xs : List α} {k : Nat} (h : Upto p xs k) (hk : k < xs.length) (hp : p xs[k] = true) : Upto p xs (k + 1) := fun j hj h1 => by
  rcases Nat.lt_succ_iff_lt_or_eq.1 h1 with h2 | rfl
  · exact h j hj h2
  · exact hp
theorem Upto.all {α : Type} {p : α → Bool} {xs : List α} (h : Upto p xs xs.length) : xs.all p = true := by
  rw [List.all_eq_true]
  intro x hx
  obtain ⟨j, hj, rfl⟩ := List.getElem_of_mem hx
  exact h j hj hj
theorem all_false {α : Type} {p : α → Bool} {xs : List α} {k : Nat} (hk : k < xs.length) (hp : p xs[k] = false) : xs.all p = false := by
  rw [List.all_eq_false]
  exact ⟨_, List.getElem_mem hk, by simp [hp]⟩
/-- A number lies in a range. -/
def inR (n lo hi : Int) : Bool := decide (lo ≤ n) && decide (n ≤ hi)
theorem inR_iff {n lo hi : Int} : inR n lo hi = true ↔ lo ≤ n ∧ n ≤ hi := by simp [inR]

/-- What is asked of a function value that is a predicate and may lay blocks of its own. -/
def Pred (P : Program) (g : Nat) (lb : Array Value) (w : World) (v : Value) (q : Bool) : Prop :=
  ∀ W : World, Below w.heap.size w W → Calls P g (#[v] ++ lb) W fun e w' => e = .returned (.bool q) ∧ Below w.heap.size w w'
def one_ : List Value → Value
  | [v] => v
  | l => .agg l.toArray

/-- The first place of a list whose element a predicate takes, or -1. -/
def idx {α : Type} (p : α → Bool) : List α → Int
  | [] => -1
  | x :: xs => if p x then 0 else (match idx p xs with | .ofNat n => .ofNat (n + 1) | .negSucc n => .negSucc n)
theorem idx_neg {α : Type} (p : α → Bool) (xs : List α) : (0 ≤ idx p xs) ↔ xs.any p = true := by
  induction xs with
  | nil => simp [idx]
  | cons x xs ih =>
    by_cases h : p x = true
    · simp [idx, h]
    · simp only [idx, h, List.any_cons, Bool.false_or, ← ih]
      cases idx p xs with
      | ofNat n => simp; omega
      | negSucc n => simp
theorem idx_hit {α : Type} (p : α → Bool) : ∀ (xs : List α) (k : Nat) (h : k < xs.length), p xs[k] = true → (∀ j (hj : j < xs.length), j < k → p xs[j] = false) → idx p xs = k
  | [], k, h, _, _ => absurd h (by simp)
  | x :: xs, 0, h, hp, _ => by simp at hp; simp [idx, hp]
  | x :: xs, k + 1, h, hp, hb => by
    have h0 : p x = false := hb 0 (by simp) (by omega)
    have h1 := idx_hit p xs k (by simpa using h) (by simpa using hp) (fun j hj hk => by have := hb (j + 1) (by simpa using hj) (by omega); simpa using this)
    simp only [idx, h0, h1]
    rfl
theorem idx_miss {α : Type} (p : α → Bool) (xs : List α) (h : ∀ j (hj : j < xs.length), p xs[j] = false) : idx p xs = -1 := by
  induction xs with
  | nil => rfl
  | cons x xs ih =>
    have h0 : p x = false := h 0 (by simp)
    have h1 := ih (fun j hj => by have := h (j + 1) (by simpa using hj); simpa using this)
    simp only [idx, h0, h1]
    rfl
end Go.Proofs.YtjnghnkilnhacaaDoor
namespace Go.Proofs.YtjnghnkilnhacaaDoor
open Go.RowKit

theorem at_Op {xs : List Op} {A : Option Addr} {w wr : World} {k : Nat} (hR : Row tOp w (Old w) A xs) (hb : Below w.heap.size w wr) (hk : k < xs.length) :
    ∃ b off, A = some ⟨b, off, none⟩ ∧ Old w b ∧ wr.cell? ⟨b, off + k * 3, none⟩ = some (.int .i64 xs[k].Kind) ∧ wr.cell? ⟨b, off + k * 3 + 1, none⟩ = some (.int .i64 xs[k].Key) ∧ wr.cell? ⟨b, off + k * 3 + 2, none⟩ = some (.int .i64 xs[k].Value) := by
  obtain ⟨b, off, rfl, hbS, hc⟩ := hR (by omega)
  obtain ⟨cs, hr, hcs⟩ := hc k hk
  obtain rfl := hr
  exact ⟨b, off, rfl, hbS, by simpa [tOp, flat] using (hb.cell (p := ⟨b, off + k * tOp.size + 0, none⟩) hbS).trans (hcs 0 _ rfl), by simpa [tOp, flat] using (hb.cell (p := ⟨b, off + k * tOp.size + 1, none⟩) hbS).trans (hcs 1 _ rfl), by simpa [tOp, flat] using (hb.cell (p := ⟨b, off + k * tOp.size + 2, none⟩) hbS).trans (hcs 2 _ rfl)⟩
end Go.Proofs.YtjnghnkilnhacaaDoor
namespace Go.Proofs.YtjnghnkilnhacaaDoor
open Go.RowKit

/-- The cells of a row that is read whole. -/
theorem cells_of_row {α : Type} {T : Ty α} {w : World} {S : Nat → Prop} {b off : Nat} : ∀ {xs : List α}, RowAt T w S b off xs →
    ∃ cells : List Value, cells.length = xs.length * T.size ∧ (∀ j u, cells[j]? = some u → w.cell? ⟨b, off + j, none⟩ = some u) ∧ (∀ u ∈ cells, u.oneCell' = true) ∧
      ∀ k (h : k < xs.length), T.rel w S xs[k] ((cells.drop (k * T.size)).take T.size) := by
  intro xs
  induction xs generalizing off with
  | nil => intro _; exact ⟨[], by simp, fun j u h => by simp at h, fun u h => by simp at h, fun k h => absurd h (by simp)⟩
  | cons x xs ih =>
    intro h
    obtain ⟨cs, hr, hcs⟩ := h 0 (by simp)
    obtain ⟨cells, hl, hc, h1, hrel⟩ := ih (off := off + T.size) (fun k hk => by
      obtain ⟨cs', hr', hcs'⟩ := h (k + 1) (by simpa using hk)
      refine ⟨cs', by simpa using hr', fun j u hu => ?_⟩
      have := hcs' j u hu
      rwa [Nat.add_mul, Nat.one_mul, show off + (k * T.size + T.size) + j = off + T.size + k * T.size + j by omega] at this)
    have hlen := T.len hr
    refine ⟨cs ++ cells, ?_, fun j u hu => ?_, fun u hu => ?_, fun k hk => ?_⟩
    · rw [List.length_append, hlen, hl, List.length_cons, Nat.add_mul]; omega
    · rcases Nat.lt_or_ge j cs.length with hj | hj
      · rw [List.getElem?_append_left hj] at hu
        have := hcs j u hu
        simpa using this
      · rw [List.getElem?_append_right hj, hlen] at hu
        have := hc (j - T.size) u hu
        rwa [show off + T.size + (j - T.size) = off + j by omega] at this
    · rcases List.mem_append.1 hu with h' | h'
      · exact T.one hr u h'
      · exact h1 u h'
    · cases k with
      | zero =>
        have e : (cs ++ cells).take T.size = cs := by rw [← hlen]; exact List.take_left
        simpa [e] using hr
      | succ k =>
        have e : (cs ++ cells).drop ((k + 1) * T.size) = cells.drop (k * T.size) := by
          rw [Nat.add_mul, Nat.one_mul, Nat.add_comm, ← List.drop_drop, ← hlen, List.drop_left]
        rw [e]
        simpa using hrel k (by simpa using hk)

theorem own_of_cells {α : Type} {T : Ty α} {e : TypeId} {w : World} {S S' : Nat → Prop} {xs : List α} {v : Value} {cells : List Value} (hown : w.ownsRow 0 e T.size v xs.length cells)
    (hrel : ∀ k (h : k < xs.length), T.rel w S' xs[k] ((cells.drop (k * T.size)).take T.size)) (hS : ∀ g, v.ownBlock = some g → S g) (hS' : ∀ b, S' b → S b ∧ v.ownBlock ≠ some b) : Own T e w S xs v := by
  obtain ⟨hl, h⟩ := hown
  rcases h with ⟨rfl, hn⟩ | ⟨g, cap, cur, rfl, _, hB, hnc, hcm, hcs, htake⟩
  · exact .inl ⟨rfl, List.eq_nil_of_length_eq_zero hn⟩
  · refine .inr ⟨g, cap, cur, S', rfl, hS g rfl, hB, hnc, hcm, hcs, fun b hb => ⟨(hS' b hb).1, fun e => (hS' b hb).2 (by simp [Value.ownBlock, e])⟩, fun k hk => ⟨_, hrel k hk, fun j u hu => ?_⟩⟩
    have hj : j < T.size := by
      rw [← T.len (hrel k hk)]
      exact (List.getElem?_eq_some_iff.1 hu).1
    have hB' : Blk w g e cur := hB
    rw [hB'.cell]
    rw [List.getElem?_take, if_pos hj, List.getElem?_drop, ← htake, List.getElem?_take] at hu
    split at hu
    · rw [Nat.zero_add]
      simpa using hu
    · cases hu

theorem cells_of_own {α : Type} {T : Ty α} {e : TypeId} {w : World} {S : Nat → Prop} {xs : List α} {v : Value} (h : Own T e w S xs v) :
    ∃ cells S', w.ownsRow 0 e T.size v xs.length cells ∧ (∀ k (h : k < xs.length), T.rel w S' xs[k] ((cells.drop (k * T.size)).take T.size)) ∧ (∀ g, v.ownBlock = some g → S g ∧ Old w g) ∧ (∀ b, S' b → S b ∧ v.ownBlock ≠ some b) := by
  rcases h with ⟨rfl, rfl⟩ | ⟨g, cap, cur, S', rfl, hg, hB, h1, h2, h3, h4, h5⟩
  · exact ⟨[], fun _ => False, World.ownsRow_nil _ _ _ _, fun k h => absurd h (by simp), fun g h => by simp [Value.ownBlock] at h, fun b h => h.elim⟩
  · obtain ⟨cells, hl, hc, _, hrel⟩ := cells_of_row h5
    refine ⟨cells, S', ⟨hl, .inr ⟨g, cap, cur, rfl, Nat.zero_le _, hB, h1, h2, h3, ?_⟩⟩, hrel, fun g' hg' => by simp [Value.ownBlock] at hg'; subst hg'; exact ⟨hg, hB.lt⟩, fun b hb => ⟨(h4 b hb).1, fun e => (h4 b hb).2 (by simpa [Value.ownBlock] using e.symm)⟩⟩
    have hle : xs.length * T.size ≤ cap * T.size := Nat.mul_le_mul_right _ h1
    apply List.ext_getElem?
    intro j
    rw [List.getElem?_take]
    split
    · rename_i hj
      rw [List.getElem?_eq_getElem (by omega : j < cells.length)]
      have := hc j _ (List.getElem?_eq_getElem (by omega))
      rw [hB.cell, Nat.zero_add] at this
      simpa using this
    · rename_i hj
      rw [List.getElem?_eq_none (by omega)]

/-- A row that is read now, wherever it lies; what its elements lead to is in S. -/
def RowAny {α : Type} (T : Ty α) (w : World) (S : Nat → Prop) (A : Option Addr) (xs : List α) : Prop := 0 < xs.length → ∃ b off, A = some ⟨b, off, none⟩ ∧ RowAt T w S b off xs
theorem Row.any {α : Type} {T : Ty α} {w : World} {S : Nat → Prop} {A : Option Addr} {xs : List α} (h : Row T w S A xs) : RowAny T w S A xs := fun hp => by
  obtain ⟨b, off, hA, _, hr⟩ := h hp
  exact ⟨b, off, hA, hr⟩
section
variable {P : Program}
/-- append(s, x...): s of the call's own, x any row. -/
theorem run_app {α : Type} (T : Ty α) (w : World) (t ty e : TypeId) (i : TypeInfo) (z : Value) (bytes : Nat) (ht : P.underlying t = some (.slice e)) (hi : P.info? e = some i) (hz : i.zero = some z)
    (hsize : i.size = T.size) (hby : i.bytes = bytes) (hzs : z.cells.size = T.size) (hsz : 0 < T.size)
    (S Sy S2 : Nat → Prop) (xs ys : List α) (v : Value) (hO : Own T e w S xs v) (A : Option Addr) (c : Nat) (hy : RowAny T w Sy A ys)
    (h63 : xs.length + ys.length ≤ maxLen) (hbytes : (xs.length + ys.length) * bytes ≤ 140737488355328)
    (hSo : ∀ b, S b → Old w b) (hSy : ∀ b, Sy b → Old w b ∧ v.ownBlock ≠ some b) (h1 : ∀ b, S b → S2 b) (h2 : ∀ b, Sy b → S2 b) (h3 : S2 w.heap.size) :
    ∃ v' w', (Builtin.append_ #[t, t] ty #[v, .slice A ys.length c]).run P w = .ok v' w' ∧ Own T e w' (fun b => S2 b ∧ Old w' b) (xs ++ ys) v' ∧ w.grownBy w' v.ownBlock := by
  by_cases hp : 0 < ys.length
  · obtain ⟨b, off, rfl, hrow⟩ := hy hp
    obtain ⟨news, hnl, hnc, hn1, hnrel⟩ := cells_of_row hrow
    obtain ⟨cells, S', hown, hrel, hg, hS'⟩ := cells_of_own hO
    obtain ⟨v', w', hrun, hown', hgrow, _, hat⟩ := run_append_own_at (P := P) w 0 t ty e i z T.size bytes ht hi hz hsize hby hzs hsz v xs.length cells hown ⟨b, off, none⟩ ys.length c news hnl
      (fun j u hu => by rw [Go.WideShapes.add_plain]; exact hnc j u hu) hn1 h63 hbytes (Nat.zero_le _)
    refine ⟨v', w', hrun, ?_, hgrow⟩
    have hcl := hown.1
    have hne : ∀ x, S' x ∨ Sy x → w'.heap[x]? = w.heap[x]? := fun x hx => by
      rcases hx with hx | hx
      · exact hgrow.block x (hSo x (hS' x hx).1) (fun e => (hS' x hx).2 e.symm)
      · exact hgrow.block x (hSy x hx).1 (fun e => (hSy x hx).2 e.symm)
    refine own_of_cells (S' := fun x => S' x ∨ Sy x) (by rw [List.length_append]; exact hown') (fun k hk => ?_) (fun g hg' => ?_) (fun x hx => ?_)
    · rw [List.length_append] at hk
      rcases Nat.lt_or_ge k xs.length with hlt | hge
      · have e1 : (xs ++ ys)[k]'(by rw [List.length_append]; omega) = xs[k] := List.getElem_append_left hlt
        have hk1 : k * T.size + T.size ≤ cells.length := by
          have : (k + 1) * T.size ≤ xs.length * T.size := Nat.mul_le_mul_right _ hlt
          rw [Nat.add_mul] at this; omega
        have e2 : ((cells ++ news).drop (k * T.size)).take T.size = (cells.drop (k * T.size)).take T.size := by
          rw [List.drop_append_of_le_length (by omega), List.take_append_of_le_length (by rw [List.length_drop]; omega)]
        rw [e1, e2]
        exact T.mono (hrel k hlt) (fun _ h => .inl h) (fun x hx => hne x (.inl hx))
      · have e1 : (xs ++ ys)[k]'(by rw [List.length_append]; omega) = ys[k - xs.length]'(by omega) := List.getElem_append_right hge
        have hk1 : xs.length * T.size ≤ k * T.size := Nat.mul_le_mul_right _ hge
        have e2 : (cells ++ news).drop (k * T.size) = news.drop ((k - xs.length) * T.size) := by
          rw [List.drop_append, List.drop_eq_nil_of_le (by omega), List.nil_append, hcl, Nat.sub_mul]
        rw [e1, e2]
        exact T.mono (hnrel _ (by omega)) (fun _ h => .inr h) (fun x hx => hne x (.inr hx))
    · have hlt := (hown'.lt g hg').2
      refine ⟨?_, hlt⟩
      rcases hat with e | e
      · rw [e] at hg'; exact h1 _ (hg g hg').1
      · rw [e] at hg'; simp at hg'; exact hg' ▸ h3
    · have hx2 : S2 x := by
        rcases hx with hx | hx
        · exact h1 _ (hS' x hx).1
        · exact h2 _ hx
      have hold : Old w x := by
        rcases hx with hx | hx
        · exact hSo x (hS' x hx).1
        · exact (hSy x hx).1
      refine ⟨⟨hx2, Nat.lt_of_lt_of_le hold hgrow.size⟩, ?_⟩
      rcases hat with e | e
      · rw [e]
        rcases hx with hx | hx
        · exact (hS' x hx).2
        · exact (hSy x hx).2
      · rw [e]
        intro h
        simp at h
        subst h
        exact absurd hold (Nat.lt_irrefl _)
  · have hnil : ys = [] := List.eq_nil_of_length_eq_zero (by omega)
    subst hnil
    have hO2 : Own T e w (fun b => S2 b ∧ Old w b) xs v := hO.mono (fun b h => ⟨h1 b h, hSo b h⟩) (fun _ _ => rfl)
    refine ⟨v, w, ?_, by simpa using hO2, World.grownBy.refl w _⟩
    rcases hO with ⟨rfl, rfl⟩ | ⟨g, cap, cur, S', rfl, hg, hB, hh1, _⟩
    · cases A <;> simp [Builtin.append_, run_underlying ht, sizeOf, typeInfo, hi, Builtin.lenOf, Builtin.firstCells, loadCells, loadCellsFrom]
    · cases A <;> simp [Builtin.append_, run_underlying ht, sizeOf, typeInfo, hi, Builtin.lenOf, Builtin.firstCells, hh1, storeCells, loadCells, loadCellsFrom]

theorem wp_app {α : Type} (T : Ty α) {w : World} {o : Oper} {a : Act} {K : Act → World → Prop} {Q : Exit → Act → World → Prop} (s x : Operand) (t : TypeId)
    (ho : o.op = .call { callee := .builtin .append, args := #[s, x], argTypes := #[t, t] })
    (e : TypeId) (i : TypeInfo) (z : Value) (bytes : Nat) (ht : P.underlying t = some (.slice e)) (hi : P.info? e = some i) (hz : i.zero = some z)
    (hsize : i.size = T.size) (hby : i.bytes = bytes) (hzs : z.cells.size = T.size) (hsz : 0 < T.size)
    (S Sy S2 : Nat → Prop) (xs ys : List α) (v : Value) (hs : a.eval s = v) (hO : Own T e w S xs v) (A : Option Addr) (m c : Nat) (hx : a.eval x = .slice A m c) (hm : m = ys.length) (hy : RowAny T w Sy A ys)
    (h63 : xs.length + ys.length ≤ maxLen) (hbytes : (xs.length + ys.length) * bytes ≤ 140737488355328)
    (hSo : ∀ b, S b → Old w b) (hSy : ∀ b, Sy b → Old w b ∧ v.ownBlock ≠ some b) (h1 : ∀ b, S b → S2 b) (h2 : ∀ b, Sy b → S2 b) (h3 : S2 w.heap.size)
    (h : ∀ v' w', Own T e w' (fun b => S2 b ∧ Old w' b) (xs ++ ys) v' → w.grownBy w' v.ownBlock → K (a.put o.dst v') w') : o.wp P a w K Q := by
  subst hm
  obtain ⟨v', w', hrun, h4, h5⟩ := run_app (P := P) T w t o.type e i z bytes ht hi hz hsize hby hzs hsz S Sy S2 xs ys v hO A c hy h63 hbytes hSo hSy h1 h2 h3
  unfold Oper.wp execOp
  simp only [ho, resolve, invoke, builtin, Sem.run_bind, Sem.run_pure, Result.andThen_ok, List.map_toArray, List.map_cons, List.map_nil, hs, hx, hrun]
  exact h v' w' h4 h5

theorem wpList_app {α : Type} (T : Ty α) {w : World} {ops : Array Oper} {rest : List Oper} {o : Oper} {a : Act} {Q : Exit → Act → World → Prop} (hgd : Region.wanted o (yielded ops a.tmps) = true) (s x : Operand) (t : TypeId)
    (ho : o.op = .call { callee := .builtin .append, args := #[s, x], argTypes := #[t, t] })
    (e : TypeId) (i : TypeInfo) (z : Value) (bytes : Nat) (ht : P.underlying t = some (.slice e)) (hi : P.info? e = some i) (hz : i.zero = some z)
    (hsize : i.size = T.size) (hby : i.bytes = bytes) (hzs : z.cells.size = T.size) (hsz : 0 < T.size)
    (S Sy S2 : Nat → Prop) (xs ys : List α) (v : Value) (hs : a.eval s = v) (hO : Own T e w S xs v) (A : Option Addr) (m c : Nat) (hx : a.eval x = .slice A m c) (hm : m = ys.length) (hy : RowAny T w Sy A ys)
    (h63 : xs.length + ys.length ≤ maxLen) (hbytes : (xs.length + ys.length) * bytes ≤ 140737488355328)
    (hSo : ∀ b, S b → Old w b) (hSy : ∀ b, Sy b → Old w b ∧ v.ownBlock ≠ some b) (h1 : ∀ b, S b → S2 b) (h2 : ∀ b, Sy b → S2 b) (h3 : S2 w.heap.size)
    (h : ∀ v' w', Own T e w' (fun b => S2 b ∧ Old w' b) (xs ++ ys) v' → w.grownBy w' v.ownBlock → wpList P ops Q rest (a.put o.dst v') w') : wpList P ops Q (o :: rest) a w :=
  BigFrame.wpList_want hgd fun _ hK => wp_app T s x t ho e i z bytes ht hi hz hsize hby hzs hsz S Sy S2 xs ys v hs hO A m c hx hm hy h63 hbytes hSo hSy h1 h2 h3 fun v' w' h4 h5 => hK _ _ (h v' w' h4 h5)
end

/-- The one-element row that append(s, x) makes of x first. -/
theorem row_one {α : Type} {T : Ty α} {w : World} {S : Nat → Prop} {x : α} {cs : List Value} (e : TypeId) (hr : T.rel w S x cs) (hS : ∀ b, S b → Old w b) :
    RowAny T (w.alloc (.cells cs.toArray e)) S (some ⟨w.heap.size, 0, none⟩) [x] := fun _ =>
  ⟨w.heap.size, 0, rfl, fun k hk => by
    obtain rfl : k = 0 := by simpa using hk
    refine ⟨cs, T.mono hr (fun b h => h) (fun b h => Below.heap_alloc _ _ _ (hS b h)), fun j u hu => ?_⟩
    simp only [Nat.zero_mul, Nat.zero_add]
    rw [(Blk.new w e cs.toArray).cell]
    simpa using hu⟩
theorem Own.nil_ {α : Type} {T : Ty α} {e : TypeId} {w : World} {S : Nat → Prop} : Own T e w S ([] : List α) (.slice none 0 0) := .inl ⟨rfl, rfl⟩
/-- An empty slice with room, newly made. -/
theorem Own.made {α : Type} {T : Ty α} {e : TypeId} (w : World) {S : Nat → Prop} (cur : Array Value) (cap : Nat) (hs : cur.size = cap * T.size) (hm : cap ≤ maxLen) (hS : S w.heap.size) :
    Own T e (w.alloc (.cells cur e)) S ([] : List α) (.slice (some ⟨w.heap.size, 0, none⟩) 0 cap) :=
  .inr ⟨_, cap, cur, fun _ => False, rfl, hS, Blk.new _ _ _, Nat.zero_le _, hm, hs, fun _ h => h.elim, RowAt.zero⟩
/-- What is owned stays so while other blocks are made. -/
theorem Own.below {α : Type} {T : Ty α} {e : TypeId} {w w' : World} {S : Nat → Prop} {xs : List α} {v : Value} (h : Own T e w S xs v) (hb : Below w.heap.size w w') (hS : ∀ b, S b → Old w b) : Own T e w' S xs v :=
  h.mono (fun _ h => h) fun b hb' => hb.block b (hS b hb')
end Go.Proofs.YtjnghnkilnhacaaDoor
