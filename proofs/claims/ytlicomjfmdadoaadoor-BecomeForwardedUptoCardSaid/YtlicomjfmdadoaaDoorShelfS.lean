/-
  DERIVED: THE SHELF's CONTRACTS AT THIS DUMP, IN PLAIN WORDS (tools/lay-plain.mjs out of 'YtlicomjfmdadoaaDoorShelfU.lean', which tools/lay-shelf.mjs wrote): THE SAME DECLARATIONS UNDER THE SAME NAMES: 'import', 'namespace', 'open', 'def', 'theorem' AND NOTHING ELSE: no command of the shelf's: FOR A HAND-IN. Each laying: the table of numbers ('.._ren') and one theorem, a field a fact of the dump's own or the kernel's comparison; each contract: ONE APPLICATION.
-/
import Derived.Ground.SlgmProg
import Derived.Shelf.SortM.Plain
import Derived.Test.YtlicomjfmdadoaaDoorProg
namespace Go.Proofs
open Go.Shelf
def Tryd.sortO_ren : Go.Shelf.Ren := ⟨fun | 5 => 111 | 8 => 129 | 7 => 128 | 19 => 147 | 20 => 148 | 10 => 138 | 11 => 139 | 12 => 140 | 13 => 141 | 14 => 142 | 15 => 143 | 16 => 144 | 17 => 145 | 18 => 146 | 30 => 157 | 31 => 158 | 32 => 159 | 33 => 160 | 34 => 161 | 35 => 162 | 40 => 166 | n => n, fun | 23 => 41 | 25 => 3 | 3 => 3 | 32 => 160 | 22 => 41 | 0 => 0 | 44 => 181 | 46 => 183 | 4 => 4 | 36 => 175 | 35 => 174 | 41 => 150 | 5 => 5 | 9 => 9 | 53 => 189 | 57 => 193 | 63 => 197 | 64 => 36 | n => n, fun | n => n⟩
theorem Tryd.sortO : Go.Proofs.SlLaysM.n5 Tryd.prog Tryd.sortO_ren := {
  mixed := by kernel_rfl
  f5 := ⟨Tryd.f111.name, by decide, Tryd.func111.trans (congrArg some (by kernel_rfl))⟩
  f7 := ⟨Tryd.f128.name, by decide, Tryd.func128.trans (congrArg some (by kernel_rfl))⟩
  f8 := Tryd.func129.trans (congrArg some (by kernel_rfl))
  f10 := ⟨Tryd.f138.name, by decide, Tryd.func138.trans (congrArg some (by kernel_rfl))⟩
  f11 := ⟨Tryd.f139.name, by decide, Tryd.func139.trans (congrArg some (by kernel_rfl))⟩
  f12 := ⟨Tryd.f140.name, by decide, Tryd.func140.trans (congrArg some (by kernel_rfl))⟩
  f13 := ⟨Tryd.f141.name, by decide, Tryd.func141.trans (congrArg some (by kernel_rfl))⟩
  f14 := ⟨Tryd.f142.name, by decide, Tryd.func142.trans (congrArg some (by kernel_rfl))⟩
  f15 := ⟨Tryd.f143.name, by decide, Tryd.func143.trans (congrArg some (by kernel_rfl))⟩
  f16 := ⟨Tryd.f144.name, by decide, Tryd.func144.trans (congrArg some (by kernel_rfl))⟩
  f17 := ⟨Tryd.f145.name, by decide, Tryd.func145.trans (congrArg some (by kernel_rfl))⟩
  f18 := ⟨Tryd.f146.name, by decide, Tryd.func146.trans (congrArg some (by kernel_rfl))⟩
  f19 := Tryd.func147.trans (congrArg some (by kernel_rfl))
  f20 := Tryd.func148.trans (congrArg some (by kernel_rfl))
  f30 := ⟨Tryd.f157.name, by decide, Tryd.func157.trans (congrArg some (by kernel_rfl))⟩
  f31 := Tryd.func158.trans (congrArg some (by kernel_rfl))
  f32 := Tryd.func159.trans (congrArg some (by kernel_rfl))
  f33 := ⟨Tryd.f160.name, by decide, Tryd.func160.trans (congrArg some (by kernel_rfl))⟩
  f34 := ⟨Tryd.f161.name, by decide, Tryd.func161.trans (congrArg some (by kernel_rfl))⟩
  f35 := ⟨Tryd.f162.name, by decide, Tryd.func162.trans (congrArg some (by kernel_rfl))⟩
  f40 := ⟨Tryd.f166.name, by decide, Tryd.func166.trans (congrArg some (by kernel_rfl))⟩
  t0 := Tryd.underlying0
  a0 := Tryd.isAgg0
  z0 := Tryd.sizeOf0
  v0 := Tryd.zeroValue0
  t3 := Tryd.underlying3
  a3 := Tryd.isAgg3
  z3 := Tryd.sizeOf3
  v3 := Tryd.zeroValue3
  t4 := Tryd.underlying4
  a4 := Tryd.isAgg4
  z4 := Tryd.sizeOf4
  v4 := Tryd.zeroValue4
  t5 := Tryd.underlying5
  a5 := Tryd.isAgg5
  z5 := Tryd.sizeOf5
  v5 := Tryd.zeroValue5
  t9 := Tryd.underlying9
  a9 := Tryd.isAgg9
  z9 := Tryd.sizeOf9
  v9 := Tryd.zeroValue9
  t22 := Tryd.underlying41
  a22 := Tryd.isAgg41
  z22 := Tryd.sizeOf41
  v22 := Tryd.zeroValue41
  t23 := Tryd.underlying41
  a23 := Tryd.isAgg41
  z23 := Tryd.sizeOf41
  v23 := Tryd.zeroValue41
  t25 := Tryd.underlying3
  a25 := Tryd.isAgg3
  z25 := Tryd.sizeOf3
  v25 := Tryd.zeroValue3
  t32 := Tryd.underlying160
  a32 := Tryd.isAgg160
  z32 := Tryd.sizeOf160
  v32 := Tryd.zeroValue160
  t35 := Tryd.underlying174
  a35 := Tryd.isAgg174
  z35 := Tryd.sizeOf174
  v35 := Tryd.zeroValue174
  t36 := Tryd.underlying175
  a36 := Tryd.isAgg175
  z36 := Tryd.sizeOf175
  v36 := Tryd.zeroValue175
  t41 := Tryd.underlying150
  a41 := Tryd.isAgg150
  z41 := Tryd.sizeOf150
  v41 := Tryd.zeroValue150
  t44 := Tryd.underlying181
  a44 := Tryd.isAgg181
  z44 := Tryd.sizeOf181
  v44 := Tryd.zeroValue181
  t46 := Tryd.underlying183
  a46 := Tryd.isAgg183
  z46 := Tryd.sizeOf183
  v46 := Tryd.zeroValue183
  t53 := Tryd.underlying189
  a53 := Tryd.isAgg189
  z53 := Tryd.sizeOf189
  v53 := Tryd.zeroValue189
  t57 := Tryd.underlying193
  a57 := Tryd.isAgg193
  z57 := Tryd.sizeOf193
  v57 := Tryd.zeroValue193
  t63 := Tryd.underlying197
  a63 := Tryd.isAgg197
  z63 := Tryd.sizeOf197
  v63 := Tryd.zeroValue197
  t64 := Tryd.underlying36
  a64 := Tryd.isAgg36
  z64 := Tryd.sizeOf36
  v64 := Tryd.zeroValue36 }
end Go.Proofs
