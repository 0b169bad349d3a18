/- Contracts of the library at this program, laid by the kit (plain words); no condition. Proofs in the order of their minutes: the library's SortFunc by the minutes. slices.Index at proofs: the first place. A region that draws its order ahead of a tail: its first operations may have guards; an invariant of the world, and a fact for each operation that is done; one proof serves every order. The proofs in order, by their indices; what a right book has. XInvT inside the fence that asks nothing: for a region whose tail yields. -/
import Derived.Shelf.Small.Bits
import Derived.Ground.SlgnProg
import Derived.Shelf.SlicesE.Reverse
import Derived.Shelf.SlicesE.Delete
import Derived.Ground.SlgfProg
import Derived.Shelf.SlicesE.DeleteFunc
import Derived.Ground.SlgmProg
import Derived.Shelf.SortM.Plain
import Derived.Shelf.SortM.SortNone
import Derived.Shelf.SlSortCmp.SmallK
import Derived.Ground.SlsfProg
import Derived.Shelf.SlIterI.Nil
import Derived.Ground.GgzProg
import Derived.Shelf.SlicesQ.Index
import Derived.Ground.SlgqProg
import Derived.Test.YtcdjoegihmfanaaGreatProg
import Derived.Test.YtcdjoegihmfanaaGreatG4
import Derived.Shelf.SlSortCmp.QuietGrown
import Derived.Laws.StructEq
import Derived.Test.YtcdjoegihmfanaaGreatG1
import Derived.OrdersIn
namespace Go.Proofs
open Go.Shelf
def Tryz.lays125_ren : Go.Shelf.Ren := ⟨fun | 125 => 156 | 128 => 196 | 129 => 197 | n => n, fun | 46 => 175 | 3 => 3 | 51 => 267 | 53 => 171 | 4 => 4 | 5 => 5 | 9 => 9 | n => n, fun | n => n⟩
theorem Tryz.lays125 : Go.Proofs.Lays.n125 Tryz.prog Tryz.lays125_ren := {
  mixed := by kernel_rfl
  f125 := Tryz.func156.trans (congrArg some (by kernel_rfl))
  f128 := Tryz.func196.trans (congrArg some (by kernel_rfl))
  f129 := Tryz.func197.trans (congrArg some (by kernel_rfl))
  t3 := Tryz.underlying3
  a3 := Tryz.isAgg3
  z3 := Tryz.sizeOf3
  v3 := Tryz.zeroValue3
  t4 := Tryz.underlying4
  a4 := Tryz.isAgg4
  z4 := Tryz.sizeOf4
  v4 := Tryz.zeroValue4
  t5 := Tryz.underlying5
  a5 := Tryz.isAgg5
  z5 := Tryz.sizeOf5
  v5 := Tryz.zeroValue5
  t9 := Tryz.underlying9
  a9 := Tryz.isAgg9
  z9 := Tryz.sizeOf9
  v9 := Tryz.zeroValue9
  t46 := Tryz.underlying175
  a46 := Tryz.isAgg175
  z46 := Tryz.sizeOf175
  v46 := Tryz.zeroValue175
  t51 := Tryz.underlying267
  a51 := Tryz.isAgg267
  z51 := Tryz.sizeOf267
  v51 := Tryz.zeroValue267
  t53 := Tryz.underlying171
  a53 := Tryz.isAgg171
  z53 := Tryz.sizeOf171
  v53 := Tryz.zeroValue171 }
def Tryz.laysSortF_ren : Go.Shelf.Ren := ⟨fun | 6 => 164 | 15 => 156 | 14 => 200 | 28 => 196 | 29 => 197 | 20 => 213 | 21 => 214 | 22 => 215 | 23 => 216 | 24 => 217 | 25 => 218 | 26 => 219 | 27 => 220 | 46 => 224 | 47 => 209 | 48 => 210 | 49 => 225 | 50 => 226 | 57 => 227 | n => n, fun | 22 => 23 | 24 => 57 | 25 => 234 | 3 => 3 | 39 => 175 | 0 => 0 | 53 => 267 | 55 => 171 | 4 => 4 | 46 => 260 | 45 => 259 | 50 => 264 | 5 => 5 | 9 => 9 | 66 => 273 | 70 => 138 | 76 => 285 | 77 => 251 | n => n, fun | n => n⟩
theorem Tryz.laysSortF : Go.Proofs.SlLaysF0.n6 Tryz.prog Tryz.laysSortF_ren := {
  mixed := by kernel_rfl
  f6 := ⟨Tryz.f164.name, by decide, Tryz.func164.trans (congrArg some (by kernel_rfl))⟩
  f14 := ⟨Tryz.f200.name, by decide, Tryz.func200.trans (congrArg some (by kernel_rfl))⟩
  f15 := Tryz.func156.trans (congrArg some (by kernel_rfl))
  f20 := ⟨Tryz.f213.name, by decide, Tryz.func213.trans (congrArg some (by kernel_rfl))⟩
  f21 := ⟨Tryz.f214.name, by decide, Tryz.func214.trans (congrArg some (by kernel_rfl))⟩
  f22 := ⟨Tryz.f215.name, by decide, Tryz.func215.trans (congrArg some (by kernel_rfl))⟩
  f23 := ⟨Tryz.f216.name, by decide, Tryz.func216.trans (congrArg some (by kernel_rfl))⟩
  f24 := ⟨Tryz.f217.name, by decide, Tryz.func217.trans (congrArg some (by kernel_rfl))⟩
  f25 := ⟨Tryz.f218.name, by decide, Tryz.func218.trans (congrArg some (by kernel_rfl))⟩
  f26 := ⟨Tryz.f219.name, by decide, Tryz.func219.trans (congrArg some (by kernel_rfl))⟩
  f27 := ⟨Tryz.f220.name, by decide, Tryz.func220.trans (congrArg some (by kernel_rfl))⟩
  f28 := Tryz.func196.trans (congrArg some (by kernel_rfl))
  f29 := Tryz.func197.trans (congrArg some (by kernel_rfl))
  f46 := ⟨Tryz.f224.name, by decide, Tryz.func224.trans (congrArg some (by kernel_rfl))⟩
  f47 := Tryz.func209.trans (congrArg some (by kernel_rfl))
  f48 := Tryz.func210.trans (congrArg some (by kernel_rfl))
  f49 := ⟨Tryz.f225.name, by decide, Tryz.func225.trans (congrArg some (by kernel_rfl))⟩
  f50 := ⟨Tryz.f226.name, by decide, Tryz.func226.trans (congrArg some (by kernel_rfl))⟩
  f57 := ⟨Tryz.f227.name, by decide, Tryz.func227.trans (congrArg some (by kernel_rfl))⟩
  t0 := Tryz.underlying0
  a0 := Tryz.isAgg0
  z0 := Tryz.sizeOf0
  v0 := Tryz.zeroValue0
  t3 := Tryz.underlying3
  a3 := Tryz.isAgg3
  z3 := Tryz.sizeOf3
  v3 := Tryz.zeroValue3
  t4 := Tryz.underlying4
  a4 := Tryz.isAgg4
  z4 := Tryz.sizeOf4
  v4 := Tryz.zeroValue4
  t5 := Tryz.underlying5
  a5 := Tryz.isAgg5
  z5 := Tryz.sizeOf5
  v5 := Tryz.zeroValue5
  t9 := Tryz.underlying9
  a9 := Tryz.isAgg9
  z9 := Tryz.sizeOf9
  v9 := Tryz.zeroValue9
  t22 := Tryz.underlying23
  a22 := Tryz.isAgg23
  z22 := Tryz.sizeOf23
  v22 := Tryz.zeroValue23
  t25 := Tryz.underlying234
  a25 := Tryz.isAgg234
  z25 := Tryz.sizeOf234
  v25 := Tryz.zeroValue234
  t39 := Tryz.underlying175
  a39 := Tryz.isAgg175
  z39 := Tryz.sizeOf175
  v39 := Tryz.zeroValue175
  t45 := Tryz.underlying259
  a45 := Tryz.isAgg259
  z45 := Tryz.sizeOf259
  v45 := Tryz.zeroValue259
  t46 := Tryz.underlying260
  a46 := Tryz.isAgg260
  z46 := Tryz.sizeOf260
  v46 := Tryz.zeroValue260
  t50 := Tryz.underlying264
  a50 := Tryz.isAgg264
  z50 := Tryz.sizeOf264
  v50 := Tryz.zeroValue264
  t53 := Tryz.underlying267
  a53 := Tryz.isAgg267
  z53 := Tryz.sizeOf267
  v53 := Tryz.zeroValue267
  t55 := Tryz.underlying171
  a55 := Tryz.isAgg171
  z55 := Tryz.sizeOf171
  v55 := Tryz.zeroValue171
  t66 := Tryz.underlying273
  a66 := Tryz.isAgg273
  z66 := Tryz.sizeOf273
  v66 := Tryz.zeroValue273
  t70 := Tryz.underlying138
  a70 := Tryz.isAgg138
  z70 := Tryz.sizeOf138
  v70 := Tryz.zeroValue138
  t76 := Tryz.underlying285
  a76 := Tryz.isAgg285
  z76 := Tryz.sizeOf285
  v76 := Tryz.zeroValue285
  t77 := Tryz.underlying251
  a77 := Tryz.isAgg251
  z77 := Tryz.sizeOf251
  v77 := Tryz.zeroValue251 }
def Tryz.laysKeys_ren : Go.Shelf.Ren := ⟨fun | 7 => 183 | 10 => 207 | n => n, fun | 23 => 245 | 26 => 3 | 3 => 36 | 28 => 248 | 0 => 0 | 27 => 247 | 33 => 77 | 4 => 4 | n => n, fun | n => n⟩
theorem Tryz.laysKeys : Go.Proofs.SlLaysZI.n7 Tryz.prog Tryz.laysKeys_ren := {
  mixed := by kernel_rfl
  f7 := ⟨Tryz.f183.name, by decide, Tryz.func183.trans (congrArg some (by kernel_rfl))⟩
  f10 := ⟨Tryz.f207.name, by decide, Tryz.func207.trans (congrArg some (by kernel_rfl))⟩
  t0 := Tryz.underlying0
  a0 := Tryz.isAgg0
  z0 := Tryz.sizeOf0
  v0 := Tryz.zeroValue0
  t4 := Tryz.underlying4
  a4 := Tryz.isAgg4
  z4 := Tryz.sizeOf4
  v4 := Tryz.zeroValue4
  t23 := Tryz.underlying245
  a23 := Tryz.isAgg245
  z23 := Tryz.sizeOf245
  v23 := Tryz.zeroValue245
  t26 := Tryz.underlying3
  a26 := Tryz.isAgg3
  z26 := Tryz.sizeOf3
  v26 := Tryz.zeroValue3
  t27 := Tryz.underlying247
  a27 := Tryz.isAgg247
  z27 := Tryz.sizeOf247
  v27 := Tryz.zeroValue247
  t28 := Tryz.underlying248
  a28 := Tryz.isAgg248
  z28 := Tryz.sizeOf248
  v28 := Tryz.zeroValue248
  t33 := Tryz.underlying77
  a33 := Tryz.isAgg77
  z33 := Tryz.sizeOf77
  v33 := Tryz.zeroValue77 }
def Tryz.laysSorted_ren : Go.Shelf.Ren := ⟨fun | 6 => 182 | 8 => 206 | 9 => 100 | 11 => 222 | 13 => 156 | 12 => 155 | 23 => 196 | 24 => 197 | 14 => 187 | 15 => 188 | 16 => 189 | 17 => 190 | 18 => 191 | 19 => 192 | 20 => 193 | 21 => 194 | 22 => 195 | 25 => 208 | 26 => 209 | 27 => 210 | 28 => 211 | 29 => 212 | 30 => 198 | 31 => 223 | n => n, fun | 26 => 3 | 28 => 248 | 24 => 41 | 0 => 0 | 3 => 3 | 37 => 175 | 48 => 267 | 50 => 171 | 4 => 4 | 40 => 260 | 39 => 259 | 45 => 264 | 5 => 5 | 9 => 9 | 51 => 273 | 55 => 138 | 57 => 285 | 58 => 251 | 33 => 77 | n => n, fun | n => n⟩
theorem Tryz.laysSorted : Go.Proofs.SlLaysZI.n6 Tryz.prog Tryz.laysSorted_ren := {
  mixed := by kernel_rfl
  f6 := ⟨Tryz.f182.name, by decide, Tryz.func182.trans (congrArg some (by kernel_rfl))⟩
  f8 := ⟨Tryz.f206.name, by decide, Tryz.func206.trans (congrArg some (by kernel_rfl))⟩
  f11 := ⟨Tryz.f222.name, by decide, Tryz.func222.trans (congrArg some (by kernel_rfl))⟩
  t0 := Tryz.underlying0
  a0 := Tryz.isAgg0
  z0 := Tryz.sizeOf0
  v0 := Tryz.zeroValue0
  t24 := Tryz.underlying41
  a24 := Tryz.isAgg41
  z24 := Tryz.sizeOf41
  v24 := Tryz.zeroValue41
  t26 := Tryz.underlying3
  a26 := Tryz.isAgg3
  z26 := Tryz.sizeOf3
  v26 := Tryz.zeroValue3
  t28 := Tryz.underlying248
  a28 := Tryz.isAgg248
  z28 := Tryz.sizeOf248
  v28 := Tryz.zeroValue248
  i26 := by kernel_rfl }
def Tryz.laysSort_ren : Go.Shelf.Ren := ⟨fun | 5 => 100 | 8 => 156 | 7 => 155 | 19 => 196 | 20 => 197 | 10 => 187 | 11 => 188 | 12 => 189 | 13 => 190 | 14 => 191 | 15 => 192 | 16 => 193 | 17 => 194 | 18 => 195 | 30 => 208 | 31 => 209 | 32 => 210 | 33 => 211 | 34 => 212 | 35 => 198 | 40 => 223 | n => n, fun | 23 => 41 | 25 => 3 | 3 => 3 | 32 => 175 | 22 => 41 | 0 => 0 | 44 => 267 | 46 => 171 | 4 => 4 | 36 => 260 | 35 => 259 | 41 => 264 | 5 => 5 | 9 => 9 | 53 => 273 | 57 => 138 | 63 => 285 | 64 => 251 | n => n, fun | n => n⟩
theorem Tryz.laysSort : Go.Proofs.SlLaysM.n5 Tryz.prog Tryz.laysSort_ren := {
  mixed := by kernel_rfl
  f5 := ⟨Tryz.f100.name, by decide, Tryz.func100.trans (congrArg some (by kernel_rfl))⟩
  f7 := ⟨Tryz.f155.name, by decide, Tryz.func155.trans (congrArg some (by kernel_rfl))⟩
  f8 := Tryz.func156.trans (congrArg some (by kernel_rfl))
  f10 := ⟨Tryz.f187.name, by decide, Tryz.func187.trans (congrArg some (by kernel_rfl))⟩
  f11 := ⟨Tryz.f188.name, by decide, Tryz.func188.trans (congrArg some (by kernel_rfl))⟩
  f12 := ⟨Tryz.f189.name, by decide, Tryz.func189.trans (congrArg some (by kernel_rfl))⟩
  f13 := ⟨Tryz.f190.name, by decide, Tryz.func190.trans (congrArg some (by kernel_rfl))⟩
  f14 := ⟨Tryz.f191.name, by decide, Tryz.func191.trans (congrArg some (by kernel_rfl))⟩
  f15 := ⟨Tryz.f192.name, by decide, Tryz.func192.trans (congrArg some (by kernel_rfl))⟩
  f16 := ⟨Tryz.f193.name, by decide, Tryz.func193.trans (congrArg some (by kernel_rfl))⟩
  f17 := ⟨Tryz.f194.name, by decide, Tryz.func194.trans (congrArg some (by kernel_rfl))⟩
  f18 := ⟨Tryz.f195.name, by decide, Tryz.func195.trans (congrArg some (by kernel_rfl))⟩
  f19 := Tryz.func196.trans (congrArg some (by kernel_rfl))
  f20 := Tryz.func197.trans (congrArg some (by kernel_rfl))
  f30 := ⟨Tryz.f208.name, by decide, Tryz.func208.trans (congrArg some (by kernel_rfl))⟩
  f31 := Tryz.func209.trans (congrArg some (by kernel_rfl))
  f32 := Tryz.func210.trans (congrArg some (by kernel_rfl))
  f33 := ⟨Tryz.f211.name, by decide, Tryz.func211.trans (congrArg some (by kernel_rfl))⟩
  f34 := ⟨Tryz.f212.name, by decide, Tryz.func212.trans (congrArg some (by kernel_rfl))⟩
  f35 := ⟨Tryz.f198.name, by decide, Tryz.func198.trans (congrArg some (by kernel_rfl))⟩
  f40 := ⟨Tryz.f223.name, by decide, Tryz.func223.trans (congrArg some (by kernel_rfl))⟩
  t0 := Tryz.underlying0
  a0 := Tryz.isAgg0
  z0 := Tryz.sizeOf0
  v0 := Tryz.zeroValue0
  t3 := Tryz.underlying3
  a3 := Tryz.isAgg3
  z3 := Tryz.sizeOf3
  v3 := Tryz.zeroValue3
  t4 := Tryz.underlying4
  a4 := Tryz.isAgg4
  z4 := Tryz.sizeOf4
  v4 := Tryz.zeroValue4
  t5 := Tryz.underlying5
  a5 := Tryz.isAgg5
  z5 := Tryz.sizeOf5
  v5 := Tryz.zeroValue5
  t9 := Tryz.underlying9
  a9 := Tryz.isAgg9
  z9 := Tryz.sizeOf9
  v9 := Tryz.zeroValue9
  t22 := Tryz.underlying41
  a22 := Tryz.isAgg41
  z22 := Tryz.sizeOf41
  v22 := Tryz.zeroValue41
  t23 := Tryz.underlying41
  a23 := Tryz.isAgg41
  z23 := Tryz.sizeOf41
  v23 := Tryz.zeroValue41
  t25 := Tryz.underlying3
  a25 := Tryz.isAgg3
  z25 := Tryz.sizeOf3
  v25 := Tryz.zeroValue3
  t32 := Tryz.underlying175
  a32 := Tryz.isAgg175
  z32 := Tryz.sizeOf175
  v32 := Tryz.zeroValue175
  t35 := Tryz.underlying259
  a35 := Tryz.isAgg259
  z35 := Tryz.sizeOf259
  v35 := Tryz.zeroValue259
  t36 := Tryz.underlying260
  a36 := Tryz.isAgg260
  z36 := Tryz.sizeOf260
  v36 := Tryz.zeroValue260
  t41 := Tryz.underlying264
  a41 := Tryz.isAgg264
  z41 := Tryz.sizeOf264
  v41 := Tryz.zeroValue264
  t44 := Tryz.underlying267
  a44 := Tryz.isAgg267
  z44 := Tryz.sizeOf267
  v44 := Tryz.zeroValue267
  t46 := Tryz.underlying171
  a46 := Tryz.isAgg171
  z46 := Tryz.sizeOf171
  v46 := Tryz.zeroValue171
  t53 := Tryz.underlying273
  a53 := Tryz.isAgg273
  z53 := Tryz.sizeOf273
  v53 := Tryz.zeroValue273
  t57 := Tryz.underlying138
  a57 := Tryz.isAgg138
  z57 := Tryz.sizeOf138
  v57 := Tryz.zeroValue138
  t63 := Tryz.underlying285
  a63 := Tryz.isAgg285
  z63 := Tryz.sizeOf285
  v63 := Tryz.zeroValue285
  t64 := Tryz.underlying251
  a64 := Tryz.isAgg251
  z64 := Tryz.sizeOf251
  v64 := Tryz.zeroValue251 }
def Tryz.laysRev_ren : Go.Shelf.Ren := ⟨fun | 35 => 138 | n => n, fun | 22 => 41 | 23 => 3 | 3 => 3 | 4 => 4 | 0 => 0 | n => n, fun | n => n⟩
theorem Tryz.laysRev : Go.Proofs.SlLaysE.n35 Tryz.prog Tryz.laysRev_ren := {
  mixed := by kernel_rfl
  f35 := ⟨Tryz.f138.name, by decide, Tryz.func138.trans (congrArg some (by kernel_rfl))⟩
  t0 := Tryz.underlying0
  a0 := Tryz.isAgg0
  z0 := Tryz.sizeOf0
  v0 := Tryz.zeroValue0
  t3 := Tryz.underlying3
  a3 := Tryz.isAgg3
  z3 := Tryz.sizeOf3
  v3 := Tryz.zeroValue3
  t4 := Tryz.underlying4
  a4 := Tryz.isAgg4
  z4 := Tryz.sizeOf4
  v4 := Tryz.zeroValue4
  t22 := Tryz.underlying41
  a22 := Tryz.isAgg41
  z22 := Tryz.sizeOf41
  v22 := Tryz.zeroValue41
  a23 := Tryz.isAgg3
  z23 := Tryz.sizeOf3 }
def Tryz.laysDel_ren : Go.Shelf.Ren := ⟨fun | 45 => 46 | n => n, fun | 22 => 41 | 23 => 3 | 3 => 3 | 4 => 4 | 0 => 0 | n => n, fun | n => n⟩
theorem Tryz.laysDel : Go.Proofs.SlLaysE.n45 Tryz.prog Tryz.laysDel_ren := {
  mixed := by kernel_rfl
  f45 := ⟨Tryz.f46.name, by decide, Tryz.func46.trans (congrArg some (by kernel_rfl))⟩
  t0 := Tryz.underlying0
  a0 := Tryz.isAgg0
  z0 := Tryz.sizeOf0
  v0 := Tryz.zeroValue0
  t3 := Tryz.underlying3
  a3 := Tryz.isAgg3
  z3 := Tryz.sizeOf3
  v3 := Tryz.zeroValue3
  t4 := Tryz.underlying4
  a4 := Tryz.isAgg4
  z4 := Tryz.sizeOf4
  v4 := Tryz.zeroValue4
  t22 := Tryz.underlying41
  a22 := Tryz.isAgg41
  z22 := Tryz.sizeOf41
  v22 := Tryz.zeroValue41
  a23 := Tryz.isAgg3
  z23 := Tryz.sizeOf3 }
def Tryz.laysDelF_ren : Go.Shelf.Ren := ⟨fun | 10 => 153 | 6 => 186 | n => n, fun | 22 => 41 | 23 => 3 | 25 => 77 | 3 => 3 | 4 => 4 | 0 => 0 | n => n, fun | n => n⟩
theorem Tryz.laysDelF : Go.Proofs.SlLaysH.n10 Tryz.prog Tryz.laysDelF_ren := {
  mixed := by kernel_rfl
  f6 := ⟨Tryz.f186.name, by decide, Tryz.func186.trans (congrArg some (by kernel_rfl))⟩
  f10 := ⟨Tryz.f153.name, by decide, Tryz.func153.trans (congrArg some (by kernel_rfl))⟩
  t0 := Tryz.underlying0
  a0 := Tryz.isAgg0
  z0 := Tryz.sizeOf0
  v0 := Tryz.zeroValue0
  t3 := Tryz.underlying3
  a3 := Tryz.isAgg3
  z3 := Tryz.sizeOf3
  v3 := Tryz.zeroValue3
  t4 := Tryz.underlying4
  a4 := Tryz.isAgg4
  z4 := Tryz.sizeOf4
  v4 := Tryz.zeroValue4
  t22 := Tryz.underlying41
  a22 := Tryz.isAgg41
  z22 := Tryz.sizeOf41
  v22 := Tryz.zeroValue41
  a23 := Tryz.isAgg3
  z23 := Tryz.sizeOf3
  t25 := Tryz.underlying77
  a25 := Tryz.isAgg77
  z25 := Tryz.sizeOf77
  v25 := Tryz.zeroValue77 }
def Tryz.laysIdx_ren : Go.Shelf.Ren := ⟨fun | 6 => 167 | n => n, fun | 22 => 23 | 24 => 57 | 3 => 3 | 0 => 0 | 4 => 4 | n => n, fun | n => n⟩
theorem Tryz.laysIdx : Go.Proofs.SlLaysQ.n6 Tryz.prog Tryz.laysIdx_ren := {
  mixed := by kernel_rfl
  f6 := ⟨Tryz.f167.name, by decide, Tryz.func167.trans (congrArg some (by kernel_rfl))⟩
  t0 := Tryz.underlying0
  a0 := Tryz.isAgg0
  z0 := Tryz.sizeOf0
  v0 := Tryz.zeroValue0
  t3 := Tryz.underlying3
  a3 := Tryz.isAgg3
  z3 := Tryz.sizeOf3
  v3 := Tryz.zeroValue3
  t4 := Tryz.underlying4
  a4 := Tryz.isAgg4
  z4 := Tryz.sizeOf4
  v4 := Tryz.zeroValue4
  t22 := Tryz.underlying23
  a22 := Tryz.isAgg23
  z22 := Tryz.sizeOf23
  v22 := Tryz.zeroValue23 }
end Go.Proofs
namespace Go.Proofs.YtcdjoegihmfanaaGreat
open Go.RowKit Go.Shelf Go.Sort Go.Lib
set_option linter.unusedVariables false
theorem minute_any (p : Pr) (w : World) : Calls Tryz.prog 166 #[prV p] w fun e w' => e = .returned (.int .i64 p.m) ∧ w' = w.alloc (.cells #[.int .i64 p.b, .int .i64 p.m, .int .i64 p.k, .int .i64 p.r] 57) := by
  unfold prV
  go_enter Tryz.func166, Tryz.ntmps166
  go_wp2_with fail
  go_ret
  exact ⟨rfl, rfl⟩
def cfM (x y : Pr) : Int := IntKind.i64.wrap (x.m - y.m)
def prE (p : Pr) : List Value := [.int .i64 p.b, .int .i64 p.m, .int .i64 p.k, .int .i64 p.r]
set_option maxRecDepth 100000 in
set_option maxHeartbeats 1000000 in
theorem cmp_any (x y : Pr) (a : Nat) (W : World) (ha : W.cell? ⟨a, 0, none⟩ = some (.func (.func 166) #[] #[])) (hl : a < W.heap.size) :
    Calls Tryz.prog 201 #[prV x, prV y, .pointer (some ⟨a, 0, none⟩)] W fun e w' => e = .returned (.int .i64 (cfM x y)) ∧ ∃ q os', w' = grow (W.drewN q) os' := by
  have HM := fun p (w : World) => Lib.hid (minute_any p w)
  unfold prV cfM at *
  go_enter Tryz.func201, Tryz.ntmps201
  go_wp2_with fail
  have B0 := (Blk.new W [.int .i64 x.b, .int .i64 x.m, .int .i64 x.k, .int .i64 x.r] 57).alloc (.cells #[.int .i64 y.b, .int .i64 y.m, .int .i64 y.k, .int .i64 y.r] 57)
  have B1 := Blk.new (W.alloc (.cells #[.int .i64 x.b, .int .i64 x.m, .int .i64 x.k, .int .i64 x.r] 57)) [.int .i64 y.b, .int .i64 y.m, .int .i64 y.k, .int .i64 y.r] 57
  have hg : (W.alloc (.cells #[.int .i64 x.b, .int .i64 x.m, .int .i64 x.k, .int .i64 x.r] 57)).alloc (.cells #[.int .i64 y.b, .int .i64 y.m, .int .i64 y.k, .int .i64 y.r] 57) = grow W (#[.cells #[.int .i64 x.b, .int .i64 x.m, .int .i64 x.k, .int .i64 x.r] 57] ++ #[.cells #[.int .i64 y.b, .int .i64 y.m, .int .i64 y.k, .int .i64 y.r] 57]) := by rw [alloc_eq_grow, alloc_eq_grow, grow_grow]
  have bW : Below W.heap.size W ((W.alloc (.cells #[.int .i64 x.b, .int .i64 x.m, .int .i64 x.k, .int .i64 x.r] 57)).alloc (.cells #[.int .i64 y.b, .int .i64 y.m, .int .i64 y.k, .int .i64 y.r] 57)) := (below_new _ _).alloc (by simp) _
  simp only [World.size_alloc] at B1
  have HG := Lib.hid hg
  clear hg
  generalize (W.alloc (.cells #[.int .i64 x.b, .int .i64 x.m, .int .i64 x.k, .int .i64 x.r] 57)).alloc (.cells #[.int .i64 y.b, .int .i64 y.m, .int .i64 y.k, .int .i64 y.r] 57) = W1 at *
  have z0 := bW.at_ hl ha
  have zl := Nat.lt_of_lt_of_le hl bW.size
  have c0 := cell_grown B0.lt (B0.cells 0 _ rfl)
  have c1 := cell_grown B0.lt (B0.cells 1 _ rfl)
  have c2 := cell_grown B0.lt (B0.cells 2 _ rfl)
  have c3 := cell_grown B0.lt (B0.cells 3 _ rfl)
  have d0 := cell_grown B1.lt (B1.cells 0 _ rfl)
  have d1 := cell_grown B1.lt (B1.cells 1 _ rfl)
  have d2 := cell_grown B1.lt (B1.cells 2 _ rfl)
  have d3 := cell_grown B1.lt (B1.cells 3 _ rfl)
  have e0 := cell_grown zl z0
  clear B0 B1 z0 ha
  have mixed : Tryz.prog.follows .mixedOrders = true := by kernel_rfl
  have HMG : ∀ (p : Pr) (n : Nat) (os : Array Obj), Hid (Calls Tryz.prog 166 #[.agg #[.int .i64 p.b, .int .i64 p.m, .int .i64 p.k, .int .i64 p.r]] (grow (W1.drewN n) os) fun e w' => e = .returned (.int .i64 p.m) ∧ ∃ q os', w' = grow ((grow (W1.drewN n) os).drewN q) os') := fun p n os => (HM p _).out.mono fun _ _ ⟨h, k⟩ => ⟨h, 0, #[.cells #[.int .i64 p.b, .int .i64 p.m, .int .i64 p.k, .int .i64 p.r] 57], k.trans (alloc_eq_grow _ _)⟩
  go_quiet_grown (first | (go_at_call 166; exact Calls.grown_of (HMG x _ _).out) | (go_at_call 166; exact Calls.grown_of (HMG y _ _).out))
  go_wp2_with fail
  go_ret
  exact ⟨rfl, nq, _, by rw [HG.out]; show grow (grow (W.drewN nq) _) osq = _; rw [grow_grow]⟩
/-- A proof whose minute is one. -/
abbrev PrB : Type := { p : Pr // 0 ≤ p.m ∧ p.m ≤ 10000 }
def prE2 (p : PrB) : List Value := prE p.1
def cfB (x y : PrB) : Int := x.1.m - y.1.m
theorem cfB_eq (x y : PrB) : cfM x.1 y.1 = cfB x y := by
  have h1 := x.2
  have h2 := y.2
  exact IntWalk.i64_in _ (by omega)
instance : Inhabited PrB := ⟨⟨⟨0, 0, 0, 0⟩, by decide⟩⟩
theorem prE2_one : ∀ (x : PrB), ∀ v ∈ prE2 x, v.oneCell' = true := by
  intro x v hv
  simp [prE2, prE] at hv
  rcases hv with rfl | rfl | rfl | rfl <;> rfl
theorem swoB : SWO (ltOf cfB) := by
  refine ⟨fun x => ?_, fun x y z h k => ?_, fun x y z h k => ?_⟩
  · simp [ltOf, cfB]
  · have h := of_decide_eq_true h
    have k := of_decide_eq_true k
    exact decide_eq_true (by unfold cfB at h k ⊢; omega)
  · have h := of_decide_eq_false h
    have k := of_decide_eq_false k
    exact decide_eq_false (by unfold cfB at h k ⊢; omega)
def unB (t : List PrB) : List Pr := t.map Subtype.val
theorem unB_length (t : List PrB) : (unB t).length = t.length := by simp [unB]
theorem toB {ps : List Pr} (h : ∀ p ∈ ps, 0 ≤ p.m ∧ p.m ≤ 10000) : ∃ t : List PrB, unB t = ps := by
  refine ⟨ps.attach.map fun x => ⟨x.1, h x.1 x.2⟩, ?_⟩
  simp [unB]
theorem prs_at (t : List PrB) (i c : Nat) (hi : i < t.length) (hc : c < 4) : (prs (unB t))[i * 4 + c]? = some ((prE2 t[i])[c]'(by simp [prE2, prE]; omega)) := by
  have := rowsOf_get (f := prF) (k := 4) (fun _ => rfl) (unB t) i c (by rw [unB_length]; exact hi) hc
  rw [prs, this]
  have e : (unB t)[i]'(by rw [unB_length]; exact hi) = t[i].1 := by simp [unB]
  simp only [e]
  match c, hc with
  | 0, _ => rfl
  | 1, _ => rfl
  | 2, _ => rfl
  | 3, _ => rfl
theorem getB {t : List PrB} {i : Nat} (hi : i < t.length) : t.toArray[i]! = t[i] := by simp [hi]
theorem holds_own {w : World} {base : Nat} {g cap n : Nat} {t : List PrB} (h : w.ownsRow base 57 4 (.slice (some ⟨g, 0, none⟩) n cap) n (prs (unB t))) (hn : n = t.length) : HoldsK prE2 4 w g 0 t.toArray := by
  intro j hj
  rw [size_flatK] at hj
  simp at hj
  have hm := Nat.div_add_mod j 4
  have hr := Nat.mod_lt j (show 0 < 4 by omega)
  have hi : j / 4 < t.length := by omega
  have hc := own_cells h (j / 4 * 4 + j % 4) _ (prs_at t (j / 4) (j % 4) hi hr)
  rw [get_flatK _ _ _ _ (by simpa using hj), getB hi]
  rw [show j / 4 * 4 + j % 4 = j from by omega] at hc
  rw [Nat.zero_add]
  refine ⟨?_, ?_⟩
  · rw [hc]
    have : (prE2 t[j / 4])[j % 4]! = (prE2 t[j / 4])[j % 4]'(by simp [prE2, prE]; omega) := by simp [prE2, prE, hr]
    rw [this]; rfl
  · rcases h.2 with ⟨e, _⟩ | ⟨g', cap', cur, e, _, hg, _⟩
    · cases e
    · injection e with e
      injection e with e
      injection e with e
      subst e
      simp [World.frozen?, hg]
theorem rd_holds {w : World} {g : Nat} {t : List PrB} (hg : g < w.heap.size) (h : HoldsK prE2 4 w g 0 t.toArray) : Rd w w.heap.size (some ⟨g, 0, none⟩) (prs (unB t)) := fun _ => by
  refine ⟨g, 0, rfl, hg, fun j u hu => ?_⟩
  have hj : j < t.length * 4 := by rw [← unB_length, ← prs_length]; exact (List.getElem?_eq_some_iff.1 hu).1
  have hm := Nat.div_add_mod j 4
  have hr := Nat.mod_lt j (show 0 < 4 by omega)
  have hi : j / 4 < t.length := by omega
  have hc := (HoldsK.cell h (i := j / 4) (c := j % 4) (by simpa using hi) hr).1
  have h2 := prs_at t (j / 4) (j % 4) hi hr
  rw [show j / 4 * 4 + j % 4 = j from by omega] at h2
  rw [h2] at hu
  injection hu with hu
  rw [show 0 + j / 4 * 4 + j % 4 = 0 + j from by omega] at hc
  rw [hc, ← hu, getB hi]
  have : (prE2 t[j / 4])[j % 4]! = (prE2 t[j / 4])[j % 4]'(by simp [prE2, prE]; omega) := by simp [prE2, prE, hr]
  rw [this]
theorem grownBy_sortK {w : World} {g m : Nat} {os : Array Obj} (d : Array PrB) : w.grownBy (sortWorldK prE2 4 w g 0 m d os) (some g) := by
  refine ⟨rfl, rfl, rfl, by simp [sortWorldK, putRowK, putRow, mapBlock, Sort.ahead, grow], fun k hk hne => ?_⟩
  unfold sortWorldK
  rw [heap_grow_old _ _ (by simpa [putRowK, putRow, mapBlock, Sort.ahead] using hk)]
  have : g ≠ k := fun e => hne (by rw [e])
  simp [putRowK, putRow, mapBlock, Sort.ahead, Array.getElem?_modify, this]
/-- The proofs in order: the same ones, by their minutes. -/
def SortedP (ps qs : List Pr) : Prop := qs.Perm ps ∧ qs.Pairwise fun a b => a.m ≤ b.m
set_option maxRecDepth 100000 in
set_option maxHeartbeats 1000000 in
theorem sort_any (g cap a n : Nat) (base : Nat) (ps : List Pr) (w : World) (hn : n = ps.length) (hm : ∀ p ∈ ps, 0 ≤ p.m ∧ p.m ≤ 10000) (h12 : ps.length ≤ 12) (ho : w.ownsRow base 57 4 (.slice (some ⟨g, 0, none⟩) n cap) n (prs ps)) (hbg : base ≤ g)
    (ha : w.cell? ⟨a, 0, none⟩ = some (.func (.func 166) #[] #[])) (hal : a < w.heap.size) (hag : a ≠ g) :
    Calls Tryz.prog 164 #[.slice (some ⟨g, 0, none⟩) n cap, .func (.func 201) #[] #[.pointer (some ⟨a, 0, none⟩)]] w fun e w' =>
      e = .returned (.tuple #[]) ∧ ∃ qs, SortedP ps qs ∧ Rd w' w'.heap.size (some ⟨g, 0, none⟩) (prs qs) ∧ w.grownBy w' (some g) := by
  obtain ⟨t, rfl⟩ := toB hm
  rw [unB_length] at hn h12
  subst hn
  have hgl : g < w.heap.size := by
    rcases ho.2 with ⟨e, _⟩ | ⟨g', cap', cur, e, _, hg, _⟩
    · cases e
    · injection e with e
      injection e with e
      injection e with e
      subst e
      exact (Array.getElem?_eq_some_iff.1 hg).1
  have hH := holds_own ho rfl
  have hcmp : CmpLays Tryz.prog 201 #[.pointer (some ⟨a, 0, none⟩)] prE2 4 cfB g 0 t.toArray.size w := by
    intro m os dk hdk x y
    have hc : (sortWorldK prE2 4 w g 0 m dk os).cell? ⟨a, 0, none⟩ = some (.func (.func 166) #[] #[]) :=
      (World.cell?_of_block (a := ⟨a, 0, none⟩) ((grownBy_sortK dk).block a hal (by intro e; injection e with e; exact hag e))).trans ha
    have := cmp_any x.1 y.1 a _ hc (Nat.lt_of_lt_of_le hal (grownBy_sortK dk).size)
    rw [cfB_eq] at this
    exact this
  have hlen : ∀ (k : Nat) (W : World), k ≤ 12 → Calls Tryz.prog 156 #[.int .u64 k] W fun e w' => (∃ l : Int, e = .returned (.int .i64 l)) ∧ w' = W := fun k W hk =>
    (Any.bits_Len Tryz.lays125 k W (by omega) (by omega)).mono fun _ _ ⟨he, hw⟩ => ⟨⟨_, he⟩, hw⟩
  have hcon := AnyQ.slices_SortFunc_small_sorted Tryz.laysSortF 4 Tryz.isAgg57 Tryz.sizeOf57 prE2 (fun _ => rfl) prE2_one cfB 201 #[.pointer (some ⟨a, 0, none⟩)] swoB g 0 cap t.toArray w (enters_of Tryz.func201 (by kernel_rfl) rfl) hcmp hH hgl (by simpa using h12) hlen
  refine hcon.mono ?_
  rintro e w' ⟨rfl, d', m, os, hp, hs, rfl⟩
  obtain ⟨hz, _, hperm⟩ := hp
  have hz' : d'.size = t.length := by simpa using hz
  have e1 : d'.extract 0 t.toArray.size = d' := by rw [← hz]; simp
  have e2 : t.toArray.extract 0 t.toArray.size = t.toArray := by simp
  rw [e1, e2] at hperm
  have hK := holdsK_sortWorldK_c prE2 4 w g 0 t.toArray d' m os hH hgl hz
  have hgr := grownBy_sortK (w := w) (g := g) (m := m) (os := os) d'
  refine ⟨rfl, unB d'.toList, ⟨?_, ?_⟩, rd_holds (Nat.lt_of_lt_of_le hgl hgr.size) (by simpa using hK), hgr⟩
  · exact List.Perm.map _ (by simpa using hperm)
  · rw [List.pairwise_iff_getElem]
    intro i j hi hj hij
    rw [unB_length] at hi hj
    have hj' : j < d'.size := by simpa using hj
    have hi' : i < d'.size := by simpa using hi
    have := hs i j (Nat.zero_le _) hij (by rw [← hz]; exact hj')
    have this := of_decide_eq_false this
    unfold cfB at this
    rw [getElem!_pos d' i hi', getElem!_pos d' j hj'] at this
    simp only [unB, List.getElem_map, Array.getElem_toList]
    omega
end Go.Proofs.YtcdjoegihmfanaaGreat
namespace Go.Proofs.YtcdjoegihmfanaaGreat
open Go.RowKit
set_option linter.unusedVariables false
theorem guardProof : Tryz.prog.eqGuardType Tryz.prog.depth 57 = false := by kernel_rfl
set_option maxRecDepth 100000 in
theorem eqlProof (w : World) (x y : Pr) (r : Bool) (h : r = decide (x = y)) : (binOp .eql 57 (.agg #[.int .i64 x.b, .int .i64 x.m, .int .i64 x.k, .int .i64 x.r]) (.agg #[.int .i64 y.b, .int .i64 y.m, .int .i64 y.k, .int .i64 y.r])).run Tryz.prog w = .ok (.bool r) w := by
  have u3 := Tryz.underlying3
  have a3 := Tryz.isAgg3
  have z3 := Tryz.sizeOf3
  have hS : Tryz.prog.underlying 57 = some (.struct (Tryz.prog.fieldsOf 57)) := by kernel_rfl
  have hp : Tryz.prog.stoodInHeld 57 = false := by kernel_rfl
  rw [run_eql_struct, show (10000 : Nat) = 9999 + 1 from rfl, run_equalIn_agg w 9999 57 _ _ hS hp]
  simp only [Program.fieldsOf, Tryz.underlying57]
  go_simp
  subst h
  obtain ⟨x0, x1, x2, x3⟩ := x
  obtain ⟨y0, y1, y2, y3⟩ := y
  by_cases h0 : x0 = y0 <;> by_cases h1 : x1 = y1 <;> by_cases h2 : x2 = y2 <;> by_cases h3 : x3 = y3 <;> simp [h0, h1, h2, h3]
set_option maxRecDepth 100000 in
set_option maxHeartbeats 1000000 in
theorem indexP_any (A : Option Addr) (c : Nat) (ps : List Pr) (k0 : Nat) (h0 : k0 < ps.length) (hno : ∀ j (hj : j < k0), ps[j] ≠ ps[k0]) (w : World) (hr : Rd w w.heap.size A (prs ps)) (hl : ps.length ≤ 1000) :
    Calls Tryz.prog 167 #[.slice A ps.length c, prV ps[k0]] w fun e w' => e = .returned (.int .i64 k0) ∧ Below w.heap.size w w' := by
  have HNO := Lib.hid hno
  clear hno
  have hbq := below_new w (.cells #[.int .i64 ps[k0].b, .int .i64 ps[k0].m, .int .i64 ps[k0].k, .int .i64 ps[k0].r] 57)
  have BQ := Blk.new w [.int .i64 ps[k0].b, .int .i64 ps[k0].m, .int .i64 ps[k0].k, .int .i64 ps[k0].r] 57
  have hrq := hr.next hbq
  unfold prV
  generalize hq : ps[k0] = q at *
  have HQ := Lib.hid hq
  clear hq
  go_enter Tryz.func167, Tryz.ntmps167
  go_wp2_with fail
  generalize w.alloc (.cells #[.int .i64 q.b, .int .i64 q.m, .int .i64 q.k, .int .i64 q.r] 57) = W at *
  go_loopw [5, 8] (fun _ i wr => ∃ k n : Nat, k ≤ k0 ∧ i = .int .i64 k ∧ wr = W.drewN n) (fun _ i _ => ps.length - (intOf i).toNat)
  case atStart => exact ⟨0, 0, Nat.zero_le _, rfl, rfl⟩
  case round =>
    obtain ⟨k, n, hk, rfl, rfl⟩ := hrel
    have hlt : k < ps.length := by omega
    obtain ⟨b, off, rfl, hbb, hc1, hc2, hc3, hc4⟩ := hrq.proof hlt
    have B2 := BQ.drewN n
    have hc1' : ((W.drewN n)).cell? ⟨b, off + k * 4, none⟩ = some (.int .i64 ps[k].b) := hc1
    have hc2' : ((W.drewN n)).cell? ⟨b, off + k * 4 + 1, none⟩ = some (.int .i64 ps[k].m) := hc2
    have hc3' : ((W.drewN n)).cell? ⟨b, off + k * 4 + 2, none⟩ = some (.int .i64 ps[k].k) := hc3
    have hc4' : ((W.drewN n)).cell? ⟨b, off + k * 4 + 3, none⟩ = some (.int .i64 ps[k].r) := hc4
    have d1 := B2.cells 0 _ rfl
    have d2 := B2.cells 1 _ rfl
    have d3 := B2.cells 2 _ rfl
    have d4 := B2.cells 3 _ rfl
    have dl := B2.lt
    have hg := guardProof
    have hbb' : b < (W.drewN n).heap.size := hbb
    have HW := Lib.hid (show W.drewN n = W.drewN n from rfl)
    clear B2 hc1 hc2 hc3 hc4 hbb
    by_cases he : k = k0
    · subst he
      rw [HQ.out] at hc1' hc2' hc3' hc4'
      have hq := fun w => eqlProof w q q true (by simp)
      generalize hwn : W.drewN n = Wn at *
      have HWn := Lib.hid hwn
      clear hwn HW
      go_wp2_with fail
      go_quiet (fail)
      go_wp2_with fail
      go_ret
      exact ⟨rfl, by rw [← HWn.out]; exact below_drewN (below_drewN hbq n) nq⟩
    · have hne : ¬ q = ps[k] := fun h => HNO.out k (by omega) (by rw [← h])
      have hq := fun w => eqlProof w q ps[k] false (by simpa using hne)
      have hkk : k < k0 := by omega
      clear hne he
      generalize hwn : W.drewN n = Wn at *
      have HWn := Lib.hid hwn
      clear hwn HW
      go_wp2_with fail
      go_quiet (fail)
      go_wp2_with fail
      go_roundw
      case rel => exact ⟨k + 1, n + nq, by omega, by go_num, by rw [← HWn.out, World.drewN_drewN]⟩
      case measure => simp [intOf]; omega
end Go.Proofs.YtcdjoegihmfanaaGreat
namespace Go.Proofs.YtcdjoegihmfanaaGreat
open Go.RowKit
/-- Each of the first n operations waits for earlier ones alone, and has no place, or one of its own. -/
def headOkT (ops : Array Oper) (n size : Nat) : Bool :=
  (List.range n).all fun i => match ops[i]? with
    | none => false
    | some o => o.after.all (fun e => !Region.binds .any e || decide (e.on < i)) && (match o.dst with | none => true | some d => decide (d < size) && (List.range i).all fun j => dstOf ops j != some d)
theorem put_none (a : Act) (v : Value) : a.put none v = a := rfl
theorem headT_at {ops : Array Oper} {n size : Nat} (h : headOkT ops n size = true) {i : Nat} (hi : i < n) : ∃ o, ops[i]? = some o ∧ (∀ e ∈ o.after, Region.binds .any e = true → e.on < i) ∧ ∀ d, o.dst = some d → d < size ∧ ∀ j, j < i → dstOf ops j ≠ some d := by
  have h1 := List.all_eq_true.1 h i (List.mem_range.2 hi)
  cases ho : ops[i]? with
  | none => rw [ho] at h1; simp at h1
  | some o =>
    rw [ho] at h1
    simp only [Bool.and_eq_true] at h1
    obtain ⟨g2, g3⟩ := h1
    refine ⟨o, rfl, fun e he hb => ?_, fun d hd => ?_⟩
    · have := Array.all_eq_true_iff_forall_mem.1 g2 e he
      simpa [hb] using this
    · rw [hd] at g3
      simp only [Bool.and_eq_true, decide_eq_true_eq, List.all_eq_true, List.mem_range, bne_iff_ne] at g3
      exact g3
theorem dstT_inj {ops : Array Oper} {n size : Nat} (h : headOkT ops n size = true) {i j : Nat} (hi : i < n) (hj : j < n) {d : Tmp} (h1 : dstOf ops i = some d) (h2 : dstOf ops j = some d) : i = j := by
  have key : ∀ i j, j < n → i < j → dstOf ops i = some d → dstOf ops j = some d → False := by
    intro i j hj hij h1 h2
    obtain ⟨o, ho, _, hx⟩ := headT_at h hj
    have h3 : dstOf ops j = o.dst := by unfold dstOf; rw [ho]; rfl
    exact (hx d (h3.symm.trans h2)).2 i hij h1
  rcases Nat.lt_trichotomy i j with h3 | h3 | h3
  · exact (key i j hj h3 h1 h2).elim
  · exact h3
  · exact (key j i hi h3 h2 h1).elim
theorem putT_at {ops : Array Oper} {n : Nat} {a0 : Act} (h : headOkT ops n a0.tmps.size = true) (vals : Nat → Value) : ∀ k, k ≤ n →
    (putAll ops vals a0 k).defers = a0.defers ∧ (putAll ops vals a0 k).tmps.size = a0.tmps.size ∧ (∀ i d, i < k → dstOf ops i = some d → (putAll ops vals a0 k).tmps[d]? = some (vals i)) ∧
    (∀ t, (∀ i, i < k → dstOf ops i ≠ some t) → (putAll ops vals a0 k).tmps[t]? = a0.tmps[t]?)
  | 0, _ => ⟨rfl, rfl, fun i d hi => by omega, fun _ _ => rfl⟩
  | k + 1, hk => by
    obtain ⟨i1, i2, i3, i4⟩ := putT_at h vals k (by omega)
    obtain ⟨o, ho, _, hx⟩ := headT_at h (show k < n by omega)
    have e0 : putAll ops vals a0 (k + 1) = (putAll ops vals a0 k).put (dstOf ops k) (vals k) := by
      unfold putAll; rw [List.range_succ, List.foldl_append]; rfl
    have hdo : dstOf ops k = o.dst := by unfold dstOf; rw [ho]; rfl
    cases hd : o.dst with
    | none =>
      rw [hd] at hdo
      rw [e0, hdo, put_none]
      refine ⟨i1, i2, fun i d hi h2 => ?_, fun t ht => i4 t fun i hi => ht i (by omega)⟩
      have : i ≠ k := by rintro rfl; rw [hdo] at h2; cases h2
      exact i3 i d (by omega) h2
    | some d =>
      rw [hd] at hdo
      obtain ⟨hs, hx⟩ := hx d hd
      rw [e0, hdo]
      refine ⟨i1, by simp [Act.put, i2], fun i d' hi hd' => ?_, fun t ht => ?_⟩
      · rw [put_at _ _ _ _ (by rw [i2]; exact hs)]
        by_cases e2 : d' = d
        · have : i = k := dstT_inj h (by omega) (by omega) (e2 ▸ hd') hdo
          rw [if_pos e2, this]
        · rw [if_neg e2]
          refine i3 i d' ?_ hd'
          have : i ≠ k := by
            rintro rfl
            rw [hdo] at hd'; injection hd' with hd'; exact e2 hd'.symm
          omega
      · rw [put_at _ _ _ _ (by rw [i2]; exact hs), if_neg (by rintro rfl; exact ht k (by omega) hdo)]
        exact i4 t fun i hi => ht i (by omega)
theorem actT_eq {ops : Array Oper} {n : Nat} {a0 a : Act} (h : headOkT ops n a0.tmps.size = true) {listed : Array Bool} {vals : Nat → Value} (hA : ActAt ops n a0 a listed vals) (hl : ∀ i, i < n → listed.getD i false = true) : a = putAll ops vals a0 n := by
  obtain ⟨i1, i2, i3, i4⟩ := putT_at h vals n (Nat.le_refl _)
  have e1 : a.tmps = (putAll ops vals a0 n).tmps := by
    refine Array.ext_getElem? fun t => ?_
    by_cases hx : ∃ i, i < n ∧ dstOf ops i = some t
    · obtain ⟨i, hi, hd⟩ := hx
      rw [hA.done i t hi (hl i hi) hd, i3 i t hi hd]
    · have hx' : ∀ i, i < n → dstOf ops i ≠ some t := fun i hi hd => hx ⟨i, hi, hd⟩
      rw [hA.rest t fun i hi _ => hx' i hi, i4 t hx']
  have e2 : a.defers = (putAll ops vals a0 n).defers := by rw [hA.defers, i1]
  cases a; cases hp : putAll ops vals a0 n
  rw [hp] at e1 e2
  simp_all
theorem invT_steps {P : Program} {ops : Array Oper} {Q : Exit → Act → World → Prop} {n : Nat} {a0 : Act} (hh : headOkT ops n a0.tmps.size = true) (ht : tailOkW ops n = true) (hn : n ≤ ops.size)
    (F : Nat → Value → World → Prop) (I : World → Prop) (R : World → World → Prop) (hF : ∀ i v w w', F i v w → R w w' → F i v w')
    (step : ∀ i o, i < n → ops[i]? = some o → ∀ listed vals a w, (∀ e ∈ o.after, Region.binds .any e = true → listed.getD e.on false = true) → Hd F I n listed vals w → ActAt ops n a0 a listed vals →
      ∀ K : Act → World → Prop, (∀ v w', R w w' → I w' → F i v w' → K (a.put o.dst v) w') → if Region.wanted o (yielded ops a.tmps) = true then o.wp P a w K Q else K (a.put o.dst undef) w)
    (tail : ∀ vals w, Hd F I n (maskOf ops.size n) vals w → wpAny P .any ops Q (ops.size - n) (maskOf ops.size n) (putAll ops vals a0 n) w) :
    ∀ (m : Nat) (listed : Array Bool) (vals : Nat → Value) (a : Act) (w : World), listed.size = ops.size → (∀ i, n ≤ i → listed.getD i false = false) → (∀ k o, k < n → listed.getD k false = true → ops[k]? = some o → ∀ e ∈ o.after, Region.binds .any e = true → listed.getD e.on false = true) → cnt listed n = m → Hd F I n listed vals w → ActAt ops n a0 a listed vals →
      wpAny P .any ops Q (m + (ops.size - n)) listed a w
  | 0, listed, vals, a, w, hs, hr, hcl, hc, hM, hA => by
    have hl := cnt_zero listed n hc
    have e : listed = maskOf ops.size n := by
      refine Array.ext_getElem? fun i => ?_
      by_cases h1 : i < ops.size
      · have h2 : i < listed.size := by omega
        have h3 : (maskOf ops.size n)[i]? = some (decide (i < n)) := by simp [maskOf, h1]
        rw [h3, Array.getElem?_eq_getElem h2]
        by_cases h4 : i < n
        · have := hl i h4
          rw [Array.getD_eq_getD_getElem?, Array.getElem?_eq_getElem h2] at this
          simpa [h4] using this
        · have := hr i (by omega)
          rw [Array.getD_eq_getD_getElem?, Array.getElem?_eq_getElem h2] at this
          simpa [h4] using this
      · rw [Array.getElem?_eq_none (by omega), Array.getElem?_eq_none (by simp [maskOf]; omega)]
    rw [actT_eq hh hA hl, Nat.zero_add]
    subst e
    exact tail vals w hM
  | m + 1, listed, vals, a, w, hs, hr, hcl, hc, hM, hA => by
    obtain ⟨x, hx, hx1, hx2⟩ := cnt_pos listed n (by omega)
    have hxd : listed.getD x true = false := by
      rw [Array.getD_eq_getD_getElem?] at hx1 ⊢
      rw [Array.getElem?_eq_getElem (by omega)] at hx1 ⊢
      exact hx1
    rw [Nat.add_right_comm]
    refine ⟨fun h0 => ?_, fun i hi' => ?_⟩
    · obtain ⟨o, ho, he, _⟩ := headT_at hh hx
      have : x ∈ Region.ready .any ops listed := mem_ready.2 ⟨by omega, hxd, o, ho, fun e hm hb => hx2 _ (he e hm hb)⟩
      rw [h0] at this; cases this
    · obtain ⟨hi1, hi2, o, ho, he⟩ := mem_ready.1 hi'
      have hi3 : listed.getD i false = false := by
        rw [Array.getD_eq_getD_getElem?] at hi2 ⊢
        rw [Array.getElem?_eq_getElem (by omega)] at hi2 ⊢
        exact hi2
      have hin : i < n := by
        rcases Nat.lt_or_ge i n with h | h
        · exact h
        · have h1 := List.all_eq_true.1 ht i (List.mem_range.2 hi1)
          simp only [Bool.or_eq_true, decide_eq_true_eq, List.all_eq_true, List.mem_range] at h1
          rcases h1 with h1 | h1 | h1
          · omega
          · exact (waitsTail_no ho hr he h1).elim
          · have := waits_listed hcl (n + 1) i x (fun o2 ho2 => by rw [ho] at ho2; injection ho2 with ho2; subst ho2; exact he) (h1 x hx)
            rw [hx1] at this; cases this
      obtain ⟨o', ho', _, hds⟩ := headT_at hh hin
      rw [ho] at ho'; injection ho' with ho'; subst ho'
      have hdo : dstOf ops i = o.dst := by unfold dstOf; rw [ho]; rfl
      have key : ∀ v w', R w w' → I w' → F i v w' → wpAny P .any ops Q (m + (ops.size - n)) (listed.setIfInBounds i true) (a.put o.dst v) w' := by
        intro v w' hrr hiw hf
        refine invT_steps hh ht hn F I R hF step tail m _ (fun j => if j = i then v else vals j) _ _ (by simpa using hs) (fun j hj => ?_) (fun k o3 hk hl ho3 e3 he3 hb3 => ?_) ?_ ?_ ?_
        · rw [getD_set _ _ _ (by omega), if_neg (by omega)]; exact hr j hj
        · have key : listed.getD e3.on false = true := by
            rw [getD_set _ _ _ (by omega)] at hl
            by_cases e : k = i
            · subst e
              rw [ho] at ho3; injection ho3 with ho3; subst ho3
              exact he e3 he3 hb3
            · rw [if_neg e] at hl
              exact hcl k o3 hk hl ho3 e3 he3 hb3
          rw [getD_set _ _ _ (by omega)]
          by_cases e : e3.on = i
          · rw [if_pos e]
          · rw [if_neg e]; exact key
        · have := cnt_set listed i (by omega) hi3 n
          rw [if_pos hin] at this; omega
        · refine ⟨hiw, fun j hj hl => ?_⟩
          rw [getD_set _ _ _ (by omega)] at hl
          by_cases e : j = i
          · subst e; simpa using hf
          · rw [if_neg e] at hl
            simp only [if_neg e]
            exact hF _ _ _ _ (hM.fact j hj hl) hrr
        · cases hd : o.dst with
          | none =>
            rw [hd] at hdo
            rw [put_none]
            refine ⟨hA.defers, hA.size, fun j d' hj hl hd' => ?_, fun t htt => ?_⟩
            · rw [getD_set _ _ _ (by omega)] at hl
              have e : ¬ j = i := by rintro rfl; rw [hdo] at hd'; cases hd'
              rw [if_neg e] at hl
              simp only [if_neg e]
              exact hA.done j d' hj hl hd'
            · refine hA.rest t fun j hj hl => htt j hj ?_
              rw [getD_set _ _ _ (by omega)]
              by_cases e : j = i
              · rw [if_pos e]
              · rw [if_neg e]; exact hl
          | some d =>
            rw [hd] at hdo
            have hsd : d < a.tmps.size := by rw [hA.size]; exact (hds d hd).1
            refine ⟨hA.defers, by simpa [Act.put] using hA.size, fun j d' hj hl hd' => ?_, fun t htt => ?_⟩
            · rw [put_at _ _ _ _ hsd]
              rw [getD_set _ _ _ (by omega)] at hl
              by_cases e : j = i
              · subst e
                rw [hdo] at hd'; injection hd' with hd'
                simp [hd']
              · rw [if_neg e] at hl
                rw [if_neg (by rintro rfl; exact e (dstT_inj hh hj hin hd' hdo)), if_neg e]
                exact hA.done j d' hj hl hd'
            · have hti : t ≠ d := by
                rintro rfl
                exact htt i hin (by rw [getD_set _ _ _ (by omega), if_pos rfl]) hdo
              rw [put_at _ _ _ _ hsd, if_neg hti]
              refine hA.rest t fun j hj hl => htt j hj ?_
              rw [getD_set _ _ _ (by omega)]
              by_cases e : j = i
              · rw [if_pos e]
              · rw [if_neg e]; exact hl
      have hst := step i o hin ho listed vals a w he hM hA _ key
      unfold wpOp
      rw [ho]
      show if Region.wanted o (yielded ops a.tmps) = true then _ else _
      by_cases hw : Region.wanted o (yielded ops a.tmps) = true
      · rw [if_pos hw] at hst ⊢
        exact .inl hst
      · rw [if_neg hw] at hst ⊢
        exact hst
/-- The rule. -/
theorem wp_invT {P : Program} {id : Nat} {ops : Array Oper} {Q : Exit → Act → World → Prop} {a0 : Act} {W1 : World} (n : Nat) (hm : P.follows .mixedOrders = true) (hh : headOkT ops n a0.tmps.size = true) (ht : tailOkW ops n = true) (hn : n ≤ ops.size)
    (F : Nat → Value → World → Prop) (I : World → Prop) (R : World → World → Prop) (hF : ∀ i v w w', F i v w → R w w' → F i v w') (hI : I W1.drew)
    (step : ∀ i o, i < n → ops[i]? = some o → ∀ listed vals a w, (∀ e ∈ o.after, Region.binds .any e = true → listed.getD e.on false = true) → Hd F I n listed vals w → ActAt ops n a0 a listed vals →
      ∀ K : Act → World → Prop, (∀ v w', R w w' → I w' → F i v w' → K (a.put o.dst v) w') → if Region.wanted o (yielded ops a.tmps) = true then o.wp P a w K Q else K (a.put o.dst undef) w)
    (tail : ∀ vals w, Hd F I n (maskOf ops.size n) vals w → wpAny P .any ops Q (ops.size - n) (maskOf ops.size n) (putAll ops vals a0 n) w) : (Code.region id ops true).wp P Q a0 W1 := by
  refine wp_region_any hm ?_
  have hz : ∀ i, (Array.replicate ops.size false).getD i false = false := by
    intro i
    rw [Array.getD_eq_getD_getElem?]
    by_cases h : i < ops.size
    · simp [h]
    · simp [h]
  have hc : ∀ k, cnt (Array.replicate ops.size false) k = k := by
    intro k
    induction k with
    | zero => rfl
    | succ k ih => simp only [cnt, ih, hz]; simp
  have := invT_steps (Q := Q) (a0 := a0) hh ht hn F I R hF step tail n (Array.replicate ops.size false) (fun _ => undef) a0 W1.drew (by simp) (fun i _ => hz i) (fun k _ _ h => (by rw [hz] at h; cases h)) (hc n)
    ⟨hI, fun i _ h => (by rw [hz] at h; cases h)⟩ ⟨rfl, rfl, fun i _ _ h => (by rw [hz] at h; cases h), fun _ _ => rfl⟩
  rw [show n + (ops.size - n) = ops.size by omega] at this
  exact this
/-- A step of the tail whose guard is met, or is not. -/
theorem tail_stepG {P : Program} {ops : Array Oper} {Q : Exit → Act → World → Prop} {fuel : Nat} {listed : Array Bool} {a : Act} {w : World} (i : Nat) (o : Oper) (hr : Region.ready .any ops listed = [i]) (ho : ops[i]? = some o) (hw : Region.wanted o (yielded ops a.tmps) = true)
    (h : ∀ K : Act → World → Prop, (∀ a w, wpAny P .any ops Q fuel (listed.setIfInBounds i true) a w → K a w) → o.wp P a w K Q) : wpAny P .any ops Q (fuel + 1) listed a w :=
  wpAny_ready hr (by simp) (AllReady.cons ho (fun K hK => by rw [if_pos hw]; exact h K hK) AllReady.nil)
theorem tail_skip {P : Program} {ops : Array Oper} {Q : Exit → Act → World → Prop} {fuel : Nat} {listed : Array Bool} {a : Act} {w : World} (i : Nat) (o : Oper) (hr : Region.ready .any ops listed = [i]) (ho : ops[i]? = some o) (hw : Region.wanted o (yielded ops a.tmps) = false)
    (h : wpAny P .any ops Q fuel (listed.setIfInBounds i true) (a.put o.dst undef) w) : wpAny P .any ops Q (fuel + 1) listed a w :=
  wpAny_ready hr (by simp) (AllReady.cons ho (fun K hK => by rw [if_neg (by rw [hw]; decide)]; exact hK _ _ h) AllReady.nil)
/-- An operation without a guard is wanted; one with a guard, where that yields what it wants. -/
theorem wantedN {o : Oper} {y : Nat → Option Bool} (h : o.guard = none) : Region.wanted o y = true := by unfold Region.wanted; rw [h]
theorem wantedG {ops : Array Oper} {o : Oper} {t : Array Value} {g : Nat} {b c : Bool} {d : Nat} (h : o.guard = some (g, b)) (hd : dstOf ops g = some d) (ht : t[d]? = some (.bool c)) : Region.wanted o (yielded ops t) = (c == b) := by
  unfold Region.wanted; rw [h]
  show (yielded ops t g == some b) = (c == b)
  have : yielded ops t g = some c := by
    unfold yielded
    rw [show (ops[g]?).bind (·.dst) = some d from hd]
    simp only [Option.bind_some, ht]
  rw [this]; rfl
theorem wantedU {ops : Array Oper} {o : Oper} {t : Array Value} {g : Nat} {b : Bool} {d : Nat} (h : o.guard = some (g, b)) (hd : dstOf ops g = some d) (ht : t[d]? = some undef) : Region.wanted o (yielded ops t) = false := by
  unfold Region.wanted; rw [h]
  show (yielded ops t g == some b) = false
  have : yielded ops t g = none := by
    unfold yielded
    rw [show (ops[g]?).bind (·.dst) = some d from hd]
    simp only [Option.bind_some, ht]
    rfl
  rw [this]; rfl
end Go.Proofs.YtcdjoegihmfanaaGreat
namespace Go.Proofs.YtcdjoegihmfanaaGreat
open Go.RowKit
set_option linter.unusedVariables false
/-- A right book. -/
structure BkOk (e0 e1 : Int) (ps : List Pr) (ts : List Tr) : Prop where
  h0 : 0 ≤ e0 ∧ e0 ≤ 50
  h1 : 0 ≤ e1 ∧ e1 ≤ 50
  lp : ps.length ≤ 10
  lt : ts.length ≤ 4
  pr : ∀ p ∈ ps, (0 ≤ p.m ∧ p.m ≤ 10000) ∧ (0 ≤ p.k ∧ p.k ≤ 20000) ∧ (-100 ≤ p.r ∧ p.r ≤ 20000) ∧ (p.b = 0 ∨ p.b = 1)
  tr : ∀ t ∈ ts, (0 ≤ t.im ∧ t.im ≤ 10000) ∧ (0 ≤ t.ir ∧ t.ir ≤ 20000) ∧ (0 ≤ t.om ∧ t.om ≤ 10000) ∧ (0 ≤ t.or ∧ t.or ≤ 20000) ∧ (0 ≤ t.mud ∧ t.mud ≤ 200) ∧ (t.ib = 0 ∨ t.ib = 1) ∧ (t.ob = 0 ∨ t.ob = 1) ∧ t.im < t.om
  once : Once ps
theorem ckBook_ok {e0 e1 : Int} {ps : List Pr} {ts : List Tr} (h : ckBook e0 e1 ps ts = 0) : BkOk e0 e1 ps ts := by
  unfold ckBook at h
  by_cases c1 : 10 < ps.length ∨ 4 < ts.length
  · rw [if_pos c1] at h; omega
  rw [if_neg c1] at h
  by_cases c2 : [e0, e1].all errOk = false
  · rw [if_pos c2] at h; omega
  rw [if_neg c2] at h
  by_cases c3 : ps.all prRng = false
  · rw [if_pos c3] at h; omega
  rw [if_neg c3] at h
  by_cases c4 : ts.all trRng = false
  · rw [if_pos c4] at h; omega
  rw [if_neg c4] at h
  by_cases c5 : ps.all prBr = false ∨ ts.all trBr = false
  · rw [if_pos c5] at h; omega
  rw [if_neg c5] at h
  by_cases c6 : twiceUpto ps ps.length = true
  · rw [if_pos c6] at h; omega
  rw [if_neg c6] at h
  by_cases c7 : ts.all trOrd = false
  · rw [if_pos c7] at h; omega
  simp only [Bool.not_eq_false] at c2 c3 c4 c7
  have c5a : ps.all prBr = true := by
    cases hh : ps.all prBr
    · exact absurd (.inl hh) c5
    · rfl
  have c5b : ts.all trBr = true := by
    cases hh : ts.all trBr
    · exact absurd (.inr hh) c5
    · rfl
  simp only [List.all_cons, List.all_nil, Bool.and_true, Bool.and_eq_true, errOk, inB_iff] at c2
  rw [List.all_eq_true] at c3 c4 c5a c5b c7
  refine ⟨c2.1, c2.2, by omega, by omega, fun p hp => ?_, fun t ht => ?_, fun i j hij hj hb hm => ?_⟩
  · have a := c3 p hp
    have b := c5a p hp
    simp only [prRng, prBr, Bool.and_eq_true, inB_iff] at a b
    exact ⟨a.1, a.2.1, a.2.2, by omega⟩
  · have a := c4 t ht
    have b := c5b t ht
    have c := c7 t ht
    simp only [trRng, trBr, trOrd, slOk, Bool.and_eq_true, inB_iff, decide_eq_true_eq] at a b c
    exact ⟨a.1.1.1, a.1.1.2, a.1.2.1, a.1.2.2, a.2, by omega, by omega, c⟩
  · refine c6 ?_
    unfold twiceUpto
    rw [List.any_eq_true]
    refine ⟨j, by simpa using hj, ?_⟩
    rw [List.any_eq_true]
    refine ⟨pAt ps i, ?_, ?_⟩
    · rw [pAt_eq (by omega : i < ps.length), List.mem_take_iff_getElem]
      exact ⟨i, by omega, rfl⟩
    · simp [samePr, hb, hm]
theorem once_inj {ps : List Pr} (h : Once ps) {i j : Nat} (hi : i < ps.length) (hj : j < ps.length) (hb : (pAt ps i).b = (pAt ps j).b) (hm : (pAt ps i).m = (pAt ps j).m) : i = j := by
  rcases Nat.lt_trichotomy i j with k | k | k
  · exact absurd hm (h i j k hj hb)
  · exact k
  · exact absurd hm.symm (h j i k hi hb.symm)
/-- The place of a proof. -/
def idxP (ps : List Pr) (p : Pr) : Nat := ps.findIdx fun q => decide (q = p)
theorem idxP_spec {ps : List Pr} {p : Pr} (h : p ∈ ps) : ∃ hi : idxP ps p < ps.length, ps[idxP ps p] = p ∧ ∀ j (hj : j < idxP ps p), ps[j]'(by omega) ≠ p := by
  have hi : idxP ps p < ps.length := List.findIdx_lt_length_of_exists ⟨p, h, by simp⟩
  refine ⟨hi, of_decide_eq_true (List.findIdx_getElem (p := fun q => decide (q = p)) (xs := ps) (w := hi)), fun j hj => ?_⟩
  have := List.not_of_lt_findIdx (p := fun q => decide (q = p)) hj
  simpa using this
theorem ord_sorted {ps qs : List Pr} (ho : Once ps) (hs : SortedP ps qs) (n : Int) : (qs.filter fun p => p.b == n).map (idxP ps) = ordL ps n := by
  refine IsOrd.uniq (ps := ps) (n := n) ⟨?_, fun i => ?_⟩ (ordL_is ho n)
  · rw [List.pairwise_map]
    have hnd : qs.Nodup := by
      have : ps.Nodup := by
        rw [List.Nodup, List.pairwise_iff_getElem]
        intro i j hi hj hij he
        have := ho i j hij hj
        rw [pAt_eq hi, pAt_eq hj, he] at this
        exact this rfl rfl
      exact hs.1.symm.nodup this
    have h2 : (qs.filter fun p => p.b == n).Pairwise fun a b => a.m ≤ b.m := hs.2.filter _
    have h3 : (qs.filter fun p => p.b == n).Nodup := hnd.filter _
    have h4 := h2.and h3
    refine h4.imp_of_mem fun {a b} ha hb hab => ?_
    simp only [List.mem_filter, beq_iff_eq] at ha hb
    have pa := hs.1.mem_iff.1 ha.1
    have pb := hs.1.mem_iff.1 hb.1
    obtain ⟨i1, i2, _⟩ := idxP_spec pa
    obtain ⟨j1, j2, _⟩ := idxP_spec pb
    rw [pAt_eq i1, pAt_eq j1, i2, j2]
    rcases Int.lt_or_eq_of_le hab.1 with h | h
    · exact h
    · refine absurd ?_ hab.2
      have := once_inj ho i1 j1 (by rw [pAt_eq i1, pAt_eq j1, i2, j2, ha.2, hb.2]) (by rw [pAt_eq i1, pAt_eq j1, i2, j2, h])
      rw [← i2, ← j2]
      simp only [this]
  · simp only [List.mem_map, List.mem_filter, beq_iff_eq]
    constructor
    · rintro ⟨p, ⟨hp, hb⟩, rfl⟩
      obtain ⟨i1, i2, _⟩ := idxP_spec (hs.1.mem_iff.1 hp)
      exact ⟨i1, by rw [pAt_eq i1, i2]; exact hb⟩
    · rintro ⟨h1, h2⟩
      have hm : ps[i] ∈ ps := List.getElem_mem h1
      refine ⟨ps[i], ⟨hs.1.mem_iff.2 hm, by rw [← pAt_eq h1]; exact h2⟩, ?_⟩
      obtain ⟨i1, i2, _⟩ := idxP_spec hm
      exact once_inj ho i1 h1 (by rw [pAt_eq i1, pAt_eq h1, i2]) (by rw [pAt_eq i1, pAt_eq h1, i2])
end Go.Proofs.YtcdjoegihmfanaaGreat
namespace Go.Proofs.YtcdjoegihmfanaaGreat
open Go.RowKit
theorem rows_wide {P : Program} {m : Nat} {row : String} {args : Array Value} {w : World} {R : Value → World → Prop} (h : Rows P row args w R) : RowsIn Fence.wide m P row args w R :=
  fun c cs _ => let ⟨v, w', r, s⟩ := h c cs; ⟨v, w', r, stepsIn_wide.2 s⟩
theorem op_wide {P : Program} {q : Nat} {o : Oper} {a : Act} {w : World} {K : Act → World → Prop} {Q : Exit → Act → World → Prop} (h : o.wp P a w K Q) : o.wpIn Fence.wide q P a w K Q := by
  refine ⟨fun _ _ => trivial, ?_⟩
  unfold Oper.wp at h
  show o.uponIn Fence.wide q P a K Q ((execOp a.eval o).run P w)
  generalize (execOp a.eval o).run P w = r at h
  have hno : Fence.wide.depth.isSome = true → 1 ≤ q := fun h => by simp [Fence.wide] at h
  cases r with
  | ok x w' =>
    cases x <;> simp only [Oper.upon] at h <;> simp only [Oper.uponIn]
    case value v => exact h
    case skip => exact h
    case defer d => exact h
    case enter f args => exact ⟨hno, callsIn_wide.2 (h.mono fun e w'' he => by cases e <;> exact he)⟩
    case row row args => exact ⟨hno, rows_wide h⟩
  | halt x w' => cases x <;> simp only [Oper.upon] at h <;> simp only [Oper.uponIn] <;> exact h
theorem invU_steps {P : Program} {q : Nat} {ops : Array Oper} {Q : Exit → Act → World → Prop} {n : Nat} {a0 : Act} (hh : headOkT ops n a0.tmps.size = true) (ht : tailOkW ops n = true) (hn : n ≤ ops.size)
    (F : Nat → Value → World → Prop) (I : World → Prop) (R : World → World → Prop) (hF : ∀ i v w w', F i v w → R w w' → F i v w')
    (step : ∀ i o, i < n → ops[i]? = some o → ∀ listed vals a w, (∀ e ∈ o.after, Region.binds .any e = true → listed.getD e.on false = true) → Hd F I n listed vals w → ActAt ops n a0 a listed vals →
      ∀ K : Act → World → Prop, (∀ v w', R w w' → I w' → F i v w' → K (a.put o.dst v) w') → if Region.wanted o (yielded ops a.tmps) = true then o.wp P a w K Q else K (a.put o.dst undef) w)
    (tail : ∀ vals w, Hd F I n (maskOf ops.size n) vals w → wpAnyIn Fence.wide q P .any ops Q (ops.size - n) (maskOf ops.size n) (putAll ops vals a0 n) w) :
    ∀ (m : Nat) (listed : Array Bool) (vals : Nat → Value) (a : Act) (w : World), listed.size = ops.size → (∀ i, n ≤ i → listed.getD i false = false) → (∀ k o, k < n → listed.getD k false = true → ops[k]? = some o → ∀ e ∈ o.after, Region.binds .any e = true → listed.getD e.on false = true) → cnt listed n = m → Hd F I n listed vals w → ActAt ops n a0 a listed vals →
      wpAnyIn Fence.wide q P .any ops Q (m + (ops.size - n)) listed a w
  | 0, listed, vals, a, w, hs, hr, hcl, hc, hM, hA => by
    have hl := cnt_zero listed n hc
    have e : listed = maskOf ops.size n := by
      refine Array.ext_getElem? fun i => ?_
      by_cases h1 : i < ops.size
      · have h2 : i < listed.size := by omega
        have h3 : (maskOf ops.size n)[i]? = some (decide (i < n)) := by simp [maskOf, h1]
        rw [h3, Array.getElem?_eq_getElem h2]
        by_cases h4 : i < n
        · have := hl i h4
          rw [Array.getD_eq_getD_getElem?, Array.getElem?_eq_getElem h2] at this
          simpa [h4] using this
        · have := hr i (by omega)
          rw [Array.getD_eq_getD_getElem?, Array.getElem?_eq_getElem h2] at this
          simpa [h4] using this
      · rw [Array.getElem?_eq_none (by omega), Array.getElem?_eq_none (by simp [maskOf]; omega)]
    rw [actT_eq hh hA hl, Nat.zero_add]
    subst e
    exact tail vals w hM
  | m + 1, listed, vals, a, w, hs, hr, hcl, hc, hM, hA => by
    obtain ⟨x, hx, hx1, hx2⟩ := cnt_pos listed n (by omega)
    have hxd : listed.getD x true = false := by
      rw [Array.getD_eq_getD_getElem?] at hx1 ⊢
      rw [Array.getElem?_eq_getElem (by omega)] at hx1 ⊢
      exact hx1
    rw [Nat.add_right_comm]
    refine ⟨fun h0 => ?_, fun i hi' => ?_⟩
    · obtain ⟨o, ho, he, _⟩ := headT_at hh hx
      have : x ∈ Region.ready .any ops listed := mem_ready.2 ⟨by omega, hxd, o, ho, fun e hm hb => hx2 _ (he e hm hb)⟩
      rw [h0] at this; cases this
    · obtain ⟨hi1, hi2, o, ho, he⟩ := mem_ready.1 hi'
      have hi3 : listed.getD i false = false := by
        rw [Array.getD_eq_getD_getElem?] at hi2 ⊢
        rw [Array.getElem?_eq_getElem (by omega)] at hi2 ⊢
        exact hi2
      have hin : i < n := by
        rcases Nat.lt_or_ge i n with h | h
        · exact h
        · have h1 := List.all_eq_true.1 ht i (List.mem_range.2 hi1)
          simp only [Bool.or_eq_true, decide_eq_true_eq, List.all_eq_true, List.mem_range] at h1
          rcases h1 with h1 | h1 | h1
          · omega
          · exact (waitsTail_no ho hr he h1).elim
          · have := waits_listed hcl (n + 1) i x (fun o2 ho2 => by rw [ho] at ho2; injection ho2 with ho2; subst ho2; exact he) (h1 x hx)
            rw [hx1] at this; cases this
      obtain ⟨o', ho', _, hds⟩ := headT_at hh hin
      rw [ho] at ho'; injection ho' with ho'; subst ho'
      have hdo : dstOf ops i = o.dst := by unfold dstOf; rw [ho]; rfl
      have key : ∀ v w', R w w' → I w' → F i v w' → wpAnyIn Fence.wide q P .any ops Q (m + (ops.size - n)) (listed.setIfInBounds i true) (a.put o.dst v) w' := by
        intro v w' hrr hiw hf
        refine invU_steps hh ht hn F I R hF step tail m _ (fun j => if j = i then v else vals j) _ _ (by simpa using hs) (fun j hj => ?_) (fun k o3 hk hl ho3 e3 he3 hb3 => ?_) ?_ ?_ ?_
        · rw [getD_set _ _ _ (by omega), if_neg (by omega)]; exact hr j hj
        · have key : listed.getD e3.on false = true := by
            rw [getD_set _ _ _ (by omega)] at hl
            by_cases e : k = i
            · subst e
              rw [ho] at ho3; injection ho3 with ho3; subst ho3
              exact he e3 he3 hb3
            · rw [if_neg e] at hl
              exact hcl k o3 hk hl ho3 e3 he3 hb3
          rw [getD_set _ _ _ (by omega)]
          by_cases e : e3.on = i
          · rw [if_pos e]
          · rw [if_neg e]; exact key
        · have := cnt_set listed i (by omega) hi3 n
          rw [if_pos hin] at this; omega
        · refine ⟨hiw, fun j hj hl => ?_⟩
          rw [getD_set _ _ _ (by omega)] at hl
          by_cases e : j = i
          · subst e; simpa using hf
          · rw [if_neg e] at hl
            simp only [if_neg e]
            exact hF _ _ _ _ (hM.fact j hj hl) hrr
        · cases hd : o.dst with
          | none =>
            rw [hd] at hdo
            rw [put_none]
            refine ⟨hA.defers, hA.size, fun j d' hj hl hd' => ?_, fun t htt => ?_⟩
            · rw [getD_set _ _ _ (by omega)] at hl
              have e : ¬ j = i := by rintro rfl; rw [hdo] at hd'; cases hd'
              rw [if_neg e] at hl
              simp only [if_neg e]
              exact hA.done j d' hj hl hd'
            · refine hA.rest t fun j hj hl => htt j hj ?_
              rw [getD_set _ _ _ (by omega)]
              by_cases e : j = i
              · rw [if_pos e]
              · rw [if_neg e]; exact hl
          | some d =>
            rw [hd] at hdo
            have hsd : d < a.tmps.size := by rw [hA.size]; exact (hds d hd).1
            refine ⟨hA.defers, by simpa [Act.put] using hA.size, fun j d' hj hl hd' => ?_, fun t htt => ?_⟩
            · rw [put_at _ _ _ _ hsd]
              rw [getD_set _ _ _ (by omega)] at hl
              by_cases e : j = i
              · subst e
                rw [hdo] at hd'; injection hd' with hd'
                simp [hd']
              · rw [if_neg e] at hl
                rw [if_neg (by rintro rfl; exact e (dstT_inj hh hj hin hd' hdo)), if_neg e]
                exact hA.done j d' hj hl hd'
            · have hti : t ≠ d := by
                rintro rfl
                exact htt i hin (by rw [getD_set _ _ _ (by omega), if_pos rfl]) hdo
              rw [put_at _ _ _ _ hsd, if_neg hti]
              refine hA.rest t fun j hj hl => htt j hj ?_
              rw [getD_set _ _ _ (by omega)]
              by_cases e : j = i
              · rw [if_pos e]
              · rw [if_neg e]; exact hl
      have hst := step i o hin ho listed vals a w he hM hA _ key
      unfold wpOpIn
      rw [ho]
      show if Region.wanted o (yielded ops a.tmps) = true then _ else _
      by_cases hw : Region.wanted o (yielded ops a.tmps) = true
      · rw [if_pos hw] at hst ⊢
        exact op_wide hst
      · rw [if_neg hw] at hst ⊢
        exact ⟨fun _ _ => trivial, hst⟩
/-- The rule. -/
theorem wp_invU {P : Program} {q : Nat} {id : Nat} {ops : Array Oper} {Q : Exit → Act → World → Prop} {a0 : Act} {W1 : World} (n : Nat) (hm : P.follows .mixedOrders = true) (hh : headOkT ops n a0.tmps.size = true) (ht : tailOkW ops n = true) (hn : n ≤ ops.size)
    (F : Nat → Value → World → Prop) (I : World → Prop) (R : World → World → Prop) (hF : ∀ i v w w', F i v w → R w w' → F i v w') (hI : I W1.drew)
    (step : ∀ i o, i < n → ops[i]? = some o → ∀ listed vals a w, (∀ e ∈ o.after, Region.binds .any e = true → listed.getD e.on false = true) → Hd F I n listed vals w → ActAt ops n a0 a listed vals →
      ∀ K : Act → World → Prop, (∀ v w', R w w' → I w' → F i v w' → K (a.put o.dst v) w') → if Region.wanted o (yielded ops a.tmps) = true then o.wp P a w K Q else K (a.put o.dst undef) w)
    (tail : ∀ vals w, Hd F I n (maskOf ops.size n) vals w → wpAnyIn Fence.wide q P .any ops Q (ops.size - n) (maskOf ops.size n) (putAll ops vals a0 n) w) : (Code.region id ops true).wp P Q a0 W1 := by
  refine (wpIn_wide (n := q)).1 (wpIn_region_any hm ?_)
  have hz : ∀ i, (Array.replicate ops.size false).getD i false = false := by
    intro i
    rw [Array.getD_eq_getD_getElem?]
    by_cases h : i < ops.size
    · simp [h]
    · simp [h]
  have hc : ∀ k, cnt (Array.replicate ops.size false) k = k := by
    intro k
    induction k with
    | zero => rfl
    | succ k ih => simp only [cnt, ih, hz]; simp
  have := invU_steps (Q := Q) (a0 := a0) hh ht hn F I R hF step tail n (Array.replicate ops.size false) (fun _ => undef) a0 W1.drew (by simp) (fun i _ => hz i) (fun k _ _ h => (by rw [hz] at h; cases h)) (hc n)
    ⟨hI, fun i _ h => (by rw [hz] at h; cases h)⟩ ⟨rfl, rfl, fun i _ _ h => (by rw [hz] at h; cases h), fun _ _ => rfl⟩
  rw [show n + (ops.size - n) = ops.size by omega] at this
  exact this
/-- A step of the tail whose guard is met, or is not. -/
theorem tailU_stepG {P : Program} {q : Nat} {ops : Array Oper} {Q : Exit → Act → World → Prop} {fuel : Nat} {listed : Array Bool} {a : Act} {w : World} (i : Nat) (o : Oper) (hr : Region.ready .any ops listed = [i]) (ho : ops[i]? = some o) (hw : Region.wanted o (yielded ops a.tmps) = true)
    (h : ∀ K : Act → World → Prop, (∀ a w, wpAnyIn Fence.wide q P .any ops Q fuel (listed.setIfInBounds i true) a w → K a w) → o.wpIn Fence.wide q P a w K Q) : wpAnyIn Fence.wide q P .any ops Q (fuel + 1) listed a w :=
  wpAnyIn_ready hr (by simp) (AllReadyIn.cons ho (fun K hK => by rw [if_pos hw]; exact h K hK) AllReadyIn.nil)
theorem tailU_skip {P : Program} {q : Nat} {ops : Array Oper} {Q : Exit → Act → World → Prop} {fuel : Nat} {listed : Array Bool} {a : Act} {w : World} (i : Nat) (o : Oper) (hr : Region.ready .any ops listed = [i]) (ho : ops[i]? = some o) (hw : Region.wanted o (yielded ops a.tmps) = false)
    (h : wpAnyIn Fence.wide q P .any ops Q fuel (listed.setIfInBounds i true) (a.put o.dst undef) w) : wpAnyIn Fence.wide q P .any ops Q (fuel + 1) listed a w :=
  wpAnyIn_ready hr (by simp) (AllReadyIn.cons ho (fun K hK => by rw [if_neg (by rw [hw]; decide)]; exact ⟨fun _ _ => trivial, hK _ _ h⟩) AllReadyIn.nil)
end Go.Proofs.YtcdjoegihmfanaaGreat
