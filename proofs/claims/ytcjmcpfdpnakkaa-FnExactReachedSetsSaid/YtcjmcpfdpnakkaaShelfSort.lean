/- slices.SortFunc at lists of lists: what the kit asks of the program for its contract. -/
import Derived.Test.YtcjmcpfdpnakkaaRows
import Derived.WalkKit
import Derived.WalkSpells
import Derived.WalkLawsBesides
import Derived.Deep.QuietTactic
import Derived.Deep.OwnRows
import Derived.BigQuiet
import Derived.KernelRfl
import Derived.Shelf.SlSortCmp.Whole1
namespace Go.Proofs.Ytcjmcpfdpnakkaa
open Go.RowKit

def sortRRen : Go.Shelf.Ren := ⟨fun | 6 => 125 | 15 => 189 | 14 => 188 | 28 => 221 | 29 => 222 | 20 => 213 | 21 => 214 | 22 => 215 | 23 => 216 | 24 => 217 | 25 => 218 | 26 => 219 | 27 => 220 | 46 => 232 | 47 => 233 | 48 => 234 | 49 => 235 | 50 => 236 | 57 => 240 | n => n, fun | 22 => 22 | 24 => 26 | 25 => 163 | 3 => 3 | 39 => 92 | 0 => 0 | 53 => 242 | 55 => 99 | 4 => 4 | 46 => 235 | 45 => 234 | 50 => 239 | 5 => 5 | 9 => 9 | 66 => 245 | 70 => 249 | 76 => 253 | 77 => 254 | n => n, fun | n => n⟩
theorem sortRLay : Go.Proofs.SlLaysF.n6 Try.prog sortRRen := {
  mixed := by kernel_rfl
  f6 := ⟨Try.f125.name, by decide, Try.func125.trans (congrArg some (by kernel_rfl))⟩
  f14 := ⟨Try.f188.name, by decide, Try.func188.trans (congrArg some (by kernel_rfl))⟩
  f15 := Try.func189.trans (congrArg some (by kernel_rfl))
  f20 := ⟨Try.f213.name, by decide, Try.func213.trans (congrArg some (by kernel_rfl))⟩
  f21 := ⟨Try.f214.name, by decide, Try.func214.trans (congrArg some (by kernel_rfl))⟩
  f22 := ⟨Try.f215.name, by decide, Try.func215.trans (congrArg some (by kernel_rfl))⟩
  f23 := ⟨Try.f216.name, by decide, Try.func216.trans (congrArg some (by kernel_rfl))⟩
  f24 := ⟨Try.f217.name, by decide, Try.func217.trans (congrArg some (by kernel_rfl))⟩
  f25 := ⟨Try.f218.name, by decide, Try.func218.trans (congrArg some (by kernel_rfl))⟩
  f26 := ⟨Try.f219.name, by decide, Try.func219.trans (congrArg some (by kernel_rfl))⟩
  f27 := ⟨Try.f220.name, by decide, Try.func220.trans (congrArg some (by kernel_rfl))⟩
  f28 := Try.func221.trans (congrArg some (by kernel_rfl))
  f29 := Try.func222.trans (congrArg some (by kernel_rfl))
  f46 := ⟨Try.f232.name, by decide, Try.func232.trans (congrArg some (by kernel_rfl))⟩
  f47 := Try.func233.trans (congrArg some (by kernel_rfl))
  f48 := Try.func234.trans (congrArg some (by kernel_rfl))
  f49 := ⟨Try.f235.name, by decide, Try.func235.trans (congrArg some (by kernel_rfl))⟩
  f50 := ⟨Try.f236.name, by decide, Try.func236.trans (congrArg some (by kernel_rfl))⟩
  f57 := ⟨Try.f240.name, by decide, Try.func240.trans (congrArg some (by kernel_rfl))⟩
  t0 := Try.underlying0
  a0 := Try.isAgg0
  z0 := Try.sizeOf0
  v0 := Try.zeroValue0
  t3 := Try.underlying3
  a3 := Try.isAgg3
  z3 := Try.sizeOf3
  v3 := Try.zeroValue3
  t4 := Try.underlying4
  a4 := Try.isAgg4
  z4 := Try.sizeOf4
  v4 := Try.zeroValue4
  t5 := Try.underlying5
  a5 := Try.isAgg5
  z5 := Try.sizeOf5
  v5 := Try.zeroValue5
  t9 := Try.underlying9
  a9 := Try.isAgg9
  z9 := Try.sizeOf9
  v9 := Try.zeroValue9
  t22 := Try.underlying22
  a22 := Try.isAgg22
  z22 := Try.sizeOf22
  v22 := Try.zeroValue22
  a24 := Try.isAgg26
  z24 := Try.sizeOf26
  t25 := Try.underlying163
  a25 := Try.isAgg163
  z25 := Try.sizeOf163
  v25 := Try.zeroValue163
  t39 := Try.underlying92
  a39 := Try.isAgg92
  z39 := Try.sizeOf92
  v39 := Try.zeroValue92
  t45 := Try.underlying234
  a45 := Try.isAgg234
  z45 := Try.sizeOf234
  v45 := Try.zeroValue234
  t46 := Try.underlying235
  a46 := Try.isAgg235
  z46 := Try.sizeOf235
  v46 := Try.zeroValue235
  t50 := Try.underlying239
  a50 := Try.isAgg239
  z50 := Try.sizeOf239
  v50 := Try.zeroValue239
  t53 := Try.underlying242
  a53 := Try.isAgg242
  z53 := Try.sizeOf242
  v53 := Try.zeroValue242
  t55 := Try.underlying99
  a55 := Try.isAgg99
  z55 := Try.sizeOf99
  v55 := Try.zeroValue99
  t66 := Try.underlying245
  a66 := Try.isAgg245
  z66 := Try.sizeOf245
  v66 := Try.zeroValue245
  t70 := Try.underlying249
  a70 := Try.isAgg249
  z70 := Try.sizeOf249
  v70 := Try.zeroValue249
  t76 := Try.underlying253
  a76 := Try.isAgg253
  z76 := Try.sizeOf253
  v76 := Try.zeroValue253
  t77 := Try.underlying254
  a77 := Try.isAgg254
  z77 := Try.sizeOf254
  v77 := Try.zeroValue254 }

end Go.Proofs.Ytcjmcpfdpnakkaa
