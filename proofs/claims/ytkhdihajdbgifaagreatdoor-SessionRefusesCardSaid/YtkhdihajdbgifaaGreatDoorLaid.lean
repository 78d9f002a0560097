/-
  The contracts of the library that are used, laid at this program.
-/
import Derived.Ground.NamesProg
import Derived.Shelf.LaysM
import Derived.Shelf.Strings.Shaped
import Derived.Shelf.GgSortMore.Stable
import Derived.Ground.GgtProg
import Derived.Test.YtkhdihajdbgifaaGreatDoorProg
namespace Go.Proofs
open Go.Shelf
def Tryz.laysM219_ren : Go.Shelf.Ren := ⟨fun | 219 => 337 | 217 => 415 | 225 => 416 | 224 => 417 | 267 => 418 | 266 => 470 | 314 => 471 | n => n, fun | 9 => 9 | 3 => 3 | 4 => 4 | 5 => 5 | 46 => 309 | 146 => 634 | 51 => 449 | n => n, fun | 1 => 0 | n => n⟩
theorem Tryz.laysM219 : Go.Proofs.LaysM.n219 Tryz.prog Tryz.laysM219_ren := {
  mixed := by kernel_rfl
  f217 := Tryz.func415.trans (congrArg some (by kernel_rfl))
  f219 := Tryz.func337.trans (congrArg some (by kernel_rfl))
  f224 := Tryz.func417.trans (congrArg some (by kernel_rfl))
  f225 := Tryz.func416.trans (congrArg some (by kernel_rfl))
  f266 := Tryz.func470.trans (congrArg some (by kernel_rfl))
  f267 := Tryz.func418.trans (congrArg some (by kernel_rfl))
  f314 := Tryz.func471.trans (congrArg some (by kernel_rfl))
  t3 := Tryz.underlying3
  a3 := Tryz.isAgg3
  z3 := Tryz.sizeOf3
  v3 := Tryz.zeroValue3
  t4 := Tryz.underlying4
  a4 := Tryz.isAgg4
  z4 := Tryz.sizeOf4
  v4 := Tryz.zeroValue4
  t5 := Tryz.underlying5
  a5 := Tryz.isAgg5
  z5 := Tryz.sizeOf5
  v5 := Tryz.zeroValue5
  t9 := Tryz.underlying9
  a9 := Tryz.isAgg9
  z9 := Tryz.sizeOf9
  v9 := Tryz.zeroValue9
  t46 := Tryz.underlying309
  a46 := Tryz.isAgg309
  z46 := Tryz.sizeOf309
  v46 := Tryz.zeroValue309
  t51 := Tryz.underlying449
  a51 := Tryz.isAgg449
  z51 := Tryz.sizeOf449
  v51 := Tryz.zeroValue449
  t146 := Tryz.underlying634
  a146 := Tryz.isAgg634
  z146 := Tryz.sizeOf634
  v146 := Tryz.zeroValue634
  g1 := by kernel_rfl
  i3 := by kernel_rfl
  i4 := by kernel_rfl
  i5 := by kernel_rfl
  i9 := by kernel_rfl
  i46 := by kernel_rfl
  i51 := by kernel_rfl
  i146 := by kernel_rfl
  m1 := by kernel_rfl
  s1_3 := fun w h => Go.Proofs.cell_of_shapedOpen_int (zero := #[.int .i64 0]) (t := 3) h (of_decide_eq_true (by kernel_rfl)) (by kernel_rfl) rfl (by kernel_rfl) (by kernel_rfl) Tryz.underlying3 }
open Go.RowKit Go.Lib in
theorem Tryz.stringslite_Index_shaped (s sub : ByteArray) (w : World) (h : w.ShapedOpen Tryz.prog) (hs : s.size < 4294967281) :
    Calls Tryz.prog 337 #[.string s, .string sub] w fun e w' => e = .returned (.int .i64 (Lib.index s.data.toList sub.data.toList)) ∧ w' = w := Any.stringslite_Index_shaped Tryz.laysM219 s sub w h hs
def Tryz.laysGt8_ren : Go.Shelf.Ren := ⟨fun | 8 => 38 | 13 => 64 | 14 => 65 | 16 => 67 | 15 => 66 | 29 => 117 | 30 => 118 | 42 => 171 | 49 => 249 | n => n, fun | 20 => 20 | 26 => 92 | 36 => 147 | 0 => 0 | 38 => 149 | 42 => 153 | 3 => 3 | 4 => 4 | 47 => 309 | 17 => 17 | 33 => 144 | 34 => 145 | 89 => 770 | 12 => 12 | 56 => 449 | 82 => 764 | 5 => 5 | 83 => 765 | 84 => 766 | 85 => 582 | 86 => 767 | 87 => 768 | n => n, fun | n => n⟩
theorem Tryz.laysGt8 : Go.Proofs.LaysGt.n8 Tryz.prog Tryz.laysGt8_ren := {
  mixed := by kernel_rfl
  f8 := Tryz.func38.trans (congrArg some (by kernel_rfl))
  f13 := Tryz.func64.trans (congrArg some (by kernel_rfl))
  f14 := Tryz.func65.trans (congrArg some (by kernel_rfl))
  f15 := Tryz.func66.trans (congrArg some (by kernel_rfl))
  f16 := Tryz.func67.trans (congrArg some (by kernel_rfl))
  f29 := Tryz.func117.trans (congrArg some (by kernel_rfl))
  f30 := Tryz.func118.trans (congrArg some (by kernel_rfl))
  f42 := Tryz.func171.trans (congrArg some (by kernel_rfl))
  f49 := Tryz.func249.trans (congrArg some (by kernel_rfl))
  t0 := Tryz.underlying0
  a0 := Tryz.isAgg0
  z0 := Tryz.sizeOf0
  v0 := Tryz.zeroValue0
  i0 := by kernel_rfl
  t3 := Tryz.underlying3
  a3 := Tryz.isAgg3
  z3 := Tryz.sizeOf3
  v3 := Tryz.zeroValue3
  i3 := by kernel_rfl
  t4 := Tryz.underlying4
  a4 := Tryz.isAgg4
  z4 := Tryz.sizeOf4
  v4 := Tryz.zeroValue4
  i4 := by kernel_rfl
  t5 := Tryz.underlying5
  a5 := Tryz.isAgg5
  z5 := Tryz.sizeOf5
  v5 := Tryz.zeroValue5
  i5 := by kernel_rfl
  t12 := Tryz.underlying12
  a12 := Tryz.isAgg12
  z12 := Tryz.sizeOf12
  v12 := Tryz.zeroValue12
  i12 := by kernel_rfl
  t17 := Tryz.underlying17
  a17 := Tryz.isAgg17
  z17 := Tryz.sizeOf17
  v17 := Tryz.zeroValue17
  i17 := by kernel_rfl
  t20 := Tryz.underlying20
  a20 := Tryz.isAgg20
  z20 := Tryz.sizeOf20
  v20 := Tryz.zeroValue20
  i20 := by kernel_rfl
  t26 := Tryz.underlying92
  a26 := Tryz.isAgg92
  z26 := Tryz.sizeOf92
  v26 := Tryz.zeroValue92
  i26 := by kernel_rfl
  t33 := Tryz.underlying144
  a33 := Tryz.isAgg144
  z33 := Tryz.sizeOf144
  v33 := Tryz.zeroValue144
  i33 := by kernel_rfl
  t34 := Tryz.underlying145
  a34 := Tryz.isAgg145
  z34 := Tryz.sizeOf145
  v34 := Tryz.zeroValue145
  i34 := by kernel_rfl
  t36 := Tryz.underlying147
  a36 := Tryz.isAgg147
  z36 := Tryz.sizeOf147
  v36 := Tryz.zeroValue147
  i36 := by kernel_rfl
  t38 := Tryz.underlying149
  a38 := Tryz.isAgg149
  z38 := Tryz.sizeOf149
  v38 := Tryz.zeroValue149
  i38 := by kernel_rfl
  t42 := Tryz.underlying153
  a42 := Tryz.isAgg153
  z42 := Tryz.sizeOf153
  v42 := Tryz.zeroValue153
  i42 := by kernel_rfl
  t47 := Tryz.underlying309
  a47 := Tryz.isAgg309
  z47 := Tryz.sizeOf309
  v47 := Tryz.zeroValue309
  i47 := by kernel_rfl
  t56 := Tryz.underlying449
  a56 := Tryz.isAgg449
  z56 := Tryz.sizeOf449
  v56 := Tryz.zeroValue449
  i56 := by kernel_rfl
  t82 := Tryz.underlying764
  a82 := Tryz.isAgg764
  z82 := Tryz.sizeOf764
  v82 := Tryz.zeroValue764
  i82 := by kernel_rfl
  t83 := Tryz.underlying765
  a83 := Tryz.isAgg765
  z83 := Tryz.sizeOf765
  v83 := Tryz.zeroValue765
  i83 := by kernel_rfl
  t84 := Tryz.underlying766
  a84 := Tryz.isAgg766
  z84 := Tryz.sizeOf766
  v84 := Tryz.zeroValue766
  i84 := by kernel_rfl
  t85 := Tryz.underlying582
  a85 := Tryz.isAgg582
  z85 := Tryz.sizeOf582
  v85 := Tryz.zeroValue582
  i85 := by kernel_rfl
  t86 := Tryz.underlying767
  a86 := Tryz.isAgg767
  z86 := Tryz.sizeOf767
  v86 := Tryz.zeroValue767
  i86 := by kernel_rfl
  t87 := Tryz.underlying768
  a87 := Tryz.isAgg768
  z87 := Tryz.sizeOf768
  v87 := Tryz.zeroValue768
  i87 := by kernel_rfl
  t89 := Tryz.underlying770
  a89 := Tryz.isAgg770
  z89 := Tryz.sizeOf770
  v89 := Tryz.zeroValue770
  i89 := by kernel_rfl }
end Go.Proofs
