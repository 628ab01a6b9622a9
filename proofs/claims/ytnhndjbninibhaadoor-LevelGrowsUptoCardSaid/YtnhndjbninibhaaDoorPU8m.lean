import Derived.Test.YtnhndjbninibhaaDoorRows
import Derived.Test.YtnhndjbninibhaaDoorAbsxd
import Derived.Shelf.Unicode.DecodeAny
import Derived.Shelf.Unicode.ValidAny
import Derived.Lib.LaidU8T
set_option linter.unusedVariables false
set_option linter.unusedSimpArgs false
set_option linter.unusedSectionVars false
namespace Go.Proofs.Abs
open Go Go.Proofs Go.RowKit Go.Lib Go.Proofs.YtnhndjbninibhaaDoor
set_option maxRecDepth 100000
def ren196:Go.Shelf.Ren:=⟨fun | 196=>98 | 259=>114 | n=>n,fun | 9=>9 | 4=>4 | 3=>3 | 5=>5 | 119=>162 | 0=>0 | 46=>30 | 139=>165 | 138=>164 | 12=>12 | 53=>152 | n=>n,fun | 3=>0 | 4=>1 | n=>n⟩
theorem lays196:Lays.n196 Tryd.prog ren196 where
  mixed:=by kernel_rfl
  f196:=Tryd.func98.trans (congrArg some (by kernel_rfl))
  f259:=Tryd.func114.trans (congrArg some (by kernel_rfl))
  t0:=Tryd.underlying0
  a0:=Tryd.isAgg0
  z0:=Tryd.sizeOf0
  v0:=Tryd.zeroValue0
  t3:=Tryd.underlying3
  a3:=Tryd.isAgg3
  z3:=Tryd.sizeOf3
  v3:=Tryd.zeroValue3
  t4:=Tryd.underlying4
  a4:=Tryd.isAgg4
  z4:=Tryd.sizeOf4
  v4:=Tryd.zeroValue4
  t5:=Tryd.underlying5
  a5:=Tryd.isAgg5
  z5:=Tryd.sizeOf5
  v5:=Tryd.zeroValue5
  t9:=Tryd.underlying9
  a9:=Tryd.isAgg9
  z9:=Tryd.sizeOf9
  v9:=Tryd.zeroValue9
  t12:=Tryd.underlying12
  a12:=Tryd.isAgg12
  z12:=Tryd.sizeOf12
  v12:=Tryd.zeroValue12
  t46:=Tryd.underlying30
  a46:=Tryd.isAgg30
  z46:=Tryd.sizeOf30
  v46:=Tryd.zeroValue30
  t53:=Tryd.underlying152
  a53:=Tryd.isAgg152
  z53:=Tryd.sizeOf152
  v53:=Tryd.zeroValue152
  t119:=Tryd.underlying162
  a119:=Tryd.isAgg162
  z119:=Tryd.sizeOf162
  t138:=Tryd.underlying164
  a138:=Tryd.isAgg164
  z138:=Tryd.sizeOf164
  v138:=Tryd.zeroValue164
  t139:=Tryd.underlying165
  a139:=Tryd.isAgg165
  z139:=Tryd.sizeOf165
  v139:=Tryd.zeroValue165
  g3:=by kernel_rfl
  g4:=by kernel_rfl
def ren197:Go.Shelf.Ren:=⟨fun | 197=>93 | 260=>112 | n=>n,fun | 9=>9 | 4=>4 | 3=>3 | 5=>5 | 119=>162 | 0=>0 | 46=>30 | 139=>165 | 138=>164 | 21=>21 | 105=>149 | n=>n,fun | 3=>0 | 4=>1 | n=>n⟩
theorem lays197:Lays.n197 Tryd.prog ren197 where
  mixed:=by kernel_rfl
  f197:=Tryd.func93.trans (congrArg some (by kernel_rfl))
  f260:=Tryd.func112.trans (congrArg some (by kernel_rfl))
  t0:=Tryd.underlying0
  a0:=Tryd.isAgg0
  z0:=Tryd.sizeOf0
  v0:=Tryd.zeroValue0
  t3:=Tryd.underlying3
  a3:=Tryd.isAgg3
  z3:=Tryd.sizeOf3
  v3:=Tryd.zeroValue3
  t4:=Tryd.underlying4
  a4:=Tryd.isAgg4
  z4:=Tryd.sizeOf4
  v4:=Tryd.zeroValue4
  t5:=Tryd.underlying5
  a5:=Tryd.isAgg5
  z5:=Tryd.sizeOf5
  v5:=Tryd.zeroValue5
  t9:=Tryd.underlying9
  a9:=Tryd.isAgg9
  z9:=Tryd.sizeOf9
  v9:=Tryd.zeroValue9
  t21:=Tryd.underlying21
  a21:=Tryd.isAgg21
  z21:=Tryd.sizeOf21
  v21:=Tryd.zeroValue21
  t46:=Tryd.underlying30
  a46:=Tryd.isAgg30
  z46:=Tryd.sizeOf30
  v46:=Tryd.zeroValue30
  t105:=Tryd.underlying149
  a105:=Tryd.isAgg149
  z105:=Tryd.sizeOf149
  v105:=Tryd.zeroValue149
  t119:=Tryd.underlying162
  a119:=Tryd.isAgg162
  z119:=Tryd.sizeOf162
  t138:=Tryd.underlying164
  a138:=Tryd.isAgg164
  z138:=Tryd.sizeOf164
  v138:=Tryd.zeroValue164
  t139:=Tryd.underlying165
  a139:=Tryd.isAgg165
  z139:=Tryd.sizeOf165
  v139:=Tryd.zeroValue165
  g3:=by kernel_rfl
  g4:=by kernel_rfl
theorem decJ:DecB Tryd.prog 93:=⟨rfl,⟨Tryd.f93,Tryd.func93,by kernel_rfl,by kernel_rfl⟩,fun s w hT=>Any.utf8_DecodeRuneInString lays197 s w hT⟩
theorem valJ:ValB Tryd.prog 98:=⟨rfl,⟨Tryd.f98,Tryd.func98,by kernel_rfl,by kernel_rfl⟩,fun s w hs hT=>Any.utf8_ValidString lays196 s w hs hT⟩
theorem u8first:Rows.laid_unicode_utf8_first = firstData:=by kernel_rfl
theorem u8acc:(Rows.laid_unicode_utf8_acceptRanges:DataW Unit) = acceptData:=by kernel_rfl
theorem tabs_row {W:World} (hL:laidMet Tryd.prog [("unicode/utf8.acceptRanges",Rows.laid_unicode_utf8_acceptRanges),("unicode/utf8.first",Rows.laid_unicode_utf8_first)] W):∀ a v,gT a = some v→W.cell? a = some v :=
  tabs_gT (utf8Tabs_of_readsT (ρ:=ren196) (U8Types.of196 lays196) ⟨by kernel_rfl,by kernel_rfl,by kernel_rfl,by kernel_rfl,by kernel_rfl,by kernel_rfl,by kernel_rfl⟩ (u8first ▸ Lib.laidMet.reads hL (.tail _ (.head _))) (u8acc ▸ Lib.laidMet.reads hL (.head _)))
end Go.Proofs.Abs
