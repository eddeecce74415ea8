import Derived.Shelf.Sort.Plain
import Derived.Shelf.Slices.In.SortNone
import Derived.Test.YtiijokopcgnokaaGreatProg
namespace Go.Proofs
open Go.Shelf Tryz
def Tryz.lays189_ren : Go.Shelf.Ren:=⟨fun | 189=>73 | 125=>103 | 257=>102 | 128=>124 | 129=>125 | 294=>115 | 295=>116 | 296=>117 | 297=>118 | 298=>119 | 299=>120 | 216=>121 | 300=>122 | 301=>123 | 328=>131 | 329=>132 | 330=>133 | 331=>134 | 332=>135 | 215=>136 | 343=>139 | n=>n,fun | 28=>52 | 3=>3 | 46=>127 | 0=>0 | 51=>182 | 53=>34 | 4=>4 | 183=>191 | 182=>190 | 131=>49 | 5=>5 | 9=>9 | 218=>206 | 222=>210 | 228=>215 | 229=>216 | n=>n,fun | n=>n⟩
theorem Tryz.lays189 : Go.Proofs.Lays.n189 prog Tryz.lays189_ren:={
 mixed:=by kernel_rfl
 f125:=func103.trans (congrArg some (by kernel_rfl))
 f128:=func124.trans (congrArg some (by kernel_rfl))
 f129:=func125.trans (congrArg some (by kernel_rfl))
 f189:=func73.trans (congrArg some (by kernel_rfl))
 f215:=func136.trans (congrArg some (by kernel_rfl))
 f216:=func121.trans (congrArg some (by kernel_rfl))
 f257:=func102.trans (congrArg some (by kernel_rfl))
 f294:=func115.trans (congrArg some (by kernel_rfl))
 f295:=func116.trans (congrArg some (by kernel_rfl))
 f296:=func117.trans (congrArg some (by kernel_rfl))
 f297:=func118.trans (congrArg some (by kernel_rfl))
 f298:=func119.trans (congrArg some (by kernel_rfl))
 f299:=func120.trans (congrArg some (by kernel_rfl))
 f300:=func122.trans (congrArg some (by kernel_rfl))
 f301:=func123.trans (congrArg some (by kernel_rfl))
 f328:=func131.trans (congrArg some (by kernel_rfl))
 f329:=func132.trans (congrArg some (by kernel_rfl))
 f330:=func133.trans (congrArg some (by kernel_rfl))
 f331:=func134.trans (congrArg some (by kernel_rfl))
 f332:=func135.trans (congrArg some (by kernel_rfl))
 f343:=func139.trans (congrArg some (by kernel_rfl))
 t0:=underlying0
 a0:=Tryz.isAgg0
 z0:=Tryz.sizeOf0
 v0:=Tryz.zeroValue0
 t3:=underlying3
 a3:=Tryz.isAgg3
 z3:=Tryz.sizeOf3
 v3:=Tryz.zeroValue3
 t4:=underlying4
 a4:=Tryz.isAgg4
 z4:=Tryz.sizeOf4
 v4:=Tryz.zeroValue4
 t5:=underlying5
 a5:=Tryz.isAgg5
 z5:=Tryz.sizeOf5
 v5:=Tryz.zeroValue5
 t9:=underlying9
 a9:=Tryz.isAgg9
 z9:=Tryz.sizeOf9
 v9:=Tryz.zeroValue9
 t28:=underlying52
 a28:=Tryz.isAgg52
 z28:=Tryz.sizeOf52
 v28:=Tryz.zeroValue52
 t46:=underlying127
 a46:=Tryz.isAgg127
 z46:=Tryz.sizeOf127
 v46:=Tryz.zeroValue127
 t51:=underlying182
 a51:=Tryz.isAgg182
 z51:=Tryz.sizeOf182
 v51:=Tryz.zeroValue182
 t53:=underlying34
 a53:=Tryz.isAgg34
 z53:=Tryz.sizeOf34
 v53:=Tryz.zeroValue34
 t131:=underlying49
 a131:=Tryz.isAgg49
 z131:=Tryz.sizeOf49
 v131:=Tryz.zeroValue49
 t182:=underlying190
 a182:=Tryz.isAgg190
 z182:=Tryz.sizeOf190
 v182:=Tryz.zeroValue190
 t183:=underlying191
 a183:=Tryz.isAgg191
 z183:=Tryz.sizeOf191
 v183:=Tryz.zeroValue191
 t218:=underlying206
 a218:=Tryz.isAgg206
 z218:=Tryz.sizeOf206
 v218:=Tryz.zeroValue206
 t222:=underlying210
 a222:=Tryz.isAgg210
 z222:=Tryz.sizeOf210
 v222:=Tryz.zeroValue210
 t228:=underlying215
 a228:=Tryz.isAgg215
 z228:=Tryz.sizeOf215
 v228:=Tryz.zeroValue215
 t229:=underlying216
 a229:=Tryz.isAgg216
 z229:=Tryz.sizeOf216
 v229:=Tryz.zeroValue216 }
open Go.Sort Go.RowKit in
theorem Tryz.slices_Sort_int (blk off cap:Nat) (zs:List Int) (w:World) (hH:Holds (Value.int .i64) w blk off zs.toArray) (hblk:blk<w.heap.size) (hsz:zs.length<4611686018427387904) :
  Calls prog 73 #[.slice (some ⟨blk,off,none⟩) zs.length cap] w fun e w' =>
   e=.returned (.tuple #[])∧∃ n os,w'=grow (putRow (Value.int .i64) (Sort.ahead w n) blk off (zs.mergeSort fun x y=>decide (x≤y)).toArray) os:=Any.slices_Sort_int Tryz.lays189 blk off cap zs w hH hblk hsz
end Go.Proofs
