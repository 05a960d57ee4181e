/- The library's contracts that this claim leans on, laid at this program: what they hand back. Conditions: the contracts' own. (Printed by the kit's lay-shelf and lay-plain, cut by a program.) -/
import Derived.Shelf.Strings.OnBuilder
import Derived.Shelf.LaysM
import Derived.Shelf.Strings.Repeat
import Derived.Shelf.Slices.Clone
import Derived.Shelf.SlicesE.DeleteFunc
import Derived.Shelf.SortM.Plain
import Derived.Shelf.SortM.SortNone
import Derived.Shelf.SlIter.Nil
import Derived.Shelf.SlMaps.Clone
import Derived.Ground.GgzProg
import Derived.Ground.SlgmProg
import Derived.Ground.SlmcProg
import Derived.Ground.SlgfProg
import Derived.Ground.Names2Prog
import Derived.Test.YtcgkomafaepjnaaGreatDoorProg
import Derived.Test.YtcgkomafaepjnaaGreatDoorTL3
import Derived.Test.YtcgkomafaepjnaaGreatDoorRows
import Derived.Test.YtcgkomafaepjnaaGreatDoorTL1
import Derived.BigQuiet
import Derived.Deep.QuietTactic
set_option maxRecDepth 100000
set_option maxHeartbeats 16000000
namespace Go.Proofs
open Go.Shelf
def Tryz.lays156_ren:Go.Shelf.Ren:=⟨fun | 156=>87 | 165=>148 | 166=>149 | 169=>150 | 240=>192 | 241=>193 | 276=>218 | 277=>219 | n=>n,fun | 31=>31 | 9=>9 | 3=>3 | 4=>4 | 0=>0 | 20=>20 | 72=>213 | 76=>244 | 70=>211 | 37=>58 | 75=>243 | 127=>286 | 164=>313 | 5=>5 | 80=>47 | n=>n,fun | n=>n⟩
theorem Tryz.lays156:Go.Proofs.Lays.n156 Tryz.prog Tryz.lays156_ren:={
 mixed:=by kernel_rfl
 f156:=Tryz.func87.trans (congrArg some (by kernel_rfl))
 f165:=Tryz.func148.trans (congrArg some (by kernel_rfl))
 f166:=Tryz.func149.trans (congrArg some (by kernel_rfl))
 f169:=Tryz.func150.trans (congrArg some (by kernel_rfl))
 f240:=Tryz.func192.trans (congrArg some (by kernel_rfl))
 f241:=Tryz.func193.trans (congrArg some (by kernel_rfl))
 f276:=Tryz.func218.trans (congrArg some (by kernel_rfl))
 f277:=Tryz.func219.trans (congrArg some (by kernel_rfl))
 t0:=Tryz.underlying0
 a0:=Tryz.isAgg0
 z0:=Tryz.sizeOf0
 v0:=Tryz.zeroValue0
 t3:=Tryz.underlying3
 a3:=Tryz.isAgg3
 z3:=Tryz.sizeOf3
 v3:=Tryz.zeroValue3
 t4:=Tryz.underlying4
 a4:=Tryz.isAgg4
 z4:=Tryz.sizeOf4
 v4:=Tryz.zeroValue4
 t9:=Tryz.underlying9
 a9:=Tryz.isAgg9
 z9:=Tryz.sizeOf9
 v9:=Tryz.zeroValue9
 t20:=Tryz.underlying20
 a20:=Tryz.isAgg20
 z20:=Tryz.sizeOf20
 v20:=Tryz.zeroValue20
 t31:=Tryz.underlying31
 a31:=Tryz.isAgg31
 z31:=Tryz.sizeOf31
 v31:=Tryz.zeroValue31
 t37:=Tryz.underlying58
 a37:=Tryz.isAgg58
 z37:=Tryz.sizeOf58
 v37:=Tryz.zeroValue58
 t70:=Tryz.underlying211
 a70:=Tryz.isAgg211
 z70:=Tryz.sizeOf211
 v70:=Tryz.zeroValue211
 t72:=Tryz.underlying213
 a72:=Tryz.isAgg213
 z72:=Tryz.sizeOf213
 v72:=Tryz.zeroValue213
 t75:=Tryz.underlying243
 a75:=Tryz.isAgg243
 z75:=Tryz.sizeOf243
 v75:=Tryz.zeroValue243
 t76:=Tryz.underlying244
 a76:=Tryz.isAgg244
 z76:=Tryz.sizeOf244
 v76:=Tryz.zeroValue244
 t127:=Tryz.underlying286
 a127:=Tryz.isAgg286
 z127:=Tryz.sizeOf286
 v127:=Tryz.zeroValue286
 t164:=Tryz.underlying313
 a164:=Tryz.isAgg313
 z164:=Tryz.sizeOf313
 v164:=Tryz.zeroValue313 }
theorem Tryz.Builder_Extra_156:Builder.Extra Tryz.prog Tryz.lays156_ren:={
 sizeBuilder:=by kernel_rfl
 liesBuilder:=by kernel_rfl
 t5:=Tryz.underlying5
 a5:=Tryz.isAgg5
 z5:=Tryz.sizeOf5
 v5:=Tryz.zeroValue5
 infoByte:=by kernel_rfl
 cellsByte:=by kernel_rfl
 sizeByte:=by kernel_rfl
 neB5:=by decide }
open Go.RowKit in
open Go.RowKit in
theorem Tryz.strings_Join (bk o c:Nat) (xs:List ByteArray) (sep:ByteArray) (w:World) (hcells:∀ (j:Nat) x,xs[j]?=some x->w.cell? ⟨bk,o+j,none⟩=some (.string x)) (hbk:bk<w.heap.size) (hN:xs.length<=140737488355328) (hcap:xs.length<=c) (hlen:(Lib.join (xs.map (·.data.toList)) sep.data.toList).length<=140737488355328) :
 Calls Tryz.prog 87 #[.slice (some ⟨bk,o,none⟩) xs.length c,.string sep] w fun e w'=>e=.returned (.string ⟨(Lib.join (xs.map (·.data.toList)) sep.data.toList).toArray⟩)/\Below w.heap.size w w':=Any.strings_Join Tryz.lays156 Tryz.Builder_Extra_156 bk o c xs sep w hcells hbk hN hcap hlen
def Tryz.lays105_ren:Go.Shelf.Ren:=⟨fun | 105=>106 | 212=>166 | 99=>167 | 165=>148 | 166=>149 | 170=>168 | 169=>150 | 263=>201 | 264=>202 | 206=>203 | 240=>192 | 241=>193 | 276=>218 | 277=>219 | n=>n,fun | 9=>9 | 3=>3 | 4=>4 | 20=>20 | 0=>0 | 46=>97 | 109=>260 | 5=>5 | 72=>213 | 76=>244 | 51=>178 | 146=>294 | 53=>67 | 148=>296 | 70=>211 | 37=>58 | 75=>243 | 127=>286 | 164=>313 | 80=>47 | n=>n,fun | n=>n⟩
theorem Tryz.lays105:Go.Proofs.Lays.n105 Tryz.prog Tryz.lays105_ren:={
 mixed:=by kernel_rfl
 f99:=Tryz.func167.trans (congrArg some (by kernel_rfl))
 f105:=Tryz.func106.trans (congrArg some (by kernel_rfl))
 f165:=Tryz.func148.trans (congrArg some (by kernel_rfl))
 f166:=Tryz.func149.trans (congrArg some (by kernel_rfl))
 f169:=Tryz.func150.trans (congrArg some (by kernel_rfl))
 f170:=Tryz.func168.trans (congrArg some (by kernel_rfl))
 f206:=Tryz.func203.trans (congrArg some (by kernel_rfl))
 f212:=Tryz.func166.trans (congrArg some (by kernel_rfl))
 f240:=Tryz.func192.trans (congrArg some (by kernel_rfl))
 f241:=Tryz.func193.trans (congrArg some (by kernel_rfl))
 f263:=Tryz.func201.trans (congrArg some (by kernel_rfl))
 f264:=Tryz.func202.trans (congrArg some (by kernel_rfl))
 f276:=Tryz.func218.trans (congrArg some (by kernel_rfl))
 f277:=Tryz.func219.trans (congrArg some (by kernel_rfl))
 t0:=Tryz.underlying0
 a0:=Tryz.isAgg0
 z0:=Tryz.sizeOf0
 v0:=Tryz.zeroValue0
 t3:=Tryz.underlying3
 a3:=Tryz.isAgg3
 z3:=Tryz.sizeOf3
 v3:=Tryz.zeroValue3
 t4:=Tryz.underlying4
 a4:=Tryz.isAgg4
 z4:=Tryz.sizeOf4
 v4:=Tryz.zeroValue4
 t5:=Tryz.underlying5
 a5:=Tryz.isAgg5
 z5:=Tryz.sizeOf5
 v5:=Tryz.zeroValue5
 t9:=Tryz.underlying9
 a9:=Tryz.isAgg9
 z9:=Tryz.sizeOf9
 v9:=Tryz.zeroValue9
 t20:=Tryz.underlying20
 a20:=Tryz.isAgg20
 z20:=Tryz.sizeOf20
 v20:=Tryz.zeroValue20
 t37:=Tryz.underlying58
 a37:=Tryz.isAgg58
 z37:=Tryz.sizeOf58
 v37:=Tryz.zeroValue58
 t46:=Tryz.underlying97
 a46:=Tryz.isAgg97
 z46:=Tryz.sizeOf97
 v46:=Tryz.zeroValue97
 t51:=Tryz.underlying178
 a51:=Tryz.isAgg178
 z51:=Tryz.sizeOf178
 v51:=Tryz.zeroValue178
 t53:=Tryz.underlying67
 a53:=Tryz.isAgg67
 z53:=Tryz.sizeOf67
 v53:=Tryz.zeroValue67
 t70:=Tryz.underlying211
 a70:=Tryz.isAgg211
 z70:=Tryz.sizeOf211
 v70:=Tryz.zeroValue211
 t72:=Tryz.underlying213
 a72:=Tryz.isAgg213
 z72:=Tryz.sizeOf213
 v72:=Tryz.zeroValue213
 t75:=Tryz.underlying243
 a75:=Tryz.isAgg243
 z75:=Tryz.sizeOf243
 v75:=Tryz.zeroValue243
 t76:=Tryz.underlying244
 a76:=Tryz.isAgg244
 z76:=Tryz.sizeOf244
 v76:=Tryz.zeroValue244
 t109:=Tryz.underlying260
 a109:=Tryz.isAgg260
 z109:=Tryz.sizeOf260
 v109:=Tryz.zeroValue260
 t127:=Tryz.underlying286
 a127:=Tryz.isAgg286
 z127:=Tryz.sizeOf286
 v127:=Tryz.zeroValue286
 t146:=Tryz.underlying294
 a146:=Tryz.isAgg294
 z146:=Tryz.sizeOf294
 v146:=Tryz.zeroValue294
 t148:=Tryz.underlying296
 a148:=Tryz.isAgg296
 z148:=Tryz.sizeOf296
 v148:=Tryz.zeroValue296
 t164:=Tryz.underlying313
 a164:=Tryz.isAgg313
 z164:=Tryz.sizeOf313
 v164:=Tryz.zeroValue313 }
theorem Tryz.Builder_Extra_105:Builder.Extra Tryz.prog Tryz.lays105_ren:={
 sizeBuilder:=by kernel_rfl
 liesBuilder:=by kernel_rfl
 t5:=Tryz.underlying5
 a5:=Tryz.isAgg5
 z5:=Tryz.sizeOf5
 v5:=Tryz.zeroValue5
 infoByte:=by kernel_rfl
 cellsByte:=by kernel_rfl
 sizeByte:=by kernel_rfl
 neB5:=by decide }
open Go.RowKit Go.Lib in
theorem Tryz.strings_Repeat (s:ByteArray) (c:Nat) (w:World) (hc:c<=9223372036854775807) (hlen:s.size*c<=140737488355328) :
 Calls Tryz.prog 106 #[.string s,.int .i64 c] w fun e w'=>e=.returned (.string ⟨(Lib.repeatL s.data.toList c).toArray⟩)/\Below w.heap.size w w':=Any.strings_Repeat Tryz.lays105 Tryz.Builder_Extra_105 s c w hc hlen
def Tryz.laysNm216_ren:Go.Shelf.Ren:=⟨fun | 16=>57 | n=>n,fun | 24=>31 | 9=>9 | 4=>4 | n=>n,fun | n=>n⟩
theorem Tryz.laysNm216:Go.Proofs.Lays2.n16 Tryz.prog Tryz.laysNm216_ren:={
 mixed:=by kernel_rfl
 f16:=Tryz.func57.trans (congrArg some (by kernel_rfl))
 t4:=Tryz.underlying4
 a4:=Tryz.isAgg4
 z4:=Tryz.sizeOf4
 v4:=Tryz.zeroValue4
 t9:=Tryz.underlying9
 a9:=Tryz.isAgg9
 z9:=Tryz.sizeOf9
 v9:=Tryz.zeroValue9
 t24:=Tryz.underlying31
 a24:=Tryz.isAgg31
 z24:=Tryz.sizeOf31
 v24:=Tryz.zeroValue31
 i9:=by kernel_rfl }
open Go.RowKit Go.Lib in
theorem Tryz.slices_Clone_string (b off n c:Nat) (zs:List ByteArray) (w:World) (hz:n<=zs.length) (hbig:n*16<=140737488355328) (hc:∀ j,j<zs.length->w.cell? ⟨b,off+j,none⟩=some (.string (zs.getD j ByteArray.empty))) :
 Calls Tryz.prog 57 #[.slice (some ⟨b,off,none⟩) n c] w fun e w'=>∃ v',e=.returned v'/\w'.ownsRow w.heap.size 9 1 v' n ((zs.take n).map (Value.string))/\v'≠.slice none 0 0/\Below w.heap.size w w':=Any.slices_Clone_string Tryz.laysNm216 b off n c zs w hz hbig hc
open Go.RowKit Go.Lib in
theorem Tryz.slices_Clone_string_nil (n c:Nat) (w:World) :
 Calls Tryz.prog 57 #[.slice none n c] w fun e w'=>e=.returned (.slice none 0 0)/\w'=w:=Any.slices_Clone_string_nil Tryz.laysNm216 n c w
open Go.RowKit Go.Lib in
theorem Tryz.slices_Clone_string_zero (a:Addr) (c:Nat) (w:World) :
 Calls Tryz.prog 57 #[.slice (some a) 0 c] w fun e w'=>∃ v',e=.returned v'/\w'.ownsRow w.heap.size 9 1 v' 0 []/\v'≠.slice none 0 0/\Below w.heap.size w w':=Any.slices_Clone_string_zero Tryz.laysNm216 a c w
def Tryz.laysSlH10_f56_ren:Go.Shelf.Ren:=⟨fun | 10=>56 | 6=>101 | n=>n,fun | 22=>31 | 23=>9 | 25=>131 | 3=>3 | 4=>4 | 0=>0 | n=>n,fun | n=>n⟩
theorem Tryz.laysSlH10_f56:Go.Proofs.SlLaysH.n10 Tryz.prog Tryz.laysSlH10_f56_ren:={
 mixed:=by kernel_rfl
 f6:=⟨Tryz.f101.name,by decide,Tryz.func101.trans (congrArg some (by kernel_rfl))⟩
 f10:=⟨Tryz.f56.name,by decide,Tryz.func56.trans (congrArg some (by kernel_rfl))⟩
 t0:=Tryz.underlying0
 a0:=Tryz.isAgg0
 z0:=Tryz.sizeOf0
 v0:=Tryz.zeroValue0
 t3:=Tryz.underlying3
 a3:=Tryz.isAgg3
 z3:=Tryz.sizeOf3
 v3:=Tryz.zeroValue3
 t4:=Tryz.underlying4
 a4:=Tryz.isAgg4
 z4:=Tryz.sizeOf4
 v4:=Tryz.zeroValue4
 t22:=Tryz.underlying31
 a22:=Tryz.isAgg31
 z22:=Tryz.sizeOf31
 v22:=Tryz.zeroValue31
 a23:=Tryz.isAgg9
 z23:=Tryz.sizeOf9
 t25:=Tryz.underlying131
 a25:=Tryz.isAgg131
 z25:=Tryz.sizeOf131
 v25:=Tryz.zeroValue131 }
open Go.RowKit Go.Lib Go.Sort in
theorem Tryz.slices_DeleteFunc {α:Type} [Inhabited α] (enc:α->Value) (hO:OneCell enc) (p:α->Bool) (g:Nat) (lb:Array Value) (eg:∀ args w,(callFunc g args).run Tryz.prog w=.ok (.enter g args) w) (zr:α) (v23:∀ w,(zeroValue 9).run Tryz.prog w=.ok (enc zr) w) (blk off cap:Nat) (d:Array α) (w:World) (hp:PredAt Tryz.prog g lb enc p w) (hpo:PredOver Tryz.prog g lb enc p blk off d.size w) (hH:Holds enc w blk off d) (hsz:d.size<=9223372036854775807) (hcap:d.size<=cap) :
 Calls Tryz.prog 56 #[.slice (some ⟨blk,off,none⟩) d.size cap,.func (.func g) #[] lb] w fun e w'=>e=.returned (.slice (some ⟨blk,off,none⟩) (d.toList.filter fun x=>!p x).length cap)/\∃ q,w'=putRow enc (Sort.ahead w q) blk off ((d.toList.filter fun x=>!p x)++List.replicate (d.size - (d.toList.filter fun x=>!p x).length) zr).toArray:=AnyE.slices_DeleteFunc Tryz.laysSlH10_f56 enc hO p g lb eg zr v23 blk off cap d w hp hpo hH hsz hcap
def Tryz.laysSlM6_f156_ren:Go.Shelf.Ren:=⟨fun | 6=>156 | 8=>198 | 9=>197 | 19=>230 | 20=>231 | 21=>221 | 22=>222 | 23=>223 | 24=>224 | 25=>225 | 26=>226 | 27=>227 | 28=>228 | 29=>229 | 36=>246 | 31=>247 | 32=>248 | 37=>249 | 38=>250 | 39=>251 | 41=>267 | n=>n,fun | 27=>31 | 29=>9 | 3=>3 | 32=>97 | 26=>31 | 0=>0 | 44=>178 | 46=>67 | 4=>4 | 36=>318 | 35=>317 | 41=>281 | 5=>5 | 9=>9 | 53=>342 | 57=>345 | 63=>359 | 64=>360 | n=>n,fun | n=>n⟩
theorem Tryz.laysSlM6_f156:Go.Proofs.SlLaysM.n6 Tryz.prog Tryz.laysSlM6_f156_ren:={
 mixed:=by kernel_rfl
 f6:=⟨Tryz.f156.name,by decide,Tryz.func156.trans (congrArg some (by kernel_rfl))⟩
 f8:=Tryz.func198.trans (congrArg some (by kernel_rfl))
 f9:=⟨Tryz.f197.name,by decide,Tryz.func197.trans (congrArg some (by kernel_rfl))⟩
 f19:=Tryz.func230.trans (congrArg some (by kernel_rfl))
 f20:=Tryz.func231.trans (congrArg some (by kernel_rfl))
 f21:=⟨Tryz.f221.name,by decide,Tryz.func221.trans (congrArg some (by kernel_rfl))⟩
 f22:=⟨Tryz.f222.name,by decide,Tryz.func222.trans (congrArg some (by kernel_rfl))⟩
 f23:=⟨Tryz.f223.name,by decide,Tryz.func223.trans (congrArg some (by kernel_rfl))⟩
 f24:=⟨Tryz.f224.name,by decide,Tryz.func224.trans (congrArg some (by kernel_rfl))⟩
 f25:=⟨Tryz.f225.name,by decide,Tryz.func225.trans (congrArg some (by kernel_rfl))⟩
 f26:=⟨Tryz.f226.name,by decide,Tryz.func226.trans (congrArg some (by kernel_rfl))⟩
 f27:=⟨Tryz.f227.name,by decide,Tryz.func227.trans (congrArg some (by kernel_rfl))⟩
 f28:=⟨Tryz.f228.name,by decide,Tryz.func228.trans (congrArg some (by kernel_rfl))⟩
 f29:=⟨Tryz.f229.name,by decide,Tryz.func229.trans (congrArg some (by kernel_rfl))⟩
 f31:=Tryz.func247.trans (congrArg some (by kernel_rfl))
 f32:=Tryz.func248.trans (congrArg some (by kernel_rfl))
 f36:=⟨Tryz.f246.name,by decide,Tryz.func246.trans (congrArg some (by kernel_rfl))⟩
 f37:=⟨Tryz.f249.name,by decide,Tryz.func249.trans (congrArg some (by kernel_rfl))⟩
 f38:=⟨Tryz.f250.name,by decide,Tryz.func250.trans (congrArg some (by kernel_rfl))⟩
 f39:=⟨Tryz.f251.name,by decide,Tryz.func251.trans (congrArg some (by kernel_rfl))⟩
 f41:=⟨Tryz.f267.name,by decide,Tryz.func267.trans (congrArg some (by kernel_rfl))⟩
 t0:=Tryz.underlying0
 a0:=Tryz.isAgg0
 z0:=Tryz.sizeOf0
 v0:=Tryz.zeroValue0
 t3:=Tryz.underlying3
 a3:=Tryz.isAgg3
 z3:=Tryz.sizeOf3
 v3:=Tryz.zeroValue3
 t4:=Tryz.underlying4
 a4:=Tryz.isAgg4
 z4:=Tryz.sizeOf4
 v4:=Tryz.zeroValue4
 t5:=Tryz.underlying5
 a5:=Tryz.isAgg5
 z5:=Tryz.sizeOf5
 v5:=Tryz.zeroValue5
 t9:=Tryz.underlying9
 a9:=Tryz.isAgg9
 z9:=Tryz.sizeOf9
 v9:=Tryz.zeroValue9
 t26:=Tryz.underlying31
 a26:=Tryz.isAgg31
 z26:=Tryz.sizeOf31
 v26:=Tryz.zeroValue31
 t27:=Tryz.underlying31
 a27:=Tryz.isAgg31
 z27:=Tryz.sizeOf31
 v27:=Tryz.zeroValue31
 t29:=Tryz.underlying9
 a29:=Tryz.isAgg9
 z29:=Tryz.sizeOf9
 v29:=Tryz.zeroValue9
 t32:=Tryz.underlying97
 a32:=Tryz.isAgg97
 z32:=Tryz.sizeOf97
 v32:=Tryz.zeroValue97
 t35:=Tryz.underlying317
 a35:=Tryz.isAgg317
 z35:=Tryz.sizeOf317
 v35:=Tryz.zeroValue317
 t36:=Tryz.underlying318
 a36:=Tryz.isAgg318
 z36:=Tryz.sizeOf318
 v36:=Tryz.zeroValue318
 t41:=Tryz.underlying281
 a41:=Tryz.isAgg281
 z41:=Tryz.sizeOf281
 v41:=Tryz.zeroValue281
 t44:=Tryz.underlying178
 a44:=Tryz.isAgg178
 z44:=Tryz.sizeOf178
 v44:=Tryz.zeroValue178
 t46:=Tryz.underlying67
 a46:=Tryz.isAgg67
 z46:=Tryz.sizeOf67
 v46:=Tryz.zeroValue67
 t53:=Tryz.underlying342
 a53:=Tryz.isAgg342
 z53:=Tryz.sizeOf342
 v53:=Tryz.zeroValue342
 t57:=Tryz.underlying345
 a57:=Tryz.isAgg345
 z57:=Tryz.sizeOf345
 v57:=Tryz.zeroValue345
 t63:=Tryz.underlying359
 a63:=Tryz.isAgg359
 z63:=Tryz.sizeOf359
 v63:=Tryz.zeroValue359
 t64:=Tryz.underlying360
 a64:=Tryz.isAgg360
 z64:=Tryz.sizeOf360
 v64:=Tryz.zeroValue360 }
def Tryz.keysA_ren:Go.Shelf.Ren:=⟨fun | 7=>100 | 10=>157 | n=>n,fun | 23=>111 | 26=>9 | 3=>9 | 28=>190 | 0=>0 | 27=>189 | 33=>131 | 4=>4 | n=>n,fun | n=>n⟩
theorem Tryz.keysA:Go.Proofs.SlLaysZ.n7 Tryz.prog Tryz.keysA_ren:={
 mixed:=by kernel_rfl
 f7:=⟨Tryz.f100.name,by decide,Tryz.func100.trans (congrArg some (by kernel_rfl))⟩
 f10:=⟨Tryz.f157.name,by decide,Tryz.func157.trans (congrArg some (by kernel_rfl))⟩
 t0:=Tryz.underlying0
 a0:=Tryz.isAgg0
 z0:=Tryz.sizeOf0
 v0:=Tryz.zeroValue0
 t4:=Tryz.underlying4
 a4:=Tryz.isAgg4
 z4:=Tryz.sizeOf4
 v4:=Tryz.zeroValue4
 t23:=Tryz.underlying111
 a23:=Tryz.isAgg111
 z23:=Tryz.sizeOf111
 v23:=Tryz.zeroValue111
 t26:=Tryz.underlying9
 a26:=Tryz.isAgg9
 z26:=Tryz.sizeOf9
 v26:=Tryz.zeroValue9
 t27:=Tryz.underlying189
 a27:=Tryz.isAgg189
 z27:=Tryz.sizeOf189
 v27:=Tryz.zeroValue189
 t28:=Tryz.underlying190
 a28:=Tryz.isAgg190
 z28:=Tryz.sizeOf190
 v28:=Tryz.zeroValue190
 t33:=Tryz.underlying131
 a33:=Tryz.isAgg131
 z33:=Tryz.sizeOf131
 v33:=Tryz.zeroValue131 }
def Tryz.sortedA_ren:Go.Shelf.Ren:=⟨fun | 6=>99 | 8=>155 | 9=>156 | 11=>196 | 13=>198 | 12=>197 | 23=>230 | 24=>231 | 14=>221 | 15=>222 | 16=>223 | 17=>224 | 18=>225 | 19=>226 | 20=>227 | 21=>228 | 22=>229 | 25=>246 | 26=>247 | 27=>248 | 28=>249 | 29=>250 | 30=>251 | 31=>267 | n=>n,fun | 26=>9 | 28=>190 | 24=>31 | 0=>0 | 3=>3 | 37=>97 | 48=>178 | 50=>67 | 4=>4 | 40=>318 | 39=>317 | 45=>281 | 5=>5 | 9=>9 | 51=>342 | 55=>345 | 57=>359 | 58=>360 | 33=>131 | n=>n,fun | n=>n⟩
theorem Tryz.sortedA:Go.Proofs.SlLaysZ.n6 Tryz.prog Tryz.sortedA_ren:={
 mixed:=by kernel_rfl
 f6:=⟨Tryz.f99.name,by decide,Tryz.func99.trans (congrArg some (by kernel_rfl))⟩
 f8:=⟨Tryz.f155.name,by decide,Tryz.func155.trans (congrArg some (by kernel_rfl))⟩
 f11:=⟨Tryz.f196.name,by decide,Tryz.func196.trans (congrArg some (by kernel_rfl))⟩
 t0:=Tryz.underlying0
 a0:=Tryz.isAgg0
 z0:=Tryz.sizeOf0
 v0:=Tryz.zeroValue0
 t24:=Tryz.underlying31
 a24:=Tryz.isAgg31
 z24:=Tryz.sizeOf31
 v24:=Tryz.zeroValue31
 t26:=Tryz.underlying9
 a26:=Tryz.isAgg9
 z26:=Tryz.sizeOf9
 v26:=Tryz.zeroValue9
 t28:=Tryz.underlying190
 a28:=Tryz.isAgg190
 z28:=Tryz.sizeOf190
 v28:=Tryz.zeroValue190
 i26:=by kernel_rfl }
def Tryz.cloneA_ren:Go.Shelf.Ren:=⟨fun | 5=>43 | 7=>90 | n=>n,fun | 23=>111 | 25=>9 | 3=>9 | 4=>4 | 20=>20 | n=>n,fun | n=>n⟩
theorem Tryz.cloneA:Go.Proofs.SlLaysW.n5 Tryz.prog Tryz.cloneA_ren:={
 mixed:=by kernel_rfl
 f5:=⟨Tryz.f43.name,by decide,Tryz.func43.trans (congrArg some (by kernel_rfl))⟩
 f7:=Tryz.func90.trans (congrArg some (by kernel_rfl))
 t4:=Tryz.underlying4
 a4:=Tryz.isAgg4
 z4:=Tryz.sizeOf4
 v4:=Tryz.zeroValue4
 t20:=Tryz.underlying20
 a20:=Tryz.isAgg20
 z20:=Tryz.sizeOf20
 v20:=Tryz.zeroValue20
 t23:=Tryz.underlying111
 a23:=Tryz.isAgg111
 z23:=Tryz.sizeOf111
 v23:=Tryz.zeroValue111 }
end Go.Proofs
namespace Go.Proofs.YtcgkomafaepjnaaGreatDoor
open Go.RowKit
def padZ (n:Nat):Nat:=(119 - n%64)%64
def padded (l:List UInt8):List UInt8:=(l++[128]++List.replicate (padZ l.length) 0)++bytesTo (8*l.length) 8 8
theorem padded_length (l:List UInt8):(padded l).length%64=0/\(padded l).length=l.length+9+padZ l.length:=by
 unfold padded padZ
 simp only [List.length_append,List.length_replicate,bytesTo_le,List.length_singleton]
 omega
def stAfter (p:List UInt8):Nat->List Int
 | 0=>init8
 | k+1=>mixOf (stAfter p k) (p.drop (64*k))
theorem stAfter_length (p:List UInt8):∀ k,(stAfter p k).length=8
 | 0=>rfl
 | _+1=>mixTo_length _ _ _
theorem st_range (p:List UInt8) (k i:Nat) (hi:i<8):∃ x:Nat,(stAfter p k).getD i 0=(x:Int)/\x<4294967296:=by
 have key:0<=(stAfter p k).getD i 0/\(stAfter p k).getD i 0<4294967296:=by
  cases k with
  | zero=>
    show 0<=init8.getD i 0/\init8.getD i 0<4294967296
    match i,hi with
    | 0,_=>decide | 1,_=>decide | 2,_=>decide | 3,_=>decide | 4,_=>decide | 5,_=>decide | 6,_=>decide | 7,_=>decide
  | succ k=>
    rw [stAfter]
    unfold mixOf mixTo
    rw [List.getD_eq_getElem?_getD,List.getElem?_map,List.getElem?_range hi]
    simp only [Option.map_some,Option.getD_some,if_pos hi]
    omega
 exact ⟨((stAfter p k).getD i 0).toNat,by omega,by omega⟩
def outTo (st:List Int):Nat->List UInt8
 | 0=>[]
 | i+1=>outTo st i++bytesTo (st.getD i 0).toNat 4 4
theorem outTo_length (st:List Int):∀ k,(outTo st k).length=4*k
 | 0=>rfl
 | k+1=>by rw [outTo,List.length_append,outTo_length st k,bytesTo_le];omega
def shaOf (l:List UInt8):List UInt8:=outTo (stAfter (padded l) ((padded l).length/64)) 8
theorem shaOf_length (l:List UInt8):(shaOf l).length=32:=outTo_length _ 8
theorem one_src (W:World) (b:UInt8):∀ (j:Nat) u,(bytesV [b])[j]?=some u->(W.alloc (.cells #[.int .u8 (b.toNat:Int)] 5)).cell? ((⟨W.heap.size,0,none⟩:Addr).add j)=some u:=by
 intro j u hj
 match j,hj with
 | 0,hj=>
   show (W.alloc _).cell? ⟨W.heap.size,0,none⟩=_
   rw [World.cell?_alloc_at _ _ _ _ rfl];exact hj
theorem row_src {W:World} {g:Nat} {l:List UInt8} {t:TypeId} {fr:Nat×Nat} (h:W.heap[g]?=some (.cells (bytesV l).toArray t fr)):∀ (j:Nat) u,(bytesV l)[j]?=some u->W.cell? ((⟨g,0,none⟩:Addr).add j)=some u:=by
 intro j u hj
 have hadd:(⟨g,0,none⟩:Addr).add j=⟨g,j,none⟩:=by unfold Addr.add;split <;> simp_all
 rw [hadd,cell_of_row W g j _ _ _ h,List.getElem?_toArray];exact hj
theorem pad_more (n z:Nat) (hz:z<=padZ n):((n+1+z)%64=56 ↔ z=padZ n):=by unfold padZ at *;omega
theorem Kon.touch {S:Nat->Prop} {w w':World} (h:Kon w) (ht:Touch S w w') (hS:¬ S 0):Kon w':=by
 have hk:=h
 unfold Kon Lib.TabIs World.var? at hk |-
 rw [Tryz.konName] at hk |-
 simp only [Option.bind_some] at hk |-
 rw [ht.block _ h.lt hS]
 exact hk
theorem own_slice {w:World} {base:Nat} {e:TypeId} {size:Nat} {v:Value} {n:Nat} {xs:List Value} (h:w.ownsRow base e size v n xs):∃ a cap,v=.slice a n cap:=by
 rcases h.2 with ⟨rfl,rfl⟩ | ⟨g,cap,cur,rfl,_⟩
 · exact ⟨none,0,rfl⟩
 · exact ⟨_,cap,rfl⟩
def vlen:Value->Nat | .slice _ n _=>n | _=>0
theorem index_state (a b c d e f g h:Int) (k:Nat) (hk:k<8) (w:World):(Instr.index 180 (.agg #[.int .u32 a,.int .u32 b,.int .u32 c,.int .u32 d,.int .u32 e,.int .u32 f,.int .u32 g,.int .u32 h]) (.int .i64 (k:Int))).run Tryz.prog w=.ok (.int .u32 ([a,b,c,d,e,f,g,h].getD k 0)) w:=by
 match k,hk with
 | 0,_=>show _=_;kernel_rfl
 | 1,_=>show _=_;kernel_rfl
 | 2,_=>show _=_;kernel_rfl
 | 3,_=>show _=_;kernel_rfl
 | 4,_=>show _=_;kernel_rfl
 | 5,_=>show _=_;kernel_rfl
 | 6,_=>show _=_;kernel_rfl
 | 7,_=>show _=_;kernel_rfl
theorem sum_any (bk o c:Nat) (xs:List ByteArray) (w:World) (hcells:∀ (j:Nat) x,xs[j]?=some x->w.cell? ⟨bk,o+j,none⟩=some (.string x)) (hbk:bk<w.heap.size) (hN:xs.length<=1048576) (hcap:xs.length<=c) (hlen:(Lib.join (xs.map (·.data.toList)) []).length<=1099511627776) (hK:Kon w) :
 Calls Tryz.prog 42 #[.slice (some ⟨bk,o,none⟩) xs.length c] w fun e w'=>e=.returned (.string ⟨(shaOf (Lib.join (xs.map (·.data.toList)) [])).toArray⟩)/\Below w.heap.size w w':=by
 have hj:=Lib.hid (Tryz.strings_Join bk o c xs ⟨#[]⟩ w hcells hbk (by omega) hcap (by simpa using (show (Lib.join (xs.map (·.data.toList)) []).length<=140737488355328 by omega)))
 rw [show (⟨#[]⟩:ByteArray).data.toList=[] from rfl] at hj
 generalize Lib.join (xs.map (·.data.toList)) []=l at hj hlen |-
 have HK:=Lib.hid hK
 clear hK
 go_enter Tryz.func42,Tryz.ntmps42
 go_wp2_with fail
 refine hj.out.mono ?_
 rintro e w1 ⟨rfl,hb1⟩
 obtain ⟨v1,w2,hcv,hD,hb2⟩:=dat_of_string w1 ⟨l.toArray⟩
 rw [show (⟨l.toArray⟩:ByteArray).data.toList=l from by simp] at hD
 have s1:=hb1.size
 have s2:=hb2.size
 have hb2:=hb1.trans (hb2.mono s1)
 obtain ⟨g,cap,rfl⟩:=hD.shape
 have HD:=Lib.hid hD
 clear hD
 go_wp2_with (at_builtin;refine Hid.out ?_)
 unfold Hid
 have hD3:Dat (w2.alloc (.cells #[.int .u8 128] 5)) w1.heap.size (.slice (some ⟨g,0,none⟩) l.length cap) l:=HD.out.below ((Below.refl _ _).alloc (Nat.le_refl _) _) (Nat.le_refl _)
 refine wpList_dat rfl rfl hD3 rfl (news:=[128]) rfl rfl (one_src w2 128) (by simp;omega) (by omega) ?_
 intro v3 w3 hD3 hb3
 have sw3:w1.heap.size<=w3.heap.size:=by have:=hb3.size;simp at this;omega
 have hb3:Below w.heap.size w w3:=(hb2.alloc (by omega) _).trans (hb3.mono s1)
 have s3:=hb3.size
 obtain ⟨g3,cap3,rfl⟩:=hD3.shape
 have HD3:=Lib.hid hD3
 clear hD3 hcv HD
 go_wp2_with fail
 go_loopw [3] (fun v W=>∃ z:Nat,z<=padZ l.length/\Dat W w1.heap.size v (l++[128]++List.replicate z 0)/\Below w.heap.size w W/\w1.heap.size<=W.heap.size) (fun v _=>l.length+200 - vlen v)
 case atStart=>exact ⟨0,Nat.zero_le _,by simpa using HD3.out,hb3,sw3⟩
 case round=>
  obtain ⟨z,hz,hD,hb,sw⟩:=hrel
  obtain ⟨gz,capz,rfl⟩:=hD.shape
  have hpm:=pad_more l.length z hz
  generalize hn:(l++[128]++List.replicate z 0).length=n at hD |-
  have hn':n=l.length+1+z:=by rw [<-hn];simp;omega
  have hz64:z<64:=by unfold padZ at hz;omega
  have HD:=Lib.hid hD
  have Hn:=Lib.hid hn'
  have Hz:=Lib.hid hz
  have hn50:n<=1099511627900:=by omega
  clear hD hn
  by_cases hlt:z=padZ l.length
  · have ht:((n:Int)%64 != 56)=false:=by simp only [bne_eq_false_iff_eq];have:=hpm.2 hlt;omega
    have Hlt:=Lib.hid hlt
    have hsz:=hb.size
    clear hlt hpm hz hn'
    obtain ⟨m8,hm8⟩:∃ m,m=8*l.length:=⟨_,rfl⟩
    have e8:(8:Int)*(l.length:Int)=(m8:Int):=by omega
    have Hm8:=Lib.hid hm8
    have hm9:m8<=8796093022208:=by omega
    clear hm8
    go_wp2_with fail
    refine (number_any m8 8 _ (by decide)).mono ?_
    rintro e w6 ⟨rfl,hblk6,hb6⟩
    have s6:=hb6.size
    go_wp2_with (at_builtin;refine Hid.out ?_)
    unfold Hid
    have hD6:Dat w6 w1.heap.size (.slice (some ⟨gz,0,none⟩) n capz) (l++[128]++List.replicate z 0):=HD.out.below hb6 (Nat.le_refl _)
    refine wpList_dat rfl rfl hD6 rfl (news:=bytesTo m8 8 8) rfl (by rw [bytesTo_le]) (row_src hblk6) (by omega) (by simp;have:=Hn.out;omega) ?_
    intro v7 w7 hD7 hb7
    have s7:=hb7.size
    have sw7:w1.heap.size<=w7.heap.size:=by omega
    have hb7:Below w.heap.size w w7:=(hb.trans (hb6.mono hsz)).trans (hb7.mono s1)
    have hpe:l++[128]++List.replicate z 0++bytesTo m8 8 8=padded l:=by unfold padded;rw [Hlt.out,Hm8.out]
    rw [hpe] at hD7
    obtain ⟨g7,cap7,hv7,hBg,hgw,hle7,hc7,_⟩:=hD7.is
    subst hv7
    have hp:=padded_length l
    generalize hPd:padded l=P at hc7 hle7 hp |-
    have HPd:=Lib.hid hPd
    clear hPd
    generalize hN:P.length=N at hc7 hle7 hp |-
    have HC:=Lib.hid hc7
    have hN64:=hp.1
    have hN2:N<=2199023255552:=by have:=hp.2;unfold padZ at this;omega
    clear hD7 hD6 hpe hblk6 hc7 HD e8 hp
    go_wp2_with fail
    refine (first_any' _).mono ?_
    rintro e w8 ⟨rfl,hb8⟩
    go_wp2_with (first | (refine wpList_store_row rfl 180 _ _ rfl _ _ rfl rfl 180 _ (heap_alloc_new _ _) ?_ ?_ ?_ ?_))
    · kernel_rfl
    · rfl
    · simp [u32s,init8,Value.oneCell']
    rw [World.setRow_alloc_new]
    have s8:=hb8.size
    have hb9:Below w7.heap.size w7 (w8.alloc (.cells (u32s init8).toArray 180)):=hb8.alloc s8 _
    have hst9:(w8.alloc (.cells (u32s init8).toArray 180)).heap[w8.heap.size]?=some (.cells (u32s init8).toArray 180 (0,0)):=heap_alloc_new _ _
    generalize (w8.alloc (.cells (u32s init8).toArray 180))=w9 at hb9 hst9 |-
    have hK9:Kon w9:=HK.out.old (hb7.trans (hb9.mono (by omega)))
    generalize hsb:w8.heap.size=sb at hst9 s8 |-
    have HC9:Hid (∀ j,j<N->w9.cell? ⟨g7,j,none⟩=some (.int .u8 (byteI P j))):=Lib.hid (fun j hj=>(hb9.cell (p:=⟨g7,j,none⟩) hgw).trans (HC.out j hj))
    have HK9:=Lib.hid hK9
    have Hst9:=Lib.hid hst9
    have hgs:g7≠sb:=by omega
    have HP:=Lib.hid hN
    clear hK9 hst9 HC hsb hN
    go_wp2_with fail
    simp only [Act.put]
    go_loopw [3] (fun v W=>∃ (k:Nat) (a:Option Addr) (c:Nat),64*k<=N/\v=.slice a (N - 64*k) c/\(64*k<N->a=some ⟨g7,64*k,none⟩/\N - 64*k<=c)/\W.heap[sb]?=some (.cells (u32s (stAfter P k)).toArray 180 (0,0))/\Touch (·=sb) w9 W) (fun v _=>vlen v)
    case atStart=>exact ⟨0,_,_,Nat.zero_le _,rfl,fun _=>⟨rfl,by omega⟩,Hst9.out,Touch.refl _ _⟩
    case round=>
     obtain ⟨k,a,c,hk,rfl,ha,hst,ht⟩:=hrel
     by_cases hlt:64*k<N
     · obtain ⟨rfl,hcap2⟩:=ha hlt
       have hcells2:Cells wr (.slice (some ⟨g7,64*k,none⟩) (N - 64*k) c) (bytesV (P.drop (64*k))):=by
        refine ⟨some ⟨g7,64*k,none⟩,c,by rw [bytesV_length,List.length_drop,HP.out],fun _=>⟨g7,64*k,rfl,Nat.lt_of_lt_of_le (Nat.lt_of_lt_of_le hgw hb9.size) ht.size,fun j hj=>?_⟩⟩
        rw [bytesV_length,List.length_drop,HP.out] at hj
        rw [World.cell?_of_block (w:=w9) (w':=wr) (a:=⟨g7,64*k+j,none⟩) (ht.block g7 (Nat.lt_of_lt_of_le hgw hb9.size) hgs),HC9.out (64*k+j) (by omega),bytesV_getD _ _ (by rw [List.length_drop,HP.out];omega)]
        unfold byteI
        rw [List.getD_eq_getElem?_getD,List.getD_eq_getElem?_getD,List.getElem?_drop]
       have hKr:Kon wr:=Kon.touch HK9.out ht (by intro e;have h1:=HK.out.lt;have h2:=hb7.size;omega)
       have hdl:64<=(P.drop (64*k)).length/\(P.drop (64*k)).length<=140737488355328:=by rw [List.length_drop,HP.out];omega
       have Hmix:=Lib.hid (mix_any sb (stAfter P k) (.slice (some ⟨g7,64*k,none⟩) (N - 64*k) c) (P.drop (64*k)) wr hst (stAfter_length P k) hKr hcells2 hdl.1 hdl.2)
       obtain ⟨m,hm⟩:∃ m,m=N - 64*k:=⟨_,rfl⟩
       obtain ⟨q,hq⟩:∃ q,q=64*k:=⟨_,rfl⟩
       have hm64:64<=m/\m%64=0:=by omega
       have Hm:=Lib.hid hm
       have Hq:=Lib.hid hq
       rw [<-hm] at Hmix hcap2 |-
       rw [<-hq] at Hmix |-
       have Ht:=Lib.hid ht
       clear hcells2 hKr hdl hst ht hm hq ha hk hlt
       go_wp2_with fail
       refine Hmix.out.mono ?_
       rintro e wm ⟨rfl,htm,hstm⟩
       have Htm:=Lib.hid (Ht.out.trans htm)
       have Hstm:=Lib.hid hstm
       clear htm hstm Hmix
       go_wp2
       have e1:=Hm.out
       have e2:=Hq.out
       refine ⟨⟨k+1,_,_,by omega,by rw [show N - 64*(k+1)=m - 64 from by omega],fun hlt2=>⟨by rw [if_neg (by omega),show 64*(k+1)=q+64 from by omega],by omega⟩,?_,Htm.out⟩,by simp [vlen];omega⟩
       rw [stAfter,<-e2];exact Hstm.out
     · have hkN:N=64*k:=by omega
       have Hst:=Lib.hid hst
       have Ht:=Lib.hid ht
       have HkN:=Lib.hid hkN
       have hm0:N - 64*k=0:=by omega
       rw [hm0]
       clear hst ht ha hk hlt hkN hm0
       have hsw:=Ht.out.size
       have hst8:=stAfter_length P k
       have hfin:∀ i,i<8->∃ x:Nat,(stAfter P k).getD i 0=(x:Int)/\x<4294967296:=fun i hi=>st_range P k i hi
       have Hfin:=Lib.hid hfin
       obtain ⟨y0,y1,y2,y3,y4,y5,y6,y7,hy⟩:∃ a b c d e f g h,stAfter P k=[a,b,c,d,e,f,g,h]:=by
        match stAfter P k,hst8 with
        | [a,b,c,d,e,f,g,h],_=>exact ⟨a,b,c,d,e,f,g,h,rfl⟩
       have Hix:=Lib.hid (index_state y0 y1 y2 y3 y4 y5 y6 y7)
       rw [<-hy] at Hix
       have Hsx:Hid ((u32s (stAfter P k)).toArray=#[.int .u32 y0,.int .u32 y1,.int .u32 y2,.int .u32 y3,.int .u32 y4,.int .u32 y5,.int .u32 y6,.int .u32 y7]):=Lib.hid (by rw [hy];rfl)
       have HSt:Hid (∃ X,X=stAfter P k):=Lib.hid ⟨_,rfl⟩
       clear hst8 hfin hy
       generalize hS:stAfter P k=S at Hst Hfin Hix Hsx
       have HS:=Lib.hid hS
       clear hS HSt
       rw [Hsx.out] at Hst
       go_wp2_with (first | (refine wpList_load_row rfl 180 _ rfl _ rfl 180 _ _ _ Hst.out Tryz.underlying180 rfl ?_ ?_;kernel_rfl))
       rename World=>wO
       go_loopw [6,39] (fun v i W=>∃ (j:Nat) ,j<=8/\i=.int .i64 j/\W.ownsRow wO.heap.size 5 1 v (4*j) (bytesV (outTo S j))/\Below wO.heap.size wO W) (fun _ i _=>8 - (intOf i).toNat)
       case atStart=>exact ⟨0,Nat.zero_le _,rfl,World.ownsRow_nil _ _ _ _,Below.refl _ _⟩
       case round=>
        obtain ⟨j,hj,rfl,hown,hbw⟩:=hrel
        have hso:=hbw.size
        obtain ⟨ao,co,rfl⟩:=own_slice hown
        have Hown:=Lib.hid hown
        clear hown
        by_cases hlt:j<8
        · obtain ⟨x,hx,hx32⟩:=Hfin.out j hlt
          have hix:=Hix.out j hlt
          rw [hx] at hix
          have Hx:=Lib.hid hx
          have hj8:(j:Int)<8:=by omega
          clear hx
          go_wp2_with fail
          refine (number_any x 4 _ (by decide)).mono ?_
          rintro e wn ⟨rfl,hblkn,hbn⟩
          go_wp2_with (at_builtin;refine Hid.out ?_)
          unfold Hid
          have hownn:wn.ownsRow wO.heap.size 5 1 (.slice ao (4*j) co) (4*j) (bytesV (outTo S j)):=(Touch.of_below hbn (fun _=>False)).own Hown.out (fun _ _ h=>h)
          have hsn:=hbn.size
          refine wpList_appSrc rfl rfl 1 Tryz.underlying58 Tryz.underlying58 Tryz.infoByte8 rfl (by decide) hownn rfl (news:=bytesV (bytesTo x 4 4)) rfl (by rw [bytesV_length,bytesTo_le]) (fun h=>by cases h) (fun ad had=>by injection had with had;subst had;exact row_src hblkn) (by
           intro u hu
           obtain ⟨b,_,rfl⟩:=List.mem_map.1 hu
           rfl) (by unfold maxLen;omega) (by omega) (by omega) ?_
          intro v5 w5 ho5 hg5 _
          have hb5:Below wO.heap.size wO w5:=(hbw.trans (hbn.mono hso)).grown hg5 (by omega) (fun k hk=>(hownn.lt k hk).1)
          rw [show 4*j+4=4*(j+1) from by omega,show bytesV (outTo S j)++bytesV (bytesTo x 4 4)=bytesV (outTo S (j+1)) from by
           rw [outTo,Hx.out,Int.toNat_natCast];exact (List.map_append).symm] at ho5
          obtain ⟨a5,c5,rfl⟩:=own_slice ho5
          clear hix hownn hg5
          go_wp2
          go_roundw
          case rel=>exact ⟨j+1,by omega,by go_num,ho5,hb5⟩
          case measure=>simp [intOf];omega
        · have h8:j=8:=by omega
          have hge:¬ (j:Int)<8:=by omega
          have hc8:=cells_of_own Hown.out
          have hconv:=run_string_cells (P:=Tryz.prog) (src:=58) (dst:=9) (e:=5) Tryz.underlying58 Tryz.underlying5 Tryz.underlying9 hc8
          have Hres:Hid (outTo S j=shaOf l):=Lib.hid (by
           have e1:=HkN.out
           have e2:=HP.out
           rw [<-HS.out,h8,shaOf,HPd.out,e2,show N/64=k from by omega])
          have hfin:Below w.heap.size w wr:=by
           have h1:=hb7.size
           have h2:=hb9.size
           have h3:=Ht.out.size
           exact ((hb7.trans (hb9.mono h1)).trans (Ht.out.below (fun i e=>by subst e;omega) (by omega))).trans (hbw.mono (by omega))
          clear h8 hlt hc8
          go_wp2
          go_ret
          exact ⟨by rw [Hres.out];rfl,hfin⟩
  · have ht:((n:Int)%64 != 56)=true:=by rw [bne_iff_ne];intro e;exact hlt (hpm.1 (by omega))
    have Hlt:=Lib.hid hlt
    have hsz:=hb.size
    clear hpm hlt hz hn'
    go_wp2_with (at_builtin;refine Hid.out ?_)
    unfold Hid
    have hD4:Dat (wr.alloc (.cells #[.int .u8 0] 5)) w1.heap.size (.slice (some ⟨gz,0,none⟩) n capz) (l++[128]++List.replicate z 0):=HD.out.below ((Below.refl _ _).alloc (Nat.le_refl _) _) (Nat.le_refl _)
    refine wpList_dat rfl rfl hD4 rfl (news:=[0]) rfl rfl (one_src wr 0) (by simp;omega) (by simp;have:=Hn.out;omega) ?_
    intro v5 w5 hD5 hb5
    obtain ⟨g5,cap5,rfl⟩:=hD5.shape
    generalize hn5:(l++[128]++List.replicate z 0++[0]).length=n5 at hD5 |-
    have hn5':n5=n+1:=by have:=Hn.out;rw [<-hn5];simp;omega
    have Hn5:=Lib.hid hn5'
    clear hn5 hn5'
    have HD5:=Lib.hid hD5
    have sw5:w1.heap.size<=w5.heap.size:=by have:=hb5.size;simp at this;omega
    have hb5:Below w.heap.size w w5:=(hb.alloc hsz _).trans (hb5.mono s1)
    clear hD4 hD5
    go_wp2
    go_roundw
    case rel=>
     refine ⟨z+1,by have:=Hlt.out;have:=Hz.out;omega,?_,hb5,sw5⟩
     rw [List.replicate_succ',<-List.append_assoc]
     exact HD5.out
    case measure=>have:=Hn.out;have:=Hn5.out;simp [vlen];omega
def tagIn (tag:Nat) (xs:List (List UInt8)):List UInt8:=UInt8.ofNat tag :: xs.flatMap fun x=>bytesTo x.length 4 4++x
def tagOf (tag:Nat) (xs:List (List UInt8)):List UInt8:=(shaOf (tagIn tag xs)).take 16
theorem tagOf_length (tag:Nat) (xs:List (List UInt8)):(tagOf tag xs).length=16:=by unfold tagOf;rw [List.length_take,shaOf_length];rfl
def tagParts (tag:Nat) (xs:List ByteArray):Nat->List ByteArray
 | 0=>[⟨#[UInt8.ofNat tag]⟩]
 | k+1=>tagParts tag xs k++[⟨(bytesTo (xs.getD k default).size 4 4).toArray⟩,xs.getD k default]
theorem tagParts_length (tag:Nat) (xs:List ByteArray):∀ k,(tagParts tag xs k).length=2*k+1
 | 0=>rfl
 | k+1=>by rw [tagParts,List.length_append,tagParts_length tag xs k];simp;omega
theorem extract_take (R:List UInt8) (n:Nat):(⟨R.toArray⟩:ByteArray).extract 0 n=⟨(R.take n).toArray⟩:=by
 apply ByteArray.ext
 rw [ByteArray.data_extract]
 simp
theorem flat_take (tag:Nat) (xs:List ByteArray):∀ k,k<=xs.length->((tagParts tag xs k).map (·.data.toList)).flatten=UInt8.ofNat tag :: ((xs.take k).map (·.data.toList)).flatMap fun x=>bytesTo x.length 4 4++x
 | 0,_=>rfl
 | k+1,hk=>by
   have hlt:k<xs.length:=by omega
   rw [tagParts,List.map_append,List.flatten_append,flat_take tag xs k (by omega),List.take_add_one,List.getElem?_eq_getElem hlt,List.map_append,List.flatMap_append,List.getD_eq_getElem?_getD,List.getElem?_eq_getElem hlt]
   simp
theorem intercalate_nil:∀ l:List (List UInt8),List.intercalate [] l=l.flatten
 | []=>rfl
 | [x]=>by simp [List.intercalate]
 | x :: y :: l=>by
   have:=intercalate_nil (y :: l)
   simp [List.intercalate] at this |-
   exact this
theorem tag_join (tag:Nat) (xs:List ByteArray):Lib.join ((tagParts tag xs xs.length).map (·.data.toList)) []=tagIn tag (xs.map (·.data.toList)):=by
 unfold Lib.join
 rw [intercalate_nil,flat_take tag xs _ (Nat.le_refl _),List.take_length];rfl
theorem tagIn_ge (tag:Nat) (xs:List ByteArray) (k:Nat) (hk:k<xs.length):(xs.getD k default).size<=(tagIn tag (xs.map (·.data.toList))).length:=by
 have h:∀ (l:List (List UInt8)) (x:List UInt8),x∈l->x.length<=(l.flatMap fun x=>bytesTo x.length 4 4++x).length:=by
  intro l
  induction l with
  | nil=>intro x hx;cases hx
  | cons y l ih=>
    intro x hx
    rw [List.flatMap_cons,List.length_append,List.length_append]
    rcases List.mem_cons.1 hx with rfl | hx
    · omega
    · have:=ih x hx;omega
 have:=h (xs.map (·.data.toList)) (xs.getD k default).data.toList (List.mem_map.2 ⟨_,by rw [List.getD_eq_getElem?_getD,List.getElem?_eq_getElem hk];exact List.getElem_mem hk,rfl⟩)
 unfold tagIn
 rw [List.length_cons]
 have e:(xs.getD k default).data.toList.length=(xs.getD k default).size:=by simp
 omega
theorem Tryz.infoStr:(Tryz.prog.info? 9).map (fun i=>(i.zero,i.size,i.bytes))=some (some (.string .empty),1,16):=by kernel_rfl
theorem own_first (w:World) (o:Obj) (x:Value) (e:TypeId):((w.alloc o).alloc (.cells #[x] e)).ownsRow w.heap.size e 1 (.slice (some ⟨w.heap.size+1,0,none⟩) 1 1) 1 [x]:=
 ⟨rfl,.inr ⟨w.heap.size+1,1,#[x],rfl,Nat.le_succ _,heap_alloc2_new _ _ _,Nat.le_refl _,by decide,rfl,rfl⟩⟩
def strs (l:List ByteArray):List Value:=l.map .string
theorem own_opened {w:World} {base:Nat} {e:TypeId} {v:Value} {n:Nat} {xs:List Value} (h:w.ownsRow base e 1 v n xs) (hn:n≠0) :
 ∃ g c,v=.slice (some ⟨g,0,none⟩) n c/\base<=g/\g<w.heap.size/\n<=c/\∀ (j:Nat) x,xs[j]?=some x->w.cell? ⟨g,j,none⟩=some x:=by
 rcases h.2 with ⟨_,h0⟩ | ⟨g,cap,cur,rfl,hB,hg,hnc,_⟩
 · exact absurd h0 hn
 · refine ⟨g,cap,rfl,hB,(Array.getElem?_eq_some_iff.1 hg).1,hnc,fun j x hj=>?_⟩
   have:=h.cells (g:=g) rfl j x hj
   have hadd:(⟨g,0,none⟩:Addr).add j=⟨g,j,none⟩:=by unfold Addr.add;split <;> simp_all
   rwa [hadd] at this
theorem tagged_any (tag:Nat) (v:Value) (xs:List ByteArray) (w:World) (htag:tag<256) (hv:Cells w v (strs xs)) (hN:xs.length<=300) (hlen:(tagIn tag (xs.map (·.data.toList))).length<=1099511627776) (hK:Kon w) :
 Calls Tryz.prog 9 #[.int .u8 tag,v] w fun e w'=>e=.returned (.string ⟨(tagOf tag (xs.map (·.data.toList))).toArray⟩)/\Below w.heap.size w w':=by
 obtain ⟨a,c,rfl,hcells⟩:=hv
 have hlenS:(strs xs).length=xs.length:=List.length_map _
 rw [hlenS] at hcells |-
 have HC:=Lib.hid hcells
 have HK:=Lib.hid hK
 have Hl:=Lib.hid hlen
 have hone:∀ W:World,(convert 58 9 (.slice (some ⟨W.heap.size,0,none⟩) 1 1)).run Tryz.prog (W.alloc (.cells #[.int .u8 (tag:Int)] 5))=.ok (.string ⟨#[UInt8.ofNat tag]⟩) (W.alloc (.cells #[.int .u8 (tag:Int)] 5)):=by
  intro W
  have e:(#[.int .u8 (tag:Int)]:Array Value)=(bytesV [UInt8.ofNat tag]).toArray:=by simp [bytesV];omega
  rw [e]
  exact run_string_block Tryz.underlying58 Tryz.underlying5 Tryz.underlying9 (heap_alloc_new W _) rfl
 clear hcells hK hlen
 go_enter Tryz.func9,Tryz.ntmps9
 go_wp2_with fail
 have hown0:((w.alloc (.cells #[.int .u8 (tag:Int)] 5)).alloc (.cells #[.string ⟨#[UInt8.ofNat tag]⟩] 9)).ownsRow w.heap.size 9 1 (.slice (some ⟨w.heap.size+1,0,none⟩) 1 1) 1 (strs (tagParts tag xs 0)):=own_first w _ _ _
 have hb0:Below w.heap.size w ((w.alloc (.cells #[.int .u8 (tag:Int)] 5)).alloc (.cells #[.string ⟨#[UInt8.ofNat tag]⟩] 9)):=((Below.refl _ _).alloc (Nat.le_refl _) _).alloc (by simp) _
 generalize ((w.alloc (.cells #[.int .u8 (tag:Int)] 5)).alloc (.cells #[.string ⟨#[UInt8.ofNat tag]⟩] 9))=W0 at hown0 hb0 |-
 clear hone
 go_loopw [5,14] (fun v i W=>∃ k:Nat,k<=xs.length/\i=.int .i64 k/\W.ownsRow w.heap.size 9 1 v (2*k+1) (strs (tagParts tag xs k))/\Below w.heap.size w W) (fun _ i _=>xs.length - (intOf i).toNat)
 case atStart=>exact ⟨0,Nat.zero_le _,rfl,hown0,hb0⟩
 case round=>
  obtain ⟨k,hk,rfl,hown,hb⟩:=hrel
  have hsz:=hb.size
  obtain ⟨ao,co,rfl⟩:=own_slice hown
  have Hown:=Lib.hid hown
  clear hown
  by_cases hlt:k<xs.length
  · obtain ⟨b,off,rfl,hbl,hc⟩:=HC.out (by intro e;have:=congrArg List.length e;rw [hlenS] at this;rw [this] at hlt;exact absurd hlt (Nat.not_lt_zero _))
    have hck:wr.cell? ⟨b,off+k,none⟩=some (.string (xs.getD k default)):=by
     rw [hb.cell (p:=⟨b,off+k,none⟩) hbl,hc k hlt,List.getD_eq_getElem?_getD]
     unfold strs
     rw [List.getElem?_map,List.getElem?_eq_getElem hlt,List.getD_eq_getElem?_getD,List.getElem?_eq_getElem hlt];rfl
    have hxl:(xs.getD k default).size<=1099511627776:=Nat.le_trans (tagIn_ge tag xs k hlt) Hl.out
    have Hpart:=Lib.hid (show tagParts tag xs (k+1)=tagParts tag xs k++[⟨(bytesTo (xs.getD k default).size 4 4).toArray⟩,xs.getD k default] from rfl)
    generalize xs.getD k default=x at hck hxl Hpart
    clear hc
    go_wp2_with fail
    refine (number_any x.size 4 _ (by decide)).mono ?_
    rintro e wn ⟨rfl,hblkn,hbn⟩
    have hconv:=run_string_block (P:=Tryz.prog) (src:=58) (dst:=9) (e:=5) Tryz.underlying58 Tryz.underlying5 Tryz.underlying9 (n:=4) (cap:=4) hblkn (bytesTo_le _ _ _)
    have hsn:=hbn.size
    have hownn:wn.ownsRow w.heap.size 9 1 (.slice ao (2*k+1) co) (2*k+1) (strs (tagParts tag xs k)):=(Touch.of_below hbn (fun _=>False)).own Hown.out (fun _ _ h=>h)
    go_wp2_with (at_builtin;refine Hid.out ?_)
    unfold Hid
    refine wpList_appW rfl rfl Tryz.underlying31 Tryz.infoStr rfl 2 hownn rfl rfl rfl ?_ ?_ ?_ (by omega) ?_
    · simp [Value.oneCell']
    · omega
    · unfold maxLen;omega
    intro v5 w5 ho5 hg5 _
    have hb5:Below w.heap.size w w5:=(hb.trans (hbn.mono hsz)).grown hg5 (by omega) (fun j hj=>(hownn.lt j hj).1)
    have ho5:w5.ownsRow w.heap.size 9 1 v5 (2*(k+1)+1) (strs (tagParts tag xs (k+1))):=by
     rw [Hpart.out];unfold strs;rw [List.map_append];exact ho5
    obtain ⟨a5,c5,rfl⟩:=own_slice ho5
    clear hconv hownn hg5
    go_wp2
    go_roundw
    case rel=>exact ⟨k+1,by omega,by go_num,ho5,hb5⟩
    case measure=>simp [intOf];omega
  · have hkn:k=xs.length:=by omega
    have hge:¬ (k:Int)<(xs.length:Int):=by omega
    obtain ⟨g,c1,hv1,hBg,hgw,hcl,hcell⟩:=own_opened Hown.out (by omega)
    injection hv1 with e1 _ e3
    subst e1 e3
    have hs:=sum_any g 0 co (tagParts tag xs k) wr (fun j x hj=>by
     rw [Nat.zero_add];exact hcell j _ (by unfold strs;rw [List.getElem?_map,hj];rfl)) hgw (by rw [tagParts_length];omega) (by rw [tagParts_length];omega) (by rw [hkn,tag_join];exact Hl.out) (HK.out.old hb)
    rw [tagParts_length,hkn,tag_join] at hs
    rw [hkn]
    have Hs:=Lib.hid hs
    have hlen32:=shaOf_length (tagIn tag (xs.map (·.data.toList)))
    clear hs hcell hkn hlt hge
    go_wp2_with fail
    refine Hs.out.mono ?_
    rintro e wz ⟨rfl,hbz⟩
    have htk:=Lib.hid (show tagOf tag (xs.map (·.data.toList))=(shaOf (tagIn tag (xs.map (·.data.toList)))).take 16 from rfl)
    generalize shaOf (tagIn tag (xs.map (·.data.toList)))=R at hlen32 htk |-
    have hRs:(ByteArray.mk R.toArray).size=32:=by show R.toArray.size=32;simpa using hlen32
    go_wp2
    go_ret
    refine ⟨?_,hb.trans (hbz.mono hsz)⟩
    rw [htk.out,<-extract_take]
    rfl
theorem Tryz.infoInt:(Tryz.prog.info? 3).map (fun i=>(i.zero,i.size,i.bytes))=some (some (.int .i64 0),1,8):=by kernel_rfl
def hiOf (b:UInt8):Int:=(b.toNat/16:Nat)
def loOf (b:UInt8):Int:=(b.toNat%16:Nat)
def nibs (l:List UInt8) (k:Nat):List Int:=(l.take k).flatMap fun b=>[hiOf b,loOf b]
def nibSum (l:List UInt8) (k:Nat):Int:=((l.take k).map fun b=>30 - hiOf b - loOf b).sum
theorem hiOf_wrap (b:UInt8):wrap64 ((b.toNat:Int)/16)=hiOf b:=by
 have h:=b.toNat_lt
 rw [IntWalk.wrap64_in _ (by omega)];unfold hiOf;omega
theorem loOf_wrap (b:UInt8):wrap64 (bits BinOp.and IntKind.u8 (b.toNat:Int) 15)=loOf b:=by
 have:∀ c:Fin 256,wrap64 (bits BinOp.and IntKind.u8 ((c.val:Nat):Int) 15)=((c.val%16:Nat):Int):=by decide +kernel
 exact this ⟨b.toNat,b.toNat_lt⟩
theorem hiOf_lt (b:UInt8):0<=hiOf b/\hiOf b<=15:=by have h:=b.toNat_lt;unfold hiOf;omega
theorem loOf_lt (b:UInt8):0<=loOf b/\loOf b<=15:=by have h:=b.toNat_lt;unfold loOf;omega
theorem nibs_succ (l:List UInt8) (k:Nat) (h:k<l.length):nibs l (k+1)=nibs l k++[hiOf l[k]]++[loOf l[k]]:=by
 unfold nibs;rw [List.take_succ_eq_append_getElem h,List.flatMap_append];simp
theorem nibSum_succ (l:List UInt8) (k:Nat) (h:k<l.length):nibSum l (k+1)=nibSum l k+(15 - hiOf l[k])+(15 - loOf l[k]):=by
 unfold nibSum;rw [List.take_succ_eq_append_getElem h,List.map_append,List.sum_append];simp;omega
theorem nibSum_bd (l:List UInt8) (k:Nat):0<=nibSum l k/\nibSum l k<=30*k:=by
 induction k with
 | zero=>simp [nibSum]
 | succ k ih=>
   by_cases h:k<l.length
   · have e:nibSum l (k+1)=nibSum l k+(30 - hiOf l[k] - loOf l[k]):=by
      unfold nibSum;rw [List.take_succ_eq_append_getElem h,List.map_append,List.sum_append];simp
     have:=hiOf_lt l[k];have:=loOf_lt l[k]
     rw [e];omega
   · have e:nibSum l (k+1)=nibSum l k:=by unfold nibSum;rw [List.take_of_length_le (by omega),List.take_of_length_le (by omega)]
     rw [e];omega
theorem index_pair0 (x y:Int) (w:World):(Instr.index 311 (.agg #[.int .i64 x,.int .i64 y]) (.int .i64 0)).run Tryz.prog w=.ok (.int .i64 x) w:=by kernel_rfl
theorem index_pair1 (x y:Int) (w:World):(Instr.index 311 (.agg #[.int .i64 x,.int .i64 y]) (.int .i64 1)).run Tryz.prog w=.ok (.int .i64 y) w:=by kernel_rfl
def chk (S:Int):List Int:=[S/256,S/16%16,S%16]
def digs (l:List UInt8):List Int:=nibs l 16++chk (nibSum l 16)
theorem chk_bits (l:List UInt8):ints (nibs l 16)++[.int .i64 (bits BinOp.and IntKind.i64 (nibSum l 16/256) 15)]++[.int .i64 (bits BinOp.and IntKind.i64 (nibSum l 16/16) 15)]++[.int .i64 (bits BinOp.and IntKind.i64 (nibSum l 16) 15)]=ints (digs l):=by
 obtain ⟨h0,h1⟩:=nibSum_bd l 16
 have e:(2:Int)^63=9223372036854775808:=by decide
 rw [i64_and15 _ (by omega) (by omega),i64_and15 _ (by omega) (by omega),i64_and15 _ (by omega) (by omega),show nibSum l 16/256%16=nibSum l 16/256 from by omega]
 simp [ints,digs,chk]
theorem digs_length (s:ByteArray) (hs:s.size=16):(digs s.data.toList).length=35:=by
 have h:∀ k,k<=16->(nibs s.data.toList k).length=2*k:=by
  intro k
  induction k with
  | zero=>intro _;rfl
  | succ k ih=>intro hk;rw [nibs_succ s.data.toList k (by simpa using (show k<s.size by omega))];simp [ih (by omega)];omega
 unfold digs chk
 simp [h 16 (Nat.le_refl _)]
theorem digs_range (s:ByteArray):∀ z∈digs s.data.toList,0<=z/\z<=15:=by
 intro z hz
 unfold digs at hz
 rw [List.mem_append] at hz
 rcases hz with h | h
 · unfold nibs at h
   rw [List.mem_flatMap] at h
   obtain ⟨b,_,hb⟩:=h
   simp at hb
   rcases hb with rfl | rfl
   · exact hiOf_lt b
   · exact loOf_lt b
 · obtain ⟨h0,h1⟩:=nibSum_bd s.data.toList 16
   simp [chk] at h
   omega
theorem of_yes (s:ByteArray) (w:World) (hs:s.size=16) :
 Calls Tryz.prog 185 #[.string s] w fun e w'=>∃ v',e=.returned (.tuple #[v',.int .i64 0])/\w'.ownsRow w.heap.size 3 1 v' 35 (ints (digs s.data.toList))/\Below w.heap.size w w':=by
 go_enter Tryz.func185,Tryz.ntmps185
 go_wp2
 go_loopw [4,5,15] (fun v sum i wr=>∃ k:Nat,k<=16/\i=.int .i64 k/\sum=.int .i64 (nibSum s.data.toList k)/\wr.ownsRow w.heap.size 3 1 v (2*k) (ints (nibs s.data.toList k))/\Below w.heap.size w wr) (fun _ _ i _=>16 - (intOf i).toNat)
 case atStart=>exact ⟨0,Nat.zero_le _,rfl,rfl,World.ownsRow_nil _ _ _ _,Below.refl _ _⟩
 case round=>
  obtain ⟨k,hk,rfl,rfl,hown,hnx⟩:=hrel
  have hsz:=hnx.size
  by_cases hlt:k<16
  · have e1:=hiOf_wrap s[k]
    have e2:=loOf_wrap s[k]
    obtain ⟨b1,b2⟩:=hiOf_lt s[k]
    obtain ⟨b3,b4⟩:=loOf_lt s[k]
    obtain ⟨b5,b6⟩:=nibSum_bd s.data.toList k
    have Hn:=Lib.hid (nibs_succ s.data.toList k (by simpa using (show k<s.size by omega)))
    have Hs:=Lib.hid (nibSum_succ s.data.toList k (by simpa using (show k<s.size by omega)))
    go_wp2_with fail
    go_quiet (fail)
    clear e1 e2
    replace hown:(wr.drewN nq).ownsRow w.heap.size 3 1 u4 (2*k) (ints (nibs s.data.toList k)):=hown
    replace hnx:Below w.heap.size w (wr.drewN nq):=hnx.trans ⟨rfl,rfl,rfl,Nat.le_refl _,fun _ _=>rfl⟩
    replace hsz:=hnx.size
    generalize wr.drewN nq=wd at hown hnx hsz |-
    have hi0:=index_pair0
    have hi1:=index_pair1
    go_wp2
    refine wp_loop_rounds 3 ?_
    rw [rounds_succ]
    go_wp2_with (at_builtin;refine Hid.out ?_)
    unfold Hid
    refine wpList_app1 rfl rfl Tryz.underlying82 Tryz.infoInt rfl hown rfl rfl rfl ?_ ?_ hsz ?_
    · omega
    · unfold maxLen;omega
    intro v1 w1 ho1 hg1
    have hx1:=below_grown hnx hown (Nat.le_refl _) hsz hg1
    have hsz1:=hx1.size
    clear hown hg1 hnx hsz
    go_wp2
    rw [rounds_succ]
    go_wp2_with (at_builtin;refine Hid.out ?_)
    unfold Hid
    refine wpList_app1 rfl rfl Tryz.underlying82 Tryz.infoInt rfl ho1 rfl rfl rfl ?_ ?_ hsz1 ?_
    · omega
    · unfold maxLen;omega
    intro v2 w2 ho2 hg2
    have hx2:=below_grown hx1 ho1 (Nat.le_refl _) hsz1 hg2
    clear ho1 hg2 hx1 hsz1
    go_wp2
    rw [rounds_succ]
    go_wp2
    go_roundw
    case rel=>exact ⟨k+1,by omega,by go_num,by rw [Hs.out];rfl,by rw [show 2*(k+1)=2*k+1+1 from by omega,Hn.out,ints_snoc,ints_snoc];exact ho2,hx2⟩
    case measure=>simp [intOf];omega
  · obtain rfl:k=16:=by omega
    go_wp2
    have hchk:=Lib.hid (chk_bits s.data.toList)
    refine wp_loop_rounds 4 ?_
    rw [rounds_succ]
    go_wp2_with (at_builtin;refine Hid.out ?_)
    unfold Hid
    refine wpList_app1 rfl rfl Tryz.underlying82 Tryz.infoInt rfl hown rfl rfl rfl ?_ ?_ hsz ?_
    · omega
    · unfold maxLen;omega
    intro v1 w1 ho1 hg1
    have hx1:=below_grown hnx hown (Nat.le_refl _) hsz hg1
    have hsz1:=hx1.size
    clear hown hg1 hnx hsz
    go_wp2
    rw [rounds_succ]
    go_wp2_with (at_builtin;refine Hid.out ?_)
    unfold Hid
    refine wpList_app1 rfl rfl Tryz.underlying82 Tryz.infoInt rfl ho1 rfl rfl rfl ?_ ?_ hsz1 ?_
    · omega
    · unfold maxLen;omega
    intro v2 w2 ho2 hg2
    have hx2:=below_grown hx1 ho1 (Nat.le_refl _) hsz1 hg2
    have hsz2:=hx2.size
    clear ho1 hg2 hx1 hsz1
    go_wp2
    rw [rounds_succ]
    go_wp2_with (at_builtin;refine Hid.out ?_)
    unfold Hid
    refine wpList_app1 rfl rfl Tryz.underlying82 Tryz.infoInt rfl ho2 rfl rfl rfl ?_ ?_ hsz2 ?_
    · omega
    · unfold maxLen;omega
    intro v3 w3 ho3 hg3
    have hx3:=below_grown hx2 ho2 (Nat.le_refl _) hsz2 hg3
    have hsz3:=hx3.size
    clear ho2 hg3 hx2 hsz2
    go_wp2
    rw [rounds_succ]
    go_wp2
    go_ret2
    refine ⟨_,rfl,?_,hx3⟩
    rw [<-hchk.out]
    simpa using ho3
theorem strs_cells (W:World) (xs:List ByteArray) (n:Nat) (hn:xs.length=n):Cells (W.alloc (.cells (strs xs).toArray 9)) (.slice (some ⟨W.heap.size,0,none⟩) n n) (strs xs):=by
 have:=cells_alloc W (strs xs).toArray 9 n
 rw [show (strs xs).toArray.size=n from by rw [List.size_toArray,strs,List.length_map,hn]] at this
 exact this
theorem tagged_new (tag:Nat) (xs:List ByteArray) (n:Nat) (hn:xs.length=n) (W:World) (htag:tag<256) (hN:n<=300) (hlen:(tagIn tag (xs.map (·.data.toList))).length<=1099511627776) (hK:Kon W) :
 Calls Tryz.prog 9 #[.int .u8 tag,.slice (some ⟨W.heap.size,0,none⟩) n n] (W.alloc (.cells (strs xs).toArray 9)) fun e w'=>e=.returned (.string ⟨(tagOf tag (xs.map (·.data.toList))).toArray⟩)/\Below W.heap.size W w':=by
 have hb:Below W.heap.size W (W.alloc (.cells (strs xs).toArray 9)):=(Below.refl _ _).alloc (Nat.le_refl _) _
 refine (tagged_any tag _ xs _ htag (strs_cells W xs n hn) (by omega) hlen (hK.old hb)).mono ?_
 rintro e w' ⟨he,hb'⟩
 exact ⟨he,hb.trans (hb'.mono hb.size)⟩
def placeOf (l c s:Nat):List UInt8:=[0,0,0,UInt8.ofNat l,UInt8.ofNat c,UInt8.ofNat s]
theorem place_any (l c s:Nat) (w:World) (hl:l<256) (hc:c<256) (hs:s<256) :
 Calls Tryz.prog 200 #[.int .i64 l,.int .i64 c,.int .i64 s] w fun e w'=>e=.returned (.string ⟨(placeOf l c s).toArray⟩)/\Below w.heap.size w w':=by
 have e1:(l:Int)/16777216=0:=by omega
 have e2:(l:Int)/65536=0:=by omega
 have e3:(l:Int)/256=0:=by omega
 have hst:∀ W:World,(convert 58 9 (.slice (some ⟨W.heap.size,0,none⟩) 6 6)).run Tryz.prog (W.alloc (.cells #[.int .u8 0,.int .u8 0,.int .u8 0,.int .u8 l,.int .u8 c,.int .u8 s] 5))=.ok (.string ⟨(placeOf l c s).toArray⟩) (W.alloc (.cells #[.int .u8 0,.int .u8 0,.int .u8 0,.int .u8 l,.int .u8 c,.int .u8 s] 5)):=by
  intro W
  have e:(#[.int .u8 0,.int .u8 0,.int .u8 0,.int .u8 l,.int .u8 c,.int .u8 s]:Array Value)=(bytesV (placeOf l c s)).toArray:=by
   simp only [placeOf,bytesV,List.map_cons,List.map_nil]
   simp
   omega
  rw [e]
  exact run_string_block Tryz.underlying58 Tryz.underlying5 Tryz.underlying9 (heap_alloc_new W _) rfl
 go_enter Tryz.func200,Tryz.ntmps200
 go_wp2
 go_ret
 exact ⟨rfl,(Below.refl _ _).alloc (Nat.le_refl _) _⟩
theorem tagIn_len (tag:Nat) (xs:List (List UInt8)):(tagIn tag xs).length=1+(xs.map fun x=>4+x.length).sum:=by
 unfold tagIn
 rw [List.length_cons,List.length_flatMap,Nat.add_comm]
 congr 2
 refine List.map_congr_left fun x _=>?_
 rw [List.length_append,bytesTo_le]
def openOf (seed:List UInt8):List UInt8:=tagOf 3 [seed]
theorem open_any (seed:ByteArray) (w:World) (hs:seed.size<=1000) (hK:Kon w) :
 Calls Tryz.prog 105 #[.string seed] w fun e w'=>e=.returned (.string ⟨(openOf seed.data.toList).toArray⟩)/\Below w.heap.size w w':=by
 have hT:=Lib.hid (tagged_new 3 [seed] 1 rfl w (by decide) (by decide) (by rw [tagIn_len];simp;omega) hK)
 clear hK
 go_enter Tryz.func105,Tryz.ntmps105
 go_wp2_with fail
 refine hT.out.mono ?_
 rintro e w' ⟨rfl,hb⟩
 go_wp2
 go_ret
 exact ⟨rfl,hb⟩
def secretOf (seed:List UInt8) (l c:Nat):List UInt8:=tagOf 1 [seed,placeOf l c 0]
theorem secret_any (seed:ByteArray) (l c:Nat) (w:World) (hs:seed.size<=1000) (hl:l<256) (hc:c<256) (hK:Kon w) :
 Calls Tryz.prog 162 #[.string seed,.int .i64 l,.int .i64 c] w fun e w'=>e=.returned (.string ⟨(secretOf seed.data.toList l c).toArray⟩)/\Below w.heap.size w w':=by
 have HK:=Lib.hid hK
 clear hK
 go_enter Tryz.func162,Tryz.ntmps162
 go_wp2_with fail
 refine (place_any l c 0 _ hl hc (by decide)).mono ?_
 rintro e w1 ⟨rfl,hb1⟩
 have hT:=Lib.hid (tagged_new 1 [seed,⟨(placeOf l c 0).toArray⟩] 2 rfl w1 (by decide) (by decide) (by rw [tagIn_len];simp [placeOf];omega) (HK.out.old hb1))
 go_wp2_with fail
 refine hT.out.mono ?_
 rintro e w' ⟨rfl,hb⟩
 go_wp2
 go_ret
 exact ⟨rfl,hb1.trans (hb.mono hb1.size)⟩
def wk (o:List UInt8) (l c:Nat):Nat->Nat->List UInt8->List UInt8
 | _,0,x=>x
 | f,n+1,x=>tagOf 2 [o,placeOf l c (f+n),wk o l c f n x]
theorem wk_add (o:List UInt8) (l c f m:Nat) (x:List UInt8):∀ n,wk o l c f (m+n) x=wk o l c (f+m) n (wk o l c f m x)
 | 0=>rfl
 | n+1=>by rw [<-Nat.add_assoc,wk,wk,wk_add o l c f m x n,Nat.add_assoc]
theorem wk_length (o:List UInt8) (l c f n:Nat) (x:List UInt8) (hx:x.length=16):(wk o l c f n x).length=16:=by
 cases n with
 | zero=>exact hx
 | succ n=>exact tagOf_length _ _
theorem walk_any (o x:ByteArray) (l c f t:Nat) (w:World) (ho:o.size<=1000) (hx:x.size=16) (hl:l<256) (hc:c<256) (hft:f<=t) (ht:t<=15) (hK:Kon w) :
 Calls Tryz.prog 161 #[.string o,.int .i64 l,.int .i64 c,.int .i64 f,.int .i64 t,.string x] w fun e w'=>e=.returned (.string ⟨(wk o.data.toList l c f (t - f) x.data.toList).toArray⟩)/\Below w.heap.size w w':=by
 have HK:=Lib.hid hK
 have hmin:min (t:Int) 15=(t:Int):=by omega
 have hmax:max (f:Int) 0=(f:Int):=by omega
 have HX:Hid (x.data.toList.length=16):=Lib.hid (by simpa using hx)
 have hx0:x=⟨x.data.toList.toArray⟩:=by simp
 clear hK
 go_enter Tryz.func161,Tryz.ntmps161
 go_wp2_with fail
 go_loopw [5,13] (fun y k W=>∃ n:Nat,f+n<=t/\k=.int .i64 ((f+n:Nat):Int)/\y=.string ⟨(wk o.data.toList l c f n x.data.toList).toArray⟩/\Below w.heap.size w W) (fun _ k _=>t - (intOf k).toNat)
 case atStart=>exact ⟨0,by omega,rfl,by rw [wk],Below.refl _ _⟩
 case round=>
  obtain ⟨n,hn,rfl,rfl,hb⟩:=hrel
  have hsz:=hb.size
  obtain ⟨s,hs⟩:∃ s,s=f+n:=⟨_,rfl⟩
  rw [<-hs] at hn |-
  by_cases hlt:s<t
  · have hz:=wk_length o.data.toList l c f n x.data.toList HX.out
    have Hstep:Hid (wk o.data.toList l c f (n+1) x.data.toList=tagOf 2 [o.data.toList,placeOf l c s,wk o.data.toList l c f n x.data.toList]):=Lib.hid (by rw [wk,hs])
    generalize wk o.data.toList l c f n x.data.toList=y at hz Hstep |-
    have Hs:=Lib.hid hs
    clear hs
    go_wp2_with fail
    refine (place_any l c s _ hl hc (by omega)).mono ?_
    rintro e w1 ⟨rfl,hb1⟩
    have hT:=Lib.hid (tagged_new 2 [o,⟨(placeOf l c s).toArray⟩,⟨y.toArray⟩] 3 rfl w1 (by decide) (by decide) (by rw [tagIn_len];simp [placeOf,hz];omega) (HK.out.old (hb.trans (hb1.mono hsz))))
    go_wp2_with fail
    refine hT.out.mono ?_
    rintro e w2 ⟨rfl,hb2⟩
    have hb2:Below w.heap.size w w2:=(hb.trans (hb1.mono hsz)).trans (hb2.mono (by have:=hb1.size;omega))
    clear hT
    go_wp2
    go_roundw
    case rel=>exact ⟨n+1,by have:=Hs.out;omega,by have:=Hs.out;go_num,by rw [Hstep.out],hb2⟩
    case measure=>simp [intOf];omega
  · have hst:s=t:=by omega
    have hge:¬ (s:Int)<(t:Int):=by omega
    have Hn:Hid (n=t - f):=Lib.hid (by omega)
    clear hst hlt
    go_wp2
    go_ret
    exact ⟨by rw [Hn.out];rfl,hb⟩
end Go.Proofs.YtcgkomafaepjnaaGreatDoor
