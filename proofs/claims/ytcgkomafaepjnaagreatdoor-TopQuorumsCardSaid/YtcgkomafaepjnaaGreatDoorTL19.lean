/- More of the library's contracts, laid at this program: what they hand back. Conditions: the contracts' own. (Printed by the kit's lay-shelf and lay-plain, cut by a program.) -/
import Derived.Shelf.Unicode.ValidAny
import Derived.Shelf.Strings.MapGrows
import Derived.Shelf.Strings.Count
import Derived.Shelf.Strings.RuneCount
import Derived.Shelf.Small.Utf8
import Derived.Shelf.Slices.Turned
import Derived.Test.YtcgkomafaepjnaaGreatDoorProg
import Derived.Test.YtcgkomafaepjnaaGreatDoorTL1
import Derived.Test.YtcgkomafaepjnaaGreatDoorTL13
import Derived.Test.YtcgkomafaepjnaaGreatDoorTL14
import Derived.Test.YtcgkomafaepjnaaGreatDoorTL15
import Derived.StillTailTactics
import Derived.Test.YtcgkomafaepjnaaGreatDoorTL12
import Derived.Deep.RegionLaw
import Derived.Deep.AppendLies
set_option maxRecDepth 100000
set_option maxHeartbeats 16000000
namespace Go.Proofs
open Go.Shelf
def Tryz.lays118_ren:Go.Shelf.Ren:=⟨fun | 118=>261 | n=>n,fun | 21=>21 | 3=>3 | 4=>4 | n=>n,fun | n=>n⟩
theorem Tryz.lays118:Go.Proofs.Lays.n118 Tryz.prog Tryz.lays118_ren:={
 mixed:=by kernel_rfl
 f118:=Tryz.func261.trans (congrArg some (by kernel_rfl))
 t3:=Tryz.underlying3
 a3:=Tryz.isAgg3
 z3:=Tryz.sizeOf3
 v3:=Tryz.zeroValue3
 t4:=Tryz.underlying4
 a4:=Tryz.isAgg4
 z4:=Tryz.sizeOf4
 v4:=Tryz.zeroValue4
 t21:=Tryz.underlying21
 a21:=Tryz.isAgg21
 z21:=Tryz.sizeOf21
 v21:=Tryz.zeroValue21 }
theorem Tryz.utf8_RuneLen (r:Int) (w:World) :
 Calls Tryz.prog 261 #[.int .i32 r] w fun e w'=>e=.returned (.int .i64 (Lib.runeLen r))/\w'=w:=Any.utf8_RuneLen Tryz.lays118 r w
def Tryz.lays195_ren:Go.Shelf.Ren:=⟨fun | 195=>253 | n=>n,fun | 9=>9 | 3=>3 | 0=>0 | 4=>4 | n=>n,fun | n=>n⟩
theorem Tryz.lays195:Go.Proofs.Lays.n195 Tryz.prog Tryz.lays195_ren:={
 mixed:=by kernel_rfl
 f195:=Tryz.func253.trans (congrArg some (by kernel_rfl))
 t0:=Tryz.underlying0
 a0:=Tryz.isAgg0
 z0:=Tryz.sizeOf0
 v0:=Tryz.zeroValue0
 t3:=Tryz.underlying3
 a3:=Tryz.isAgg3
 z3:=Tryz.sizeOf3
 v3:=Tryz.zeroValue3
 t4:=Tryz.underlying4
 a4:=Tryz.isAgg4
 z4:=Tryz.sizeOf4
 v4:=Tryz.zeroValue4
 t9:=Tryz.underlying9
 a9:=Tryz.isAgg9
 z9:=Tryz.sizeOf9
 v9:=Tryz.zeroValue9 }
def Tryz.lays138_ren:Go.Shelf.Ren:=⟨fun | 138=>259 | 195=>253 | 218=>269 | 143=>270 | 219=>273 | 217=>275 | 225=>276 | 224=>277 | 267=>278 | 266=>279 | 314=>280 | n=>n,fun | 9=>9 | 3=>3 | 4=>4 | 5=>5 | 0=>0 | 46=>97 | 146=>294 | 51=>178 | n=>n,fun | 1=>1 | n=>n⟩
theorem Tryz.lays138:Go.Proofs.Lays.n138 Tryz.prog Tryz.lays138_ren:={
 mixed:=by kernel_rfl
 f138:=Tryz.func259.trans (congrArg some (by kernel_rfl))
 f143:=Tryz.func270.trans (congrArg some (by kernel_rfl))
 f195:=Tryz.func253.trans (congrArg some (by kernel_rfl))
 f217:=Tryz.func275.trans (congrArg some (by kernel_rfl))
 f218:=Tryz.func269.trans (congrArg some (by kernel_rfl))
 f219:=Tryz.func273.trans (congrArg some (by kernel_rfl))
 f224:=Tryz.func277.trans (congrArg some (by kernel_rfl))
 f225:=Tryz.func276.trans (congrArg some (by kernel_rfl))
 f266:=Tryz.func279.trans (congrArg some (by kernel_rfl))
 f267:=Tryz.func278.trans (congrArg some (by kernel_rfl))
 f314:=Tryz.func280.trans (congrArg some (by kernel_rfl))
 t0:=Tryz.underlying0
 a0:=Tryz.isAgg0
 z0:=Tryz.sizeOf0
 v0:=Tryz.zeroValue0
 t3:=Tryz.underlying3
 a3:=Tryz.isAgg3
 z3:=Tryz.sizeOf3
 v3:=Tryz.zeroValue3
 t4:=Tryz.underlying4
 a4:=Tryz.isAgg4
 z4:=Tryz.sizeOf4
 v4:=Tryz.zeroValue4
 t5:=Tryz.underlying5
 a5:=Tryz.isAgg5
 z5:=Tryz.sizeOf5
 v5:=Tryz.zeroValue5
 t9:=Tryz.underlying9
 a9:=Tryz.isAgg9
 z9:=Tryz.sizeOf9
 v9:=Tryz.zeroValue9
 t46:=Tryz.underlying97
 a46:=Tryz.isAgg97
 z46:=Tryz.sizeOf97
 v46:=Tryz.zeroValue97
 t51:=Tryz.underlying178
 a51:=Tryz.isAgg178
 z51:=Tryz.sizeOf178
 v51:=Tryz.zeroValue178
 t146:=Tryz.underlying294
 a146:=Tryz.isAgg294
 z146:=Tryz.sizeOf294
 v146:=Tryz.zeroValue294
 g1:=by kernel_rfl }
open Go.RowKit Go.Lib in
theorem Tryz.strings_Count_one (s:ByteArray) (c:UInt8) (w:World) :
 Calls Tryz.prog 259 #[.string s,.string ⟨#[c]⟩] w fun e w'=>e=.returned (.int .i64 (Lib.countByte s.data.toList c))/\w'=w:=Any.strings_Count_one Tryz.lays138 s c w
open Go.RowKit Go.Lib in
theorem Tryz.utf8_RuneCountInString_ascii (s:ByteArray) (w:World) (hs:s.size<4294967281) (hascii:∀ (j:Nat) b,s.data.toList[j]?=some b->b.toNat<128) :
 Calls Tryz.prog 253 #[.string s] w fun e w'=>e=.returned (.int .i64 s.size)/\w'=w.iter s s.size:=Any.utf8_RuneCountInString_ascii Tryz.lays195 s w hs hascii
def Tryz.lays230_ren:Go.Shelf.Ren:=⟨fun | 230=>234 | 197=>260 | 118=>261 | 165=>148 | 166=>149 | 168=>262 | 270=>263 | 167=>180 | 169=>150 | 260=>271 | 240=>192 | 241=>193 | 242=>272 | 276=>218 | 277=>219 | 278=>274 | n=>n,fun | 107=>327 | 9=>9 | 72=>213 | 0=>0 | 4=>4 | 3=>3 | 21=>21 | 105=>351 | 76=>244 | 5=>5 | 75=>243 | 70=>211 | 20=>20 | 37=>58 | 127=>286 | 119=>363 | 46=>97 | 139=>366 | 138=>365 | 164=>313 | 51=>178 | 80=>47 | n=>n,fun | 3=>3 | 4=>4 | n=>n⟩
theorem Tryz.lays230:Go.Proofs.Lays.n230 Tryz.prog Tryz.lays230_ren:={
 mixed:=by kernel_rfl
 f118:=Tryz.func261.trans (congrArg some (by kernel_rfl))
 f165:=Tryz.func148.trans (congrArg some (by kernel_rfl))
 f166:=Tryz.func149.trans (congrArg some (by kernel_rfl))
 f167:=Tryz.func180.trans (congrArg some (by kernel_rfl))
 f168:=Tryz.func262.trans (congrArg some (by kernel_rfl))
 f169:=Tryz.func150.trans (congrArg some (by kernel_rfl))
 f197:=Tryz.func260.trans (congrArg some (by kernel_rfl))
 f230:=Tryz.func234.trans (congrArg some (by kernel_rfl))
 f240:=Tryz.func192.trans (congrArg some (by kernel_rfl))
 f241:=Tryz.func193.trans (congrArg some (by kernel_rfl))
 f242:=Tryz.func272.trans (congrArg some (by kernel_rfl))
 f260:=Tryz.func271.trans (congrArg some (by kernel_rfl))
 f270:=Tryz.func263.trans (congrArg some (by kernel_rfl))
 f276:=Tryz.func218.trans (congrArg some (by kernel_rfl))
 f277:=Tryz.func219.trans (congrArg some (by kernel_rfl))
 f278:=Tryz.func274.trans (congrArg some (by kernel_rfl))
 t0:=Tryz.underlying0
 a0:=Tryz.isAgg0
 z0:=Tryz.sizeOf0
 v0:=Tryz.zeroValue0
 t3:=Tryz.underlying3
 a3:=Tryz.isAgg3
 z3:=Tryz.sizeOf3
 v3:=Tryz.zeroValue3
 t4:=Tryz.underlying4
 a4:=Tryz.isAgg4
 z4:=Tryz.sizeOf4
 v4:=Tryz.zeroValue4
 t5:=Tryz.underlying5
 a5:=Tryz.isAgg5
 z5:=Tryz.sizeOf5
 v5:=Tryz.zeroValue5
 t9:=Tryz.underlying9
 a9:=Tryz.isAgg9
 z9:=Tryz.sizeOf9
 v9:=Tryz.zeroValue9
 t20:=Tryz.underlying20
 a20:=Tryz.isAgg20
 z20:=Tryz.sizeOf20
 v20:=Tryz.zeroValue20
 t21:=Tryz.underlying21
 a21:=Tryz.isAgg21
 z21:=Tryz.sizeOf21
 v21:=Tryz.zeroValue21
 t37:=Tryz.underlying58
 a37:=Tryz.isAgg58
 z37:=Tryz.sizeOf58
 v37:=Tryz.zeroValue58
 t46:=Tryz.underlying97
 a46:=Tryz.isAgg97
 z46:=Tryz.sizeOf97
 v46:=Tryz.zeroValue97
 t51:=Tryz.underlying178
 a51:=Tryz.isAgg178
 z51:=Tryz.sizeOf178
 v51:=Tryz.zeroValue178
 t70:=Tryz.underlying211
 a70:=Tryz.isAgg211
 z70:=Tryz.sizeOf211
 v70:=Tryz.zeroValue211
 t72:=Tryz.underlying213
 a72:=Tryz.isAgg213
 z72:=Tryz.sizeOf213
 v72:=Tryz.zeroValue213
 t75:=Tryz.underlying243
 a75:=Tryz.isAgg243
 z75:=Tryz.sizeOf243
 v75:=Tryz.zeroValue243
 t76:=Tryz.underlying244
 a76:=Tryz.isAgg244
 z76:=Tryz.sizeOf244
 v76:=Tryz.zeroValue244
 t105:=Tryz.underlying351
 a105:=Tryz.isAgg351
 z105:=Tryz.sizeOf351
 v105:=Tryz.zeroValue351
 t107:=Tryz.underlying327
 a107:=Tryz.isAgg327
 z107:=Tryz.sizeOf327
 v107:=Tryz.zeroValue327
 t119:=Tryz.underlying363
 a119:=Tryz.isAgg363
 z119:=Tryz.sizeOf363
 t127:=Tryz.underlying286
 a127:=Tryz.isAgg286
 z127:=Tryz.sizeOf286
 v127:=Tryz.zeroValue286
 t138:=Tryz.underlying365
 a138:=Tryz.isAgg365
 z138:=Tryz.sizeOf365
 v138:=Tryz.zeroValue365
 t139:=Tryz.underlying366
 a139:=Tryz.isAgg366
 z139:=Tryz.sizeOf366
 v139:=Tryz.zeroValue366
 t164:=Tryz.underlying313
 a164:=Tryz.isAgg313
 z164:=Tryz.sizeOf313
 v164:=Tryz.zeroValue313
 g3:=by kernel_rfl
 g4:=by kernel_rfl }
theorem Tryz.Builder_Extra_230:Builder.Extra Tryz.prog Tryz.lays230_ren:={
 sizeBuilder:=by kernel_rfl
 liesBuilder:=by kernel_rfl
 t5:=Tryz.underlying5
 a5:=Tryz.isAgg5
 z5:=Tryz.sizeOf5
 v5:=Tryz.zeroValue5
 infoByte:=by kernel_rfl
 cellsByte:=by kernel_rfl
 sizeByte:=by kernel_rfl
 neB5:=by decide }
open Go.RowKit Go.Lib in
theorem Tryz.strings_Map_grows (g:Nat) (lb:Array Value) (eg:∀ args w,(callFunc g args).run Tryz.prog w=.ok (.enter g args) w) (f:Int->Int) (s:ByteArray) (w:World) (hs:s.size<35184372088832) (hf:MapGrows Tryz.prog g lb f w) (hnn:∀ x:Nat,x<=1114111->-2147483648<=f x/\f x<=2147483647) (hT:Lib.Utf8Tabs 3 4 w) :
 Calls Tryz.prog 234 #[.func (.func g) #[] lb,.string s] w fun e w'=>e=.returned (.string ⟨(Lib.mapD f s.data.toList).toArray⟩)/\Below w.heap.size w w':=Any.strings_Map_grows Tryz.lays230 Tryz.Builder_Extra_230 g lb eg f s w hs hf hnn hT
def Tryz.lays108_ren:Go.Shelf.Ren:=⟨fun | 108=>217 | n=>n,fun | 28=>82 | 3=>3 | 0=>0 | 4=>4 | n=>n,fun | n=>n⟩
theorem Tryz.lays108:Go.Proofs.Lays.n108 Tryz.prog Tryz.lays108_ren:={
 mixed:=by kernel_rfl
 f108:=Tryz.func217.trans (congrArg some (by kernel_rfl))
 t0:=Tryz.underlying0
 a0:=Tryz.isAgg0
 z0:=Tryz.sizeOf0
 v0:=Tryz.zeroValue0
 t3:=Tryz.underlying3
 a3:=Tryz.isAgg3
 z3:=Tryz.sizeOf3
 v3:=Tryz.zeroValue3
 t4:=Tryz.underlying4
 a4:=Tryz.isAgg4
 z4:=Tryz.sizeOf4
 v4:=Tryz.zeroValue4
 t28:=Tryz.underlying82
 a28:=Tryz.isAgg82
 z28:=Tryz.sizeOf82
 v28:=Tryz.zeroValue82 }
open Go.Lib in
theorem Tryz.slices_Index_int (b off n c:Nat) (zs:List Int) (x:Int) (w:World) (hz:n<=zs.length) (hbig:n<=9223372036854775807) (hc:∀ j,j<zs.length->w.cell? ⟨b,off+j,none⟩=some (.int .i64 (zs.getD j 0))) :
 Calls Tryz.prog 217 #[.slice (some ⟨b,off,none⟩) n c,.int .i64 x] w fun e w'=>e=.returned (.int .i64 (Lib.idxOf (zs.take n) x))/\w'=w:=Any.slices_Index_int Tryz.lays108 b off n c zs x w hz hbig hc
def Tryz.lays196_ren:Go.Shelf.Ren:=⟨fun | 196=>252 | 259=>268 | n=>n,fun | 9=>9 | 4=>4 | 3=>3 | 5=>5 | 12=>12 | 119=>363 | 0=>0 | 46=>97 | 139=>366 | 138=>365 | 53=>67 | n=>n,fun | 3=>3 | 4=>4 | n=>n⟩
theorem Tryz.lays196:Go.Proofs.Lays.n196 Tryz.prog Tryz.lays196_ren:={
 mixed:=by kernel_rfl
 f196:=Tryz.func252.trans (congrArg some (by kernel_rfl))
 f259:=Tryz.func268.trans (congrArg some (by kernel_rfl))
 t0:=Tryz.underlying0
 a0:=Tryz.isAgg0
 z0:=Tryz.sizeOf0
 v0:=Tryz.zeroValue0
 t3:=Tryz.underlying3
 a3:=Tryz.isAgg3
 z3:=Tryz.sizeOf3
 v3:=Tryz.zeroValue3
 t4:=Tryz.underlying4
 a4:=Tryz.isAgg4
 z4:=Tryz.sizeOf4
 v4:=Tryz.zeroValue4
 t5:=Tryz.underlying5
 a5:=Tryz.isAgg5
 z5:=Tryz.sizeOf5
 v5:=Tryz.zeroValue5
 t9:=Tryz.underlying9
 a9:=Tryz.isAgg9
 z9:=Tryz.sizeOf9
 v9:=Tryz.zeroValue9
 t12:=Tryz.underlying12
 a12:=Tryz.isAgg12
 z12:=Tryz.sizeOf12
 v12:=Tryz.zeroValue12
 t46:=Tryz.underlying97
 a46:=Tryz.isAgg97
 z46:=Tryz.sizeOf97
 v46:=Tryz.zeroValue97
 t53:=Tryz.underlying67
 a53:=Tryz.isAgg67
 z53:=Tryz.sizeOf67
 v53:=Tryz.zeroValue67
 t119:=Tryz.underlying363
 a119:=Tryz.isAgg363
 z119:=Tryz.sizeOf363
 t138:=Tryz.underlying365
 a138:=Tryz.isAgg365
 z138:=Tryz.sizeOf365
 v138:=Tryz.zeroValue365
 t139:=Tryz.underlying366
 a139:=Tryz.isAgg366
 z139:=Tryz.sizeOf366
 v139:=Tryz.zeroValue366
 g3:=by kernel_rfl
 g4:=by kernel_rfl }
open Go.RowKit Go.Lib in
theorem Tryz.utf8_ValidString (s:ByteArray) (w:World) (hs:s.size<=9223372036854775807) (hT:Lib.Utf8Tabs (Tryz.lays196_ren.g 3) (Tryz.lays196_ren.g 4) w) :
 Calls Tryz.prog 252 #[.string s] w fun e w'=>e=.returned (.bool (Lib.validD s.data.toList))/\Below w.heap.size w w':=Any.utf8_ValidString Tryz.lays196 s w hs hT
end Go.Proofs
namespace Go.Proofs.YtcgkomafaepjnaaGreatDoor
open Go.RowKit
theorem wneed_any (s f:Nat) (w:World) (hs:s<=1000) (hf:f<=1000) :
 Calls Tryz.prog 23 #[.int .i64 s,.int .i64 f] w fun e w'=>e=.returned (.int .i64 (((s+f)/2+1:Nat):Int))/\w=w':=by
 have e1:max (s:Int) 0=(s:Int):=by omega
 have e2:max (f:Int) 0=(f:Int):=by omega
 have e3:min (s:Int) 1048576=(s:Int):=by omega
 have e4:min (f:Int) 1048576=(f:Int):=by omega
 have e5:IntKind.i64.wrap ((s:Int)+f)=((s+f:Nat):Int):=IntWalk.i64_in _ (by omega)
 have e6:((s+f:Nat):Int).tdiv 2=(((s+f)/2:Nat):Int):=by rw [Int.tdiv_eq_ediv_of_nonneg (by omega)];omega
 have e7:IntKind.i64.wrap ((((s+f)/2:Nat):Int)+1)=(((s+f)/2+1:Nat):Int):=IntWalk.i64_in _ (by omega)
 go_enter Tryz.func23,Tryz.ntmps23
 go_wp2
 go_ret
 exact ⟨by congr 2,rfl⟩
theorem wslot_any (b off n c:Nat) (zs:List Int) (x:Int) (w:World) (hz:n<=zs.length) (hbig:n<=1000) (hc:∀ j,j<zs.length->w.cell? ⟨b,off+j,none⟩=some (.int .i64 (zs.getD j 0))) (i:Int) (hi:(Lib.idxOf (zs.take n) x:Int)=i) :
 Calls Tryz.prog 186 #[.slice (some ⟨b,off,none⟩) n c,.int .i64 x] w fun e w'=>e=.returned (.tuple #[.int .i64 (max i 0),.bool (decide (0<=i))])/\w=w':=by
 have hI:=Lib.hid (Tryz.slices_Index_int b off n c zs x w hz (by omega) hc)
 rw [hi] at hI
 clear hi hc hz
 go_enter Tryz.func186,Tryz.ntmps186
 go_wp2_with fail
 refine hI.out.mono ?_
 rintro e w1 ⟨rfl,rfl⟩
 clear hI
 go_wp2
 go_ret2
 exact ⟨rfl,rfl⟩
def natRow (l:List Nat):Array Value:=(l.map fun (x:Nat)=>Value.int .i64 ((x:Nat):Int)).toArray
theorem natRow_set (l:List Nat) (i v:Nat):(natRow l).setIfInBounds i (.int .i64 (v:Int))=natRow (l.set i v):=by simp [natRow,List.map_set]
theorem natRow_at (l:List Nat) (i:Nat) (h:i<l.length):(natRow l)[i]?=some (.int .i64 ((l.getD i 0:Nat):Int)):=by
 simp [natRow,List.getD_eq_getElem?_getD,List.getElem?_eq_getElem h]
theorem makeRow (n:Nat) (h0:0<n) (h5:n<=5) (w:World):(Instr.makeSlice 82 (.int .i64 n) (.int .i64 n)).run Tryz.prog w=.ok (.slice (some ⟨w.heap.size,0,none⟩) n n) (w.alloc (.cells (natRow (List.replicate n 0)) 3)):=by
 rcases n with _ | _ | _ | _ | _ | _ | n
 · omega
 · kernel_rfl
 · kernel_rfl
 · kernel_rfl
 · kernel_rfl
 · kernel_rfl
 · omega
def swp (l:List Nat) (i j:Nat):List Nat:=(l.set i (l.getD j 0)).set j (l.getD i 0)
def shuf (n:Nat) (z:Nat->Nat):Nat->List Nat
 | 0=>List.range n
 | k+1=>swp (shuf n z k) k (k+z k%(n - k))
theorem shuf_length (n:Nat) (z:Nat->Nat) (k:Nat):(shuf n z k).length=n:=by
 induction k with
 | zero=>simp [shuf]
 | succ k ih=>simp [shuf,swp,ih]
theorem swp_perm (l:List Nat) (i j:Nat) (hi:i<l.length) (hj:j<l.length):(swp l i j).Perm l:=by
 have h:=Array.swap_perm (xs:=l.toArray) (i:=i) (j:=j) (by simpa using hi) (by simpa using hj)
 have e:l.toArray.swap i j (by simpa using hi) (by simpa using hj)=(swp l i j).toArray:=by
  unfold swp
  rw [Array.swap_def]
  simp [List.getD_eq_getElem?_getD,List.getElem?_eq_getElem hi,List.getElem?_eq_getElem hj]
 rw [e] at h
 exact Array.perm_iff_toList_perm.1 h
theorem shuf_perm (n:Nat) (z:Nat->Nat) (k:Nat) (hk:k<=n):(shuf n z k).Perm (List.range n):=by
 induction k with
 | zero=>exact List.Perm.refl _
 | succ k ih=>
   have h1:z k%(n - k)<n - k:=Nat.mod_lt _ (by omega)
   exact (swp_perm _ _ _ (by rw [shuf_length];omega) (by rw [shuf_length];omega)).trans (ih (by omega))
theorem shuf_nodup (n:Nat) (z:Nat->Nat) (k:Nat) (hk:k<=n):(shuf n z k).Nodup:=(shuf_perm n z k hk).nodup_iff.2 List.nodup_range
theorem shuf_lt (n:Nat) (z:Nat->Nat) (k:Nat) (hk:k<=n):∀ x∈shuf n z k,x<n:=fun x hx=>by simpa using (shuf_perm n z k hk).mem_iff.1 hx
def fillL (n k:Nat):List Nat:=List.range k++List.replicate (n - k) 0
theorem fillL_length (n k:Nat) (h:k<=n):(fillL n k).length=n:=by simp [fillL];omega
theorem fillL_set (n k:Nat) (h:k<n):(fillL n k).set k k=fillL n (k+1):=by
 unfold fillL
 rw [List.set_append_right _ _ (by simp),List.length_range,Nat.sub_self,show n - k=(n - (k+1))+1 from by omega,List.replicate_succ,List.set_cons_zero,List.range_succ,List.append_assoc]
 rfl
theorem fillL_zero (n:Nat):fillL n 0=List.replicate n 0:=by simp [fillL]
theorem fillL_full (n:Nat):fillL n n=List.range n:=by simp [fillL]
def winSeed (hd:List UInt8):List UInt8:=tagOf 17 [hd,[0]]
def winT (hd:List UInt8):ByteArray:=⟨(shaOf (winSeed hd++[0,0,0,0])).toArray⟩
def winZ (hd:List UInt8) (k:Nat):Nat:=numTo ((winT hd).extract (8*k) 32) 8
def winL (hd:List UInt8) (n slots:Nat):List Nat:=shuf n (winZ hd) slots
def WinOk (hd:List UInt8):Prop:=∀ k,k<4->winZ hd k<18446744073709551552
def StrK (w:World) (b:Nat) (s t:ByteArray) (k:Nat):Prop:=if k=0 then StrAt w b s 0 ⟨#[]⟩ else StrAt w b s 1 (t.extract (8*k) 32)
theorem strk_ext (t:ByteArray) (k:Nat) (ht:t.size=32):(t.extract (8*k) 32).extract 8 (t.extract (8*k) 32).size=t.extract (8*(k+1)) 32:=by
 rw [ByteArray.size_extract,ByteArray.extract_extract,ht,show min (8*k+(min 32 32 - 8*k)) 32=32 from by omega,show 8*k+8=8*(k+1) from by omega]
theorem strk_next (b:Nat) (s t:ByteArray) (k:Nat) (w:World) (h:StrK w b s t k) (hs:s.size<=1000) (hK:Kon w) (hk:k<=3) (hts:t.size=32) (ht:t=⟨(shaOf (s.data.toList++[0,0,0,0])).toArray⟩) :
 Calls Tryz.prog 184 #[.pointer (some ⟨b,0,none⟩)] w fun e w'=>e=.returned (.int .u64 (numTo (t.extract (8*k) 32) 8))/\StrK w' b s t (k+1)/\Touch (·=b) w w':=by
 have hS:∀ W,StrAt W b s 1 (t.extract (8*(k+1)) 32)->StrK W b s t (k+1):=fun W h=>by unfold StrK;rw [if_neg (by omega)];exact h
 unfold StrK at h
 rcases Nat.eq_zero_or_pos k with rfl | hk0
 · rw [if_pos rfl] at h
   have:=strnext_new b 0 s w h hs (by decide) hK t ⟨(bytesTo 0 4 4).toArray⟩ rfl (by rw [ht];congr 2)
   have e0:t.extract (8*0) 32=t:=by rw [<-hts];exact ByteArray.extract_zero_size
   rw [e0]
   refine this.mono fun e w' h=>⟨h.1,?_,h.2.2⟩
   have h1:=h.2.1
   rw [show t.extract 8 t.size=t.extract (8*(0+1)) 32 from by rw [hts]] at h1
   exact hS _ h1
 · rw [if_neg (by omega)] at h
   have:=strnext_left b 1 s (t.extract (8*k) 32) w h (by rw [ByteArray.size_extract];omega) (by rw [ByteArray.size_extract];omega)
   rw [strk_ext t k hts] at this
   exact this.mono fun e w' h=>⟨h.1,hS _ h.2.1,h.2.2⟩
theorem strk_below (b:Nat) (s t:ByteArray) (n k:Nat) (w:World) (h:k+1<n->StrK w b s t k) (hs:s.size<=1000) (hK:Kon w) (hk:k<n) (hn:n<=5) (hts:t.size=32) (ht:t=⟨(shaOf (s.data.toList++[0,0,0,0])).toArray⟩)
 (hz:∀ k,k<4->numTo (t.extract (8*k) 32) 8<18446744073709551552) :
 Calls Tryz.prog 129 #[.pointer (some ⟨b,0,none⟩),.int .u64 ((n - k:Nat):Int)] w fun e w'=>e=.returned (.int .u64 ((numTo (t.extract (8*k) 32) 8%(n - k):Nat):Int))/\(k+2<n->StrK w' b s t (k+1))/\Touch (·=b) w w':=by
 by_cases h1:k+1<n
 · refine (strbelow_any b (n - k) _ (fun W=>StrK W b s t (k+1)/\Touch (·=b) w W) w (by omega) (by omega) (hz k (by omega)) (strk_next b s t k w (h h1) hs hK (by omega) hts ht)).mono ?_
   rintro e w' ⟨h1,h2,h3⟩
   exact ⟨h1,fun _=>h2,h3⟩
 · refine (strbelow_small b (n - k) w (by omega)).mono ?_
   rintro e w' ⟨rfl,rfl⟩
   refine ⟨by rw [show n - k=1 from by omega,Nat.mod_one];rfl,fun h=>by omega,Touch.drewN _ 0⟩
theorem swap_store {w A:World} {L B:Nat} {l:List Nat} {P:Prop} {sd t:ByteArray} {k:Nat} (i j x y:Nat) (h:A.heap[L]?=some (.cells (natRow l) 3 (0,0))) (hs:P->StrK A B sd t k) (hb:Below w.heap.size w A) (hwL:w.heap.size<=L) (hBL:B≠L) :
 ∃ V,((A.setCell ⟨L,i,none⟩ (.int .i64 x)).setCell ⟨L,j,none⟩ (.int .i64 y)).drew=V/\V.heap[L]?=some (.cells (natRow ((l.set i x).set j y)) 3 (0,0))/\(P->StrK V B sd t k)/\Below w.heap.size w V:=by
 refine ⟨_,rfl,?_,fun hp=>?_,((hb.setCell (p:=⟨L,i,none⟩) hwL _).setCell (p:=⟨L,j,none⟩) hwL _).drew⟩
 · rw [<-natRow_set,<-natRow_set]
   exact heap_setCell_same _ L j _ _ _ (heap_setCell_same A L i _ _ _ h)
 · have h2:=hs hp
   have e:∀ z,((A.setCell ⟨L,i,none⟩ (.int .i64 x)).setCell ⟨L,j,none⟩ (.int .i64 y)).drew.heap[B]?=z ↔ A.heap[B]?=z:=fun z=>by
    rw [show ((A.setCell ⟨L,i,none⟩ (.int .i64 x)).setCell ⟨L,j,none⟩ (.int .i64 y)).drew.heap[B]?=A.heap[B]? from (Below.heap_setCell _ _ _ _ (fun e=>hBL e)).trans (Below.heap_setCell _ _ _ _ (fun e=>hBL e))]
   unfold StrK StrAt at h2 |-
   split at h2 <;> rename_i h0
   · rw [if_pos h0];exact (e _).2 h2
   · rw [if_neg h0];exact (e _).2 h2
theorem wof_any (hd:List UInt8) (n slots:Nat) (w:World) (hn:n<=5) (hs0:0<slots) (hsn:slots<=n) (hl:hd.length=16) (hz:WinOk hd) (hK:Kon w) :
 Calls Tryz.prog 74 #[.string ⟨hd.toArray⟩,.int .i64 0,.int .i64 n,.int .i64 slots] w fun e w'=>∃ g,e=.returned (.tuple #[.slice (some ⟨g,0,none⟩) slots slots,.int .i64 0])/\w'.heap[g]?=some (.cells (natRow (winL hd n slots)) 3 (0,0))/\w.heap.size<=g/\Below w.heap.size w w':=by
 have e1:¬ ((n:Int)<0):=by omega
 have e2:¬ ((64:Int)<(n:Int)):=by omega
 have e3:¬ ((slots:Int)<1):=by omega
 have e4:¬ ((n:Int)<(slots:Int)):=by omega
 have e5:¬ (n<slots):=by omega
 have hu:IntKind.u8.wrap (0:Int)=(0:Int):=by decide
 have hst:∀ W:World,(convert 58 9 (.slice (some ⟨W.heap.size,0,none⟩) 1 1)).run Tryz.prog (W.alloc (.cells #[.int .u8 0] 5))=.ok (.string ⟨[(0:UInt8)].toArray⟩) (W.alloc (.cells #[.int .u8 0] 5)):=by
  intro W
  exact run_string_block Tryz.underlying58 Tryz.underlying5 Tryz.underlying9 (heap_alloc_new W (.cells (bytesV [0]).toArray 5)) rfl
 have hb1:Below w.heap.size w (w.alloc (.cells #[.int .u8 0] 5)):=(Below.refl _ _).alloc (Nat.le_refl _) _
 have hT:Hid (Calls Tryz.prog 9 #[.int .u8 17,.slice (some ⟨w.heap.size+1,0,none⟩) 2 2] ((w.alloc (.cells #[.int .u8 0] 5)).alloc (.cells #[.string ⟨hd.toArray⟩,.string ⟨[(0:UInt8)].toArray⟩] 9)) fun e w'=>e=.returned (.string ⟨(winSeed hd).toArray⟩)/\Below w.heap.size w w'):=Lib.hid (by
  have:=tagged_new 17 [⟨hd.toArray⟩,⟨[(0:UInt8)].toArray⟩] 2 rfl (w.alloc (.cells #[.int .u8 0] 5)) (by decide) (by decide) (by rw [tagIn_len];simp [hl]) (hK.old hb1)
  rw [show (w.alloc (.cells #[.int .u8 0] 5)).heap.size=w.heap.size+1 from by simp] at this
  exact this.mono fun e w' h=>⟨h.1,hb1.trans (h.2.mono (Nat.le_succ _))⟩)
 have HNew:=Lib.hid (fun W=>strnew_any ⟨(winSeed hd).toArray⟩ W)
 have hsd:(winSeed hd).length<=1000:=by unfold winSeed;rw [tagOf_length];decide
 have hBel:=Lib.hid (fun (W:World) (hb:Below w.heap.size w W) (B k:Nat) (hk:k<n) (h:k+1<n->StrK W B ⟨(winSeed hd).toArray⟩ (winT hd) k)=>
  (show Calls Tryz.prog 129 #[.pointer (some ⟨B,0,none⟩),.int .u64 ((n - k:Nat):Int)] W fun e w'=>e=.returned (.int .u64 ((winZ hd k%(n - k):Nat):Int))/\(k+2<n->StrK w' B ⟨(winSeed hd).toArray⟩ (winT hd) (k+1))/\Touch (·=B) W w' from strk_below B ⟨(winSeed hd).toArray⟩ (winT hd) n k W h hsd (hK.old hb) hk hn (by unfold winT;show (shaOf _).toArray.size=32;rw [List.size_toArray,shaOf_length]) rfl hz))
 have HMk:=Lib.hid (fun W=>makeRow n (by omega) hn W)
 have HQ:=Lib.hid (show ∀ k,k<n->winZ hd k%(n - k)<n - k from fun k hk=>Nat.mod_lt _ (by omega))
 have HSh:=Lib.hid (show ∀ k,shuf n (winZ hd) (k+1)=swp (shuf n (winZ hd) k) k (k+winZ hd k%(n - k)) from fun k=>rfl)
 have HSl:=Lib.hid (show ∀ k,(shuf n (winZ hd) k).length=n from shuf_length n (winZ hd))
 have HS0:=Lib.hid (show shuf n (winZ hd) 0=List.range n from rfl)
 unfold winL
 clear hz hK
 generalize winZ hd=z at *
 generalize winSeed hd=sd at *
 generalize winT hd=t at *
 go_enter Tryz.func74,Tryz.ntmps74
 go_wp2_with fail
 refine hT.out.mono ?_
 rintro e w1 ⟨rfl,hb1⟩
 go_wp2_with fail
 refine (HNew.out w1).mono ?_
 rintro e w2 ⟨rfl,hs2,hb2⟩
 have hB2:=hb1.trans (hb2.mono hb1.size)
 have hlB:=lt_of_heap hs2
 have hmk:=HMk.out
 go_wp2_with fail
 clear hmk
 have hr3:(w2.alloc (.cells (natRow (List.replicate n 0)) 3)).heap[w2.heap.size]?=some (.cells (natRow (fillL n 0)) 3 (0,0)):=by rw [fillL_zero];exact heap_alloc_new _ _
 have hs3:StrAt (w2.alloc (.cells (natRow (List.replicate n 0)) 3)) w1.heap.size ⟨sd.toArray⟩ 0 ⟨#[]⟩:=(Below.heap_alloc _ _ _ hlB).trans hs2
 have hB3:Below w.heap.size w (w2.alloc (.cells (natRow (List.replicate n 0)) 3)):=hB2.alloc hB2.size _
 have s2:=hB2.size
 have s1:=hb1.size
 generalize (w2.alloc (.cells (natRow (List.replicate n 0)) 3))=W3 at hr3 hs3 hB3 |-
 obtain ⟨L,hL⟩:∃ L,L=w2.heap.size:=⟨_,rfl⟩
 obtain ⟨B,hBe⟩:∃ B,B=w1.heap.size:=⟨_,rfl⟩
 rw [<-hL] at hr3 |-
 rw [<-hBe] at hs3 hlB |-
 have hwL:w.heap.size<=L:=by omega
 have hwB:w.heap.size<=B:=by omega
 have hBL:B≠L:=by omega
 have HL:=Lib.hid (And.intro hL hBe)
 clear hL hBe hb1 hb2 hs2 hlB hB2 s1 s2 hu hst hT HNew HMk
 go_loopw [50] (fun i W=>∃ k:Nat,k<=n/\i=.int .i64 k/\W.heap[L]?=some (.cells (natRow (fillL n k)) 3 (0,0))/\StrAt W B ⟨sd.toArray⟩ 0 ⟨#[]⟩/\Below w.heap.size w W) (fun i _=>n - (intOf i).toNat)
 case atStart=>exact ⟨0,Nat.zero_le _,rfl,hr3,hs3,hB3⟩
 case round=>
  obtain ⟨k,hk,rfl,hg,hs,hb⟩:=hrel
  by_cases hlt:k<n
  · have zk:wr.cell? ⟨L,k,none⟩=some (.int .i64 (((fillL n k).getD k 0:Nat):Int)):=by rw [cell_of_row _ _ k _ _ _ hg];exact natRow_at _ _ (by rw [fillL_length n k hk];exact hlt)
    have fk:wr.frozen? ⟨L,k,none⟩=false:=frozen_of_row _ _ k _ _ hg
    have hk8:(k:Int)<n:=by omega
    have Hg2:=Lib.hid (show (wr.setCell ⟨L,k,none⟩ (.int .i64 k)).heap[L]?=some (.cells (natRow (fillL n (k+1))) 3 (0,0)) by rw [<-fillL_set n k hlt,<-natRow_set];exact heap_setCell_same wr L k _ _ _ hg)
    have Hs2:=Lib.hid (show StrAt (wr.setCell ⟨L,k,none⟩ (.int .i64 k)) B ⟨sd.toArray⟩ 0 ⟨#[]⟩ from (Below.heap_setCell _ _ _ _ (fun e=>hBL e)).trans hs)
    have Hb2:=Lib.hid (show Below w.heap.size w (wr.setCell ⟨L,k,none⟩ (.int .i64 k)) from hb.setCell hwL _)
    clear hg hs hb
    go_wp2
    go_roundw
    case rel=>exact ⟨k+1,by omega,by go_num,Hg2.out,Hs2.out,Hb2.out⟩
    case measure=>simp [intOf];omega
  · obtain rfl:k=n:=by omega
    have hg0:wr.heap[L]?=some (.cells (natRow (shuf k z 0)) 3 (0,0)):=by rw [HS0.out,<-fillL_full];exact hg
    have hs0:0+1<k->StrK wr B ⟨sd.toArray⟩ t 0:=fun _=>by unfold StrK;rw [if_pos rfl];exact hs
    clear hg hs hr3 hs3 hB3 HS0 hlt hk
    go_wp2_with fail
    go_loopw [59] (fun i W=>∃ m:Nat,m<=slots/\i=.int .i64 m/\W.heap[L]?=some (.cells (natRow (shuf k z m)) 3 (0,0))/\(m+1<k->StrK W B ⟨sd.toArray⟩ t m)/\Below w.heap.size w W) (fun i _=>slots - (intOf i).toNat)
    case atStart=>exact ⟨0,Nat.zero_le _,rfl,hg0,hs0,hb⟩
    case round=>
     clear hg0 hs0 hb
     obtain ⟨m,hm,rfl,hg,hs,hb⟩:=hrel
     by_cases hlt:m<slots
     · have hmk:m<k:=by omega
       have hm8:(m:Int)<slots:=by omega
       obtain ⟨q,hq⟩:∃ q,q=z m%(k - m):=⟨_,rfl⟩
       have hqlt:q<k - m:=by rw [hq];exact HQ.out m hmk
       have hcall:=hBel.out wr hb B m hmk hs
       rw [<-hq] at hcall
       have w1:IntKind.i64.wrap ((k:Int) - m)=((k - m:Nat):Int):=by rw [IntWalk.i64_in _ (by omega)];omega
       have w2:IntKind.u64.wrap ((k - m:Nat):Int)=((k - m:Nat):Int):=wrap_u64 _ (by omega) (by omega)
       have w3:IntKind.i64.wrap ((q:Nat):Int)=(q:Int):=IntWalk.i64_in _ (by omega)
       obtain ⟨i,hi⟩:∃ i,i=m+q:=⟨_,rfl⟩
       have w4:IntKind.i64.wrap ((m:Int)+(q:Int))=(i:Int):=by rw [IntWalk.i64_in _ (by omega)];omega
       have hik:i<k:=by omega
       have w5:(m:Int)+(q:Int)=(i:Int):=by omega
       have HR:=Lib.hid (And.intro hg hb)
       have hln:=HSl.out m
       have HSm:=Lib.hid (HSh.out m)
       rw [<-hq,<-hi] at HSm
       clear hi hq hg hb hs HSh HQ hBel HSl
       go_wp2_with fail
       refine hcall.mono ?_
       rintro e wA ⟨rfl,hsA,hTA⟩
       have hgA:=hTA.heap (k:=L) (o:=.cells (natRow (shuf k z m)) 3 (0,0)) HR.out.1 (fun e=>hBL e.symm)
       have hbA:Below w.heap.size w wA:=HR.out.2.trans (hTA.below (fun j hj=>hj.symm ▸ hwB) HR.out.2.size)
       clear hcall hTA
       generalize shuf k z m=l at hgA hln HSm
       have x0:wA.cell? ⟨L,m,none⟩=some (.int .i64 ((l.getD m 0:Nat):Int)):=by rw [cell_of_row _ _ m _ _ _ hgA];exact natRow_at _ _ (by omega)
       have x1:wA.cell? ⟨L,i,none⟩=some (.int .i64 ((l.getD (i) 0:Nat):Int)):=by rw [cell_of_row _ _ (i) _ _ _ hgA];exact natRow_at _ _ (by omega)
       have f0:wA.frozen? ⟨L,m,none⟩=false:=frozen_of_row _ _ m _ _ hgA
       have f1:wA.frozen? ⟨L,i,none⟩=false:=frozen_of_row _ _ (i) _ _ hgA
       have b1:(i:Int)<k:=by omega
       have b0:(m:Int)<k:=by omega
       have hsw:swp l m (i)=(l.set m (l.getD (i) 0)).set (i) (l.getD m 0):=rfl
       generalize l.getD m 0=y0 at x0 hsw
       generalize l.getD (i) 0=y1 at x1 hsw
       have HA:=Lib.hid (And.intro hgA (And.intro hsA hbA))
       have HSw:=Lib.hid hsw
       clear hgA hsA hbA hsw hln
       by_cases hq0:i=m
       · subst hq0
         have hyy:y1=y0:=by
          rw [x0] at x1
          have:=Option.some.inj x1
          injection this with _ h
          omega
         subst hyy
         clear x1 f1 b1
         go_wp2_with fail
         go_region_law (fail)
         all_goals
          obtain ⟨V,hV,h1,h2,h3⟩:=swap_store i i y1 y1 HA.out.1 HA.out.2.1 HA.out.2.2 hwL hBL
          rw [hV]
          have HV:=Lib.hid (And.intro h1 (And.intro h2 h3))
          clear hV h1 h2 h3
          go_wp2
          go_roundw
          case rel=>exact ⟨i+1,by omega,by go_num,by rw [HSm.out,HSw.out];exact HV.out.1,HV.out.2.1,HV.out.2.2⟩
          case measure=>simp [intOf];omega
       · have hne:m≠i:=fun e=>hq0 e.symm
         have hne':i≠m:=hq0
         go_wp2_with fail
         go_region_law (fail)
         all_goals
          obtain ⟨V,hV,h1,h2,h3⟩:=swap_store m i y1 y0 HA.out.1 HA.out.2.1 HA.out.2.2 hwL hBL
          obtain ⟨V',hV',h1',h2',h3'⟩:=swap_store i m y0 y1 HA.out.1 HA.out.2.1 HA.out.2.2 hwL hBL
          rw [List.set_comm _ _ hne'] at h1'
          have HV:=Lib.hid (And.intro h1 (And.intro h2 h3))
          have HV':=Lib.hid (And.intro h1' (And.intro h2' h3'))
          first | rw [hV] | rw [hV']
          clear hV h1 h2 h3 hV' h1' h2' h3'
          go_wp2
          go_roundw
          case rel=>exact ⟨m+1,by omega,by go_num,by rw [HSm.out,HSw.out];first | exact HV.out.1 | exact HV'.out.1,by first | exact HV.out.2.1 | exact HV'.out.2.1,by first | exact HV.out.2.2 | exact HV'.out.2.2⟩
          case measure=>simp [intOf];omega
     · obtain rfl:m=slots:=by omega
       have HG:=Lib.hid (And.intro hg hb)
       have hm9:(m:Int)<=k:=by omega
       have hm0:(0:Int)<=m:=by omega
       clear hg hs hb hlt HSh HQ hBel HSl
       go_wp2
       go_ret2
       exact ⟨L,rfl,HG.out.1,hwL,HG.out.2⟩
def voteC (ep b:Nat) (hd:List UInt8) (num:Nat) (si:Int) (a1:Option Addr) (n1 c1:Nat) (a2:Option Addr) (n2 c2:Nat) (s:ByteArray) (o r:List UInt8) (h:Nat) (pa:Option Addr) (pn pc:Nat) (th:Bool) (pk pv:List UInt8):Array Value:=
 #[.int .u64 ep,.int .i64 b,.string ⟨hd.toArray⟩,.int .i64 num,.int .i64 si,.slice a1 n1 c1,.slice a2 n2 c2,.string s,.string ⟨o.toArray⟩,.string ⟨r.toArray⟩,.int .i64 h,.slice pa pn pc,.bool th,.string ⟨pk.toArray⟩,.string ⟨pv.toArray⟩]
theorem vslot_any (ep b:Nat) (hd:List UInt8) (num:Nat) (si:Int) (a1:Option Addr) (n1 c1:Nat) (a2:Option Addr) (n2 c2:Nat) (s:ByteArray) (o r:List UInt8) (h:Nat) (pa:Option Addr) (pn pc:Nat) (th:Bool) (pk pv:List UInt8) (wg N wc g n c:Nat) (zs:List Int) (w:World) (hb:b<N)
 (hw:w.cell? ⟨wg,b,none⟩=some (.slice (some ⟨g,0,none⟩) n c)) (hz:n<=zs.length) (hbig:n<=1000) (hc:∀ j,j<zs.length->w.cell? ⟨g,j,none⟩=some (.int .i64 (zs.getD j 0))) (i:Nat) (hi:(Lib.idxOf (zs.take n) (num:Int):Int)=(i:Int)) :
 Calls Tryz.prog 138 #[.agg (voteC ep b hd num si a1 n1 c1 a2 n2 c2 s o r h pa pn pc th pk pv),.slice (some ⟨wg,0,none⟩) N wc] w fun e w'=>e=.returned (.bool true)/\Below w.heap.size w w':=by
 have hS:=Lib.hid (fun (W:World) (hb:Below w.heap.size w W)=>wslot_any g 0 n c zs num W hz hbig (fun j hj=>by
  rw [Nat.zero_add]
  exact (hb.cell (World.block_lt_of_cell? _ _ (hc j hj))).trans (hc j hj)) i hi)
 have HW:=Lib.hid (fun (W:World) (hb:Below w.heap.size w W)=>((hb.cell (World.block_lt_of_cell? _ _ hw)).trans hw:W.cell? ⟨wg,b,none⟩=some (.slice (some ⟨g,0,none⟩) n c)))
 have e1:¬ ((b:Int)<0):=by omega
 have e2:¬ ((N:Int)<=(b:Int)):=by omega
 have e3:¬ (N<=b):=by omega
 have e4:(decide ((0:Int)<=(i:Int)))=true:=by simp
 rw [e4] at hS
 have hb1:Below w.heap.size w (w.alloc (.cells (voteC ep b hd num si a1 n1 c1 a2 n2 c2 s o r h pa pn pc th pk pv) 92)):=(Below.refl _ _).alloc (Nat.le_refl _) _
 have hr1:(w.alloc (.cells (voteC ep b hd num si a1 n1 c1 a2 n2 c2 s o r h pa pn pc th pk pv) 92)).heap[w.heap.size]?=some (.cells (voteC ep b hd num si a1 n1 c1 a2 n2 c2 s o r h pa pn pc th pk pv) 92 (0,0)):=heap_alloc_new _ _
 clear hw hc hi hz hbig
 unfold voteC at hb1 hr1 |-
 go_enter Tryz.func138,Tryz.ntmps138
 go_wp2_with fail
 generalize hW1:(w.alloc _)=W1 at hb1 hr1 |-
 clear hW1
 obtain ⟨H,hH⟩:∃ H,H=w.heap.size:=⟨_,rfl⟩
 obtain ⟨Pre,hPre⟩:∃ Pre:World->Prop,Pre=fun W=>Below W1.heap.size W1 W:=⟨_,rfl⟩
 have s1:=hb1.size
 have hpw:∀ A,Pre A->Below w.heap.size w A:=by
  intro A hA
  rw [hPre] at hA
  exact hb1.trans (hA.mono s1)
 have hcp:=Lib.hid (fun A (hA:Pre A)=>(show A.cell? ⟨H,1,none⟩=some (.int .i64 b)/\A.cell? ⟨H,3,none⟩=some (.int .i64 num)/\A.cell? ⟨wg,b,none⟩=some (.slice (some ⟨g,0,none⟩) n c) by
  have hA':=hA
  rw [hPre] at hA'
  have hr:=(hA'.block _ (lt_of_heap hr1)).trans hr1
  rw [hH]
  refine ⟨?_,?_,HW.out A (hpw A hA)⟩
  · rw [cell_of_row _ _ 1 _ _ _ hr];rfl
  · rw [cell_of_row _ _ 3 _ _ _ hr];rfl))
 have q0:=Lib.hid (fun A (hA:Pre A)=>(hS.out A (hpw A hA)).mono (R':=fun e w'=>e=.returned (.tuple #[.int .i64 (max (i:Int) 0),.bool true])/\Pre w') fun e w' hh=>⟨hh.1,hh.2 ▸ hA⟩)
 have hpre0:Pre W1.drew:=by rw [hPre];exact below_drew W1
 have HH:=Lib.hid hH
 have HPW:=Lib.hid hpw
 clear hH hPre hb1 hr1 hpw hS s1
 rw [<-HH.out]
 go_region_held3 (fun A=>A.cell? ⟨H,1,none⟩=some (.int .i64 b)/\A.cell? ⟨H,3,none⟩=some (.int .i64 num)/\A.cell? ⟨wg,b,none⟩=some (.slice (some ⟨g,0,none⟩) n c)) (first | exact hcp.out _ (by assumption))
  (first
    | (go_at_call 186;with_reducible refine (q0.out _ (by assumption)).mono ?_;rintro e wA ⟨rfl,hpreA⟩))
 have HQ:=Lib.hid (HPW.out _ hpreA)
 clear hcp q0 hpreA hpre0
 go_wp2
 go_ret
 exact ⟨rfl,HQ.out⟩
theorem runeLen_one (r:Int) (w:World) (h1:97<=r) (h2:r<=122) :
 Calls Tryz.prog 261 #[.int .i32 r] w fun e w'=>e=.returned (.int .i64 1)/\w=w':=by
 refine (Tryz.utf8_RuneLen r w).mono fun e w' h=>⟨?_,h.2.symm⟩
 rw [h.1]
 have e1:Lib.runeLen r=1:=by unfold Lib.runeLen;rw [if_neg (by omega),if_pos (by omega)]
 rw [e1]
theorem labParts_any (s:ByteArray) (w:World) (hlow:Low s) (h64:s.size<=1000) :
 Calls Tryz.prog 256 #[.string s] w fun e w'=>e=.returned (.slice (some ⟨w.heap.size,0,none⟩) 1 1)/\w'.cell? ⟨w.heap.size,0,none⟩=some (.string s)/\Below w.heap.size w w':=by
 have HL:=Lib.hid hlow
 clear hlow
 go_enter Tryz.func256,Tryz.ntmps256
 go_wp2_with fail
 have hb1:Below w.heap.size w ((w.alloc (.cells #[.string ⟨#[]⟩] 9)).iter s 0):=((Below.refl _ _).alloc (Nat.le_refl _) _).alloc (by simp) _
 have hk1:((w.alloc (.cells #[.string ⟨#[]⟩] 9)).iter s 0).heap[w.heap.size+1]?=some (.stringIter s 0):=heap_alloc2_new _ _ _
 have hr1:((w.alloc (.cells #[.string ⟨#[]⟩] 9)).iter s 0).heap[w.heap.size]?=some (.cells #[.string (s.extract 0 0)] 9 (0,0)):=by
  rw [show s.extract 0 0=⟨#[]⟩ from by apply ByteArray.ext;simp]
  unfold World.iter
  rw [Below.heap_alloc _ _ _ (by simp)];exact heap_alloc_new _ _
 generalize ((w.alloc (.cells #[.string ⟨#[]⟩] 9)).iter s 0)=W1 at hb1 hk1 hr1 |-
 go_loopw [3] (fun v W=>∃ i:Nat,i<=s.size/\v=.slice (some ⟨w.heap.size,0,none⟩) 1 1/\W.heap[w.heap.size]?=some (.cells #[.string (s.extract 0 i)] 9 (0,0))/\W.heap[w.heap.size+1]?=some (.stringIter s i)/\Below w.heap.size w W) (fun _ W=>s.size - W.iterPos (w.heap.size+1))
 case atStart=>exact ⟨0,Nat.zero_le _,rfl,hr1,hk1,hb1⟩
 case round=>
  obtain ⟨i,hi,rfl,hr,hk,hb⟩:=hrel
  clear hk1 hb1 hr1
  by_cases hlt:i<s.size
  · obtain ⟨l1,l2⟩:=HL.out i hlt
    obtain ⟨c,hc⟩:∃ c:Nat,(s[i]'hlt).toNat=c:=⟨_,rfl⟩
    rw [hc] at l1 l2
    have hnx:=fun ty=>Lib.run_next_ascii_at (P:=Tryz.prog) wr (w.heap.size+1) s i ty hk hlt (by omega)
    rw [hc] at hnx
    have hbI:=Lib.below_iterAt hb (Nat.le_succ _) s (i+1)
    have hkI:=Lib.iterAt_heap wr (w.heap.size+1) s i (i+1) hk
    have hrI:=(Lib.iterAt_other wr (w.heap.size+1) w.heap.size s (i+1) (by omega)).trans hr
    have hpos:wr.iterPos (w.heap.size+1)=i:=by simp [World.iterPos,hk]
    have Hpos:=Lib.hid hpos
    generalize wr.iterAt (w.heap.size+1) s (i+1)=W2 at hnx hbI hkI hrI
    have hlen:=Lib.hid (runeLen_one (c:Int) W2 (by omega) (by omega))
    have hsep:=Lib.hid (separator_no (c:Int) W2 (by omega) (by omega))
    have hne:((c:Int)==65533)=false:=by simp;omega
    have hw1:IntKind.i64.wrap ((i:Int)+1)=(i:Int)+1:=by rw [IntKind.wrap_i64];omega
    have e1:(s.extract 0 i).size=i:=by rw [ByteArray.size_extract];omega
    have e2:(s.extract i (i+1)).size=1:=by rw [ByteArray.size_extract];omega
    have hadd:∀ W,(Op.stringOp .add (s.extract 0 i) (s.extract i (i+1))).run Tryz.prog W=.ok (.string (s.extract 0 i++s.extract i (i+1))) W:=fun W=>run_string_add_sum W _ _ (by rw [e1,e2];omega)
    clear e1 e2
    have hw0:IntKind.i64.wrap 0=0:=by kernel_rfl
    have hi0:(0:Int)<=(i:Int):=by omega
    have hi1:(i:Int)+1<=(s.size:Int):=by omega
    have HbI:=Lib.hid hbI
    have HkI:=Lib.hid hkI
    have HrI:=Lib.hid hrI
    have c0:W2.cell? ⟨w.heap.size,0,none⟩=some (.string (s.extract 0 i)):=cel hrI
    have f0:W2.frozen? ⟨w.heap.size,0,none⟩=false:=frozen_of_row _ _ 0 _ _ hrI
    have hsl:∀ W,(Instr.slice 9 (.string s) (some (.int .i64 (i:Int))) (some (.int .i64 ((i:Int)+1))) none).run Tryz.prog W=.ok (.string (s.extract i (i+1))) W:=fun W=>by
     go_simp
     rw [if_pos (by omega),if_pos (by omega)]
    clear hc hb hk hr hbI hkI hrI hpos
    go_wp2_with fail
    refine hlen.out.mono ?_
    rintro e w3 ⟨rfl,rfl⟩
    clear hlen hnx
    go_wp2_with fail
    refine hsep.out.mono ?_
    rintro e w3 ⟨rfl,rfl⟩
    clear hsep
    go_wp2_with fail
    go_still_tail 14,(by kernel_rfl)
    change wpList _ _ _ _ _ W2.drew
    have hT:Touch (·=w.heap.size) W2 (W2.drew.setCell ⟨w.heap.size,0,none⟩ (.string (s.extract 0 (i+1)))):=(Touch.drewN (S:=(·=w.heap.size)) W2 1).trans (Touch.setCell (S:=(·=w.heap.size)) _ _ _ rfl)
    have hr3:(W2.drew.setCell ⟨w.heap.size,0,none⟩ (.string (s.extract 0 (i+1)))).heap[w.heap.size]?=some (.cells #[.string (s.extract 0 (i+1))] 9 (0,0)):=heap_setCell_same W2.drew w.heap.size 0 _ _ _ HrI.out
    have hk3:=hT.heap HkI.out (show ¬ (w.heap.size+1=w.heap.size) by omega)
    have hB3:=HbI.out.trans (hT.below (B:=w.heap.size) (fun j e=>by omega) HbI.out.size)
    have c0:W2.drew.cell? ⟨w.heap.size,0,none⟩=_:=c0
    have f0:W2.drew.frozen? ⟨w.heap.size,0,none⟩=_:=f0
    clear hT
    generalize W2.drew=W4 at c0 f0 hr3 hk3 hB3 |-
    go_wp2
    go_roundw
    case rel=>exact ⟨i+1,by omega,rfl,hr3,hk3,hB3⟩
    case measure=>have h3:(W4.setCell ⟨w.heap.size,0,none⟩ (.string (s.extract 0 (i+1)))).iterPos (w.heap.size+1)=i+1:=by simp only [World.iterPos,hk3]
                  rw [h3,Hpos.out];omega
  · have hnx:=fun ty=>Lib.run_next_end_at (P:=Tryz.prog) wr (w.heap.size+1) s i ty hk hlt
    have hx:s.extract 0 i=s:=by
     apply ByteArray.ext
     rw [ByteArray.data_extract]
     exact Array.extract_eq_self_of_le (by show s.size<=i;omega)
    have c0:wr.cell? ⟨w.heap.size,0,none⟩=some (.string (s.extract 0 i)):=cel hr
    rw [hx] at c0
    have C0:=Lib.hid c0
    clear c0 hr hx
    go_wp2
    go_ret
    exact ⟨rfl,C0.out,hb⟩
theorem low_count (s:ByteArray) (h:Low s):Lib.countByte s.data.toList 64=0:=by
 refine List.count_eq_zero.2 fun hm=>?_
 obtain ⟨i,hi,he⟩:=List.mem_iff_getElem.1 hm
 have hs:i<s.size:=by simpa using hi
 have:=h i hs
 have e2:(s[i]'hs)=64:=he
 rw [e2] at this
 exact absurd this.1 (by decide)
theorem labRight_any (s:ByteArray) (w:World) (hlow:Low s) (h0:0<s.size) (h64:s.size<=64) (hA:Alp w) :
 Calls Tryz.prog 233 #[.string s] w fun e w'=>e=.returned (.bool true)/\Below w.heap.size w w':=by
 have HA:=Lib.hid hA
 have HL:=Lib.hid hlow
 have HAL:=Lib.hid (fun (W:World) (h:Alp W)=>alphabets_any s W hlow h0 (by omega) h)
 have HC:=Lib.hid (low_count s hlow)
 have HPA:=Lib.hid (fun (W:World)=>labParts_any s W hlow (by omega))
 clear hA hlow
 go_enter Tryz.func233,Tryz.ntmps233
 go_wp2_with fail
 have hb1:Below w.heap.size w (w.iter s 0):=(Below.refl _ _).alloc (Nat.le_refl _) _
 have hk1:(w.iter s 0).heap[w.heap.size]?=some (.stringIter s 0):=World.iter_heap _ _ _
 generalize w.iter s 0=W1 at hb1 hk1 |-
 go_loopw [4] (fun _ W=>∃ i:Nat,i<=s.size/\W.heap[w.heap.size]?=some (.stringIter s i)/\Below w.heap.size w W) (fun _ W=>s.size - W.iterPos w.heap.size)
 case atStart=>exact ⟨0,Nat.zero_le _,hk1,hb1⟩
 case round=>
  obtain ⟨i,hi,hk,hb⟩:=hrel
  clear hk1 hb1
  by_cases hlt:i<s.size
  · obtain ⟨l1,l2⟩:=HL.out i hlt
    obtain ⟨c,hc⟩:∃ c:Nat,(s[i]'hlt).toNat=c:=⟨_,rfl⟩
    rw [hc] at l1 l2
    have hnx:=fun ty=>Lib.run_next_ascii_at (P:=Tryz.prog) wr w.heap.size s i ty hk hlt (by omega)
    rw [hc] at hnx
    have hbI:=Lib.below_iterAt hb (Nat.le_refl _) s (i+1)
    have hkI:=Lib.iterAt_heap wr w.heap.size s i (i+1) hk
    have hpos:wr.iterPos w.heap.size=i:=by simp [World.iterPos,hk]
    have Hpos:=Lib.hid hpos
    generalize wr.iterAt w.heap.size s (i+1)=W2 at hnx hbI hkI
    have hlet:=Lib.hid (letter_any (c:Int) W2 (by omega) (by omega) (HA.out.old hbI))
    have HbI:=Lib.hid hbI
    have HkI:=Lib.hid hkI
    have s2:=hbI.size
    have hlt2:w.heap.size<W2.heap.size:=(Array.getElem?_eq_some_iff.1 hkI).1
    clear hc hb hk hbI hkI hpos
    go_wp2_with fail
    refine hlet.out.mono ?_
    rintro e w3 ⟨rfl,hb3⟩
    have hk3:=(hb3.block w.heap.size hlt2).trans HkI.out
    have hB3:=HbI.out.trans (hb3.mono s2)
    clear hlet hb3 hnx
    go_wp2
    go_roundw
    case rel=>exact ⟨i+1,by omega,hk3,hB3⟩
    case measure=>have h3:w3.iterPos w.heap.size=i+1:=by simp [World.iterPos,hk3]
                  rw [h3,Hpos.out];omega
  · have hnx:=fun ty=>Lib.run_next_end_at (P:=Tryz.prog) wr w.heap.size s i ty hk hlt
    have sz:=hb.size
    have HB:=Lib.hid hb
    clear hb
    go_wp2_with fail
    refine (HPA.out wr).mono ?_
    rintro e w4 ⟨rfl,hc4,hb4⟩
    have HB4:=Lib.hid (HB.out.trans (hb4.mono sz))
    clear hb4 hnx hk
    go_wp2_with fail
    refine wp_loop_rounds 2 ?_
    rw [rounds_succ]
    have hE:s.toList.isEmpty=false:=by
     rw [ByteArray.toList_eq,List.isEmpty_eq_false_iff]
     intro e
     have h2:s.data.toList.length=s.size:=Array.length_toList
     rw [e] at h2
     have h3:s.size=0:=h2.symm
     omega
    have hE2:¬ s.toList=[]:=by
     rw [ByteArray.toList_eq]
     intro e
     have h2:s.data.toList.length=s.size:=Array.length_toList
     rw [e] at h2
     have h3:s.size=0:=h2.symm
     omega
    go_wp2_with fail
    refine (HAL.out w4 (HA.out.old HB4.out)).mono ?_
    rintro e w5 ⟨rfl,hb5⟩
    have HB5:=Lib.hid (HB4.out.trans (hb5.mono HB4.out.size))
    clear hb5 hc4
    go_wp2_with fail
    refine (lone_one w5).mono ?_
    rintro e w6 ⟨rfl,rfl⟩
    go_wp2_with fail
    rw [rounds_succ]
    go_wp2_with fail
    refine (Tryz.strings_Count_one s 64 w5).mono ?_
    rintro e w6 ⟨rfl,rfl⟩
    rw [HC.out]
    go_wp2
    go_ret
    exact ⟨rfl,HB5.out⟩
structure Kons (w:World):Prop where
 kon:Kon w
 alp:Alp w
 tab:Lib.Utf8Tabs (Tryz.lays196_ren.g 3) (Tryz.lays196_ren.g 4) w
theorem cell_old {w w':World} {b j:Nat} {v:Value} (hb:Below w.heap.size w w') (h:w.cell? ⟨b,j,none⟩=some v):w'.cell? ⟨b,j,none⟩=some v:=
 (hb.cell (p:=⟨b,j,none⟩) (World.block_lt_of_cell? w _ h)).trans h
theorem Kons.old {w w':World} (h:Kons w) (hb:Below w.heap.size w w'):Kons w':=
 ⟨h.kon.old hb,h.alp.old hb,fun c hc=>cell_old hb (h.tab.1 c hc),fun i hi=>⟨cell_old hb (h.tab.2 i hi).1,cell_old hb (h.tab.2 i hi).2⟩⟩
theorem low_ascii {s:ByteArray} (h:Low s):∀ b∈s.data.toList,97<=b.toNat/\b.toNat<=122:=by
 intro b hb
 obtain ⟨i,hi,rfl⟩:=List.mem_iff_getElem.1 hb
 have hs:i<s.size:=by simpa using hi
 exact h i hs
theorem low_valid (s:ByteArray) (h:Low s):Lib.validD s.data.toList=true:=by
 rw [Lib.validD_ascii s.data.toList.length s.data.toList (fun b hb=>by have:=low_ascii h b (List.mem_of_mem_take hb);omega),List.drop_length]
 rfl
theorem low_map:∀ l:List UInt8,(∀ b∈l,97<=b.toNat/\b.toNat<=122)->Lib.mapD smallF l=l
 | [],_=>rfl
 | b :: t,h=>by
   have hb:=h b (by simp)
   have hd:Lib.decodeL (b :: t)=(b.toNat,1):=Lib.decodeL_ascii b t (by omega)
   have hf:smallF (b.toNat:Int)=(b.toNat:Int):=by
    unfold smallF
    rw [if_neg (by omega),if_neg (by omega),if_neg (by omega)]
   rw [Lib.mapD_same smallF (b :: t) (by simp) (by rw [hd];exact hf) (by rw [hd];intro e;have:=e.1;simp at this;omega),hd]
   show [b]++Lib.mapD smallF t=_
   rw [low_map t (fun c hc=>h c (by simp [hc]))]
   rfl
theorem runes_any (s:ByteArray) (w:World) (hlow:Low s) (h64:s.size<=64) (hT:Kons w) :
 Calls Tryz.prog 232 #[.string s] w fun e w'=>e=.returned (.tuple #[.int .i64 s.size,.bool true])/\Below w.heap.size w w':=by
 have hv:=Tryz.utf8_ValidString s w (by omega) hT.tab
 rw [low_valid s hlow] at hv
 have hc:=Lib.hid (fun W=>Tryz.utf8_RuneCountInString_ascii s W (by omega) (fun j b hb=>by have:=low_ascii hlow b (List.mem_of_getElem? hb);omega))
 clear hT
 go_enter Tryz.func232,Tryz.ntmps232
 go_wp2_with fail
 refine hv.mono ?_
 rintro e w1 ⟨rfl,hb1⟩
 clear hv
 go_wp2_with fail
 refine (hc.out w1).mono ?_
 rintro e w2 ⟨rfl,rfl⟩
 have hb2:Below w.heap.size w (w1.iter s s.size):=hb1.alloc hb1.size _
 generalize w1.iter s s.size=w3 at hb2
 clear hb1 hc
 go_wp2
 go_ret2
 exact ⟨rfl,hb2⟩
theorem normal_any (s:ByteArray) (w:World) (hlow:Low s) (h0:0<s.size) (h64:s.size<=64) (hT:Kons w) :
 Calls Tryz.prog 199 #[.string s] w fun e w'=>e=.returned (.tuple #[.string s,.int .i64 0])/\Below w.heap.size w w':=by
 have HT:=Lib.hid hT
 have hr:=Lib.hid (runes_any s w hlow h64 hT)
 have hg:=Lib.hid (fun W (hb:Below w.heap.size w W)=>labRight_any s W hlow h0 h64 (hT.alp.old hb))
 have hm:=Lib.hid (fun W (hb:Below w.heap.size w W)=>Tryz.strings_Map_grows 235 #[] (fun args w=>by kernel_rfl) smallF s W (by omega) (fun W' x hx hb'=>small_all (x:Int) W' (by omega) (by omega) ((hT.alp.old hb).old hb')) (fun x hx=>by unfold smallF;split <;> (try split) <;> (try split) <;> omega) (hT.old hb).tab)
 rw [low_map _ (low_ascii hlow)] at hm
 have hs64:¬ ((64:Int)<(s.size:Int)):=by omega
 clear hT hlow h64 h0
 go_enter Tryz.func199,Tryz.ntmps199
 go_wp2_with fail
 refine hr.out.mono ?_
 rintro e w1 ⟨rfl,hb1⟩
 have Hb1:=Lib.hid hb1
 clear hr hb1
 go_wp2_with fail
 refine (hg.out w1 Hb1.out).mono ?_
 rintro e w2 ⟨rfl,hb2⟩
 have Hb2:=Lib.hid (Hb1.out.trans (hb2.mono Hb1.out.size))
 clear hg hb2
 go_wp2_with fail
 refine (hm.out w2 Hb2.out).mono ?_
 rintro e w3 ⟨rfl,hb3⟩
 have Hb3:=Lib.hid (Hb2.out.trans (hb3.mono Hb2.out.size))
 clear hm hb3
 go_wp2
 go_ret2
 exact ⟨rfl,Hb3.out⟩
theorem amay_any (s:ByteArray) (o r:List UInt8) (h:Nat) (w:World) (hlow:Low s) (h0:0<s.size) (h64:s.size<=64) (ho:o.length=16) (hr:r.length=16) (hh:h<=6) (hT:Kons w) :
 Calls Tryz.prog 169 #[audV s o r h] w fun e w'=>e=.returned (.int .i64 0)/\Below w.heap.size w w':=by
 have hN:=Lib.hid (fun W (hb:Below w.heap.size w W)=>normal_any s W hlow h0 h64 (hT.old hb))
 have hP:=Lib.hid (fun W=>pencode_any o r h W ho hr hh)
 unfold pubVh at hP
 unfold audV
 generalize encKey o r h=E at hP
 clear hT hlow h0 h64
 go_enter Tryz.func169,Tryz.ntmps169
 go_wp2_with fail
 have hb1:Below w.heap.size w (w.alloc (.cells #[.string s,.string ⟨o.toArray⟩,.string ⟨r.toArray⟩,.int .i64 h] 90)):=(Below.refl _ _).alloc (Nat.le_refl _) _
 have hr1:(w.alloc (.cells #[.string s,.string ⟨o.toArray⟩,.string ⟨r.toArray⟩,.int .i64 h] 90)).heap[w.heap.size]?=some (.cells #[.string s,.string ⟨o.toArray⟩,.string ⟨r.toArray⟩,.int .i64 h] 90 (0,0)):=heap_alloc_new _ _
 generalize (w.alloc (.cells #[.string s,.string ⟨o.toArray⟩,.string ⟨r.toArray⟩,.int .i64 h] 90))=W1 at hb1 hr1 |-
 refine (hN.out W1 hb1).mono ?_
 rintro e w2 ⟨rfl,hb2⟩
 have hr2:=(hb2.block _ (lt_of_heap hr1)).trans hr1
 have y0:w2.cell? ⟨w.heap.size,0,none⟩=some (.string s):=cel hr2
 have y1:w2.cell? ⟨w.heap.size,1,none⟩=some (.string ⟨o.toArray⟩):=cel hr2
 have y2:w2.cell? ⟨w.heap.size,2,none⟩=some (.string ⟨r.toArray⟩):=cel hr2
 have y3:w2.cell? ⟨w.heap.size,3,none⟩=some (.int .i64 h):=cel hr2
 have HB2:=Lib.hid (hb1.trans (hb2.mono hb1.size))
 clear hN hb1 hr1 hb2 hr2
 go_wp2_with fail
 refine (hP.out w2).mono ?_
 rintro e w3 ⟨rfl,hb3⟩
 have HB3:=Lib.hid (HB2.out.trans (hb3.mono HB2.out.size))
 clear hP hb3 y0 y1 y2 y3
 go_wp2
 go_ret
 exact ⟨rfl,HB3.out⟩
theorem radd_any (rb B:Nat) (a:Option Addr) (n c:Nat) (l:List Aud) (s:ByteArray) (o r:List UInt8) (h:Nat) (w:World) (hra:RosAt w rb (.slice a n c)) (hl:w.ownsRow B 90 4 (.slice a n c) n (audCells l)) (hB:B<=w.heap.size) (hne:∀ k,(Value.slice a n c).ownBlock=some k->k≠rb) (hn:n=l.length) (hn64:n<64) (hd:∀ x∈l,x.s≠s/\x.o≠o)
 (hlow:Low s) (h0:0<s.size) (h64:s.size<=64) (ho:o.length=16) (hr:r.length=16) (hh:h<=6) (hT:Kons w) :
 Calls Tryz.prog 108 #[.pointer (some ⟨rb,0,none⟩),audV s o r h] w fun e w'=>e=.returned (.tuple #[.int .i64 n,.int .i64 0])/\∃ a' c',RosAt w' rb (.slice a' (n+1) c')/\w'.ownsRow B 90 4 (.slice a' (n+1) c') (n+1) (audCells (l++[⟨s,o,r,h⟩]))/\(∀ k,(Value.slice a' (n+1) c').ownBlock=some k->k≠rb)/\Touch (fun k=>k=rb\/(Value.slice a n c).ownBlock=some k) w w':=by
 have hM:=Lib.hid (fun W (hb:Below w.heap.size w W)=>amay_any s o r h W hlow h0 h64 ho hr hh (hT.old hb))
 have hCo:=Lib.hid (fun (H:Nat) (W:World) (hb:Below w.heap.size w W) (hrow:W.heap[H]?=some (.cells #[.string s,.string ⟨o.toArray⟩,.string ⟨r.toArray⟩,.int .i64 h] 90 (0,0)))=>contains_no H B a n c l s o r h W hrow ((Touch.of_below hb (fun _=>False)).own hl (fun _ _ h=>h)) hn (by omega) hd)
 have hrl:=lt_of_heap hra
 have HRA:=Lib.hid hra
 have HL:=Lib.hid hl
 have HNE:=Lib.hid hne
 unfold audV at hM |-
 have hAC:=Lib.hid (show audCells (l++[⟨s,o,r,h⟩])=audCells l++[.string s,.string ⟨o.toArray⟩,.string ⟨r.toArray⟩,.int .i64 h] by simp [audCells,audRow])
 obtain ⟨i0,hi,hz0,hz1,hz2⟩:=info_parts Tryz.info_clone_auds
 clear hT hlow h0 h64 hd hra hl hne hn
 go_enter Tryz.func108,Tryz.ntmps108
 go_wp2_with fail
 have hb1:Below w.heap.size w (w.alloc (.cells #[.string s,.string ⟨o.toArray⟩,.string ⟨r.toArray⟩,.int .i64 h] 90)):=(Below.refl _ _).alloc (Nat.le_refl _) _
 have hr1:(w.alloc (.cells #[.string s,.string ⟨o.toArray⟩,.string ⟨r.toArray⟩,.int .i64 h] 90)).heap[w.heap.size]?=some (.cells #[.string s,.string ⟨o.toArray⟩,.string ⟨r.toArray⟩,.int .i64 h] 90 (0,0)):=heap_alloc_new _ _
 generalize (w.alloc (.cells #[.string s,.string ⟨o.toArray⟩,.string ⟨r.toArray⟩,.int .i64 h] 90))=W1 at hb1 hr1 |-
 refine (hM.out W1 hb1).mono ?_
 rintro e w2 ⟨rfl,hb2⟩
 have hr2:=(hb2.block _ (lt_of_heap hr1)).trans hr1
 have hB2:=hb1.trans (hb2.mono hb1.size)
 have z0:w2.cell? ⟨rb,0,none⟩=some (.slice a n c):=(hB2.cell (p:=⟨rb,0,none⟩) hrl).trans (cel HRA.out)
 have hC2:=Lib.hid (hCo.out w.heap.size w2 hB2 hr2)
 have HB2:=Lib.hid hB2
 have HR2:=Lib.hid hr2
 clear hM hCo hb1 hr1 hb2 hr2 hB2
 go_wp2_with fail
 refine hC2.out.mono ?_
 rintro e w3 ⟨rfl,hb3⟩
 have hr3:=(hb3.block _ (lt_of_heap HR2.out)).trans HR2.out
 have hB3:=HB2.out.trans (hb3.mono HB2.out.size)
 have hra3:=(hB3.block rb hrl).trans HRA.out
 have z0:w3.cell? ⟨rb,0,none⟩=some (.slice a n c):=cel hra3
 have z0f:w3.frozen? ⟨rb,0,none⟩=false:=frozen_of_row _ _ 0 _ _ hra3
 have y0:w3.cell? ⟨w.heap.size,0,none⟩=some (.string s):=cel hr3
 have y1:w3.cell? ⟨w.heap.size,1,none⟩=some (.string ⟨o.toArray⟩):=cel hr3
 have y2:w3.cell? ⟨w.heap.size,2,none⟩=some (.string ⟨r.toArray⟩):=cel hr3
 have y3:w3.cell? ⟨w.heap.size,3,none⟩=some (.int .i64 h):=cel hr3
 have hL3:=(Touch.of_below hB3 (fun _=>False)).own HL.out (fun _ _ h=>h)
 have HL3:=Lib.hid hL3
 have HB3:=Lib.hid hB3
 have HRA3:=Lib.hid hra3
 have hnel:∀ k,(Value.slice a n c).ownBlock=some k->k≠rb:=HNE.out
 have hneS:(Value.slice a n c).ownBlock≠some rb:=fun e=>HNE.out rb e rfl
 have s3:=hB3.size
 have hrl3:rb<w3.heap.size:=by omega
 have hH3:w.heap.size<w3.heap.size:=lt_of_heap hr3
 have hge:¬ ((64:Int)<=(n:Int)):=by omega
 clear hC2 hb3 hr3 hB3 hra3 hL3 hnel
 go_wp2_with fail
 have hL3d:w3.drew.ownsRow B 90 4 (.slice a n c) n (audCells l):=(Touch.drewN (S:=fun _=>False) w3 1).own HL3.out (fun _ _ h=>h)
 have HL3d:=Lib.hid hL3d
 have z0a:∀ ob:Obj,(w3.alloc ob).cell? ⟨rb,0,none⟩=some (.slice a n c):=fun ob=>(((Below.refl w3.heap.size w3).alloc (Nat.le_refl _) ob).cell (p:=⟨rb,0,none⟩) hrl3).trans z0
 have z0fa:∀ ob:Obj,(w3.alloc ob).frozen? ⟨rb,0,none⟩=false:=fun ob=>(((Below.refl w3.heap.size w3).alloc (Nat.le_refl _) ob).frozen (p:=⟨rb,0,none⟩) hrl3).trans z0f
 have hlen4:n<=100:=by omega
 clear hL3d
 go_region_law (first
  | (refine step_append_lies _ (by rfl) _ _ _ (by rfl) B 90 i0 _ 4 56 Tryz.underlying135 hi hz0 hz1 hz2 rfl (by omega) (.slice a n c) n (audCells l) (by rfl) (HL3d.out.alloc _) ⟨w3.heap.size,0,none⟩ 1 1 [.string s,.string ⟨o.toArray⟩,.string ⟨r.toArray⟩,.int .i64 h] (by rfl) (by rfl) (World.news_of_block (cs:=#[.string s,.string ⟨o.toArray⟩,.string ⟨r.toArray⟩,.int .i64 h]) (t:=90) (fr:=(0,0)) (heap_alloc_new w3.drew _)) (by simp [Value.oneCell']) (by omega) (by unfold maxLen;omega) (by omega) (by simp;omega) (w3.heap.size+1) (by simp) ?_;intro gg cap2 w6 ho6 hg6 hat hlt6;obtain ⟨z6,z6f⟩:=keepR (W:=(w3.alloc (.cells #[.string s,.string ⟨o.toArray⟩,.string ⟨r.toArray⟩,.int .i64 h] 90)).drew) (z0a _) (z0fa _) hg6 hneS))
 all_goals
  have hT6:Touch (fun j=>some j=(Value.slice a n c).ownBlock) w3 w6:=(Touch.alloc w3 _).trans ((Touch.drewN _ 1).trans (Touch.grown hg6))
  have hk6:=hT6.heap HRA3.out (fun e=>hneS e.symm)
  have hggne:gg≠rb:=by
   rcases hat with h1 | h1
   · exact fun e=>hneS (by rw [h1,e])
   · omega
  have hT7:Touch (·=rb) w6 (w6.setCell ⟨rb,0,none⟩ (.slice (some ⟨gg,0,none⟩) (n+1) cap2)):=Touch.setCell (S:=(·=rb)) _ _ _ rfl
  have hk7:=heap_setCell_same w6 rb 0 _ _ (.slice (some ⟨gg,0,none⟩) (n+1) cap2) hk6
  have ho7:(w6.setCell ⟨rb,0,none⟩ (.slice (some ⟨gg,0,none⟩) (n+1) cap2)).ownsRow B 90 4 (.slice (some ⟨gg,0,none⟩) (n+1) cap2) (n+1) (audCells (l++[⟨s,o,r,h⟩])):=by
   rw [hAC.out]
   exact hT7.own ho6 (fun j hj e=>by have h2:some gg=some j:=hj;injection h2 with h2;omega)
  have hT:Touch (fun k=>k=rb\/(Value.slice a n c).ownBlock=some k) w (w6.setCell ⟨rb,0,none⟩ (.slice (some ⟨gg,0,none⟩) (n+1) cap2)):=
   (Touch.of_below HB3.out _).trans ((hT6.mono (fun i hi=>.inl (.inr hi.symm))).trans (hT7.mono (fun i hi=>.inl (.inl hi))))
  have c7:(w6.setCell ⟨rb,0,none⟩ (.slice (some ⟨gg,0,none⟩) (n+1) cap2)).cell? ⟨rb,0,none⟩=some (.slice (some ⟨gg,0,none⟩) (n+1) cap2):=cel hk7
  have HK7:=Lib.hid hk7
  have HO7:=Lib.hid ho7
  have HTT:=Lib.hid hT
  clear hT6 hk6 hT7 hk7 ho7 hT ho6 hg6 hat z6 z6f z0 z0f z0a z0fa y0 y1 y2 y3
  go_wp2
  go_ret2
  exact ⟨rfl,some ⟨gg,0,none⟩,cap2,HK7.out,HO7.out,fun k hk=>by have h2:some gg=some k:=hk;injection h2 with h2;omega,HTT.out⟩
end Go.Proofs.YtcgkomafaepjnaaGreatDoor
