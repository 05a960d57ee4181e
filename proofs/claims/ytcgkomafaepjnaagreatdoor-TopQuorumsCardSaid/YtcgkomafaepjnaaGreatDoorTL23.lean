/- Package policy: updates of a label's first entry, signed by the entry's own key: their making, judging, and how many bytes (printed by tools/genpol.py). Conditions: labels of small letters; keys of one leaf; the tables hold what their initialisers lay. -/
import Derived.Test.YtcgkomafaepjnaaGreatDoorTL17
import Derived.Test.YtcgkomafaepjnaaGreatDoorTL19
import Derived.Test.YtcgkomafaepjnaaGreatDoorTL10
import Derived.Test.YtcgkomafaepjnaaGreatDoorTL15
set_option maxRecDepth 100000
set_option maxHeartbeats 16000000
namespace Go.Proofs.YtcgkomafaepjnaaGreatDoor
open Go.RowKit
def upV (s:ByteArray) (ver:Nat) (o r:List UInt8) (h:Nat) (prev:List UInt8) (a:Option Addr) (c:Nat):Value:=.agg #[.string s,.int .u64 ver,.string ⟨o.toArray⟩,.string ⟨r.toArray⟩,.int .i64 h,.string ⟨prev.toArray⟩,.int .i64 0,.slice a 35 c,.slice none 0 0]
theorem uencode_any (s:ByteArray) (ver:Nat) (o r:List UInt8) (h:Nat) (prev:List UInt8) (a:Option Addr) (c:Nat) (cs:List (List UInt8)) (w:World) (hs:s.size<=64) (hok:EntOk ver o r h prev) (hc:Cells w (.slice a 35 c) (txs cs)) (h16:∀ x∈cs,x.length=16) :
 Calls Tryz.prog 117 #[upV s ver o r h prev a c] w fun e w'=>(∃ t:ByteArray,e=.returned (.tuple #[.string t,.int .i64 0])/\t.size=621+s.size)/\Below w.heap.size w w':=by
 have hE:=Lib.hid (fun W=>eencode_any ver o r h prev W hok)
 have hel:=encEnt_length ver o r h prev hok.o hok.r hok.p
 have hS:=Lib.hid (fun W (hb:Below w.heap.size w W)=>sencode_any a c cs W (hc.old hb) h16)
 unfold entV at hE
 unfold upV
 generalize encEnt ver o r h prev=E at hE hel
 have hEs:(ByteArray.mk E.toArray).size=53:=by show E.toArray.size=53;simpa using hel
 generalize ByteArray.mk E.toArray=EB at hE hEs
 clear hok hc h16 hel
 go_enter Tryz.func117,Tryz.ntmps117
 go_wp2_with fail
 have hb1:Below w.heap.size w (w.alloc (.cells #[.string s,.int .u64 ver,.string ⟨o.toArray⟩,.string ⟨r.toArray⟩,.int .i64 h,.string ⟨prev.toArray⟩,.int .i64 0,.slice a 35 c,.slice none 0 0] 143)):=(Below.refl _ _).alloc (Nat.le_refl _) _
 have hr1:(w.alloc (.cells #[.string s,.int .u64 ver,.string ⟨o.toArray⟩,.string ⟨r.toArray⟩,.int .i64 h,.string ⟨prev.toArray⟩,.int .i64 0,.slice a 35 c,.slice none 0 0] 143)).heap[w.heap.size]?=some (.cells #[.string s,.int .u64 ver,.string ⟨o.toArray⟩,.string ⟨r.toArray⟩,.int .i64 h,.string ⟨prev.toArray⟩,.int .i64 0,.slice a 35 c,.slice none 0 0] 143 (0,0)):=heap_alloc_new _ _
 generalize (w.alloc (.cells #[.string s,.int .u64 ver,.string ⟨o.toArray⟩,.string ⟨r.toArray⟩,.int .i64 h,.string ⟨prev.toArray⟩,.int .i64 0,.slice a 35 c,.slice none 0 0] 143))=W1 at hb1 hr1 |-
 have hlt1:=(Array.getElem?_eq_some_iff.1 hr1).1
 refine (hE.out W1).mono ?_
 rintro e w2 ⟨rfl,hb2⟩
 have hB2:=hb1.trans (hb2.mono hb1.size)
 have hr2:=(hb2.block w.heap.size hlt1).trans hr1
 have hlt2:=(Array.getElem?_eq_some_iff.1 hr2).1
 obtain ⟨y0,y1,y2,y3,y4,y5,y6,y7,y8⟩:w2.cell? ⟨w.heap.size,0,none⟩=some (.string s)/\w2.cell? ⟨w.heap.size,1,none⟩=some (.int .u64 ver)/\w2.cell? ⟨w.heap.size,2,none⟩=some (.string ⟨o.toArray⟩)/\w2.cell? ⟨w.heap.size,3,none⟩=some (.string ⟨r.toArray⟩)/\w2.cell? ⟨w.heap.size,4,none⟩=some (.int .i64 h)/\w2.cell? ⟨w.heap.size,5,none⟩=some (.string ⟨prev.toArray⟩)/\w2.cell? ⟨w.heap.size,6,none⟩=some (.int .i64 0)/\w2.cell? ⟨w.heap.size,7,none⟩=some (.slice a 35 c)/\w2.cell? ⟨w.heap.size,8,none⟩=some (.slice none 0 0):=⟨cel hr2,cel hr2,cel hr2,cel hr2,cel hr2,cel hr2,cel hr2,cel hr2,cel hr2⟩
 have hSW:=Lib.hid (hS.out w2 hB2)
 have HB2:=Lib.hid hB2
 have HR2:=Lib.hid hr2
 clear hE hS hb1 hr1 hb2 hB2 hr2
 go_wp2_with fail
 refine hSW.out.mono ?_
 rintro e w3 ⟨⟨T,rfl,hT⟩,hb3⟩
 have hr3:=(hb3.block w.heap.size hlt2).trans HR2.out
 have hlt3:=(Array.getElem?_eq_some_iff.1 hr3).1
 have HB3:=Lib.hid (HB2.out.trans (hb3.mono HB2.out.size))
 have HR3:=Lib.hid hr3
 have hz0:∀ ob,(w3.alloc ob).cell? ⟨w.heap.size,0,none⟩=some (.string s):=fun ob=>(((Below.refl w3.heap.size w3).alloc (Nat.le_refl _) ob).cell (p:=⟨w.heap.size,0,none⟩) hlt3).trans (cel hr3)
 clear hSW y0 y1 y2 y3 y4 y5 y6 y7 y8 hb3 hr3
 go_wp2_with fail
 clear hz0
 have hw4:=wri_new w3
 have hb4:Below w3.heap.size w3 (w3.alloc (.cells #[.pointer none,.slice none 0 0,.int .i64 0] 215)):=(Below.refl _ _).alloc (Nat.le_refl _) _
 generalize (w3.alloc (.cells #[.pointer none,.slice none 0 0,.int .i64 0] 215))=W4 at hw4 hb4 |-
 have HW4:=Lib.hid hw4
 have HB4:=Lib.hid (HB3.out.trans (hb4.mono HB3.out.size))
 have s3:=HB3.out.size
 clear hw4 hb4
 refine (wri_text w3.heap.size w3.heap.size s _ _ HW4.out (by omega) (by decide)).mono ?_
 rintro e w5 ⟨rfl,hw5,hb5⟩
 have h5:([]++(bytesTo s.size 2 2++s.data.toList)).length=2+s.size:=by rw [List.nil_append,List.length_append,bytesTo_le];simp
 generalize ([]++(bytesTo s.size 2 2++s.data.toList))=L5 at hw5 h5
 have HW5:=Lib.hid hw5
 have HB5:=Lib.hid (HB4.out.trans (hb5.mono s3))
 clear hw5 hb5
 go_wp2_with fail
 refine (wri_text w3.heap.size w3.heap.size EB _ _ HW5.out (by omega) (by omega)).mono ?_
 rintro e w6 ⟨rfl,hw6,hb6⟩
 have h6:(L5++(bytesTo EB.size 2 2++EB.data.toList)).length=57+s.size:=by rw [List.length_append,List.length_append,bytesTo_le,h5];simp;omega
 generalize (L5++(bytesTo EB.size 2 2++EB.data.toList))=L6 at hw6 h6
 have HW6:=Lib.hid hw6
 have HB6:=Lib.hid (HB5.out.trans (hb6.mono s3))
 clear hw6 hb6
 go_wp2_with fail
 refine (wri_text w3.heap.size w3.heap.size T _ _ HW6.out (by omega) (by omega)).mono ?_
 rintro e w7 ⟨rfl,hw7,hb7⟩
 have h7:(L6++(bytesTo T.size 2 2++T.data.toList)).length=621+s.size:=by rw [List.length_append,List.length_append,bytesTo_le,h6];simp;omega
 generalize (L6++(bytesTo T.size 2 2++T.data.toList))=L7 at hw7 h7
 have HW7:=Lib.hid hw7
 have HB7:=Lib.hid (HB6.out.trans (hb7.mono s3))
 clear hw7 hb7
 go_wp2_with fail
 refine (wri_bytes w3.heap.size w3.heap.size _ _ HW7.out).mono ?_
 rintro e w8 ⟨rfl,hb8⟩
 have HB8:=Lib.hid (HB7.out.trans (hb8.mono s3))
 clear hb8
 have hz:(ByteArray.mk L7.toArray).size=621+s.size:=by show L7.toArray.size=_;rw [List.size_toArray,h7]
 have Hz:=Lib.hid hz
 clear hz
 generalize ByteArray.mk L7.toArray=U at Hz |-
 go_wp2
 go_ret2
 exact ⟨⟨U,rfl,Hz.out⟩,HB8.out⟩
theorem named_any (s:ByteArray) (w:World) (hlow:Low s) (h0:0<s.size) (h64:s.size<=64) (hT:Kons w) :
 Calls Tryz.prog 158 #[.string s] w fun e w'=>e=.returned (.int .i64 0)/\Below w.heap.size w w':=by
 have hn:=Lib.hid (normal_any s w hlow h0 h64 hT)
 clear hT hlow h0 h64
 go_enter Tryz.func158,Tryz.ntmps158
 go_wp2_with fail
 refine hn.out.mono ?_
 rintro e w1 ⟨rfl,hb1⟩
 clear hn
 go_wp2
 go_ret
 exact ⟨rfl,hb1⟩
theorem KeyAt.old {w w':World} {b:Nat} {seed:List UInt8} (h:KeyAt w b seed) (hb:Below w.heap.size w w'):KeyAt w' b seed:=by
 obtain ⟨g,c,h1,h2,h3⟩:=h
 exact ⟨g,c,(hb.block b (Array.getElem?_eq_some_iff.1 h1).1).trans h1,Nat.lt_of_lt_of_le h2 hb.size,(hb.cell (p:=⟨g,0,none⟩) h2).trans h3⟩
def nineSet (w:World) (b:Nat) (y0 y1 y2 y3 y4 y5 y6 y7 y8:Value):World:=((((((((w.setCell ⟨b,0,none⟩ y0).setCell ⟨b,1,none⟩ y1).setCell ⟨b,2,none⟩ y2).setCell ⟨b,3,none⟩ y3).setCell ⟨b,4,none⟩ y4).setCell ⟨b,5,none⟩ y5).setCell ⟨b,6,none⟩ y6).setCell ⟨b,7,none⟩ y7).setCell ⟨b,8,none⟩ y8
theorem nine_store {w:World} {b:Nat} {x0 x1 x2 x3 x4 x5 x6 x7 x8:Value} {t:TypeId} (y0 y1 y2 y3 y4 y5 y6 y7 y8:Value) (h:w.heap[b]?=some (.cells #[x0,x1,x2,x3,x4,x5,x6,x7,x8] t (0,0))) :
 (nineSet w b y0 y1 y2 y3 y4 y5 y6 y7 y8).heap[b]?=some (.cells #[y0,y1,y2,y3,y4,y5,y6,y7,y8] t (0,0)):=
 by
 unfold nineSet
 rw [heap_setCell_same _ b 8 _ _ _ ( heap_setCell_same _ b 7 _ _ _ ( heap_setCell_same _ b 6 _ _ _ ( heap_setCell_same _ b 5 _ _ _ ( heap_setCell_same _ b 4 _ _ _ ( heap_setCell_same _ b 3 _ _ _ ( heap_setCell_same _ b 2 _ _ _ ( heap_setCell_same _ b 1 _ _ _ (heap_setCell_same w b 0 _ _ _ h))))))))]
 simp
theorem nine_touch (w:World) (b:Nat) (y0 y1 y2 y3 y4 y5 y6 y7 y8:Value):Touch (·=b) w (nineSet w b y0 y1 y2 y3 y4 y5 y6 y7 y8):=
 by
 unfold nineSet
 refine (Touch.setCell (S:=(·=b)) _ ⟨b,0,none⟩ y0 rfl).trans ?_
 refine (Touch.setCell (S:=(·=b)) _ ⟨b,1,none⟩ y1 rfl).trans ?_
 refine (Touch.setCell (S:=(·=b)) _ ⟨b,2,none⟩ y2 rfl).trans ?_
 refine (Touch.setCell (S:=(·=b)) _ ⟨b,3,none⟩ y3 rfl).trans ?_
 refine (Touch.setCell (S:=(·=b)) _ ⟨b,4,none⟩ y4 rfl).trans ?_
 refine (Touch.setCell (S:=(·=b)) _ ⟨b,5,none⟩ y5 rfl).trans ?_
 refine (Touch.setCell (S:=(·=b)) _ ⟨b,6,none⟩ y6 rfl).trans ?_
 refine (Touch.setCell (S:=(·=b)) _ ⟨b,7,none⟩ y7 rfl).trans ?_
 exact Touch.setCell (S:=(·=b)) _ ⟨b,8,none⟩ y8 rfl
theorem psign_any (b:Nat) (seed:List UInt8) (s:ByteArray) (ver:Nat) (o r:List UInt8) (ht:Nat) (prev:List UInt8) (w:World) (hk:KeyAt w b seed) (hseed:seed.length<=1000) (hs:s.size<=1000) (hok:EntOk ver o r ht prev) (hK:Kon w) :
 Calls Tryz.prog 66 #[.pointer (some ⟨b,0,none⟩),.int .i64 0,.string s,entV ver o r ht prev] w fun e w'=>∃ a c,e=.returned (.tuple #[upV s ver o r ht prev a c,.int .i64 0])/\SigAt w' (.agg #[.int .i64 0,.slice a 35 c,.slice none 0 0]) seed (msgOf s.data.toList ver o r ht prev)/\Below w.heap.size w w':=by
 have hE:=Lib.hid (fun W=>eencode_any ver o r ht prev W hok)
 have hM:=Lib.hid (fun W (hb:Below w.heap.size w W)=>pmessage_any s ver o r ht prev W hs hok (hK.old hb))
 have hml:(ByteArray.mk (msgOf s.data.toList ver o r ht prev).toArray).size<=1000:=by rw [show (ByteArray.mk (msgOf s.data.toList ver o r ht prev).toArray).size=16 from tag_size _ _];decide
 have hX:=Lib.hid (fun W (hb:Below w.heap.size w W)=>xsign_any b seed ⟨(msgOf s.data.toList ver o r ht prev).toArray⟩ W (hk.old hb) hseed hml (hK.old hb))
 rw [show (ByteArray.mk (msgOf s.data.toList ver o r ht prev).toArray).data.toList=msgOf s.data.toList ver o r ht prev from List.toList_toArray] at hX
 unfold entV at hE hM |-
 unfold upV
 generalize encEnt ver o r ht prev=E at hE
 generalize msgOf s.data.toList ver o r ht prev=M at hM hX |-
 clear hk hok hK hml
 go_enter Tryz.func66,Tryz.ntmps66
 go_wp2_with fail
 have hb1:Below w.heap.size w ((w.alloc (.cells #[.int .u64 ver,.string ⟨o.toArray⟩,.string ⟨r.toArray⟩,.int .i64 ht,.string ⟨prev.toArray⟩] 105)).alloc (.cells #[.string ⟨#[]⟩,.int .u64 0,.string ⟨#[]⟩,.string ⟨#[]⟩,.int .i64 0,.string ⟨#[]⟩,.int .i64 0,.slice none 0 0,.slice none 0 0] 143)):=((Below.refl _ _).alloc (Nat.le_refl _) _).alloc (by simp) _
 have he1:((w.alloc (.cells #[.int .u64 ver,.string ⟨o.toArray⟩,.string ⟨r.toArray⟩,.int .i64 ht,.string ⟨prev.toArray⟩] 105)).alloc (.cells #[.string ⟨#[]⟩,.int .u64 0,.string ⟨#[]⟩,.string ⟨#[]⟩,.int .i64 0,.string ⟨#[]⟩,.int .i64 0,.slice none 0 0,.slice none 0 0] 143)).heap[w.heap.size]?=some (.cells #[.int .u64 ver,.string ⟨o.toArray⟩,.string ⟨r.toArray⟩,.int .i64 ht,.string ⟨prev.toArray⟩] 105 (0,0)):=by rw [Below.heap_alloc _ _ _ (by simp)];exact heap_alloc_new _ _
 have hr1:((w.alloc (.cells #[.int .u64 ver,.string ⟨o.toArray⟩,.string ⟨r.toArray⟩,.int .i64 ht,.string ⟨prev.toArray⟩] 105)).alloc (.cells #[.string ⟨#[]⟩,.int .u64 0,.string ⟨#[]⟩,.string ⟨#[]⟩,.int .i64 0,.string ⟨#[]⟩,.int .i64 0,.slice none 0 0,.slice none 0 0] 143)).heap[w.heap.size+1]?=some (.cells #[.string ⟨#[]⟩,.int .u64 0,.string ⟨#[]⟩,.string ⟨#[]⟩,.int .i64 0,.string ⟨#[]⟩,.int .i64 0,.slice none 0 0,.slice none 0 0] 143 (0,0)):=heap_alloc2_new _ _ _
 generalize ((w.alloc (.cells #[.int .u64 ver,.string ⟨o.toArray⟩,.string ⟨r.toArray⟩,.int .i64 ht,.string ⟨prev.toArray⟩] 105)).alloc (.cells #[.string ⟨#[]⟩,.int .u64 0,.string ⟨#[]⟩,.string ⟨#[]⟩,.int .i64 0,.string ⟨#[]⟩,.int .i64 0,.slice none 0 0,.slice none 0 0] 143))=W1 at hb1 he1 hr1 |-
 refine (hE.out W1).mono ?_
 rintro e w2 ⟨rfl,hb2⟩
 have hB2:=hb1.trans (hb2.mono hb1.size)
 have he2:=(hb2.block _ (lt_of_heap he1)).trans he1
 have hr2:=(hb2.block _ (lt_of_heap hr1)).trans hr1
 obtain ⟨y0,y1,y2,y3,y4⟩:w2.cell? ⟨w.heap.size,0,none⟩=some (.int .u64 ver)/\w2.cell? ⟨w.heap.size,1,none⟩=some (.string ⟨o.toArray⟩)/\w2.cell? ⟨w.heap.size,2,none⟩=some (.string ⟨r.toArray⟩)/\w2.cell? ⟨w.heap.size,3,none⟩=some (.int .i64 ht)/\w2.cell? ⟨w.heap.size,4,none⟩=some (.string ⟨prev.toArray⟩):=⟨cel he2,cel he2,cel he2,cel he2,cel he2⟩
 have hM2:=Lib.hid (hM.out w2 hB2)
 have HB2:=Lib.hid hB2
 have HE2:=Lib.hid he2
 have HR2:=Lib.hid hr2
 clear hE hM hb1 he1 hr1 hb2 hB2 he2 hr2
 go_wp2_with fail
 refine hM2.out.mono ?_
 rintro e w3 ⟨rfl,hb3⟩
 have hB3:=HB2.out.trans (hb3.mono HB2.out.size)
 have he3:=(hb3.block _ (lt_of_heap HE2.out)).trans HE2.out
 have hr3:=(hb3.block _ (lt_of_heap HR2.out)).trans HR2.out
 have hX3:=Lib.hid (hX.out w3 hB3)
 have HB3:=Lib.hid hB3
 have HE3:=Lib.hid he3
 have HR3:=Lib.hid hr3
 clear hM2 hX hb3 hB3 he3 hr3 y0 y1 y2 y3 y4
 go_wp2_with fail
 refine hX3.out.mono ?_
 rintro e w4 ⟨v,rfl,hsig,hb4⟩
 obtain ⟨a,c,hv,hcells⟩:=hsig
 subst hv
 have he4:=(hb4.block _ (lt_of_heap HE3.out)).trans HE3.out
 have hr4:=(hb4.block _ (lt_of_heap HR3.out)).trans HR3.out
 have HB4:=Lib.hid (HB3.out.trans (hb4.mono HB3.out.size))
 have hEA:∀ ob:Obj,(w4.alloc ob).heap[w.heap.size]?=some (.cells #[.int .u64 ver,.string ⟨o.toArray⟩,.string ⟨r.toArray⟩,.int .i64 ht,.string ⟨prev.toArray⟩] 105 (0,0)):=fun ob=>(Below.heap_alloc _ _ _ (lt_of_heap he4)).trans he4
 have hRA:∀ ob:Obj,(w4.alloc ob).heap[w.heap.size+1]?=some (.cells #[.string ⟨#[]⟩,.int .u64 0,.string ⟨#[]⟩,.string ⟨#[]⟩,.int .i64 0,.string ⟨#[]⟩,.int .i64 0,.slice none 0 0,.slice none 0 0] 143 (0,0)):=fun ob=>(Below.heap_alloc _ _ _ (lt_of_heap hr4)).trans hr4
 have y0:∀ ob:Obj,(w4.alloc ob).cell? ⟨w.heap.size,0,none⟩=some (.int .u64 ver):=fun ob=>cel (hEA ob)
 have y1:∀ ob:Obj,(w4.alloc ob).cell? ⟨w.heap.size,1,none⟩=some (.string ⟨o.toArray⟩):=fun ob=>cel (hEA ob)
 have y2:∀ ob:Obj,(w4.alloc ob).cell? ⟨w.heap.size,2,none⟩=some (.string ⟨r.toArray⟩):=fun ob=>cel (hEA ob)
 have y3:∀ ob:Obj,(w4.alloc ob).cell? ⟨w.heap.size,3,none⟩=some (.int .i64 ht):=fun ob=>cel (hEA ob)
 have y4:∀ ob:Obj,(w4.alloc ob).cell? ⟨w.heap.size,4,none⟩=some (.string ⟨prev.toArray⟩):=fun ob=>cel (hEA ob)
 have z0:∀ ob:Obj,(w4.alloc ob).cell? ⟨w.heap.size+1,0,none⟩=some (.string ⟨#[]⟩):=fun ob=>cel (hRA ob)
 have fo0:w4.frozen? ⟨w.heap.size+1,0,none⟩=false:=frozen_of_row _ _ 0 _ _ hr4
 have zo0:w4.cell? ⟨w.heap.size+1,0,none⟩=some (.string ⟨#[]⟩):=cel hr4
 have f0:∀ ob:Obj,(w4.alloc ob).frozen? ⟨w.heap.size+1,0,none⟩=false:=fun ob=>frozen_of_row _ _ 0 _ _ (hRA ob)
 have z1:∀ ob:Obj,(w4.alloc ob).cell? ⟨w.heap.size+1,1,none⟩=some (.int .u64 0):=fun ob=>cel (hRA ob)
 have fo1:w4.frozen? ⟨w.heap.size+1,1,none⟩=false:=frozen_of_row _ _ 1 _ _ hr4
 have zo1:w4.cell? ⟨w.heap.size+1,1,none⟩=some (.int .u64 0):=cel hr4
 have f1:∀ ob:Obj,(w4.alloc ob).frozen? ⟨w.heap.size+1,1,none⟩=false:=fun ob=>frozen_of_row _ _ 1 _ _ (hRA ob)
 have z2:∀ ob:Obj,(w4.alloc ob).cell? ⟨w.heap.size+1,2,none⟩=some (.string ⟨#[]⟩):=fun ob=>cel (hRA ob)
 have fo2:w4.frozen? ⟨w.heap.size+1,2,none⟩=false:=frozen_of_row _ _ 2 _ _ hr4
 have zo2:w4.cell? ⟨w.heap.size+1,2,none⟩=some (.string ⟨#[]⟩):=cel hr4
 have f2:∀ ob:Obj,(w4.alloc ob).frozen? ⟨w.heap.size+1,2,none⟩=false:=fun ob=>frozen_of_row _ _ 2 _ _ (hRA ob)
 have z3:∀ ob:Obj,(w4.alloc ob).cell? ⟨w.heap.size+1,3,none⟩=some (.string ⟨#[]⟩):=fun ob=>cel (hRA ob)
 have fo3:w4.frozen? ⟨w.heap.size+1,3,none⟩=false:=frozen_of_row _ _ 3 _ _ hr4
 have zo3:w4.cell? ⟨w.heap.size+1,3,none⟩=some (.string ⟨#[]⟩):=cel hr4
 have f3:∀ ob:Obj,(w4.alloc ob).frozen? ⟨w.heap.size+1,3,none⟩=false:=fun ob=>frozen_of_row _ _ 3 _ _ (hRA ob)
 have z4:∀ ob:Obj,(w4.alloc ob).cell? ⟨w.heap.size+1,4,none⟩=some (.int .i64 0):=fun ob=>cel (hRA ob)
 have fo4:w4.frozen? ⟨w.heap.size+1,4,none⟩=false:=frozen_of_row _ _ 4 _ _ hr4
 have zo4:w4.cell? ⟨w.heap.size+1,4,none⟩=some (.int .i64 0):=cel hr4
 have f4:∀ ob:Obj,(w4.alloc ob).frozen? ⟨w.heap.size+1,4,none⟩=false:=fun ob=>frozen_of_row _ _ 4 _ _ (hRA ob)
 have z5:∀ ob:Obj,(w4.alloc ob).cell? ⟨w.heap.size+1,5,none⟩=some (.string ⟨#[]⟩):=fun ob=>cel (hRA ob)
 have fo5:w4.frozen? ⟨w.heap.size+1,5,none⟩=false:=frozen_of_row _ _ 5 _ _ hr4
 have zo5:w4.cell? ⟨w.heap.size+1,5,none⟩=some (.string ⟨#[]⟩):=cel hr4
 have f5:∀ ob:Obj,(w4.alloc ob).frozen? ⟨w.heap.size+1,5,none⟩=false:=fun ob=>frozen_of_row _ _ 5 _ _ (hRA ob)
 have z6:∀ ob:Obj,(w4.alloc ob).cell? ⟨w.heap.size+1,6,none⟩=some (.int .i64 0):=fun ob=>cel (hRA ob)
 have fo6:w4.frozen? ⟨w.heap.size+1,6,none⟩=false:=frozen_of_row _ _ 6 _ _ hr4
 have zo6:w4.cell? ⟨w.heap.size+1,6,none⟩=some (.int .i64 0):=cel hr4
 have f6:∀ ob:Obj,(w4.alloc ob).frozen? ⟨w.heap.size+1,6,none⟩=false:=fun ob=>frozen_of_row _ _ 6 _ _ (hRA ob)
 have z7:∀ ob:Obj,(w4.alloc ob).cell? ⟨w.heap.size+1,7,none⟩=some (.slice none 0 0):=fun ob=>cel (hRA ob)
 have fo7:w4.frozen? ⟨w.heap.size+1,7,none⟩=false:=frozen_of_row _ _ 7 _ _ hr4
 have zo7:w4.cell? ⟨w.heap.size+1,7,none⟩=some (.slice none 0 0):=cel hr4
 have f7:∀ ob:Obj,(w4.alloc ob).frozen? ⟨w.heap.size+1,7,none⟩=false:=fun ob=>frozen_of_row _ _ 7 _ _ (hRA ob)
 have z8:∀ ob:Obj,(w4.alloc ob).cell? ⟨w.heap.size+1,8,none⟩=some (.slice none 0 0):=fun ob=>cel (hRA ob)
 have fo8:w4.frozen? ⟨w.heap.size+1,8,none⟩=false:=frozen_of_row _ _ 8 _ _ hr4
 have zo8:w4.cell? ⟨w.heap.size+1,8,none⟩=some (.slice none 0 0):=cel hr4
 have f8:∀ ob:Obj,(w4.alloc ob).frozen? ⟨w.heap.size+1,8,none⟩=false:=fun ob=>frozen_of_row _ _ 8 _ _ (hRA ob)
 have HR4:=Lib.hid hr4
 have HC:=Lib.hid hcells
 have hlt4:=lt_of_heap hr4
 clear hX3 hb4 he4 hr4 hEA hRA hcells
 go_wp2_with fail
 have hr4:w4.heap[w.heap.size+1]?=some (.cells #[.string ⟨#[]⟩,.int .u64 0,.string ⟨#[]⟩,.string ⟨#[]⟩,.int .i64 0,.string ⟨#[]⟩,.int .i64 0,.slice none 0 0,.slice none 0 0] 143 (0,0)):=HR4.out
 have hown:∀ k,(Value.slice a 35 c).ownBlock=some k->k≠w.heap.size+1:=cells_ne_row HC.out hr4 (by simp [txs_length,sigOf_length])
 clear y0 y1 y2 y3 y4 z0 f0 fo0 zo0 z1 f1 fo1 zo1 z2 f2 fo2 zo2 z3 f3 fo3 zo3 z4 f4 fo4 zo4 z5 f5 fo5 zo5 z6 f6 fo6 zo6 z7 f7 fo7 zo7 z8 f8 fo8 zo8
 have hT:=nine_touch w4 (w.heap.size+1) (.string s) (.int .u64 ver) (.string ⟨o.toArray⟩) (.string ⟨r.toArray⟩) (.int .i64 ht) (.string ⟨prev.toArray⟩) (.int .i64 0) (.slice a 35 c) (.slice none 0 0)
 have hr5:=nine_store (.string s) (.int .u64 ver) (.string ⟨o.toArray⟩) (.string ⟨r.toArray⟩) (.int .i64 ht) (.string ⟨prev.toArray⟩) (.int .i64 0) (.slice a 35 c) (.slice none 0 0) hr4
 unfold nineSet at hT hr5
 generalize (((((((((w4.setCell ⟨w.heap.size+1,0,none⟩ (.string s)).setCell ⟨w.heap.size+1,1,none⟩ (.int .u64 ver)).setCell ⟨w.heap.size+1,2,none⟩ (.string ⟨o.toArray⟩)).setCell ⟨w.heap.size+1,3,none⟩ (.string ⟨r.toArray⟩)).setCell ⟨w.heap.size+1,4,none⟩ (.int .i64 ht)).setCell ⟨w.heap.size+1,5,none⟩ (.string ⟨prev.toArray⟩)).setCell ⟨w.heap.size+1,6,none⟩ (.int .i64 0)).setCell ⟨w.heap.size+1,7,none⟩ (.slice a 35 c)).setCell ⟨w.heap.size+1,8,none⟩ (.slice none 0 0))=W5 at hT hr5 |-
 have hr6:(W5.alloc (.cells #[.int .i64 0,.slice a 35 c,.slice none 0 0] 84)).heap[w.heap.size+1]?=_:=(Below.heap_alloc _ _ _ (lt_of_heap hr5)).trans hr5
 have hT6:Touch (·=w.heap.size+1) w4 (W5.alloc (.cells #[.int .i64 0,.slice a 35 c,.slice none 0 0] 84)):=hT.trans (Touch.alloc _ _)
 generalize (W5.alloc (.cells #[.int .i64 0,.slice a 35 c,.slice none 0 0] 84))=W6 at hr6 hT6 |-
 refine bodyPost_ret (results_pair_row rfl _ _ (w.heap.size+1) #[.string s,.int .u64 ver,.string ⟨o.toArray⟩,.string ⟨r.toArray⟩,.int .i64 ht,.string ⟨prev.toArray⟩,.int .i64 0,.slice a 35 c,.slice none 0 0] rfl (run_loadVar_row W6 (w.heap.size+1) 143 143 _ (0,0) _ hr6 Tryz.underlying143 rfl (by kernel_rfl))) rfl ?_
 exact ⟨a,c,rfl,⟨a,c,rfl,hT6.cells HC.out hown⟩,HB4.out.trans (hT6.below (B:=w.heap.size) (fun i e=>by omega) HB4.out.size)⟩
theorem ent_first (seed:List UInt8):EntOk 1 (openOf seed) (pubKey seed 0) 0 nought16:=⟨by decide,by decide,openOf_length _,pubKey_length _ _,by decide,rfl⟩
theorem upd_old {w w':World} {s:ByteArray} {o r z:List UInt8} {a:Option Addr} {c:Nat} {t:TypeId} {b:Nat} (h:w.heap[b]?=some (.cells #[.string s,.int .u64 1,.string ⟨o.toArray⟩,.string ⟨r.toArray⟩,.int .i64 0,.string ⟨z.toArray⟩,.int .i64 0,.slice a 35 c,.slice none 0 0] t (0,0))) (hb:Below w.heap.size w w'):w'.heap[b]?=some (.cells #[.string s,.int .u64 1,.string ⟨o.toArray⟩,.string ⟨r.toArray⟩,.int .i64 0,.string ⟨z.toArray⟩,.int .i64 0,.slice a 35 c,.slice none 0 0] t (0,0)):=(hb.block b (lt_of_heap h)).trans h
theorem keep12 {W W':World} {P H:Nat} {s:ByteArray} {o r z:List UInt8} {a:Option Addr} {c:Nat} {t t2:TypeId} (hp:W.heap[P]?=some (.cells #[.string ⟨o.toArray⟩,.string ⟨r.toArray⟩,.int .i64 0] t (0,0))) (hu:W.heap[H]?=some (.cells #[.string s,.int .u64 1,.string ⟨o.toArray⟩,.string ⟨r.toArray⟩,.int .i64 0,.string ⟨z.toArray⟩,.int .i64 0,.slice a 35 c,.slice none 0 0] t2 (0,0))) (hb:Below W.drew.heap.size W.drew W') :
 W'.cell? ⟨P,0,none⟩=some (.string ⟨o.toArray⟩)/\W'.cell? ⟨P,1,none⟩=some (.string ⟨r.toArray⟩)/\W'.cell? ⟨P,2,none⟩=some (.int .i64 0)/\W'.cell? ⟨H,0,none⟩=some (.string s)/\W'.cell? ⟨H,1,none⟩=some (.int .u64 1)/\W'.cell? ⟨H,2,none⟩=some (.string ⟨o.toArray⟩)/\W'.cell? ⟨H,3,none⟩=some (.string ⟨r.toArray⟩)/\W'.cell? ⟨H,4,none⟩=some (.int .i64 0)/\W'.cell? ⟨H,5,none⟩=some (.string ⟨z.toArray⟩)/\W'.cell? ⟨H,6,none⟩=some (.int .i64 0)/\W'.cell? ⟨H,7,none⟩=some (.slice a 35 c)/\W'.cell? ⟨H,8,none⟩=some (.slice none 0 0):=by
 have hp':=(hb.block P (lt_of_heap hp)).trans hp
 have hu':=(hb.block H (lt_of_heap hu)).trans hu
 exact ⟨cel hp',cel hp',cel hp',cel hu',cel hu',cel hu',cel hu',cel hu',cel hu',cel hu',cel hu',cel hu'⟩
theorem set_way {w3 w5:World} {B b:Nat} {x0 x1 x2:Value} {t:TypeId} (y0 y1 y2:Value) (h:w5.heap[b]?=some (.cells #[x0,x1,x2] t (0,0))) (hb:Below B w3 w5) (hB:B<=b) :
 ∃ W,(((w5.setCell ⟨b,0,none⟩ y0).setCell ⟨b,1,none⟩ y1).setCell ⟨b,2,none⟩ y2)=W/\W.heap[b]?=some (.cells #[y0,y1,y2] t (0,0))/\Below B w3 W:=
 ⟨_,rfl,three_store y0 y1 y2 h,three_below y0 y1 y2 hb hB⟩
theorem bcell5 {W w1:World} (hb:Below W.heap.size W w1):(∀ b o,b<W.heap.size->w1.cell? ⟨b,o,none⟩=W.cell? ⟨b,o,none⟩)/\(∀ b o,b<W.heap.size->w1.frozen? ⟨b,o,none⟩=W.frozen? ⟨b,o,none⟩):=
 ⟨fun b o h=>hb.cell (p:=⟨b,o,none⟩) h,fun b o h=>hb.frozen (p:=⟨b,o,none⟩) h⟩
theorem judge_any (seed:List UInt8) (s:ByteArray) (a:Option Addr) (c:Nat) (l0 l1 l2 l3 l4:Value) (w:World) (hlow:Low s) (hs0:0<s.size) (hs64:s.size<=64) (hsig:SigAt w (.agg #[.int .i64 0,.slice a 35 c,.slice none 0 0]) seed (msgOf s.data.toList 1 (openOf seed) (pubKey seed 0) 0 nought16)) (hT:Kons w) :
 Calls Tryz.prog 102 #[upV s 1 (openOf seed) (pubKey seed 0) 0 nought16 a c,.bool false,.agg #[l0,l1,l2,l3,l4]] w fun e w'=>e=.returned (.int .i64 0)/\Below w.heap.size w w':=by
 have hN:=Lib.hid (fun W (hb:Below w.heap.size w W)=>named_any s W hlow hs0 hs64 (hT.old hb))
 have hE:Hid (∀ W,Calls Tryz.prog 82 #[.agg #[.int .u64 1,.string ⟨(openOf seed).toArray⟩,.string ⟨(pubKey seed 0).toArray⟩,.int .i64 0,.string ⟨nought16.toArray⟩]] W fun e w'=>e=.returned (.tuple #[.string ⟨(encEnt 1 (openOf seed) (pubKey seed 0) 0 nought16).toArray⟩,.int .i64 0])/\Below W.heap.size W w'):=Lib.hid (fun W=>eencode_any 1 (openOf seed) (pubKey seed 0) 0 nought16 W (ent_first seed))
 have hM:Hid (∀ W,Below w.heap.size w W->Calls Tryz.prog 115 #[.string s,.agg #[.int .u64 1,.string ⟨(openOf seed).toArray⟩,.string ⟨(pubKey seed 0).toArray⟩,.int .i64 0,.string ⟨nought16.toArray⟩]] W fun e w'=>e=.returned (.string ⟨(msgOf s.data.toList 1 (openOf seed) (pubKey seed 0) 0 nought16).toArray⟩)/\Below W.heap.size W w'):=Lib.hid (fun W hb=>pmessage_any s 1 (openOf seed) (pubKey seed 0) 0 nought16 W (by omega) (ent_first seed) (hT.kon.old hb))
 have hV:Hid (∀ W,Below w.heap.size w W->Calls Tryz.prog 86 #[.agg #[.string ⟨(openOf seed).toArray⟩,.string ⟨(pubKey seed 0).toArray⟩,.int .i64 0],.string ⟨(msgOf s.data.toList 1 (openOf seed) (pubKey seed 0) 0 nought16).toArray⟩,.agg #[.int .i64 0,.slice a 35 c,.slice none 0 0]] W fun e w'=>e=.returned (.bool true)/\Below W.heap.size W w'):=Lib.hid (fun W hb=>by
  obtain ⟨a',c',e1,hcs⟩:=hsig
  have hm:(ByteArray.mk (msgOf s.data.toList 1 (openOf seed) (pubKey seed 0) 0 nought16).toArray).data.toList=msgOf s.data.toList 1 (openOf seed) (pubKey seed 0) 0 nought16:=List.toList_toArray
  refine xverify_any seed ⟨(msgOf s.data.toList 1 (openOf seed) (pubKey seed 0) 0 nought16).toArray⟩ (.agg #[.int .i64 0,.slice a 35 c,.slice none 0 0]) W ⟨a',c',e1,?_⟩ (by rw [show (ByteArray.mk (msgOf s.data.toList 1 (openOf seed) (pubKey seed 0) 0 nought16).toArray).size=16 from tag_size _ _];decide) (hT.kon.old hb)
  rw [hm]
  exact hcs.old hb)
 have hH:=Lib.hid (fun (g:Nat) (W:World)=>history_one g W)
 unfold upV
 generalize msgOf s.data.toList 1 (openOf seed) (pubKey seed 0) 0 nought16=M at hM hV
 generalize encEnt 1 (openOf seed) (pubKey seed 0) 0 nought16=E at hE
 generalize openOf seed=o at hE hM hV |-
 generalize pubKey seed 0=r at hE hM hV |-
 generalize nought16=z at hE hM hV hH |-
 clear hT hsig hlow hs0 hs64
 go_enter Tryz.func102,Tryz.ntmps102
 go_wp2_with fail
 have hb1:Below w.heap.size w ((w.alloc (.cells #[.string s,.int .u64 1,.string ⟨o.toArray⟩,.string ⟨r.toArray⟩,.int .i64 0,.string ⟨z.toArray⟩,.int .i64 0,.slice a 35 c,.slice none 0 0] 143)).alloc (.cells #[l0,l1,l2,l3,l4] 105)):=((Below.refl _ _).alloc (Nat.le_refl _) _).alloc (by simp) _
 have hr1:((w.alloc (.cells #[.string s,.int .u64 1,.string ⟨o.toArray⟩,.string ⟨r.toArray⟩,.int .i64 0,.string ⟨z.toArray⟩,.int .i64 0,.slice a 35 c,.slice none 0 0] 143)).alloc (.cells #[l0,l1,l2,l3,l4] 105)).heap[w.heap.size]?=some (.cells #[.string s,.int .u64 1,.string ⟨o.toArray⟩,.string ⟨r.toArray⟩,.int .i64 0,.string ⟨z.toArray⟩,.int .i64 0,.slice a 35 c,.slice none 0 0] 143 (0,0)):=by rw [Below.heap_alloc _ _ _ (by simp)];exact heap_alloc_new _ _
 generalize ((w.alloc (.cells #[.string s,.int .u64 1,.string ⟨o.toArray⟩,.string ⟨r.toArray⟩,.int .i64 0,.string ⟨z.toArray⟩,.int .i64 0,.slice a 35 c,.slice none 0 0] 143)).alloc (.cells #[l0,l1,l2,l3,l4] 105))=W1 at hb1 hr1 |-
 refine (hN.out W1 hb1).mono ?_
 rintro e w2 ⟨rfl,hb2⟩
 have hB2:=hb1.trans (hb2.mono hb1.size)
 have hr2:=upd_old hr1 hb2
 obtain ⟨y0,y1,y2,y3,y4,y5,y6,y7,y8⟩:w2.cell? ⟨w.heap.size,0,none⟩=some (.string s)/\w2.cell? ⟨w.heap.size,1,none⟩=some (.int .u64 1)/\w2.cell? ⟨w.heap.size,2,none⟩=some (.string ⟨o.toArray⟩)/\w2.cell? ⟨w.heap.size,3,none⟩=some (.string ⟨r.toArray⟩)/\w2.cell? ⟨w.heap.size,4,none⟩=some (.int .i64 0)/\w2.cell? ⟨w.heap.size,5,none⟩=some (.string ⟨z.toArray⟩)/\w2.cell? ⟨w.heap.size,6,none⟩=some (.int .i64 0)/\w2.cell? ⟨w.heap.size,7,none⟩=some (.slice a 35 c)/\w2.cell? ⟨w.heap.size,8,none⟩=some (.slice none 0 0):=⟨cel hr2,cel hr2,cel hr2,cel hr2,cel hr2,cel hr2,cel hr2,cel hr2,cel hr2⟩
 have HB2:=Lib.hid hB2
 have HR2:=Lib.hid hr2
 clear hN hb1 hr1 hb2 hB2 hr2
 go_wp2_with fail
 refine (hE.out w2).mono ?_
 rintro e w3 ⟨rfl,hb3⟩
 have hB3:=HB2.out.trans (hb3.mono HB2.out.size)
 have hr3:=upd_old HR2.out hb3
 have HB3:=Lib.hid hB3
 have HR3:=Lib.hid hr3
 clear hE hb3 hB3 hr3 y0 y1 y2 y3 y4 y5 y6 y7 y8
 go_wp2_with fail
 obtain ⟨y1,y2,y3,y4,y5⟩:w3.cell? ⟨w.heap.size,1,none⟩=some (.int .u64 1)/\w3.cell? ⟨w.heap.size,2,none⟩=some (.string ⟨o.toArray⟩)/\w3.cell? ⟨w.heap.size,3,none⟩=some (.string ⟨r.toArray⟩)/\w3.cell? ⟨w.heap.size,4,none⟩=some (.int .i64 0)/\w3.cell? ⟨w.heap.size,5,none⟩=some (.string ⟨z.toArray⟩):=⟨cel HR3.out,cel HR3.out,cel HR3.out,cel HR3.out,cel HR3.out⟩
 have hlt3:=lt_of_heap HR3.out
 have hH2:=Lib.hid (fun (g:Nat) (W:World) (hg:W.heap[g]?=some (.cells #[.int .u64 1,.string ⟨o.toArray⟩,.string ⟨r.toArray⟩,.int .i64 0,.string ⟨z.toArray⟩] 105 (0,0)))=>hH.out g W (cel hg) (cel hg))
 have hne:∀ k,w3.heap.size+k≠w.heap.size:=fun k=>by omega
 have HBW:=Lib.hid (fun W (hb:Below w3.heap.size w3 W)=>HB3.out.trans (hb.mono HB3.out.size))
 have HKT:Hid (∀ W W',(W.cell? ⟨w.heap.size,1,none⟩=some (.int .u64 1)/\W.cell? ⟨w.heap.size,2,none⟩=some (.string ⟨o.toArray⟩)/\W.cell? ⟨w.heap.size,3,none⟩=some (.string ⟨r.toArray⟩)/\W.cell? ⟨w.heap.size,4,none⟩=some (.int .i64 0)/\W.cell? ⟨w.heap.size,5,none⟩=some (.string ⟨z.toArray⟩))->Touch (fun k=>k≠w.heap.size) W W'->(W'.cell? ⟨w.heap.size,1,none⟩=some (.int .u64 1)/\W'.cell? ⟨w.heap.size,2,none⟩=some (.string ⟨o.toArray⟩)/\W'.cell? ⟨w.heap.size,3,none⟩=some (.string ⟨r.toArray⟩)/\W'.cell? ⟨w.heap.size,4,none⟩=some (.int .i64 0)/\W'.cell? ⟨w.heap.size,5,none⟩=some (.string ⟨z.toArray⟩))):=Lib.hid (fun W W' h ht=>⟨ht.keep_cell h.1 (fun e=>e rfl),ht.keep_cell h.2.1 (fun e=>e rfl),ht.keep_cell h.2.2.1 (fun e=>e rfl),ht.keep_cell h.2.2.2.1 (fun e=>e rfl),ht.keep_cell h.2.2.2.2 (fun e=>e rfl)⟩)
 go_region_held3 (fun W'=>W'.cell? ⟨w.heap.size,1,none⟩=some (.int .u64 1)/\W'.cell? ⟨w.heap.size,2,none⟩=some (.string ⟨o.toArray⟩)/\W'.cell? ⟨w.heap.size,3,none⟩=some (.string ⟨r.toArray⟩)/\W'.cell? ⟨w.heap.size,4,none⟩=some (.int .i64 0)/\W'.cell? ⟨w.heap.size,5,none⟩=some (.string ⟨z.toArray⟩)) (first | assumption | exact HKT.out _ _ (by assumption) (Touch.alloc _ _) | exact HKT.out _ _ (by assumption) (Touch.of_below (by assumption) _) | exact HKT.out _ _ (by assumption) (((Touch.setCell _ _ _ (by simp;omega)).trans (Touch.setCell _ _ _ (by simp;omega))).trans (Touch.setCell _ _ _ (by simp;omega))) | (go_split_ands;refine ⟨?_,?_,?_,?_,?_⟩ <;> go_keep))
  (first | (go_at_call 159;refine (hH2.out _ _ (by first | exact heap_alloc_new _ _ | exact heap_alloc2_new _ _ _ | exact (Below.heap_alloc _ _ _ (by simp)).trans (heap_alloc_new _ _))).mono ?_;rintro e w5 ⟨rfl,hb5⟩;obtain ⟨hc5,hf5⟩:=bcell5 hb5;have hz5:=hb5.size;have hS5:=HKT.out _ _ (by assumption) (Touch.of_below hb5 _)))
 · have hp:(w5.alloc (.cells #[.string ⟨o.toArray⟩,.string ⟨r.toArray⟩,.int .i64 0] 88)).heap[w5.heap.size]?=some (.cells #[.string ⟨o.toArray⟩,.string ⟨r.toArray⟩,.int .i64 0] 88 (0,0)):=heap_alloc_new _ _
   have hB35:Below w3.heap.size w3 w5:=((Below.refl w3.heap.size w3).alloc (Nat.le_refl _) _).drew.trans (hb5.mono (by simp))
   have hB36:Below w3.heap.size w3 (w5.alloc (.cells #[.string ⟨o.toArray⟩,.string ⟨r.toArray⟩,.int .i64 0] 88)):=hB35.alloc hB35.size _
   generalize w5.heap.size=P at hp |-
   generalize (w5.alloc (.cells #[.string ⟨o.toArray⟩,.string ⟨r.toArray⟩,.int .i64 0] 88))=W at hp hB36 |-
   have hu:=(hB36.block _ hlt3).trans HR3.out
   have hBW:=HBW.out W hB36
   clear hS5 hc5 hf5 hz5 hb5 hB35 hB36 y1 y2 y3 y4 y5 hne
   obtain ⟨p0,p1,p2⟩:W.cell? ⟨P,0,none⟩=some (.string ⟨o.toArray⟩)/\W.cell? ⟨P,1,none⟩=some (.string ⟨r.toArray⟩)/\W.cell? ⟨P,2,none⟩=some (.int .i64 0):=⟨cel hp,cel hp,cel hp⟩
   obtain ⟨u0,u1,u2,u3,u4,u5,u6,u7,u8⟩:W.cell? ⟨w.heap.size,0,none⟩=some (.string s)/\W.cell? ⟨w.heap.size,1,none⟩=some (.int .u64 1)/\W.cell? ⟨w.heap.size,2,none⟩=some (.string ⟨o.toArray⟩)/\W.cell? ⟨w.heap.size,3,none⟩=some (.string ⟨r.toArray⟩)/\W.cell? ⟨w.heap.size,4,none⟩=some (.int .i64 0)/\W.cell? ⟨w.heap.size,5,none⟩=some (.string ⟨z.toArray⟩)/\W.cell? ⟨w.heap.size,6,none⟩=some (.int .i64 0)/\W.cell? ⟨w.heap.size,7,none⟩=some (.slice a 35 c)/\W.cell? ⟨w.heap.size,8,none⟩=some (.slice none 0 0):=⟨cel hu,cel hu,cel hu,cel hu,cel hu,cel hu,cel hu,cel hu,cel hu⟩
   have hKK:=Lib.hid (fun (W':World) (hb:Below W.drew.heap.size W.drew W')=>keep12 hp hu hb)
   have hM9:=Lib.hid (hM.out W.drew (hBW.drew))
   have hV9:=Lib.hid (fun W' (hb:Below W.drew.heap.size W.drew W')=>hV.out W' (hBW.trans ((below_call hb).mono hBW.size)))
   have HBW9:=Lib.hid hBW
   have hself:=Lib.hid (Below.refl W.drew.heap.size W.drew)
   clear hp hu hBW p0 p1 p2 u0 u1 u2 u3 u4 u5 u6 u7 u8
   go_wp2_with fail
   go_region_held3 (fun W'=>W'.cell? ⟨P,0,none⟩=some (.string ⟨o.toArray⟩)/\W'.cell? ⟨P,1,none⟩=some (.string ⟨r.toArray⟩)/\W'.cell? ⟨P,2,none⟩=some (.int .i64 0)/\W'.cell? ⟨w.heap.size,0,none⟩=some (.string s)/\W'.cell? ⟨w.heap.size,1,none⟩=some (.int .u64 1)/\W'.cell? ⟨w.heap.size,2,none⟩=some (.string ⟨o.toArray⟩)/\W'.cell? ⟨w.heap.size,3,none⟩=some (.string ⟨r.toArray⟩)/\W'.cell? ⟨w.heap.size,4,none⟩=some (.int .i64 0)/\W'.cell? ⟨w.heap.size,5,none⟩=some (.string ⟨z.toArray⟩)/\W'.cell? ⟨w.heap.size,6,none⟩=some (.int .i64 0)/\W'.cell? ⟨w.heap.size,7,none⟩=some (.slice a 35 c)/\W'.cell? ⟨w.heap.size,8,none⟩=some (.slice none 0 0)) (first | exact hKK.out _ (by assumption) | exact hKK.out _ hself.out)
    (first
      | (go_at_call 115;with_reducible refine hM9.out.mono ?_;rintro e w7 ⟨rfl,hb7⟩)
      | (go_at_call 86;with_reducible refine (hV9.out _ (by assumption)).mono ?_;rintro e w8 ⟨rfl,hb8'⟩;have hb8:=hb7.trans (hb8'.mono hb7.size)))
   all_goals
    have HB8:=Lib.hid (HBW9.out.trans ((below_call hb8).mono HBW9.out.size))
    clear hb7 hb8' hb8 hKK hM9 hV9
    go_wp2
    go_ret
    exact ⟨rfl,HB8.out⟩
 · have hB35:Below w3.heap.size w3 w5:=(((Below.refl w3.heap.size w3).alloc (Nat.le_refl _) _).alloc (by simp) _).drew.trans (hb5.mono (by simp;omega))
   have hp5:w5.heap[w3.heap.size+1]?=some (.cells #[.string ⟨#[]⟩,.string ⟨#[]⟩,.int .i64 0] 88 (0,0)):=(hb5.block (w3.heap.size+1) (by simp)).trans (heap_alloc2_new w3 _ _)
   obtain ⟨W,hW,hp,hB36⟩:=set_way (.string ⟨o.toArray⟩) (.string ⟨r.toArray⟩) (.int .i64 0) hp5 hB35 (Nat.le_succ _)
   rw [hW]
   clear hW
   have hu:=(hB36.block _ hlt3).trans HR3.out
   have hBW:=HBW.out W hB36
   obtain ⟨P,hP⟩:∃ P,w3.heap.size+1=P:=⟨_,rfl⟩
   rw [hP] at hp |-
   clear hS5 hc5 hf5 hz5 hb5 hB35 hB36 y1 y2 y3 y4 y5 hne hp5 hP
   obtain ⟨p0,p1,p2⟩:W.cell? ⟨P,0,none⟩=some (.string ⟨o.toArray⟩)/\W.cell? ⟨P,1,none⟩=some (.string ⟨r.toArray⟩)/\W.cell? ⟨P,2,none⟩=some (.int .i64 0):=⟨cel hp,cel hp,cel hp⟩
   obtain ⟨u0,u1,u2,u3,u4,u5,u6,u7,u8⟩:W.cell? ⟨w.heap.size,0,none⟩=some (.string s)/\W.cell? ⟨w.heap.size,1,none⟩=some (.int .u64 1)/\W.cell? ⟨w.heap.size,2,none⟩=some (.string ⟨o.toArray⟩)/\W.cell? ⟨w.heap.size,3,none⟩=some (.string ⟨r.toArray⟩)/\W.cell? ⟨w.heap.size,4,none⟩=some (.int .i64 0)/\W.cell? ⟨w.heap.size,5,none⟩=some (.string ⟨z.toArray⟩)/\W.cell? ⟨w.heap.size,6,none⟩=some (.int .i64 0)/\W.cell? ⟨w.heap.size,7,none⟩=some (.slice a 35 c)/\W.cell? ⟨w.heap.size,8,none⟩=some (.slice none 0 0):=⟨cel hu,cel hu,cel hu,cel hu,cel hu,cel hu,cel hu,cel hu,cel hu⟩
   have hKK:=Lib.hid (fun (W':World) (hb:Below W.drew.heap.size W.drew W')=>keep12 hp hu hb)
   have hM9:=Lib.hid (hM.out W.drew (hBW.drew))
   have hV9:=Lib.hid (fun W' (hb:Below W.drew.heap.size W.drew W')=>hV.out W' (hBW.trans ((below_call hb).mono hBW.size)))
   have HBW9:=Lib.hid hBW
   have hself:=Lib.hid (Below.refl W.drew.heap.size W.drew)
   clear hp hu hBW p0 p1 p2 u0 u1 u2 u3 u4 u5 u6 u7 u8
   go_wp2_with fail
   go_region_held3 (fun W'=>W'.cell? ⟨P,0,none⟩=some (.string ⟨o.toArray⟩)/\W'.cell? ⟨P,1,none⟩=some (.string ⟨r.toArray⟩)/\W'.cell? ⟨P,2,none⟩=some (.int .i64 0)/\W'.cell? ⟨w.heap.size,0,none⟩=some (.string s)/\W'.cell? ⟨w.heap.size,1,none⟩=some (.int .u64 1)/\W'.cell? ⟨w.heap.size,2,none⟩=some (.string ⟨o.toArray⟩)/\W'.cell? ⟨w.heap.size,3,none⟩=some (.string ⟨r.toArray⟩)/\W'.cell? ⟨w.heap.size,4,none⟩=some (.int .i64 0)/\W'.cell? ⟨w.heap.size,5,none⟩=some (.string ⟨z.toArray⟩)/\W'.cell? ⟨w.heap.size,6,none⟩=some (.int .i64 0)/\W'.cell? ⟨w.heap.size,7,none⟩=some (.slice a 35 c)/\W'.cell? ⟨w.heap.size,8,none⟩=some (.slice none 0 0)) (first | exact hKK.out _ (by assumption) | exact hKK.out _ hself.out)
    (first
      | (go_at_call 115;with_reducible refine hM9.out.mono ?_;rintro e w7 ⟨rfl,hb7⟩)
      | (go_at_call 86;with_reducible refine (hV9.out _ (by assumption)).mono ?_;rintro e w8 ⟨rfl,hb8'⟩;have hb8:=hb7.trans (hb8'.mono hb7.size)))
   all_goals
    have HB8:=Lib.hid (HBW9.out.trans ((below_call hb8).mono HBW9.out.size))
    clear hb7 hb8' hb8 hKK hM9 hV9
    go_wp2
    go_ret
    exact ⟨rfl,HB8.out⟩
 · have hB35:Below w3.heap.size w3 w5:=(((Below.refl w3.heap.size w3).alloc (Nat.le_refl _) _).alloc (by simp) _).drew.trans (hb5.mono (by simp;omega))
   have hp5:w5.heap[w3.heap.size]?=some (.cells #[.string ⟨#[]⟩,.string ⟨#[]⟩,.int .i64 0] 88 (0,0)):=(hb5.block w3.heap.size (by simp;omega)).trans ((Below.heap_alloc _ _ _ (by simp)).trans (heap_alloc_new w3 _))
   obtain ⟨W,hW,hp,hB36⟩:=set_way (.string ⟨o.toArray⟩) (.string ⟨r.toArray⟩) (.int .i64 0) hp5 hB35 (Nat.le_refl _)
   rw [hW]
   clear hW
   have hu:=(hB36.block _ hlt3).trans HR3.out
   have hBW:=HBW.out W hB36
   obtain ⟨P,hP⟩:∃ P,w3.heap.size=P:=⟨_,rfl⟩
   rw [hP] at hp |-
   clear hS5 hc5 hf5 hz5 hb5 hB35 hB36 y1 y2 y3 y4 y5 hne hp5 hP
   obtain ⟨p0,p1,p2⟩:W.cell? ⟨P,0,none⟩=some (.string ⟨o.toArray⟩)/\W.cell? ⟨P,1,none⟩=some (.string ⟨r.toArray⟩)/\W.cell? ⟨P,2,none⟩=some (.int .i64 0):=⟨cel hp,cel hp,cel hp⟩
   obtain ⟨u0,u1,u2,u3,u4,u5,u6,u7,u8⟩:W.cell? ⟨w.heap.size,0,none⟩=some (.string s)/\W.cell? ⟨w.heap.size,1,none⟩=some (.int .u64 1)/\W.cell? ⟨w.heap.size,2,none⟩=some (.string ⟨o.toArray⟩)/\W.cell? ⟨w.heap.size,3,none⟩=some (.string ⟨r.toArray⟩)/\W.cell? ⟨w.heap.size,4,none⟩=some (.int .i64 0)/\W.cell? ⟨w.heap.size,5,none⟩=some (.string ⟨z.toArray⟩)/\W.cell? ⟨w.heap.size,6,none⟩=some (.int .i64 0)/\W.cell? ⟨w.heap.size,7,none⟩=some (.slice a 35 c)/\W.cell? ⟨w.heap.size,8,none⟩=some (.slice none 0 0):=⟨cel hu,cel hu,cel hu,cel hu,cel hu,cel hu,cel hu,cel hu,cel hu⟩
   have hKK:=Lib.hid (fun (W':World) (hb:Below W.drew.heap.size W.drew W')=>keep12 hp hu hb)
   have hM9:=Lib.hid (hM.out W.drew (hBW.drew))
   have hV9:=Lib.hid (fun W' (hb:Below W.drew.heap.size W.drew W')=>hV.out W' (hBW.trans ((below_call hb).mono hBW.size)))
   have HBW9:=Lib.hid hBW
   have hself:=Lib.hid (Below.refl W.drew.heap.size W.drew)
   clear hp hu hBW p0 p1 p2 u0 u1 u2 u3 u4 u5 u6 u7 u8
   go_wp2_with fail
   go_region_held3 (fun W'=>W'.cell? ⟨P,0,none⟩=some (.string ⟨o.toArray⟩)/\W'.cell? ⟨P,1,none⟩=some (.string ⟨r.toArray⟩)/\W'.cell? ⟨P,2,none⟩=some (.int .i64 0)/\W'.cell? ⟨w.heap.size,0,none⟩=some (.string s)/\W'.cell? ⟨w.heap.size,1,none⟩=some (.int .u64 1)/\W'.cell? ⟨w.heap.size,2,none⟩=some (.string ⟨o.toArray⟩)/\W'.cell? ⟨w.heap.size,3,none⟩=some (.string ⟨r.toArray⟩)/\W'.cell? ⟨w.heap.size,4,none⟩=some (.int .i64 0)/\W'.cell? ⟨w.heap.size,5,none⟩=some (.string ⟨z.toArray⟩)/\W'.cell? ⟨w.heap.size,6,none⟩=some (.int .i64 0)/\W'.cell? ⟨w.heap.size,7,none⟩=some (.slice a 35 c)/\W'.cell? ⟨w.heap.size,8,none⟩=some (.slice none 0 0)) (first | exact hKK.out _ (by assumption) | exact hKK.out _ hself.out)
    (first
      | (go_at_call 115;with_reducible refine hM9.out.mono ?_;rintro e w7 ⟨rfl,hb7⟩)
      | (go_at_call 86;with_reducible refine (hV9.out _ (by assumption)).mono ?_;rintro e w8 ⟨rfl,hb8'⟩;have hb8:=hb7.trans (hb8'.mono hb7.size)))
   all_goals
    have HB8:=Lib.hid (HBW9.out.trans ((below_call hb8).mono HBW9.out.size))
    clear hb7 hb8' hb8 hKK hM9 hV9
    go_wp2
    go_ret
    exact ⟨rfl,HB8.out⟩
end Go.Proofs.YtcgkomafaepjnaaGreatDoor
