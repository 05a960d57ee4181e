/- Package logbook: Put of a record of one part. Conditions: none. -/
import Derived.Test.YtcgkomafaepjnaaGreatDoorTL9
import Derived.Test.YtcgkomafaepjnaaGreatDoorTL7
import Derived.Shelf.RegionOpen
set_option maxRecDepth 100000
set_option maxHeartbeats 16000000
namespace Go.Proofs.YtcgkomafaepjnaaGreatDoor
open Go.RowKit
theorem lput_one (b d g first sz R at' turn nend:Nat) (recs:Value) (rl xs:List ByteArray) (s:ByteArray) (w:World) (hK:Kon w) (hb:BookAt w b d first sz at' turn nend recs) (hd:DiskAt w d g xs (.slice none 0 0))
 (hro:w.ownsRow R 9 1 recs rl.length (strs rl)) (hrn:∀ k,recs.ownBlock=some k->k≠d/\k≠g) (hrl:rl.length<65535) (hsz:nend<sz) (hsz64:sz<65536) (hpos:at'+nend<xs.length) (h64:xs.length<65536) (hx64:∀ x∈xs,x.size=64) (hs:s.size<=39) (hturn:turn<4294967296) :
 Calls Tryz.prog 123 #[.pointer (some ⟨b,0,none⟩),.string s] w fun e w'=>e=.returned (.int .i64 0)/\∃ recs' ys,BookAt w' b d first sz at' (max turn 1) (nend+1) recs'/\w'.ownsRow w.heap.size 9 1 recs' (rl.length+1) (strs (rl++[s]))/\ys.length=xs.length/\(∀ x∈ys,x.size=64)/\DiskAt w' d g ys (.slice none 0 0)/\Touch (fun k=>k=b\/k=d\/k=g) w w':=by
 obtain ⟨ra,rc,hrecs⟩:=own_slice hro
 subst hrecs
 have hmay:=lmay_any b d first sz at' turn nend _ s (by omega) w hb
 obtain ⟨x0,x1,x2,x3,x4,x5,x6,x7,_⟩:=hb.cells
 obtain ⟨m,hm⟩:∃ m,m=sz - nend:=⟨_,rfl⟩
 have hm1:¬ ((m:Int)<1):=by omega
 obtain ⟨t1,ht1⟩:∃ t1,t1=max turn 1:=⟨_,rfl⟩
 have hmax:max (turn:Int) 1=(t1:Int):=by omega
 have hlen:¬ ((65536:Int)<=(rl.length:Int)):=by omega
 have ht32:t1<4294967296:=by omega
 rw [<-ht1]
 have hleft:=Lib.hid (fun (W:World) (h:BookAt W b d first sz at' turn nend (.slice ra rl.length rc))=>lleft_any b d first sz at' turn nend m _ W h (by omega) hsz64)
 have hparts:=Lib.hid (fun (W:World)=>show Calls Tryz.prog 121 #[.int .i64 s.size] W fun e w'=>e=.returned (.int .i64 1)/\w'=W by
  have:=lparts_any s.size (by omega) W
  rw [show partsOf s.size=1 by unfold partsOf;omega] at this
  exact this)
 have hwr:=Lib.hid (fun (W:World) (hK:Kon W) (hb:BookAt W b d first sz at' turn nend (.slice ra rl.length rc)) (hd:DiskAt W d g xs (.slice none 0 0)) (hro:W.ownsRow R 9 1 (.slice ra rl.length rc) rl.length (strs rl))=>lwrite_one b d g first sz at' turn nend R at' t1 nend _ (.slice ra rl.length rc) rl xs s W hK hb hd hro hrn hrl hpos h64 hx64 hs ht32)
 have HK:=Lib.hid hK
 have HB:=Lib.hid hb
 have HD:=Lib.hid hd
 have HO:=Lib.hid hro
 have hlen2:(decide ((65536:Int)<=(rl.length:Int)))=false:=by simpa using hlen
 clear hlen hrl hsz64
 clear hm ht1 hb hd hro hK hx64 hrn hpos hsz h64 hs hturn ht32
 go_enter Tryz.func123,Tryz.ntmps123
 go_wp2_with fail
 refine hmay.mono ?_
 rintro e w1 ⟨rfl,rfl⟩
 go_wp2_with fail
 have hB1:Below w1.heap.size w1 (w1.alloc (.cells #[.int .i64 at',.int .u64 turn,.int .i64 nend,.slice ra rl.length rc] 268)):=(Below.refl _ _).alloc (Nat.le_refl _) _
 have rowH:(w1.alloc (.cells #[.int .i64 at',.int .u64 turn,.int .i64 nend,.slice ra rl.length rc] 268)).heap[w1.heap.size]?=some (.cells #[.int .i64 at',.int .u64 turn,.int .i64 nend,.slice ra rl.length rc] 268 (0,0)):=heap_alloc_new _ _
 generalize (w1.alloc (.cells #[.int .i64 at',.int .u64 turn,.int .i64 nend,.slice ra rl.length rc] 268))=W1 at hB1 rowH |-
 have hlw:=lt_of_heap HB.out
 have hb1:BookAt W1 b d first sz at' turn nend (.slice ra rl.length rc):=(hB1.block b hlw).trans HB.out
 refine (hleft.out W1 hb1).mono ?_
 rintro e w2 ⟨rfl,hb2⟩
 have rowH2:=(hb2.block _ (lt_of_heap rowH)).trans rowH
 have hB2:=hB1.trans (hb2.mono hB1.size)
 obtain ⟨y0,y1,y2,y3,g0,g1,g2,g3⟩:=four_of_row rowH2
 clear hb2 rowH hB1 hmay hleft hb1
 go_wp2_with fail
 refine (hparts.out w2).mono ?_
 rintro e w3 ⟨rfl,rfl⟩
 go_wp2_with fail
 have hB4:=hB2.setCell (p:=⟨w1.heap.size,1,none⟩) (Nat.le_refl _) (.int .u64 t1)
 generalize (w3.setCell ⟨w1.heap.size,1,none⟩ (.int .u64 t1))=w4 at hB4 |-
 clear y0 y1 y2 y3 g0 g1 g2 g3 rowH2 hB2
 have hcall:=hwr.out w4 (HK.out.old hB4) ((hB4.block b hlw).trans HB.out) (HD.out.below hB4 HD.out.lt.1 HD.out.lt.2) ((Touch.of_below hB4 (fun _=>False)).own HO.out (fun _ _ h=>h))
 refine hcall.mono ?_
 clear hcall
 rintro e w5 ⟨rfl,recs',ys,h1,h2,h3,h4,h5,h6⟩
 have hs4:=hB4.size
 have H1:=Lib.hid h1
 have H2:=Lib.hid h2
 clear h1 h2
 go_wp2
 go_ret
 exact ⟨rfl,recs',ys,H1.out,ownsRow_base H2.out hs4,h3,h4,h5,(Touch.of_below hB4 _).trans h6⟩
def KeyIn (w:World) (b hi:Nat) (seed:List UInt8):Prop:=
 ∃ g c,w.heap[b]?=some (.cells #[.string ⟨seed.toArray⟩,.string ⟨(openOf seed).toArray⟩,.string ⟨(pubKey seed 0).toArray⟩,.int .i64 0,.slice (some ⟨g,0,none⟩) 1 c] 195 (0,0))/\w.cell? ⟨g,0,none⟩=some (.string ⟨(pubKey seed 0).toArray⟩)/\b<hi/\b<=g/\g<hi/\hi<=w.heap.size
theorem KeyOn.in {w:World} {b:Nat} {seed:List UInt8} (h:KeyOn w b seed):KeyIn w b w.heap.size seed:=by
 obtain ⟨g,c,h1,h2,h3,h4⟩:=h
 exact ⟨g,c,h1,h3,lt_of_heap h1,h4,h2,Nat.le_refl _⟩
theorem KeyIn.at {w:World} {b hi:Nat} {seed:List UInt8} (h:KeyIn w b hi seed):KeyAt w b seed:=by
 obtain ⟨g,c,h1,h2,h3,h4,h5,h6⟩:=h
 exact ⟨g,c,h1,Nat.lt_of_lt_of_le h5 h6,h2⟩
theorem KeyIn.touch {S:Nat->Prop} {w w':World} {b hi:Nat} {seed:List UInt8} (h:KeyIn w b hi seed) (ht:Touch S w w') (hs:∀ k,b<=k->k<hi->¬ S k):KeyIn w' b hi seed:=by
 obtain ⟨g,c,h1,h2,h3,h4,h5,h6⟩:=h
 exact ⟨g,c,ht.heap h1 (hs b (Nat.le_refl _) h3),(World.cell?_of_block (w:=w) (w':=w') (a:=⟨g,0,none⟩) (ht.block g (by omega) (hs g h4 h5))).trans h2,h3,h4,h5,Nat.le_trans h6 ht.size⟩
theorem KeyIn.below {w w':World} {b hi n:Nat} {seed:List UInt8} (h:KeyIn w b hi seed) (ht:Below n w w') (hn:hi<=n):KeyIn w' b hi seed:=by
 obtain ⟨g,c,h1,h2,h3,h4,h5,h6⟩:=h
 exact ⟨g,c,(ht.block b (by omega)).trans h1,(ht.cell (p:=⟨g,0,none⟩) (show g<n by omega)).trans h2,h3,h4,h5,Nat.le_trans h6 ht.size⟩
def SignerAt (w:World) (s kb bb next:Nat):Prop:=w.heap[s]?=some (.cells #[.pointer (some ⟨kb,0,none⟩),.pointer (some ⟨bb,0,none⟩),.int .i64 next] 235 (0,0))
theorem SignerAt.cells {w:World} {s kb bb next:Nat} (h:SignerAt w s kb bb next):w.cell? ⟨s,0,none⟩=some (.pointer (some ⟨kb,0,none⟩))/\w.cell? ⟨s,1,none⟩=some (.pointer (some ⟨bb,0,none⟩))/\w.cell? ⟨s,2,none⟩=some (.int .i64 next)/\w.frozen? ⟨s,2,none⟩=false:=
 ⟨cel h,cel h,cel h,frozen_of_row _ _ 2 _ _ h⟩
theorem gopen_zero (d g first count:Nat) (xs:List ByteArray) (seed:ByteArray) (hseed:seed.size<=1000) (h8:8<=count) (hx:∀ x∈xs,x=zsec) (hle:first+count<=xs.length) (h64:xs.length<65536) (w:World) (hK:Kon w) (hd:DiskAt w d g xs (.slice none 0 0)) :
 Calls Tryz.prog 83 #[.pointer (some ⟨d,0,none⟩),.int .i64 first,.int .i64 count,.string seed,.int .i64 0] w fun e w'=>∃ s kb hi bb,e=.returned (.tuple #[.pointer (some ⟨s,0,none⟩),.int .i64 0])/\SignerAt w' s kb bb 0/\KeyIn w' kb hi seed.data.toList/\BookAt w' bb d first (count/2) first 0 0 (.slice none 0 0)/\w.heap.size<=kb/\hi<=bb/\bb<s/\Below w.heap.size w w':=by
 have HK:=Lib.hid hK
 have HD:=Lib.hid hd
 have hxn:=xnew_zero seed w hseed hK
 have hop:=Lib.hid (fun (W:World) (hK:Kon W) (h:DiskAt W d g xs (.slice none 0 0))=>lopen_zero d g first count (count/2) xs h8 rfl hx hle h64 W hK h)
 clear hx hle h64 h8 hK hd hseed
 go_enter Tryz.func83,Tryz.ntmps83
 go_wp2_with fail
 refine hxn.mono ?_
 clear hxn
 rintro e w1 ⟨kb,rfl,hkb,hkey,hb1⟩
 have hkey:=hkey.in
 go_wp2_with fail
 refine (hop.out w1 (HK.out.old hb1) (HD.out.below hb1 HD.out.lt.1 HD.out.lt.2)).mono ?_
 rintro e w2 ⟨bb,rfl,hbb,hbook,hb2⟩
 have hkey2:=hkey.below hb2 (Nat.le_refl _)
 have hb2':=hb1.trans (hb2.mono hb1.size)
 have HKey:=Lib.hid hkey2
 have HBook:=Lib.hid hbook
 have hs1:=hb1.size
 clear hkey hkey2 hbook hb2 hb1 hop
 go_wp2_with fail
 have hlb:=lt_of_heap HBook.out
 have rowS:(w2.alloc (.cells #[.pointer (some ⟨kb,0,none⟩),.pointer (some ⟨bb,0,none⟩),.int .i64 0] 235)).heap[w2.heap.size]?=some (.cells #[.pointer (some ⟨kb,0,none⟩),.pointer (some ⟨bb,0,none⟩),.int .i64 0] 235 (0,0)):=heap_alloc_new _ _
 have hB3:Below w2.heap.size w2 (w2.alloc (.cells #[.pointer (some ⟨kb,0,none⟩),.pointer (some ⟨bb,0,none⟩),.int .i64 0] 235)):=(Below.refl _ _).alloc (Nat.le_refl _) _
 generalize (w2.alloc (.cells #[.pointer (some ⟨kb,0,none⟩),.pointer (some ⟨bb,0,none⟩),.int .i64 0] 235))=w3 at rowS hB3 |-
 have hbook3:BookAt w3 bb d first (count/2) first 0 0 (.slice none 0 0):=(hB3.block bb hlb).trans HBook.out
 refine (lrecords_nil bb d first (count/2) first 0 0 w3 hbook3).mono ?_
 rintro e w4 ⟨rfl,rfl⟩
 have hkey3:=HKey.out.below hB3 (by obtain ⟨_,_,_,_,_,_,_,h⟩:=HKey.out;exact h)
 have hb3:=hb2'.trans (hB3.mono hb2'.size)
 have H1:=Lib.hid rowS
 have H2:=Lib.hid hbook3
 have H3:=Lib.hid hkey3
 clear rowS hbook3 hkey3 HKey HBook hB3 hb2'
 go_wp2
 go_ret2
 exact ⟨w2.heap.size,kb,w1.heap.size,bb,rfl,H1.out,H3.out,H2.out,hkb,hbb,hlb,hb3⟩
theorem three_of_row {w:World} {b:Nat} {x0 x1 x2:Value} {t:TypeId} (h:w.heap[b]?=some (.cells #[x0,x1,x2] t (0,0))) :
 w.cell? ⟨b,0,none⟩=some x0/\w.cell? ⟨b,1,none⟩=some x1/\w.cell? ⟨b,2,none⟩=some x2 /\
 w.frozen? ⟨b,0,none⟩=false/\w.frozen? ⟨b,1,none⟩=false/\w.frozen? ⟨b,2,none⟩=false:=
 ⟨cel h,cel h,cel h,
  frozen_of_row _ _ 0 _ _ h,frozen_of_row _ _ 1 _ _ h,frozen_of_row _ _ 2 _ _ h⟩
theorem three_store {w:World} {b:Nat} {x0 x1 x2:Value} {t:TypeId} (y0 y1 y2:Value) (h:w.heap[b]?=some (.cells #[x0,x1,x2] t (0,0))) :
 (((w.setCell ⟨b,0,none⟩ y0).setCell ⟨b,1,none⟩ y1).setCell ⟨b,2,none⟩ y2).heap[b]?=some (.cells #[y0,y1,y2] t (0,0)):=
 heap_setCell_same _ b 2 _ _ _ (heap_setCell_same _ b 1 _ _ _ (heap_setCell_same w b 0 _ _ _ h))
theorem three_below {B:Nat} {w0 w:World} {b:Nat} (y0 y1 y2:Value) (h:Below B w0 w) (hb:B<=b) :
 Below B w0 (((w.setCell ⟨b,0,none⟩ y0).setCell ⟨b,1,none⟩ y1).setCell ⟨b,2,none⟩ y2):=
 ((h.setCell (p:=⟨b,0,none⟩) hb _).setCell (p:=⟨b,1,none⟩) hb _).setCell (p:=⟨b,2,none⟩) hb _
theorem three_touch {w:World} {b:Nat} (y0 y1 y2:Value):Touch (·=b) w (((w.setCell ⟨b,0,none⟩ y0).setCell ⟨b,1,none⟩ y1).setCell ⟨b,2,none⟩ y2):=
 ((Touch.setCell (S:=(·=b)) w ⟨b,0,none⟩ _ rfl).trans (Touch.setCell (S:=(·=b)) _ ⟨b,1,none⟩ _ rfl)).trans (Touch.setCell (S:=(·=b)) _ ⟨b,2,none⟩ _ rfl)
theorem gpublic_any (s kb bb next hi:Nat) (seed:List UInt8) (w:World) (hs:SignerAt w s kb bb next) (hk:KeyIn w kb hi seed) :
 Calls Tryz.prog 85 #[.pointer (some ⟨s,0,none⟩)] w fun e w'=>e=.returned (pubV (openOf seed) (pubKey seed 0))/\Below w.heap.size w w':=by
 have hS:=Lib.hid hs
 have hK:=Lib.hid hk
 have x0:∀ o,(w.alloc o).cell? ⟨s,0,none⟩=some (.pointer (some ⟨kb,0,none⟩)):=fun o=>(((Below.refl w.heap.size w).alloc (Nat.le_refl _) o).cell (p:=⟨s,0,none⟩) (lt_of_heap hs)).trans hs.cells.1
 clear hs hk
 go_enter Tryz.func85,Tryz.ntmps85
 go_wp2_with fail
 have rowR:(w.alloc (.cells #[.string ⟨#[]⟩,.string ⟨#[]⟩,.int .i64 0] 88)).heap[w.heap.size]?=some (.cells #[.string ⟨#[]⟩,.string ⟨#[]⟩,.int .i64 0] 88 (0,0)):=heap_alloc_new _ _
 have hB:Below w.heap.size w (w.alloc (.cells #[.string ⟨#[]⟩,.string ⟨#[]⟩,.int .i64 0] 88)):=(Below.refl _ _).alloc (Nat.le_refl _) _
 generalize (w.alloc (.cells #[.string ⟨#[]⟩,.string ⟨#[]⟩,.int .i64 0] 88))=W1 at rowR hB |-
 have hkey:KeyIn W1 kb hi seed:=hK.out.below hB (by obtain ⟨_,_,_,_,_,_,_,h⟩:=hK.out;exact h)
 refine (xpublic_any kb seed W1 hkey.at).mono ?_
 rintro e w2 ⟨rfl,hb2⟩
 have rowR2:=(hb2.block _ (lt_of_heap rowR)).trans rowR
 have hB2:=hB.trans (hb2.mono hB.size)
 unfold pubV
 generalize hoo:(⟨(openOf seed).toArray⟩:ByteArray)=oo
 generalize hpp:(⟨(pubKey seed 0).toArray⟩:ByteArray)=pp
 have Hoo:=Lib.hid hoo
 have Hpp:=Lib.hid hpp
 clear hoo hpp
 obtain ⟨y0,y1,y2,f0,f1,f2⟩:=three_of_row rowR2
 have hrow:=Lib.hid (three_store (.string oo) (.string pp) (.int .i64 0) rowR2)
 have hbel:=Lib.hid (three_below (b:=w.heap.size) (.string oo) (.string pp) (.int .i64 0) hB2 (Nat.le_refl _))
 clear rowR rowR2 hB hB2 hb2 hkey
 generalize hrb:w.heap.size=rb at y0 y1 y2 f0 f1 f2 hrow hbel |-
 have Hrb:=Lib.hid hrb
 clear hrb
 go_wp2
 have hrow:=hrow.out
 have hbel:=hbel.out
 generalize (((w2.setCell ⟨rb,0,none⟩ (.string oo)).setCell ⟨rb,1,none⟩ (.string pp)).setCell ⟨rb,2,none⟩ (.int .i64 0))=V at hrow hbel |-
 obtain ⟨p0,p1,p2,_,_,_⟩:=three_of_row hrow
 refine bodyPost_ret (v:=.agg #[.string oo,.string pp,.int .i64 0]) ?_ rfl ⟨by rw [pubV,Hoo.out,Hpp.out],by rw [Hrb.out];exact hbel⟩
 simp [results,Tryz.f85,go_sem,p0,p1,p2]
theorem greserve_one (s kb bb next d g first sz R at' turn nend:Nat) (recs:Value) (rl xs:List ByteArray) (w:World) (hK:Kon w) (hs:SignerAt w s kb bb next) (hb:BookAt w bb d first sz at' turn nend recs) (hd:DiskAt w d g xs (.slice none 0 0))
 (hro:w.ownsRow R 9 1 recs rl.length (strs rl)) (hrn:∀ k,recs.ownBlock=some k->k≠d/\k≠g) (hrl:rl.length<65535) (hsz:nend<sz) (hsz64:sz<65536) (hpos:at'+nend<xs.length) (h64:xs.length<65536) (hx64:∀ x∈xs,x.size=64) (hturn:turn<4294967296) (hnext:next<65535) :
 Calls Tryz.prog 145 #[.pointer (some ⟨s,0,none⟩)] w fun e w'=>e=.returned (.int .i64 0)/\∃ recs' ys sr,BookAt w' bb d first sz at' (max turn 1) (nend+1) recs'/\w'.ownsRow w.heap.size 9 1 recs' (rl.length+1) (strs (rl++[sr]))/\ys.length=xs.length/\(∀ x∈ys,x.size=64)/\DiskAt w' d g ys (.slice none 0 0)/\Touch (fun k=>k=bb\/k=d\/k=g) w w':=by
 obtain ⟨x0,x1,x2,_⟩:=hs.cells
 have HS:=Lib.hid hs
 have x2a:∀ o,(w.alloc o).cell? ⟨s,2,none⟩=some (.int .i64 next):=fun o=>(((Below.refl w.heap.size w).alloc (Nat.le_refl _) o).cell (p:=⟨s,2,none⟩) (lt_of_heap hs)).trans x2
 have hput:=Lib.hid (fun (W:World) (sr:ByteArray) (hs2:sr.size=2) (hB:Below w.heap.size w W)=>lput_one bb d g first sz R at' turn nend recs rl xs sr W (hK.old hB) ((hB.block bb (lt_of_heap hb)).trans hb) (hd.below hB hd.lt.1 hd.lt.2) ((Touch.of_below hB (fun _=>False)).own hro (fun _ _ h=>h)) hrn hrl hsz hsz64 hpos h64 hx64 (by omega) hturn)
 have e1:IntKind.u64.wrap (next:Int)=(next:Int):=wrap_u64 _ (by omega) (by omega)
 obtain ⟨n1,hn1⟩:∃ n1,n1=next+1:=⟨_,rfl⟩
 have e2:IntKind.u64.wrap ((next:Int)+1)=(n1:Int):=by rw [show (next:Int)+1=(n1:Int) by omega];exact wrap_u64 _ (by omega) (by omega)
 have hok:okNum n1 2=true:=by rw [okNum,decide_eq_true_eq];exact ⟨by omega,by omega,by show n1<256^2;omega⟩
 have hwn:wnL [] 0 n1 2=bytesTo n1 2 2:=by unfold wnL;rw [if_pos ⟨hok,rfl⟩];rfl
 have hcall:=wrNum_any w.heap.size n1 2 _ _ _ _ (wr_zero w) (by omega) (by simp)
 rw [hwn,hok,flBad_ok] at hcall
 have hb0:Below w.heap.size w (w.alloc (.cells #[.pointer none,.slice none 0 0,.int .i64 0] 215)):=(Below.refl _ _).alloc (Nat.le_refl _) _
 have hls:=lt_of_heap hs
 clear hs hb hd hro hrn hK hx64 hrl hsz hsz64 hpos h64 hturn hnext hn1 hok hwn
 go_enter Tryz.func145,Tryz.ntmps145
 go_wp2_with fail
 refine hcall.mono ?_
 rintro r w2 ⟨rfl,v2,hw2,ht2,hn2⟩
 clear hcall
 have hb2:=hb0.trans (ht2.below (B:=w.heap.size) (fun k hk=>by rcases hk with rfl | hk;exact Nat.le_refl _;cases hk) (by simp))
 have ho2:∀ k,v2.ownBlock=some k->w.heap.size<=k:=fun k hk=>by
  rcases hn2 with h | hn2
  · rw [h] at hk;cases hk
  · have:=hn2 k hk;simp at this;omega
 go_wp2_with fail
 refine (wrBytes_any _ _ _ _ _ hw2).mono ?_
 rintro r w3 ⟨rfl,ht3⟩
 have hb3:=hb2.trans (ht3.below (B:=w.heap.size) (fun k hk=>by rcases hk with rfl | hk;exact Nat.le_refl _;exact ho2 k hk) hb2.size)
 rw [show wbT (bytesTo n1 2 2) 0=⟨(bytesTo n1 2 2).toArray⟩ from if_pos rfl]
 have hz:=bytesTo_size n1 2
 generalize (⟨(bytesTo n1 2 2).toArray⟩:ByteArray)=sr at hz |-
 have x1':w3.cell? ⟨s,1,none⟩=some (.pointer (some ⟨bb,0,none⟩)):=(hb3.cell (p:=⟨s,1,none⟩) hls).trans x1
 have hcall:=hput.out w3 sr hz hb3
 clear hput ht2 ht3 hw2 hn2 ho2 hb2 hb0 hz
 go_wp2_with fail
 refine hcall.mono ?_
 rintro e w4 ⟨rfl,recs',ys,h1,h2,h3,h4,h5,h6⟩
 have hs3:=hb3.size
 have H1:=Lib.hid h1
 have H2:=Lib.hid h2
 have H6:=Lib.hid h6
 clear h1 h2 h6
 go_wp2
 go_ret
 exact ⟨rfl,recs',ys,sr,H1.out,ownsRow_base H2.out hs3,h3,h4,h5,(Touch.of_below hb3 _).trans H6.out⟩
theorem cells_ne_row {w:World} {a:Option Addr} {c b n:Nat} {cs:Array Value} {t:TypeId} {fr:Nat×Nat} {xs:List Value} (h:Cells w (.slice a n c) xs) (hb:w.heap[b]?=some (.cells cs t fr)) (hn:cs.size<xs.length):∀ k,(Value.slice a n c).ownBlock=some k->k≠b:=by
 intro k hk e
 subst e
 obtain ⟨a',c',he,hc⟩:=h
 injection he with h1 h2 h3
 subst h1
 obtain ⟨b',off,rfl,hl,hcc⟩:=hc (by intro e;subst e;simp at hn)
 simp [Value.ownBlock] at hk
 subst hk
 have:=hcc (xs.length - 1) (by omega)
 rw [cell_of_row _ _ (off+(xs.length - 1)) _ _ _ hb,Array.getElem?_eq_none (by omega)] at this
 cases this
theorem gsign_one (s kb hi bb d g first sz R at' turn nend:Nat) (seed:List UInt8) (m:ByteArray) (recs:Value) (rl xs:List ByteArray) (w:World) (hK:Kon w) (hs:SignerAt w s kb bb 0) (hk:KeyIn w kb hi seed) (hseed:seed.length<=1000) (hm:m.size<=1000) (hb:BookAt w bb d first sz at' turn nend recs) (hd:DiskAt w d g xs (.slice none 0 0))
 (hro:w.ownsRow R 9 1 recs rl.length (strs rl)) (hrn:∀ k,recs.ownBlock=some k->k≠d/\k≠g) (hrl:rl.length<65535) (hsz:nend<sz) (hsz64:sz<65536) (hpos:at'+nend<xs.length) (h64:xs.length<65536) (hx64:∀ x∈xs,x.size=64) (hturn:turn<4294967296) (hdk:d<kb) (hgk:g<kb) (hhb:hi<=bb) (hbs:bb<s) (hKd:0<d) (hKg:0<g) :
 Calls Tryz.prog 84 #[.pointer (some ⟨s,0,none⟩),.string m] w fun e w'=>∃ v,e=.returned (.tuple #[v,.int .i64 0])/\SigAt w' v seed m.data.toList/\SignerAt w' s kb bb 1/\KeyIn w' kb hi seed/\Touch (fun k=>k=bb\/k=d\/k=g\/k=s) w w':=by
 obtain ⟨x0,x1,x2,_⟩:=hs.cells
 have hlk:kb<hi:=by obtain ⟨_,_,_,_,h,_⟩:=hk;exact h
 have HS:=Lib.hid hs
 have HK:=Lib.hid hK
 have HKey:=Lib.hid hk
 have hres:=Lib.hid (fun (W:World) (hB:Below w.heap.size w W)=>greserve_one s kb bb 0 d g first sz R at' turn nend recs rl xs W (hK.old hB) ((hB.block s (lt_of_heap hs)).trans hs) ((hB.block bb (lt_of_heap hb)).trans hb) (hd.below hB hd.lt.1 hd.lt.2) ((Touch.of_below hB (fun _=>False)).own hro (fun _ _ h=>h)) hrn hrl hsz hsz64 hpos h64 hx64 hturn (by decide))
 have hls:=lt_of_heap hs
 clear hs hK hk hb hd hro hrn hrl hsz hsz64 hpos h64 hx64 hturn
 go_enter Tryz.func84,Tryz.ntmps84
 go_wp2_with fail
 have rowR:(w.alloc (.cells #[.int .i64 0,.slice none 0 0,.slice none 0 0] 84)).heap[w.heap.size]?=some (.cells #[.int .i64 0,.slice none 0 0,.slice none 0 0] 84 (0,0)):=heap_alloc_new _ _
 have hB1:Below w.heap.size w (w.alloc (.cells #[.int .i64 0,.slice none 0 0,.slice none 0 0] 84)):=(Below.refl _ _).alloc (Nat.le_refl _) _
 generalize (w.alloc (.cells #[.int .i64 0,.slice none 0 0,.slice none 0 0] 84))=W1 at rowR hB1 |-
 have z0:=(hB1.cell (p:=⟨s,0,none⟩) hls).trans x0
 have z2:=(hB1.cell (p:=⟨s,2,none⟩) hls).trans x2
 have hkey1:KeyIn W1 kb hi seed:=HKey.out.below hB1 (by obtain ⟨_,_,_,_,_,_,_,h⟩:=HKey.out;exact h)
 have hcnt:=Lib.hid (fun n=>(xcount_any kb seed (W1.drewN n) (hkey1.below (below_drewN (B:=W1.heap.size) W1 n) (by obtain ⟨_,_,_,_,_,_,_,h⟩:=hkey1;exact h)).at).mono fun e w' h=>(⟨h.1,h.2.symm⟩:_/\w'=W1.drewN n))
 go_quiet ((go_at_call 130;exact Calls.quiet_of_same (hcnt.out _)))
 have hB2:=hB1.trans (below_drewN (B:=w.heap.size) W1 nq)
 have rowR2:(W1.drewN nq).heap[w.heap.size]?=some (.cells #[.int .i64 0,.slice none 0 0,.slice none 0 0] 84 (0,0)):=rowR
 generalize W1.drewN nq=W2 at hB2 rowR2 |-
 clear hcnt rowR z0 z2 hkey1 hB1
 go_wp2_with fail
 refine (hres.out W2 hB2).mono ?_
 rintro e w3 ⟨rfl,recs',ys,sr,hb3,ho3,hyl,hy64,hd3,hT3⟩
 clear hres hb3 ho3 hyl hy64 hd3
 have hlt3:=hT3.size
 have rowR3:=hT3.heap rowR2 (by rintro (h | h | h) <;> omega)
 have rowS3:=hT3.heap ((hB2.block s hls).trans HS.out) (by rintro (h | h | h) <;> omega)
 have key3:KeyIn w3 kb hi seed:=(HKey.out.below hB2 (by obtain ⟨_,_,_,_,_,_,_,h⟩:=HKey.out;exact h)).touch hT3 (fun k h1 h2=>by rintro (h | h | h) <;> omega)
 have hTw:Touch (fun k=>k=bb\/k=d\/k=g\/k=s) w w3:=(Touch.of_below hB2 _).trans (hT3.mono (fun k h=>.inl (by rcases h with h | h | h;exact .inl h;exact .inr (.inl h);exact .inr (.inr (.inl h)))))
 obtain ⟨q0,q1,q2,f0,f1,f2⟩:=three_of_row rowS3
 have R3:=Lib.hid rowR3
 have S3:=Lib.hid rowS3
 clear rowR2 rowR3 rowS3 hT3 hB2
 go_wp2_with fail
 have rowS4:=heap_setCell_same w3 s 2 _ _ (.int .i64 1) S3.out
 have hT4:Touch (·=s) w3 (w3.setCell ⟨s,2,none⟩ (.int .i64 1)):=Touch.setCell (S:=(·=s)) w3 ⟨s,2,none⟩ _ rfl
 generalize (w3.setCell ⟨s,2,none⟩ (.int .i64 1))=w4 at rowS4 hT4 |-
 have rowS4:w4.heap[s]?=some (.cells #[.pointer (some ⟨kb,0,none⟩),.pointer (some ⟨bb,0,none⟩),.int .i64 1] 235 (0,0)):=rowS4
 have rowR4:=hT4.heap R3.out (by omega)
 have key4:=key3.touch hT4 (fun k h1 h2=>by omega)
 have hTw4:=hTw.trans (hT4.mono (fun k h=>.inl (.inr (.inr (.inr h)))))
 clear q0 q1 q2 f0 f1 f2 key3 hTw R3 S3 hT4
 have hK4:Kon w4:=HK.out.touch hTw4 (by rintro (h | h | h | h) <;> omega)
 have hl4:=lt_of_heap rowS4
 have hr4:=lt_of_heap rowR4
 have hcall:=Lib.hid (xsign_any kb seed m w4.drew (key4.below (below_drew w4) (by obtain ⟨_,_,_,_,_,_,_,h⟩:=key4;exact h)).at hseed hm (hK4.old (below_drew w4)))
 obtain ⟨p0,p1,p2,_,_,_⟩:=three_of_row rowS4
 obtain ⟨q0,q1,q2,f0,f1,f2⟩:=three_of_row rowR4
 have HP:=Lib.hid (fun w5 (hb:Below w4.drew.heap.size w4.drew w5)=>three_of_row (((below_call hb).block s hl4).trans rowS4))
 have HQ:=Lib.hid (fun w5 (hb:Below w4.drew.heap.size w4.drew w5)=>three_of_row (((below_call hb).block _ hr4).trans rowR4))
 have RS:=Lib.hid rowS4
 have RR:=Lib.hid rowR4
 have HT4:=Lib.hid hTw4
 have HKey4:=Lib.hid key4
 have Hl4:=Lib.hid hl4
 have Hr4:=Lib.hid hr4
 clear rowS4 rowR4 hTw4 key4 hl4 hr4 hK4 x0 x1 x2 hlk hdk hgk hhb hbs hKd hKg hlt3
 generalize hrb:w.heap.size=rb at q0 q1 q2 f0 f1 f2 HQ RR Hr4 |-
 have Hrb:=Lib.hid hrb
 clear hrb
 have hw0:IntKind.i64.wrap 0=0:=rfl
 go_region_law (first | (go_simp;go_at_call 75;(with_reducible refine hcall.out.mono ?_);rintro r w5 ⟨v,rfl,⟨a5,c5,rfl,hcl5⟩,hb5⟩;obtain ⟨p0',p1',p2',_,_,_⟩:=HP.out _ hb5;obtain ⟨q0',q1',q2',f0',f1',f2'⟩:=HQ.out _ hb5))
 all_goals
  have hlt5:=(below_call hb5).size
  have rowR5:=((below_call hb5).block rb Hr4.out).trans RR.out
  have rowS5:=((below_call hb5).block s Hl4.out).trans RS.out
  have hT5:=HT4.out.trans (Touch.of_below (below_call hb5) _)
  have key5:=HKey4.out.below (below_call hb5) (by obtain ⟨_,_,_,_,_,_,_,h⟩:=HKey4.out;exact h)
  have hrow:=three_store (.int .i64 0) (.slice a5 35 c5) (.slice none 0 0) rowR5
  have hT6:=three_touch (w:=w5) (b:=rb) (.int .i64 0) (.slice a5 35 c5) (.slice none 0 0)
  have hne:=cells_ne_row hcl5 rowR5 (by rw [txs_length,sigOf_length];decide)
  have hcl6:=hT6.cells hcl5 hne
  have hTw6:=hT5.then hT6 (fun k h=>.inr (by have:=Hrb.out;omega))
  have rowS6:=hT6.heap rowS5 (by have:=Hrb.out;omega)
  have key6:=key5.touch hT6 (fun k h1 h2=>by
   obtain ⟨_,_,_,_,h,_,_,hh⟩:=HKey.out
   have:=Hrb.out;omega)
  simp only [Act.put,List.getElem_toArray,List.getElem_cons_succ,List.getElem_cons_zero,List.setIfInBounds_toArray,List.set_cons_succ,List.set_cons_zero]
  generalize (((w5.setCell ⟨rb,0,none⟩ (.int .i64 0)).setCell ⟨rb,1,none⟩ (.slice a5 35 c5)).setCell ⟨rb,2,none⟩ (.slice none 0 0))=V at hrow hcl6 hTw6 rowS6 key6 hT6 |-
  clear p0 p1 p2 p0' p1' p2' q0 q1 q2 f0 f1 f2 q0' q1' q2' f0' f1' f2' hT6 hne hT5 key5 rowR5 rowS5 hcl5 hb5 HP HQ
  obtain ⟨p0,p1,p2,_,_,_⟩:=three_of_row hrow
  have H1:=Lib.hid hcl6
  have H2:=Lib.hid hTw6
  have H3:=Lib.hid rowS6
  have H4:=Lib.hid key6
  clear hcl6 hTw6 rowS6 key6 hrow
  go_wp2
  refine bodyPost_ret (v:=.tuple #[.agg #[.int .i64 0,.slice a5 35 c5,.slice none 0 0],.int .i64 0]) ?_ rfl ⟨_,rfl,⟨a5,c5,rfl,H1.out⟩,H3.out,H4.out,H2.out⟩
  simp [results,Tryz.f84,go_sem,p0,p1,p2]
theorem signs_any (w:World) (hK:Kon w) :
 Calls Tryz.prog 40 #[] w fun e w'=>e=.returned (.bool true)/\Below w.heap.size w w':=by
 have hKl:=hK.lt
 have HK:=Lib.hid hK
 clear hK
 go_enter Tryz.func40,Tryz.ntmps40
 go_wp2_with fail
 refine (snew_any w).mono ?_
 rintro e w1 ⟨d,rfl,hd0,g,hg0,hd,hb1⟩
 have hK1:=HK.out.old hb1
 have hl1:=hd.lt
 have ho:=Lib.hid (gopen_zero d g 0 8 (secL 8) ⟨#[115,101,101,100]⟩ (by decide) (Nat.le_refl _) (by intro x hx;simp [secL] at hx;exact hx) (by decide) (by decide) w1 hK1 hd)
 have HD:=Lib.hid hd
 have HB1:=Lib.hid hb1
 have HK1:=Lib.hid hK1
 clear hd hb1 hK1
 go_wp2_with fail
 refine ho.out.mono ?_
 rintro e w2 ⟨s,kb,hi,bb,rfl,hs,hk,hbk,hkb,hhb,hbs,hb2⟩
 clear ho
 have hlt:kb<hi:=by obtain ⟨_,_,_,_,h,_⟩:=hk;exact h
 have hK2:=HK1.out.old hb2
 have hsg:=Lib.hid (gsign_one s kb hi bb d g 0 4 0 0 0 0 _ ⟨#[109]⟩ (.slice none 0 0) [] (secL 8) w2 hK2 hs hk (by decide) (by decide) hbk (HD.out.below hb2 hl1.1 hl1.2)
  (World.ownsRow_nil w2 _ _ _) (by intro k hk;cases hk) (by decide) (by decide) (by decide) (by decide) (by decide) (by intro x hx;simp [secL] at hx;subst hx;rfl) (by decide) (by omega) (by omega) hhb hbs (by omega) (by omega))
 have HB2:=Lib.hid hb2
 have HK2:=Lib.hid hK2
 clear hs hk hbk hK2 hb2
 go_wp2_with fail
 refine hsg.out.mono ?_
 rintro e w3 ⟨v,rfl,hv,hs3,hk3,hT⟩
 clear hsg
 have hK3:=HK2.out.touch hT (by rintro (h | h | h | h) <;> omega)
 have hB3:Below w.heap.size w w3:=(HB1.out.trans (HB2.out.mono HB1.out.size)).trans (hT.below (B:=w.heap.size) (by rintro k (h | h | h | h) <;> omega) (by have:=HB1.out.size;have:=HB2.out.size;omega))
 obtain ⟨a3,c3,rfl,hcl3⟩:=hv
 have hrow:=heap_alloc_new w3 (.cells #[.int .i64 0,.slice a3 35 c3,.slice none 0 0] 84)
 have hB4:Below w3.heap.size w3 (w3.alloc (.cells #[.int .i64 0,.slice a3 35 c3,.slice none 0 0] 84)):=(Below.refl _ _).alloc (Nat.le_refl _) _
 have hls:=lt_of_heap hs3
 have HC:=Lib.hid hcl3
 have HS:=Lib.hid hs3
 have HKey:=Lib.hid hk3
 have HK3:=Lib.hid hK3
 have HB3:=Lib.hid hB3
 clear hcl3 hs3 hk3 hK3 hB3 hT hd0 hg0 hl1 hkb hhb hbs hlt hKl
 go_wp2_with fail
 generalize (w3.alloc (.cells #[.int .i64 0,.slice a3 35 c3,.slice none 0 0] 84))=V at hrow hB4 |-
 have hVl:=lt_of_heap hrow
 have hKeep:∀ W',Below V.heap.size V W'->(W'.cell? ⟨w3.heap.size,0,none⟩=some (.int .i64 0)/\W'.cell? ⟨w3.heap.size,1,none⟩=some (.slice a3 35 c3)/\W'.cell? ⟨w3.heap.size,2,none⟩=some (.slice none 0 0)/\Below V.heap.size V W'):=fun W' hb=>by
  obtain ⟨p0,p1,p2,_,_,_⟩:=three_of_row ((hb.block _ hVl).trans hrow)
  exact ⟨p0,p1,p2,hb⟩
 have HKeep:=Lib.hid hKeep
 have c1:=Lib.hid (gpublic_any s kb bb 1 hi [115,101,101,100] V.drew ((below_drew V).block s (Nat.lt_of_lt_of_le hls hB4.size) |>.trans ((hB4.block s hls).trans HS.out)) ((HKey.out.below hB4 (by obtain ⟨_,_,_,_,_,_,_,h⟩:=HKey.out;exact h)).below (below_drew V) (by obtain ⟨_,_,_,_,_,_,_,h⟩:=HKey.out;exact Nat.le_trans h hB4.size)))
 have c2:=Lib.hid (fun (W5:World) (hb:Below V.heap.size V W5)=>xverify_any [115,101,101,100] ⟨#[109]⟩ (.agg #[.int .i64 0,.slice a3 35 c3,.slice none 0 0]) W5 ⟨a3,c3,rfl,(HC.out.old hB4).old hb⟩ (by decide) ((HK3.out.old hB4).old hb))
 have hS0:=Lib.hid (HKeep.out _ (below_drew V))
 have hS1:=Lib.hid (fun w5 (hb5:Below V.drew.heap.size V.drew w5)=>HKeep.out w5 (below_call hb5))
 have hS2:=Lib.hid (fun w5 w6 (hb5:Below V.drew.heap.size V.drew w5) (hb6:Below w5.heap.size w5 w6)=>HKeep.out w6 ((below_call hb5).trans (hb6.mono (below_call hb5).size)))
 have c2':=Lib.hid (fun (W5:World) (hb:Below V.drew.heap.size V.drew W5)=>c2.out W5 (below_call hb))
 clear hKeep hrow c2
 go_region_held3 (fun W'=>W'.cell? ⟨w3.heap.size,0,none⟩=some (.int .i64 0)/\W'.cell? ⟨w3.heap.size,1,none⟩=some (.slice a3 35 c3)/\W'.cell? ⟨w3.heap.size,2,none⟩=some (.slice none 0 0)/\Below V.heap.size V W') (first | exact hS0.out | exact hS2.out _ _ (by assumption) (by assumption) | exact hS1.out _ (by assumption)) (first | (go_at_call 85;with_reducible refine c1.out.mono ?_;rintro r w5 ⟨rfl,hb5⟩) | (go_at_call 86;with_reducible refine (c2'.out _ (by assumption)).mono ?_;rintro r w6 ⟨rfl,hb6⟩))
 obtain ⟨q0,q1,q2,hb7⟩:=hS2.out _ _ hb5 hb6
 go_wp2
 go_ret
 exact ⟨rfl,(HB3.out.trans (hB4.mono HB3.out.size)).trans (hb7.mono (by have:=HB3.out.size;have:=hB4.size;omega))⟩
theorem made_there {h:Hs} {val:Tx->Tx} {ks:List Tx} {key:Tx} {d n:Nat} {p:Pf} (hm:Made h val ks key d p n) (hk:key∈ks):p.there=true/\p.key=key/\p.val=val key:=by
 have hin:key∈under ks key (d+n):=mem_under.2 ⟨hk,alike_refl _ _⟩
 rcases hm.fin with ⟨e,_⟩ | ⟨k,e,h1,h2,h3⟩
 · rw [e] at hin;cases hin
 · rw [e,List.mem_singleton] at hin
   subst hin
   exact ⟨h1,h2,h3⟩
theorem made_root {val:Tx->Tx} {ks:List Tx} {key:Tx} {n:Nat} {p:Pf} (hm:Made hs val ks key 0 p n):hs.at val ks [] 0=hs.climb key p.beside 0 (hs.foot p):=by
 rw [hm.climb,at_root val ks key]
theorem tagged_one (tag:Nat) (a:ByteArray) (W:World) (htag:tag<256) (ha:a.size<=100000) (hK:Kon W) :
 Calls Tryz.prog 9 #[.int .u8 tag,.slice (some ⟨W.heap.size,0,none⟩) 1 1] (W.alloc (.cells #[.string a] 9)) fun e w'=>e=.returned (.string ⟨(tagOf tag [a.data.toList]).toArray⟩)/\Below W.heap.size W w':=by
 have h:=tagged_new tag [a] 1 rfl W htag (by decide) (by rw [tagIn_len];simp;omega) hK
 exact h
theorem trees_any (w:World) (hK:Kon w) :
 Calls Tryz.prog 6 #[] w fun e w'=>e=.returned (.bool true)/\Below w.heap.size w w':=by
 have HK:=Lib.hid hK
 clear hK
 have hkl:(tagOf 1 [[97]]).length=16:=tagOf_length _ _
 go_enter Tryz.func6,Tryz.ntmps6
 go_wp2_with fail
 refine (tnew_any w).mono ?_
 rintro e w1 ⟨p,b,rfl,ht1,hp1,hb1,hB1⟩
 have htg:=Lib.hid (tagged_one 1 ⟨#[97]⟩ w1 (by decide) (by decide) (HK.out.old hB1))
 have HT1:=Lib.hid ht1
 have hl1:=ht1.lt
 clear ht1
 go_wp2_with fail
 refine htg.out.mono ?_
 rintro e w2 ⟨rfl,hB2⟩
 clear htg
 have hB12:=hB1.trans (hB2.mono hB1.size)
 generalize hkk:tagOf 1 [(ByteArray.mk #[97]).data.toList]=k
 have hk16:k.length=16:=by rw [<-hkk];exact tagOf_length _ _
 clear hkk
 have hput:=Lib.hid (tput_any p b [] ⟨k.toArray⟩ ⟨#[118]⟩ w2 (HT1.out.old hB2) (by show k.toArray.size=16;rw [List.size_toArray,hk16]) (by decide) (by decide))
 go_wp2_with fail
 refine hput.out.mono ?_
 rintro e w3 ⟨rfl,ht3,hT3⟩
 clear hput
 have hB3:Below w.heap.size w w3:=hB12.trans (hT3.below (B:=w.heap.size) (by rintro i rfl;exact hb1) hB12.size)
 have ht3:TreeAt w3 p b [(k,[118])]:=ht3
 obtain ⟨m,hm⟩:∃ m:Puts,m=[(k,[118])]:=⟨_,rfl⟩
 rw [<-hm] at ht3
 have hval:valOf m k=[118]:=by rw [hm];exact valOf_put_same _ _ _
 have hin:k∈keysOf m:=by rw [hm];exact (keysOf_put _ _ _ _).2 (.inl rfl)
 have hkeys:=keys_keysOf (m:=m) fun q hq=>(ht3.small q hq).1
 have hpr:=Lib.hid (pprove_any p b m k 0 w3 ht3 (HK.out.old hB3) hk16 (by decide))
 have HT3:=Lib.hid ht3
 have hl3:=ht3.lt
 clear ht3 hT3 hm
 go_wp2_with fail
 refine hpr.out.mono ?_
 rintro e w4 ⟨a,c,pf,n,rfl,hr4,hmade,hB4,hl4⟩
 clear hpr
 obtain ⟨hth,hpk,hpv⟩:=made_there hmade hin
 have hgood:=hmade.good hkeys
 rw [hval] at hpv
 have hroot:=made_root hmade
 obtain ⟨bs,th,pk,pv⟩:=pf
 dsimp only at *
 subst hth hpk hpv
 have hBw4:=hB3.trans (hB4.mono hB3.size)
 have hof:=Lib.hid (fun W=>bof_any ⟨pk.toArray⟩ 2 W (by show pk.toArray.size=16;rw [List.size_toArray,hk16]) (by decide))
 obtain ⟨len,hlen⟩:∃ len,bs.length=len:=⟨_,rfl⟩
 obtain ⟨W5,hW5⟩:∃ W5,W5=w4.alloc (.cells #[.slice a len c,.bool true,.string ⟨pk.toArray⟩,.string ⟨#[118]⟩] 51):=⟨_,rfl⟩
 have hB5:Below w4.heap.size w4 W5:=by rw [hW5];exact (Below.refl _ _).alloc (Nat.le_refl _) _
 have hrow5:W5.heap[w4.heap.size]?=some (.cells #[.slice a len c,.bool true,.string ⟨pk.toArray⟩,.string ⟨#[118]⟩] 51 (0,0)):=by rw [hW5];exact heap_alloc_new _ _
 have hBw5:=hBw4.trans (hB5.mono hBw4.size)
 have hl5:w4.heap.size<W5.heap.size:=by rw [hW5];simp
 have hv5:PfAt W5 (.agg #[.slice a len c,.bool true,.string ⟨pk.toArray⟩,.string ⟨#[118]⟩]) ⟨bs,true,pk,[118]⟩:=⟨a,c,by rw [<-hlen],hr4.old hB5⟩
 have cS:=Lib.hid (signs_any W5.drew (HK.out.old (hBw5.trans (Below.refl w.heap.size W5).drew)))
 have cR:=Lib.hid (fun (W:World) (hb:Below W5.heap.size W5 W)=>troot_any p b m W ((HT3.out.old hB4).old hB5 |>.old hb) ((HK.out.old hBw5).old hb))
 rw [hroot] at cR
 have cH:Hid (∀ (W:World),Below W5.heap.size W5 W->Calls Tryz.prog 20 #[.agg #[.slice a len c,.bool true,.string ⟨pk.toArray⟩,.string ⟨#[118]⟩],.string ⟨(hs.climb pk bs 0 (hs.foot ⟨bs,true,pk,[118]⟩)).toArray⟩,.string ⟨pk.toArray⟩,.string ⟨#[118]⟩,.int .i64 0] W fun e w'=>e=.returned (.bool true)/\Below W.heap.size W w'):=Lib.hid (fun (W:World) (hb:Below W5.heap.size W5 W)=>phas_any _ ⟨bs,true,pk,[118]⟩ pk 0 W (hv5.old hb) hgood (by show (1:Nat)<=1000;decide) ((HK.out.old hBw5).old hb) rfl rfl)
 have hb2:bandI pk 2=bandTo pk 2:=rfl
 have cB:Hid (∀ (W:World),Calls Tryz.prog 13 #[.string ⟨pk.toArray⟩,.int .i64 2] W fun e w'=>e=.returned (.int .i64 (bandTo pk 2))/\W=w'):=Lib.hid (fun (W:World)=>hb2 ▸ band_any ⟨pk.toArray⟩ 2 W (by show pk.toArray.size<=_;rw [List.size_toArray];omega))
 rw [hlen]
 have HROW:=Lib.hid hrow5
 clear hroot hmade hin hkeys hr4 hv5 hgood hrow5
 generalize hs.climb pk bs 0 (hs.foot ⟨bs,true,pk,[118]⟩)=NN at cR cH
 go_wp2_with fail
 rw [<-hW5]
 refine (hof.out W5).mono ?_
 rintro e w6 ⟨rfl,rfl⟩
 clear hof hW5
 have HKeep:=Lib.hid (fun (W':World) (hb:Below w6.heap.size w6 W')=>(by
  obtain ⟨q0,q1,q2,q3⟩:=four_of_cells ((hb.block _ hl5).trans HROW.out)
  exact ⟨q0,q1,q2,q3,hb⟩:W'.cell? ⟨w4.heap.size,0,none⟩=some (.slice a len c)/\W'.cell? ⟨w4.heap.size,1,none⟩=some (.bool true)/\W'.cell? ⟨w4.heap.size,2,none⟩=some (.string ⟨pk.toArray⟩)/\W'.cell? ⟨w4.heap.size,3,none⟩=some (.string ⟨#[118]⟩)/\Below w6.heap.size w6 W'))
 have hS0:=Lib.hid (HKeep.out _ (Below.refl w6.heap.size w6).drew)
 have b1:=Lib.hid (fun w7 (h7:Below w6.drew.heap.size w6.drew w7)=>below_call0 h7)
 have b2:=Lib.hid (fun w7 w8 (h7:Below w6.drew.heap.size w6.drew w7) (h8:Below w7.heap.size w7 w8)=>(below_call0 h7).trans (h8.mono (below_call0 h7).size))
 have b3:=Lib.hid (fun w7 w8 w9 (h7:Below w6.drew.heap.size w6.drew w7) (h8:Below w7.heap.size w7 w8) (h9:Below w8.heap.size w8 w9)=>(b2.out w7 w8 h7 h8).trans (h9.mono (b2.out w7 w8 h7 h8).size))
 have hS1:=Lib.hid (fun w7 (h7:Below w6.drew.heap.size w6.drew w7)=>HKeep.out w7 (b1.out w7 h7))
 have hS2:=Lib.hid (fun w7 w8 (h7:Below w6.drew.heap.size w6.drew w7) (h8:Below w7.heap.size w7 w8)=>HKeep.out w8 (b2.out w7 w8 h7 h8))
 have hS3:=Lib.hid (fun w7 w8 w9 (h7:Below w6.drew.heap.size w6.drew w7) (h8:Below w7.heap.size w7 w8) (h9:Below w8.heap.size w8 w9)=>HKeep.out w9 (b3.out w7 w8 w9 h7 h8 h9))
 go_wp2_with fail
 go_region_held3 (fun W'=>W'.cell? ⟨w4.heap.size,0,none⟩=some (.slice a len c)/\W'.cell? ⟨w4.heap.size,1,none⟩=some (.bool true)/\W'.cell? ⟨w4.heap.size,2,none⟩=some (.string ⟨pk.toArray⟩)/\W'.cell? ⟨w4.heap.size,3,none⟩=some (.string ⟨#[118]⟩)/\Below w6.heap.size w6 W') (first | exact hS0.out | exact hS3.out _ _ _ (by assumption) (by assumption) (by assumption) | exact hS2.out _ _ (by assumption) (by assumption) | exact hS1.out _ (by assumption))
  (first
    | (go_at_call 40;with_reducible refine cS.out.mono ?_;rintro r w7 ⟨rfl,hb7⟩)
    | (go_at_call 17;with_reducible refine (cR.out _ (b1.out _ (by assumption))).mono ?_;rintro r w8 ⟨rfl,hb8⟩)
    | (go_at_call 20;with_reducible refine (cH.out _ (b2.out _ _ (by assumption) (by assumption))).mono ?_;rintro r w9 ⟨rfl,hb9⟩)
    | (go_at_call 13;with_reducible refine (cB.out _).mono ?_;rintro r w10 ⟨rfl,rfl⟩))
 have hb:=b3.out _ _ _ hb7 hb8 hb9
 go_wp2
 go_ret
 exact ⟨by simp,hBw5.trans (hb.mono hBw5.size)⟩
end Go.Proofs.YtcgkomafaepjnaaGreatDoor
namespace Go.Proofs.YtcgkomafaepjnaaGreatDoor
open Go.RowKit Go.Shelf
attribute [local go_sem] Oper.semAt_some
def encP (g o:Nat) {n:Nat} (x:Fin n):Array Value:=#[.slice (some ⟨g,o+2*x.val,none⟩) 2 2]
theorem abides_drew {β:Type} {B:Nat} {J:β->World->Prop} (h:AbidesFrom B J) {s:β} {W:World} (hs:J s W):J s W.drew:=
 h s W W.drew none hs ⟨rfl,rfl,rfl,Nat.le_refl _,fun _ _ _=>rfl⟩ (fun r e=>by cases e)
def finAt (n:Nat) (h:0<n) (j:Nat):Fin n:=⟨j%n,Nat.mod_lt _ h⟩
theorem chunks1_in (n:Nat) (hn:1<=n) (l Bs Bn B5 n₀ g o c cap:Nat) (hc0:0<c) (hc:c<=8) (hcap:2*c<=cap) (hBsn:Bs<n₀) (hBs5:Bs≠B5) (hBnn:Bn<n₀) (hBn5:Bn≠B5) (J Jx:List (Fin c)->World->Prop) (B:Nat) (hJA:AbidesFrom B J)
 (hY:∀ pre x W,J pre W->pre.length<c->YieldAt Fence.wide (n - 1) Tryz.prog l (encP g o x) W fun e W'=>
   (e=.returned (.bool true)/\J (pre++[x]) W'/\KpT B5 n₀ W W')\/(e=.returned (.bool false)/\Jx (pre++[x]) W'))
 (W:World) (hBs:W.cell? ⟨Bs,0,none⟩=some (.slice (some ⟨g,o,none⟩) (2*c) cap)) (hBn:W.cell? ⟨Bn,0,none⟩=some (.int .i64 2)) (h0:J [] W) :
 CallsIn Fence.wide n Tryz.prog 97 #[.func (.yield l) #[] #[],.pointer (some ⟨Bs,0,none⟩),.pointer (some ⟨Bn,0,none⟩)] W fun e W'=>(∃ v,e=.returned v) /\
  ((∃ ys,ys=uptoI (finAt c hc0) c/\J ys W')\/(∃ pre,True/\Jx pre W')):=by
 have hmx:Tryz.prog.follows .mixedOrders=true:=by kernel_rfl
 refine callsIn_of_wp Tryz.func97 rfl trivial ?_ rfl
 simp only [Tryz.ntmps97,List.size_toArray,List.length_cons,List.length_nil,Nat.reduceAdd,Nat.reduceSub,Array.replicate_succ,Array.replicate_zero,List.push_toArray,List.append_toArray,List.nil_append,List.cons_append]
 gi_wp2
 gi_loopw [4,5] (fun i _ wr=>∃ k:Nat,k<=c/\i=.int .i64 ((2*k:Nat):Int)/\J (uptoI (finAt c hc0) k) wr/\KpT B5 n₀ W wr)
  (fun i _ _=>2*c - (intOf i).toNat)
 case atStart=>exact ⟨0,Nat.zero_le _,rfl,h0,Touch.refl _ _⟩
 case round=>
  obtain ⟨k,hk,rfl,hJs,hnx⟩:=hrel
  have hBx:=hnx.cell hBsn hBs5 hBs
  have hBy:=hnx.cell hBnn hBn5 hBn
  by_cases hlt:k<c
  · have hY1:=hY _ (finAt c hc0 k) wr.drew (abides_drew hJA hJs) (by rw [uptoI_length];exact hlt)
    have eI:encP g o (finAt c hc0 k)=#[.slice (some ⟨g,o+2*k,none⟩) 2 2]:=by
     unfold encP finAt
     dsimp only
     rw [Nat.mod_eq_of_lt hlt]
    rw [eI,<-uptoI_succ] at hY1
    have Hnx:=Lib.hid hnx
    obtain ⟨j,hj⟩:∃ j,2*k=j:=⟨_,rfl⟩
    obtain ⟨len,hlen⟩:∃ len,2*c=len:=⟨_,rfl⟩
    rw [hlen] at hBx hcap
    rw [hj] at hY1 |-
    have hjl:j+2<=len:=by omega
    have hlen16:len<=16:=by omega
    have hj0:(0:Int)<=(j:Int):=by omega
    have hj1:(j:Int)<(len:Int):=by omega
    have hj2:(j:Int)<=(len:Int):=by omega
    have hj3:(j:Int)+2<=(cap:Int):=by omega
    have hj4:(j:Int)+2<=(len:Int):=by omega
    have hm:min (2:Int) (((len - j:Nat):Int))=2:=by omega
    have hw:IntKind.i64.wrap ((j:Int)+2)=(j:Int)+2:=by rw [IntKind.wrap_i64];omega
    clear hJs hY hnx
    gi_wp2_with fail
    gi_region_with_o (fail)
    all_goals
     have hBx':wr.drew.cell? ⟨Bs,0,none⟩=_:=hBx
     have hBy':wr.drew.cell? ⟨Bn,0,none⟩=_:=hBy
     have Hnx':Hid (KpT B5 n₀ W wr.drew):=Lib.hid (Hnx.out.trans (Touch.drewN wr 1))
     clear hBx hBy Hnx
     obtain ⟨fn,tmps,assign,body,hy,hR⟩:=hY1
     generalize wr.drew=V at hBx' hBy' Hnx' hy hR |-
     gi_wp2
     refine hR.mono ?_
     rintro e W3 (⟨rfl,hJ3,hk3⟩ | ⟨rfl,hJx3⟩)
     · have hBy3:=hk3.cell hBnn hBn5 hBy'
       gi_wp2
       go_roundw
       case rel=>exact ⟨k+1,by omega,by rw [show 2*(k+1)=j+2 from by omega];go_num,hJ3,Hnx'.out.trans hk3⟩
       case measure=>first | (simp [intOf];done) | (simp [intOf];omega)
     · gi_wp2
       refine bodyPost_ret (results_none rfl _ _ _) rfl ?_
       exact ⟨⟨_,rfl⟩,.inr ⟨_,trivial,hJx3⟩⟩
  · obtain rfl:k=c:=by omega
    gi_wp2
    go_end0
    exact ⟨⟨_,rfl⟩,.inl ⟨_,rfl,hJs⟩⟩
end Go.Proofs.YtcgkomafaepjnaaGreatDoor
namespace Go.Proofs.YtcgkomafaepjnaaGreatDoor
open Go.RowKit
theorem may_any (b d:Nat) (a:Option Addr) (c n:Nat) (ks:List Tx) (w:World) (hn:ks.length=n) (hr:Keyrow w a c ks) (hd:d<=3) (hb:b<2^d) (hfew:n<=256) (h16:∀ k∈ks,k.length=16) (hband:∀ k∈ks,bandTo k d=b) :
 Calls Tryz.prog 47 #[.int .i64 (b:Int),.int .i64 (d:Int),.slice a n c] w fun e w'=>e=.returned (.int .i64 0)/\w'=w:=by
 have hcnt:=Lib.hid (bcount_any d w hd)
 have hp0:0<2^d:=Nat.two_pow_pos d
 generalize 2^d=m at hcnt hp0 hb
 have hcell:Hid (∀ k,k<n->∃ g o,a=some ⟨g,o,none⟩/\∃ t:ByteArray,w.cell? ⟨g,o+k,none⟩=some (.string t)/\Hid (Calls Tryz.prog 39 #[.string t,.int .i64 (d:Int)] w fun e w'=>e=.returned (.tuple #[.int .i64 (b:Int),.int .i64 0])/\w'=w)):=Lib.hid (by
  intro k hk
  obtain ⟨g,o,e,_,hc⟩:=hr.cell k (by omega)
  have hget:ks.getD k []=ks[k]:=by rw [List.getD_eq_getElem?_getD,List.getElem?_eq_getElem (by omega)];rfl
  rw [hget] at hc
  have hof:=bof_any ⟨(ks[k]).toArray⟩ d w (by show (ks[k]).toArray.size=16;rw [List.size_toArray];exact h16 _ (List.getElem_mem _)) hd
  have e2:bandTo (ByteArray.mk (ks[k]).toArray).data.toList d=b:=hband _ (List.getElem_mem _)
  rw [e2] at hof
  exact ⟨g,o,e,_,hc,Lib.hid hof⟩)
 have hm0:((m:Int)==0)=false:=by simp;omega
 have hbm:decide (m<=b)=false:=by simp;omega
 have hbm2:decide ((m:Int)<=(b:Int))=false:=by simp;omega
 have hb0:decide ((b:Int)<0)=false:=by simp
 have hn256:decide ((256:Int)<(n:Int))=false:=by simp;omega
 clear hr h16 hband hn hp0
 go_enter Tryz.func47,Tryz.ntmps47
 go_wp2_with fail
 refine hcnt.out.mono ?_
 rintro e w' ⟨rfl,rfl⟩
 clear hcnt
 go_wp2_with fail
 go_loop [31] (fun i=>∃ k:Nat,k<=n/\i=.int .i64 k) (fun i=>n - (intOf i).toNat)
 case atStart=>exact ⟨0,Nat.zero_le _,rfl⟩
 case round=>
  obtain ⟨k,hk,rfl⟩:=hrel
  by_cases hkl:k<n
  · obtain ⟨g,o,rfl,t,hc,hof⟩:=hcell.out k hkl
    go_wp2_with fail
    refine hof.out.mono ?_
    rintro e w2 ⟨rfl,rfl⟩
    clear hof
    go_wp2
    go_round
    case rel=>exact ⟨k+1,by omega,by go_num⟩
    case measure=>simp [intOf];omega
  · obtain rfl:k=n:=by omega
    go_wp2
    go_ret
    exact ⟨rfl,rfl⟩
structure Stp where
 k:Tx
 v:Tx
 a:Option Addr
 c:Nat
 pf:Pf
 n:Nat
def Stp.cells (s:Stp):List Value:=[.string ⟨s.k.toArray⟩,.string ⟨s.v.toArray⟩,.slice s.a s.pf.beside.length s.c,.bool s.pf.there,.string ⟨s.pf.key.toArray⟩,.string ⟨s.pf.val.toArray⟩]
def stCells (l:List Stp):List Value:=l.flatMap Stp.cells
theorem stCells_snoc (l:List Stp) (s:Stp):stCells (l++[s])=stCells l++s.cells:=by simp [stCells]
def behind (m:Puts) (l:List Stp):Puts:=l.foldl (fun m s=>(s.k,s.v) :: m) m
theorem behind_snoc (m:Puts) (l:List Stp) (s:Stp):behind m (l++[s])=(s.k,s.v) :: behind m l:=by simp [behind]
theorem behind_eq (m:Puts):∀ l:List Stp,behind m l=(l.map fun s=>(s.k,s.v)).reverse++m:=by
 intro l
 induction l generalizing m with
 | nil=>rfl
 | cons s l ih=>
   show behind ((s.k,s.v) :: m) l=_
   rw [ih,List.map_cons,List.reverse_cons,List.append_assoc];rfl
def Chained (d:Nat):Puts->List Stp->Prop
 | _,[]=>True
 | m,s :: l=>Made hs (valOf m) (keysOf m) s.k d s.pf s.n/\Chained d ((s.k,s.v) :: m) l
theorem chained_snoc (d:Nat) (s:Stp):∀ (l:List Stp) (m:Puts),Chained d m l->Made hs (valOf (behind m l)) (keysOf (behind m l)) s.k d s.pf s.n->Chained d m (l++[s])
 | [],_,_,h=>⟨h,trivial⟩
 | _ :: l,_,hc,h=>⟨hc.1,chained_snoc d s l _ hc.2 h⟩
structure Chrow (w:World) (a:Option Addr) (cs:Puts):Prop where
 cell:∀ k,k<cs.length->∃ g o,a=some ⟨g,o,none⟩/\g<w.heap.size/\w.cell? ⟨g,o+k*2,none⟩=some (.string ⟨((cs.getD k ([],[])).1).toArray⟩)/\w.cell? ⟨g,o+k*2+1,none⟩=some (.string ⟨((cs.getD k ([],[])).2).toArray⟩)
theorem Keyrow.touch' {S:Nat->Prop} {w w':World} {a:Option Addr} {c:Nat} {ks:List Tx} (h:Keyrow w a c ks) (ht:Touch S w w') (hs:0<ks.length->∀ g o,a=some ⟨g,o,none⟩->¬ S g):Keyrow w' a c ks:=
 ⟨h.room,h.few,fun k hk=>by
  obtain ⟨g,o,e,hg,hc⟩:=h.cell k hk
  refine ⟨g,o,e,Nat.lt_of_lt_of_le hg ht.size,?_⟩
  rw [World.cell?_of_block (w:=w) (w':=w') (a:=⟨g,o+k,none⟩) (ht.block g hg (hs (by omega) g o e))];exact hc⟩
theorem five_of_cells {w:World} {b:Nat} {x0 x1 x2 x3 x4:Value} {t:TypeId} (h:w.heap[b]?=some (.cells #[x0,x1,x2,x3,x4] t (0,0))) :
 w.cell? ⟨b,0,none⟩=some x0/\w.cell? ⟨b,1,none⟩=some x1/\w.cell? ⟨b,2,none⟩=some x2/\w.cell? ⟨b,3,none⟩=some x3/\w.cell? ⟨b,4,none⟩=some x4:=
 ⟨cel h,cel h,cel h,cel h,cel h⟩
structure MS (q p b bn d:Nat) (old:Tx) (m:Puts) (W4 W:World) (st:List Stp) (v:Value):Prop where
 xq:W.heap[q]?=some (.cells #[.int .i64 (bn:Int),.int .i64 (d:Int),.string ⟨old.toArray⟩,.string ⟨#[]⟩,v] 41 (0,0))
 own:W.ownsRow W4.heap.size 121 6 v st.length (stCells st)
 sep:∀ s∈st,0<s.pf.beside.length->∀ g o,s.a=some ⟨g,o,none⟩->W4.heap.size<=g/\v.ownBlock≠some g
 rows:∀ s∈st,Keyrow W s.a s.c s.pf.beside
 tree:TreeAt W p b (behind m st)
 chain:Chained d m st
 bel:Touch (fun i=>i=q\/i=b) W4 W
theorem MS.mid {q p b bn d:Nat} {old:Tx} {m:Puts} {W4 W wb w6:World} {st:List Stp} {v:Value} (h:MS q p b bn d old m W4 W st v) (hbq:b<q) (hpq:p<q) (hq4:W4.heap.size=q+1)
 (hBb:Below W.heap.size W wb) (o:Obj) (hg:(wb.alloc o).grownBy w6 v.ownBlock) (v':Value) :
 Touch (fun i=>i=q\/v.ownBlock=some i) W (w6.setCell ⟨q,4,none⟩ v')/\TreeAt (w6.setCell ⟨q,4,none⟩ v') p b (behind m st)/\(w6.setCell ⟨q,4,none⟩ v').heap[q]?=some (.cells #[.int .i64 (bn:Int),.int .i64 (d:Int),.string ⟨old.toArray⟩,.string ⟨#[]⟩,v'] 41 (0,0))/\w6.cell? ⟨q,4,none⟩=some v/\w6.frozen? ⟨q,4,none⟩=false:=by
 have hno:∀ g,v.ownBlock=some g->q<g:=fun g hg=>by have:=(h.own.lt g hg).1;omega
 have T6:Touch (fun i=>v.ownBlock=some i) W w6:=(Touch.of_below (hBb.alloc hBb.size o) _).trans ((Touch.grown hg).mono (fun k hk=>.inl hk.symm))
 have T7:Touch (fun i=>i=q\/v.ownBlock=some i) W (w6.setCell ⟨q,4,none⟩ v'):=
  (T6.mono (fun k hk=>.inl (.inr hk))).trans (Touch.setCell (S:=fun i=>i=q\/v.ownBlock=some i) w6 ⟨q,4,none⟩ _ (.inl rfl))
 have x6:=T6.heap h.xq (fun e=>by have:=hno q e;omega)
 refine ⟨T7,h.tree.touch T7 ?_ ?_,heap_setCell_same w6 q 4 _ _ _ x6,cel x6,frozen_of_row _ _ 4 _ _ x6⟩
 · rintro (e | e)
   · omega
   · have:=hno p e;omega
 · rintro (e | e)
   · omega
   · have:=hno b e;omega
theorem MS.step {q p b bn d:Nat} {old:Tx} {m:Puts} {W4 W wb w6 w8:World} {st:List Stp} {v:Value} (h:MS q p b bn d old m W4 W st v) (hbq:b<q) (hpq:p<q) (hq4:W4.heap.size=q+1)
 (hBb:Below W.heap.size W wb) (o:Obj) (hg:(wb.alloc o).grownBy w6 v.ownBlock) {gg cap2:Nat} (s:Stp)
 (ho:w6.ownsRow W4.heap.size 121 6 (.slice (some ⟨gg,0,none⟩) (st.length+1) cap2) (st.length+1) (stCells st++s.cells)) (hat:v.ownBlock=some gg\/gg=wb.heap.size+1)
 (hrs:Keyrow wb s.a s.c s.pf.beside) (hsl:∀ g o,s.a=some ⟨g,o,none⟩->W.heap.size<=g) (hmade:Made hs (valOf (behind m st)) (keysOf (behind m st)) s.k d s.pf s.n)
 (ht8:TreeAt w8 p b ((s.k,s.v) :: behind m st)) (hT8:Touch (·=b) (w6.setCell ⟨q,4,none⟩ (.slice (some ⟨gg,0,none⟩) (st.length+1) cap2)) w8) :
 MS q p b bn d old m W4 w8 (st++[s]) (.slice (some ⟨gg,0,none⟩) (st.length+1) cap2):=by
 obtain ⟨T7,_,x7,_,_⟩:=h.mid hbq hpq hq4 hBb o hg (.slice (some ⟨gg,0,none⟩) (st.length+1) cap2)
 have hno:∀ g,v.ownBlock=some g->q<g/\g<W.heap.size:=fun g hg=>by have:=h.own.lt g hg;omega
 have hgg:=(ho.lt gg rfl).1
 have sB:=hBb.size
 have s4:=h.bel.size
 have T8:Touch (fun i=>(i=q\/v.ownBlock=some i)\/i=b) W w8:=(T7.mono (fun k hk=>.inl (.inl hk))).trans (hT8.mono (fun k hk=>.inl (.inr hk)))
 have Tb:Touch (fun i=>(i=q\/v.ownBlock=some i)\/i=b) wb w8:=
  (((Touch.alloc wb o).trans ((Touch.grown hg).mono (fun k hk=>.inl (.inl (.inr hk.symm))))).trans (Touch.setCell (S:=fun i=>(i=q\/v.ownBlock=some i)\/i=b) w6 ⟨q,4,none⟩ _ (.inl (.inl rfl)))).trans (hT8.mono (fun k hk=>.inl (.inr hk)))
 refine ⟨hT8.heap x7 (by omega),?_,?_,?_,?_,chained_snoc d s st m h.chain hmade,?_⟩
 · rw [List.length_append,List.length_singleton,stCells_snoc]
   exact hT8.own ((Touch.setCell (S:=(·=q)) w6 ⟨q,4,none⟩ _ rfl).own ho (fun k hk=>by injection hk with hk;have:k=gg:=hk.symm;show ¬ k=q;omega)) (fun k hk=>by injection hk with hk;have:k=gg:=hk.symm;show ¬ k=b;omega)
 · intro t ht hl g o e
   rcases List.mem_append.1 ht with ht | ht
   · obtain ⟨h1,h2⟩:=h.sep t ht hl g o e
     refine ⟨h1,fun e2=>?_⟩
     injection e2 with e2
     rcases hat with e3 | e3
     · exact h2 (by rw [e3];exact congrArg some e2)
     · have:=keyrow_lt (h.rows t ht) hl g o e
       have e2:gg=g:=e2
       omega
   · rw [List.mem_singleton] at ht
     subst ht
     have h1:=hsl g o e
     refine ⟨by omega,fun e2=>?_⟩
     injection e2 with e2
     have e2:gg=g:=e2
     rcases hat with e3 | e3
     · have:=hno gg e3;omega
     · have:=keyrow_lt hrs hl g o e;omega
 · intro t ht
   rcases List.mem_append.1 ht with ht | ht
   · refine (h.rows t ht).touch' T8 (fun hl g o e=>?_)
     obtain ⟨h1,h2⟩:=h.sep t ht hl g o e
     rintro ((e2 | e2) | e2)
     · omega
     · exact h2 e2
     · omega
   · rw [List.mem_singleton] at ht
     subst ht
     refine hrs.touch' Tb (fun hl g o e=>?_)
     have h1:=hsl g o e
     rintro ((e2 | e2) | e2)
     · omega
     · have:=hno g e2;omega
     · omega
 · rw [behind_snoc];exact ht8
 · refine h.bel.then T8 ?_
   rintro i ((e | e) | e)
   · exact .inl (.inl e)
   · have:=(h.own.lt i e).1;exact .inr this
   · exact .inl (.inr e)
end Go.Proofs.YtcgkomafaepjnaaGreatDoor
