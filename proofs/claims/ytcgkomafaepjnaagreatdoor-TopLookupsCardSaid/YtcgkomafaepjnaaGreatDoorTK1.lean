/- Package proof: Has and Lacks of a good proof, whatever they answer. Conditions: short texts. -/
import Derived.Test.YtcgkomafaepjnaaGreatDoorTL7
import Derived.Test.YtcgkomafaepjnaaGreatDoorTL26
import Derived.Test.YtcgkomafaepjnaaGreatDoorTL15
import Derived.Test.YtcgkomafaepjnaaGreatDoorTL23
import Derived.Test.YtcgkomafaepjnaaGreatDoorTL28
set_option maxRecDepth 100000
set_option maxHeartbeats 16000000
namespace Go.Proofs.YtcgkomafaepjnaaGreatDoor
open Go.RowKit
theorem phas_gen (v:Value) (p:Pf) (key N V:Tx) (d:Nat) (b:Bool) (w:World) (hv:PfAt w v p) (hg:IsGood p key d) (hval:p.val.length<=1000) (hK:Kon w) (hb:(p.there&&p.key==key&&p.val==V&&hs.climb key p.beside d (hs.foot p)==N)=b) :
 Calls Tryz.prog 20 #[v,.string ⟨N.toArray⟩,.string ⟨key.toArray⟩,.string ⟨V.toArray⟩,.int .i64 (d:Int)] w fun e w'=>e=.returned (.bool b)/\Below w.heap.size w w':=by
 have hgood:=Lib.hid (fun (W:World) (hb:Below w.heap.size w W)=>pgood_any v p key d W (hv.old hb) hg)
 have hnode:=Lib.hid (fun (W:World) (hb:Below w.heap.size w W)=>pnd_any v p key d W (hv.old hb) hg hval (hK.old hb))
 obtain ⟨a,c,rfl,hrow⟩:=hv
 obtain ⟨bs,there,pk,pv⟩:=p
 dsimp only at *
 clear hg hrow hK hval
 generalize hs.climb key bs d (hs.foot ⟨bs,there,pk,pv⟩)=M at hnode hb
 generalize bs.length=len at hgood hnode |-
 obtain ⟨W0,hW0⟩:∃ W0,W0=w.alloc (.cells #[.slice a len c,.bool there,.string ⟨pk.toArray⟩,.string ⟨pv.toArray⟩] 51):=⟨_,rfl⟩
 have hB0:Below w.heap.size w W0:=by rw [hW0];exact (Below.refl _ _).alloc (Nat.le_refl _) _
 have hl0:w.heap.size<W0.heap.size:=by rw [hW0];simp
 have hrow0:W0.heap[w.heap.size]?=some (.cells #[.slice a len c,.bool there,.string ⟨pk.toArray⟩,.string ⟨pv.toArray⟩] 51 (0,0)):=by rw [hW0];exact heap_alloc_new _ _
 have HC:=Lib.hid (fun (W:World) (hb:Below W0.heap.size W0 W)=>four_of_cells ((hb.block _ hl0).trans hrow0))
 have HB0:=Lib.hid hB0
 obtain ⟨x0,x1,x2,x3⟩:=HC.out W0 (Below.refl _ _)
 clear hB0 hrow0
 cases there with
 | false=>
   obtain rfl:b=false:=by rw [<-hb];rfl
   clear hb
   go_enter Tryz.func20,Tryz.ntmps20
   go_wp2_with fail
   rw [<-hW0]
   refine (hgood.out W0 HB0.out).mono ?_
   rintro e w1 ⟨rfl,hB1⟩
   obtain ⟨y0,y1,y2,y3⟩:=HC.out w1 hB1
   have hBw:=HB0.out.trans (hB1.mono HB0.out.size)
   clear hgood hnode x0 x1 x2 x3 hW0
   go_wp2
   go_ret
   exact ⟨by simp,hBw⟩
 | true=>
   by_cases e1:pk=key
   · subst e1
     by_cases e2:pv=V
     · subst e2
       have hMN:(M==N)=b:=by simpa using hb
       clear hb
       go_enter Tryz.func20,Tryz.ntmps20
       go_wp2_with fail
       rw [<-hW0]
       refine (hgood.out W0 HB0.out).mono ?_
       rintro e w1 ⟨rfl,hB1⟩
       obtain ⟨y0,y1,y2,y3⟩:=HC.out w1 hB1
       have hBw:=HB0.out.trans (hB1.mono HB0.out.size)
       have hn1:=hnode.out w1 hBw
       clear hgood hnode x0 x1 x2 x3 hW0
       go_wp2_with fail
       refine hn1.mono ?_
       rintro e w2 ⟨rfl,hB2⟩
       go_wp2
       go_ret
       exact ⟨by simp,hBw.trans (hB2.mono hBw.size)⟩
     · have e3:(pv==V)=false:=beq_eq_false_iff_ne.2 e2
       have e4:(pv != V)=true:=by rw [bne,e3];rfl
       obtain rfl:b=false:=by rw [<-hb,e3];simp
       clear hb
       go_enter Tryz.func20,Tryz.ntmps20
       go_wp2_with fail
       rw [<-hW0]
       refine (hgood.out W0 HB0.out).mono ?_
       rintro e w1 ⟨rfl,hB1⟩
       obtain ⟨y0,y1,y2,y3⟩:=HC.out w1 hB1
       have hBw:=HB0.out.trans (hB1.mono HB0.out.size)
       clear hgood hnode x0 x1 x2 x3 hW0
       go_wp2
       go_ret
       exact ⟨by simp,hBw⟩
   · have e3:(pk==key)=false:=beq_eq_false_iff_ne.2 e1
     have e4:(pk != key)=true:=by rw [bne,e3];rfl
     obtain rfl:b=false:=by rw [<-hb,e3];simp
     clear hb
     go_enter Tryz.func20,Tryz.ntmps20
     go_wp2_with fail
     rw [<-hW0]
     refine (hgood.out W0 HB0.out).mono ?_
     rintro e w1 ⟨rfl,hB1⟩
     obtain ⟨y0,y1,y2,y3⟩:=HC.out w1 hB1
     have hBw:=HB0.out.trans (hB1.mono HB0.out.size)
     clear hgood hnode x0 x1 x2 x3 hW0
     go_wp2
     go_ret
     exact ⟨by simp,hBw⟩
theorem placks_gen (v:Value) (p:Pf) (key N:Tx) (d:Nat) (b:Bool) (w:World) (hv:PfAt w v p) (hg:IsGood p key d) (hval:p.val.length<=1000) (hK:Kon w) (hb:((!p.there || p.key != key)&&hs.climb key p.beside d (hs.foot p)==N)=b) :
 Calls Tryz.prog 21 #[v,.string ⟨N.toArray⟩,.string ⟨key.toArray⟩,.int .i64 (d:Int)] w fun e w'=>e=.returned (.bool b)/\Below w.heap.size w w':=by
 have hgood:=Lib.hid (fun (W:World) (hb:Below w.heap.size w W)=>pgood_any v p key d W (hv.old hb) hg)
 have hnode:=Lib.hid (fun (W:World) (hb:Below w.heap.size w W)=>pnd_any v p key d W (hv.old hb) hg hval (hK.old hb))
 obtain ⟨a,c,rfl,hrow⟩:=hv
 obtain ⟨bs,there,pk,pv⟩:=p
 dsimp only at *
 clear hg hrow hK hval
 generalize hs.climb key bs d (hs.foot ⟨bs,there,pk,pv⟩)=M at hnode hb
 generalize bs.length=len at hgood hnode |-
 obtain ⟨W0,hW0⟩:∃ W0,W0=w.alloc (.cells #[.slice a len c,.bool there,.string ⟨pk.toArray⟩,.string ⟨pv.toArray⟩] 51):=⟨_,rfl⟩
 have hB0:Below w.heap.size w W0:=by rw [hW0];exact (Below.refl _ _).alloc (Nat.le_refl _) _
 have hl0:w.heap.size<W0.heap.size:=by rw [hW0];simp
 have hrow0:W0.heap[w.heap.size]?=some (.cells #[.slice a len c,.bool there,.string ⟨pk.toArray⟩,.string ⟨pv.toArray⟩] 51 (0,0)):=by rw [hW0];exact heap_alloc_new _ _
 have HC:=Lib.hid (fun (W:World) (hb:Below W0.heap.size W0 W)=>four_of_cells ((hb.block _ hl0).trans hrow0))
 have HB0:=Lib.hid hB0
 obtain ⟨x0,x1,x2,x3⟩:=HC.out W0 (Below.refl _ _)
 clear hB0 hrow0
 cases there with
 | false=>
   have hMN:(M==N)=b:=by simpa using hb
   clear hb
   go_enter Tryz.func21,Tryz.ntmps21
   go_wp2_with fail
   rw [<-hW0]
   refine (hgood.out W0 HB0.out).mono ?_
   rintro e w1 ⟨rfl,hB1⟩
   obtain ⟨y0,y1,y2,y3⟩:=HC.out w1 hB1
   have hBw:=HB0.out.trans (hB1.mono HB0.out.size)
   have hn1:=hnode.out w1 hBw
   clear hgood hnode x0 x1 x2 x3 hW0
   go_wp2_with fail
   refine hn1.mono ?_
   rintro e w2 ⟨rfl,hB2⟩
   go_wp2
   go_ret
   exact ⟨by simp,hBw.trans (hB2.mono hBw.size)⟩
 | true=>
   by_cases e1:pk=key
   · subst e1
     obtain rfl:b=false:=by rw [<-hb];simp
     clear hb
     go_enter Tryz.func21,Tryz.ntmps21
     go_wp2_with fail
     rw [<-hW0]
     refine (hgood.out W0 HB0.out).mono ?_
     rintro e w1 ⟨rfl,hB1⟩
     obtain ⟨y0,y1,y2,y3⟩:=HC.out w1 hB1
     have hBw:=HB0.out.trans (hB1.mono HB0.out.size)
     clear hgood hnode x0 x1 x2 x3 hW0
     go_wp2
     go_ret
     exact ⟨by simp,hBw⟩
   · have e3:(pk==key)=false:=beq_eq_false_iff_ne.2 e1
     have e4:(pk != key)=true:=by rw [bne,e3];rfl
     have hMN:(M==N)=b:=by rw [<-hb,e4];simp
     clear hb
     go_enter Tryz.func21,Tryz.ntmps21
     go_wp2_with fail
     rw [<-hW0]
     refine (hgood.out W0 HB0.out).mono ?_
     rintro e w1 ⟨rfl,hB1⟩
     obtain ⟨y0,y1,y2,y3⟩:=HC.out w1 hB1
     have hBw:=HB0.out.trans (hB1.mono HB0.out.size)
     have hn1:=hnode.out w1 hBw
     clear hgood hnode x0 x1 x2 x3 hW0
     go_wp2_with fail
     refine hn1.mono ?_
     rintro e w2 ⟨rfl,hB2⟩
     go_wp2
     go_ret
     exact ⟨by simp,hBw.trans (hB2.mono hBw.size)⟩
def histK (o:Option (List UInt8)):Nat:=match o with | none=>0 | some _=>1
def histL (o:Option (List UInt8)):List Value:=match o with | none=>[] | some seed=>entRow seed
theorem histL_one (o:Option (List UInt8)):∀ u∈histL o,u.oneCell'=true:=by
 intro u hu
 cases o with
 | none=>cases hu
 | some seed=>
   simp only [histL,entRow,List.mem_cons,List.not_mem_nil,or_false] at hu
   rcases hu with rfl | rfl | rfl | rfl | rfl <;> rfl
theorem histK_le (o:Option (List UInt8)):histK o<=100000:=by
 cases o with
 | none=>decide
 | some _=>show 1<=100000;decide
theorem LabsAt.look2 {S:Nat->Prop} {w:World} {b:Nat} {us:List (List UInt8×List UInt8)} (h:LabsAt w S b us) (l:ByteArray) (hl:l.size<=maxLen) :
 ∃ a c,(Instr.lookup 148 (.map (some b)) (.string l) false).run Tryz.prog w=.ok (.slice a (histK (us.lookup l.data.toList)) c) w/\w.ownsRow 0 105 5 (.slice a (histK (us.lookup l.data.toList)) c) (histK (us.lookup l.data.toList)) (histL (us.lookup l.data.toList)):=by
 obtain ⟨h1,h2⟩:=h.look l hl
 cases e:us.lookup l.data.toList with
 | none=>exact ⟨none,0,h1 e,World.ownsRow_nil _ _ _ _⟩
 | some seed=>
   obtain ⟨a,c,h3,h4,_⟩:=h2 seed e
   exact ⟨a,c,h3,h4⟩
theorem ans_store {w:World} {b:Nat} {x0 x1 x2 x3 x4 x5:Value} {t:TypeId} (y0 y1 y2 y3 y4 y5:Value) (h:w.heap[b]?=some (.cells #[x0,x1,x2,x3,x4,x5] t (0,0))) :
 ∃ W,((((((w.setCell ⟨b,0,none⟩ y0).setCell ⟨b,1,none⟩ y1).setCell ⟨b,2,none⟩ y2).setCell ⟨b,3,none⟩ y3).setCell ⟨b,4,none⟩ y4).setCell ⟨b,5,none⟩ y5)=W/\W.heap[b]?=some (.cells #[y0,y1,y2,y3,y4,y5] t (0,0))/\Touch (fun k=>k=b) w W:=by
 have T:∀ (W:World) (i:Nat) (v:Value),Touch (fun k=>k=b) W (W.setCell ⟨b,i,none⟩ v):=fun W i v=>Touch.setCell (S:=fun k=>k=b) W ⟨b,i,none⟩ v rfl
 exact ⟨_,rfl,heap_setCell_same _ b 5 _ _ _ (heap_setCell_same _ b 4 _ _ _ (heap_setCell_same _ b 3 _ _ _ (heap_setCell_same _ b 2 _ _ _ (heap_setCell_same _ b 1 _ _ _ (heap_setCell_same w b 0 _ _ _ h))))),(((((T _ _ _).trans (T _ _ _)).trans (T _ _ _)).trans (T _ _ _)).trans (T _ _ _)).trans (T _ _ _)⟩
theorem slookup_any (p d:Nat) (auds:List Aud) (us:List (List UInt8×List UInt8)) (S:Nat->Prop) (s:ByteArray) (w:World) (h:SrvB w S p d auds us) (hsz:s.size<=1000) (hK:Kon w) :
 Calls Tryz.prog 33 #[.pointer (some ⟨p,0,none⟩),.string s] w fun e w'=>∃ ha hc pa pc pf k,e=.returned (.tuple #[.agg #[.string s,.slice ha (histK (us.lookup s.data.toList)) hc,.slice pa pf.beside.length pc,.bool pf.there,.string ⟨pf.key.toArray⟩,.string ⟨pf.val.toArray⟩],.int .i64 0])/\w'.ownsRow 0 105 5 (.slice ha (histK (us.lookup s.data.toList)) hc) (histK (us.lookup s.data.toList)) (histL (us.lookup s.data.toList))/\Keyrow w' pa pc pf.beside/\Made hs (valOf (pubPuts d auds us)) (keysOf (pubPuts d auds us)) (nameOf s.data.toList) 0 pf k/\Below w.heap.size w w':=by
 obtain ⟨nl,nr,t0,tb,t1,tb1,x1,x5,x6,x7,x8,tv,hv,v2,na,nc,na1,nc1,h⟩:=h
 obtain ⟨gt,ct,rfl,_,_⟩:=h.trees.form (by decide)
 have hadd:∀ g i,(⟨g,0,none⟩:Addr).add i=⟨g,i,none⟩:=fun g i=>by unfold Addr.add;split <;> simp_all
 have z1:=h.trees.cells (g:=gt) rfl 1 _ rfl
 rw [hadd] at z1
 have HCel:=Lib.hid (fun (W:World) (hb:Below w.heap.size w W)=>(show W.cell? ⟨p,3,none⟩=some (.map (some nl))/\W.cell? ⟨p,9,none⟩=some (.slice (some ⟨gt,0,none⟩) 2 ct)/\W.cell? ⟨gt,1,none⟩=some (.pointer (some ⟨t1,0,none⟩)) from by
  obtain ⟨_,_,_,c3,_,_,_,_,_,c9,_,_⟩:=h.row.cells
  exact ⟨(hb.cell (World.block_lt_of_cell? _ _ c3)).trans c3,(hb.cell (World.block_lt_of_cell? _ _ c9)).trans c9,(hb.cell (World.block_lt_of_cell? _ _ z1)).trans z1⟩))
 have hTail:=Lib.hid (fun (W:World) (hb:Below w.heap.size w W)=>stail_tree gt 2 1 ct t1 W (by decide) rfl (HCel.out W hb).2.2)
 have hName:=Lib.hid (fun (W:World) (hb:Below w.heap.size w W)=>ename_any s W hsz (hK.old hb))
 have hPr:=Lib.hid (fun (W:World) (hb:Below w.heap.size w W)=>(show Calls Tryz.prog 19 #[.pointer (some ⟨t1,0,none⟩),.string ⟨(nameOf s.data.toList).toArray⟩,.int .i64 0] W fun e w'=>∃ a c pf n,e=.returned (.tuple #[.agg #[.slice a pf.beside.length c,.bool pf.there,.string ⟨pf.key.toArray⟩,.string ⟨pf.val.toArray⟩],.int .i64 0])/\Keyrow w' a c pf.beside/\Made hs (valOf (pubPuts d auds us)) (keysOf (pubPuts d auds us)) (nameOf s.data.toList) 0 pf n/\Below W.heap.size W w'/\∀ g o,a=some ⟨g,o,none⟩->W.heap.size<=g from pprove_any t1 tb1 (pubPuts d auds us) (nameOf s.data.toList) 0 W (h.tree1.old hb) (hK.old hb) (tagOf_length _ _) (by decide)))
 have hLk:=Lib.hid (fun (W:World) (hb:Below w.heap.size w W)=>(h.now.old hb).look2 s (by unfold maxLen;omega))
 have hCl:=Lib.hid (fun (W:World) a c (ho:W.ownsRow 0 105 5 (.slice a (histK (us.lookup s.data.toList)) c) (histK (us.lookup s.data.toList)) (histL (us.lookup s.data.toList)))=>clone_ents 0 _ _ _ W ho (histL_one _) (histK_le _))
 generalize us.lookup s.data.toList=o at hLk hCl |-
 generalize nameOf s.data.toList=nm at hName hPr |-
 generalize pubPuts d auds us=m1 at hPr |-
 clear h z1 hadd hK hsz
 have hb0:Below w.heap.size w (w.alloc (.cells #[.string ⟨#[]⟩,.slice none 0 0,.slice none 0 0,.bool false,.string ⟨#[]⟩,.string ⟨#[]⟩] 100)):=(Below.refl _ _).alloc (Nat.le_refl _) _
 have hr0:(w.alloc (.cells #[.string ⟨#[]⟩,.slice none 0 0,.slice none 0 0,.bool false,.string ⟨#[]⟩,.string ⟨#[]⟩] 100)).heap[w.heap.size]?=some (.cells #[.string ⟨#[]⟩,.slice none 0 0,.slice none 0 0,.bool false,.string ⟨#[]⟩,.string ⟨#[]⟩] 100 (0,0)):=heap_alloc_new _ _
 obtain ⟨c3,c9,_⟩:=HCel.out _ hb0
 go_enter Tryz.func33,Tryz.ntmps33
 go_wp2_with fail
 generalize (w.alloc (.cells #[.string ⟨#[]⟩,.slice none 0 0,.slice none 0 0,.bool false,.string ⟨#[]⟩,.string ⟨#[]⟩] 100))=W0 at hb0 hr0 c3 c9 |-
 refine (hTail.out W0 hb0).mono ?_
 rintro e w' ⟨rfl,rfl⟩
 have hcall:=Lib.hid (hName.out W0 hb0)
 have HB0:=Lib.hid (And.intro hb0 hr0)
 clear hTail hName hb0 hr0 c3 c9
 go_wp2_with fail
 refine hcall.out.mono ?_
 rintro e w1 ⟨rfl,hb1⟩
 have hB1:=HB0.out.1.trans (hb1.mono HB0.out.1.size)
 have hr1:=(hb1.block _ (lt_of_heap HB0.out.2)).trans HB0.out.2
 have hcall:=Lib.hid (hPr.out w1 hB1)
 have HB1:=Lib.hid (And.intro hB1 hr1)
 clear hPr hb1 hB1 hr1 HB0
 go_wp2_with fail
 refine hcall.out.mono ?_
 rintro e w2 ⟨pa,pc,pf,k,rfl,hkr,hmd,hb2,hlw⟩
 have Hne:=Lib.hid (show ∀ q o,pa=some ⟨q,o,none⟩->q≠w.heap.size from fun q o e=>by have:=hlw q o e;have:=lt_of_heap HB1.out.2;omega)
 have hB2:=HB1.out.1.trans (hb2.mono HB1.out.1.size)
 have hr2:=(hb2.block _ (lt_of_heap HB1.out.2)).trans HB1.out.2
 have hr2':=hr2
 have hB3:Below w.heap.size w (w2.alloc (.cells #[.slice pa pf.beside.length pc,.bool pf.there,.string ⟨pf.key.toArray⟩,.string ⟨pf.val.toArray⟩] 51)):=hB2.alloc hB2.size _
 have hr3:(w2.alloc (.cells #[.slice pa pf.beside.length pc,.bool pf.there,.string ⟨pf.key.toArray⟩,.string ⟨pf.val.toArray⟩] 51)).heap[w2.heap.size]?=some (.cells #[.slice pa pf.beside.length pc,.bool pf.there,.string ⟨pf.key.toArray⟩,.string ⟨pf.val.toArray⟩] 51 (0,0)):=heap_alloc_new _ _
 have hra:=(Below.heap_alloc w2 (.cells #[.slice pa pf.beside.length pc,.bool pf.there,.string ⟨pf.key.toArray⟩,.string ⟨pf.val.toArray⟩] 51) _ (lt_of_heap hr2)).trans hr2
 have hkr3:=hkr.touch (Touch.alloc (S:=fun _=>False) w2 (.cells #[.slice pa pf.beside.length pc,.bool pf.there,.string ⟨pf.key.toArray⟩,.string ⟨pf.val.toArray⟩] 51)) (fun _ _ _=>id)
 clear hcall hkr hb2 hB2 hr2 HB1 hlw
 go_wp2_with fail
 generalize (w2.alloc (.cells #[.slice pa pf.beside.length pc,.bool pf.there,.string ⟨pf.key.toArray⟩,.string ⟨pf.val.toArray⟩] 51))=V at hB3 hr3 hra hkr3 |-
 have hPB:w2.heap.size≠w.heap.size:=by have:=lt_of_heap hr2';omega
 have hpne:p≠w.heap.size:=by have:=World.block_lt_of_cell? _ _ (HCel.out w (Below.refl _ _)).1;exact Nat.ne_of_lt this
 generalize w2.heap.size=PB at hr3 hPB |-
 obtain ⟨la,lc,hlk,hlo⟩:=hLk.out V.drew hB3.drew
 have hlo:V.ownsRow 0 105 5 (.slice la (histK o) lc) (histK o) (histL o):=hlo
 obtain ⟨Pre,hPre⟩:∃ Pre:World->Prop,Pre=fun W=>Below V.heap.size V W:=⟨_,rfl⟩
 have hcp:=Lib.hid (fun A (hA:Pre A)=>(show A.cell? ⟨p,3,none⟩=some (.map (some nl))/\A.cell? ⟨PB,0,none⟩=some (.slice pa pf.beside.length pc)/\A.cell? ⟨PB,1,none⟩=some (.bool pf.there)/\A.cell? ⟨PB,2,none⟩=some (.string ⟨pf.key.toArray⟩)/\A.cell? ⟨PB,3,none⟩=some (.string ⟨pf.val.toArray⟩) by
  rw [hPre] at hA
  obtain ⟨e0,e1,e2,e3,_,_,_,_⟩:=four_of_row ((hA.block _ (lt_of_heap hr3)).trans hr3)
  exact ⟨(HCel.out A (hB3.trans (hA.mono hB3.size))).1,e0,e1,e2,e3⟩))
 have q0:=Lib.hid (fun A (hA:Pre A)=>(hCl.out A la lc ((Touch.of_below (by rw [hPre] at hA;exact hA) (fun _=>False)).own hlo (fun _ _=>id))).mono (R':=fun e w'=>∃ a' c',e=.returned (.slice a' (histK o) c')/\w'.ownsRow 0 105 5 (.slice a' (histK o) c') (histK o) (histL o)/\(∀ k,(Value.slice a' (histK o) c').ownBlock=some k->A.heap.size<=k)/\Pre w') fun e w' ⟨v',e1,e2,e3⟩=>by
  obtain ⟨a',c',rfl⟩:=own_slice e2
  exact ⟨a',c',e1,own_zero e2,fun k hk=>(e2.lt k hk).1,by rw [hPre] at hA |-;exact hA.trans (e3.mono hA.size)⟩)
 have hpre0:Pre V.drew:=by rw [hPre];exact below_drew V
 have hs6:=Lib.hid (fun A v0 v1 v2 v3 v4 v5 (hA:Pre A)=>(show ((((((A.setCell ⟨w.heap.size,0,none⟩ v0).setCell ⟨w.heap.size,1,none⟩ v1).setCell ⟨w.heap.size,2,none⟩ v2).setCell ⟨w.heap.size,3,none⟩ v3).setCell ⟨w.heap.size,4,none⟩ v4).setCell ⟨w.heap.size,5,none⟩ v5).cell? ⟨p,3,none⟩=some (.map (some nl))/\((((((A.setCell ⟨w.heap.size,0,none⟩ v0).setCell ⟨w.heap.size,1,none⟩ v1).setCell ⟨w.heap.size,2,none⟩ v2).setCell ⟨w.heap.size,3,none⟩ v3).setCell ⟨w.heap.size,4,none⟩ v4).setCell ⟨w.heap.size,5,none⟩ v5).cell? ⟨PB,0,none⟩=some (.slice pa pf.beside.length pc)/\((((((A.setCell ⟨w.heap.size,0,none⟩ v0).setCell ⟨w.heap.size,1,none⟩ v1).setCell ⟨w.heap.size,2,none⟩ v2).setCell ⟨w.heap.size,3,none⟩ v3).setCell ⟨w.heap.size,4,none⟩ v4).setCell ⟨w.heap.size,5,none⟩ v5).cell? ⟨PB,1,none⟩=some (.bool pf.there)/\((((((A.setCell ⟨w.heap.size,0,none⟩ v0).setCell ⟨w.heap.size,1,none⟩ v1).setCell ⟨w.heap.size,2,none⟩ v2).setCell ⟨w.heap.size,3,none⟩ v3).setCell ⟨w.heap.size,4,none⟩ v4).setCell ⟨w.heap.size,5,none⟩ v5).cell? ⟨PB,2,none⟩=some (.string ⟨pf.key.toArray⟩)/\((((((A.setCell ⟨w.heap.size,0,none⟩ v0).setCell ⟨w.heap.size,1,none⟩ v1).setCell ⟨w.heap.size,2,none⟩ v2).setCell ⟨w.heap.size,3,none⟩ v3).setCell ⟨w.heap.size,4,none⟩ v4).setCell ⟨w.heap.size,5,none⟩ v5).cell? ⟨PB,3,none⟩=some (.string ⟨pf.val.toArray⟩) by
  have hrA:A.heap[w.heap.size]?=some (.cells #[.string ⟨#[]⟩,.slice none 0 0,.slice none 0 0,.bool false,.string ⟨#[]⟩,.string ⟨#[]⟩] 100 (0,0)):=by
   rw [hPre] at hA
   exact (hA.block _ (lt_of_heap hra)).trans hra
  obtain ⟨W,hW,_,hT⟩:=ans_store v0 v1 v2 v3 v4 v5 hrA
  rw [hW]
  obtain ⟨d0,d1,d2,d3,d4⟩:=hcp.out A hA
  have keep:∀ b i v,b≠w.heap.size->A.cell? ⟨b,i,none⟩=some v->W.cell? ⟨b,i,none⟩=some v:=fun b i v hb hc=>(World.cell?_of_block (w:=A) (w':=W) (a:=⟨b,i,none⟩) (hT.block b (World.block_lt_of_cell? _ _ hc) hb)).trans hc
  exact ⟨keep _ _ _ hpne d0,keep _ _ _ hPB d1,keep _ _ _ hPB d2,keep _ _ _ hPB d3,keep _ _ _ hPB d4⟩))
 have HV:=Lib.hid (fun A (hA:Pre A)=>(show Below w.heap.size w A/\A.heap[w.heap.size]?=some (.cells #[.string ⟨#[]⟩,.slice none 0 0,.slice none 0 0,.bool false,.string ⟨#[]⟩,.string ⟨#[]⟩] 100 (0,0))/\Keyrow A pa pc pf.beside by
  rw [hPre] at hA
  exact ⟨hB3.trans (hA.mono hB3.size),(hA.block _ (lt_of_heap hra)).trans hra,hkr3.old hA⟩))
 have HM:=Lib.hid hmd
 have Hlow:=Lib.hid (fun A (hA:Pre A)=>(show w.heap.size<A.heap.size by
  rw [hPre] at hA
  exact Nat.lt_of_lt_of_le (lt_of_heap hra) hA.size))
 clear hPre hr3 hra hkr3 hB3 hLk hCl HCel hmd hlo
 go_region_held3 (fun A=>A.cell? ⟨p,3,none⟩=some (.map (some nl))/\A.cell? ⟨PB,0,none⟩=some (.slice pa pf.beside.length pc)/\A.cell? ⟨PB,1,none⟩=some (.bool pf.there)/\A.cell? ⟨PB,2,none⟩=some (.string ⟨pf.key.toArray⟩)/\A.cell? ⟨PB,3,none⟩=some (.string ⟨pf.val.toArray⟩)) (first | with_reducible exact hcp.out _ (by assumption) | with_reducible exact hs6.out _ _ _ _ _ _ _ (by assumption))
  (first
    | (go_at_call 81;with_reducible refine (q0.out _ (by assumption)).mono ?_;rintro e wA ⟨va,vc,rfl,hown,hown2,hpreA⟩;obtain ⟨j0,j1,j2,j3,j4,j5,f0,f1,f2,f3,f4,f5⟩:=six_of_row (HV.out wA hpreA).2.1))
 all_goals
  obtain ⟨hA1,hA2,hA3⟩:=HV.out wA hpreA
  obtain ⟨W5,hW5,hr5,hT5⟩:=ans_store (.string s) (.slice va (histK o) vc) (.slice pa pf.beside.length pc) (.bool pf.there) (.string ⟨pf.key.toArray⟩) (.string ⟨pf.val.toArray⟩) hA2
  have hlo:=Hlow.out V.drew hpre0
  have HX:=Lib.hid (And.intro (hA1.trans (hT5.below (B:=w.heap.size) (fun k e=>by omega) hA1.size)) (And.intro (hA3.touch hT5 (fun g o e=>Hne.out g o e)) (hT5.own hown (fun k hk e=>by have:=hown2 k hk;omega))))
  obtain ⟨j0,j1,j2,j3,j4,j5,f0,f1,f2,f3,f4,f5⟩:=six_of_row hr5
  rw [hW5]
  clear hA1 hA2 hA3 hr5 hT5 hlo hown hown2 hpreA hpre0 hW5 Hne Hlow HV hs6 q0 hcp hlk
  go_wp2
  refine bodyPost_ret (v:=.tuple #[.agg #[.string s,.slice va (histK o) vc,.slice pa pf.beside.length pc,.bool pf.there,.string ⟨pf.key.toArray⟩,.string ⟨pf.val.toArray⟩],.int .i64 0]) ?_ rfl ⟨va,vc,pa,pc,pf,k,rfl,HX.out.2.2,HX.out.2.1,HM.out,HX.out.1⟩
  simp [results,Tryz.f33,go_sem,j0,j1,j2,j3,j4,j5]
def valU (o:Option (List UInt8)):List UInt8:=match o with | none=>[] | some seed=>fstVal seed
theorem tvalue_any (s:ByteArray) (ha:Option Addr) (hc:Nat) (o:Option (List UInt8)) (pa:Option Addr) (pn pc:Nat) (th:Bool) (pk pv:ByteArray) (w:World) (h:w.ownsRow 0 105 5 (.slice ha (histK o) hc) (histK o) (histL o)) (hK:Kon w) :
 Calls Tryz.prog 35 #[.agg #[.string s,.slice ha (histK o) hc,.slice pa pn pc,.bool th,.string pk,.string pv]] w fun e w'=>e=.returned (.string ⟨(valU o).toArray⟩)/\Below w.heap.size w w':=by
 cases o with
 | none=>
   clear h hK
   change Calls Tryz.prog 35 #[.agg #[.string s,.slice ha 0 hc,.slice pa pn pc,.bool th,.string pk,.string pv]] w fun e w'=>e=.returned (.string ⟨#[]⟩)/\Below w.heap.size w w'
   go_enter Tryz.func35,Tryz.ntmps35
   go_wp2
   go_ret
   exact ⟨rfl,(Below.refl _ _).alloc (Nat.le_refl _) _⟩
 | some seed=>
   have h:w.ownsRow 0 105 5 (.slice ha 1 hc) 1 [.int .u64 1,.string ⟨(openOf seed).toArray⟩,.string ⟨(pubKey seed 0).toArray⟩,.int .i64 0,.string ⟨nought16.toArray⟩]:=h
   change Calls Tryz.prog 35 #[.agg #[.string s,.slice ha 1 hc,.slice pa pn pc,.bool th,.string pk,.string pv]] w fun e w'=>e=.returned (.string ⟨(fstVal seed).toArray⟩)/\Below w.heap.size w w'
   obtain ⟨g,c,e,_,_⟩:=h.form (by decide)
   injection e with e1 e2 e3
   subst e1 e3
   have hadd:∀ i,(⟨g,0,none⟩:Addr).add i=⟨g,i,none⟩:=fun i=>by unfold Addr.add;split <;> simp_all
   have y0:=h.cells (g:=g) rfl 0 _ rfl
   have y1:=h.cells (g:=g) rfl 1 _ rfl
   have y2:=h.cells (g:=g) rfl 2 _ rfl
   have y3:=h.cells (g:=g) rfl 3 _ rfl
   have y4:=h.cells (g:=g) rfl 4 _ rfl
   rw [hadd] at y0 y1 y2 y3 y4
   obtain ⟨W0,hW0⟩:∃ W0,W0=w.alloc (.cells #[.string s,.slice (some ⟨g,0,none⟩) 1 hc,.slice pa pn pc,.bool th,.string pk,.string pv] 100):=⟨_,rfl⟩
   have hb0:Below w.heap.size w W0:=by rw [hW0];exact (Below.refl _ _).alloc (Nat.le_refl _) _
   have hrow:W0.heap[w.heap.size]?=some (.cells #[.string s,.slice (some ⟨g,0,none⟩) 1 hc,.slice pa pn pc,.bool th,.string pk,.string pv] 100 (0,0)):=by rw [hW0];exact heap_alloc_new _ _
   have x1:W0.cell? ⟨w.heap.size,1,none⟩=some (.slice (some ⟨g,0,none⟩) 1 hc):=cel hrow
   have y0:=(hb0.cell (World.block_lt_of_cell? _ _ y0)).trans y0
   have y1:=(hb0.cell (World.block_lt_of_cell? _ _ y1)).trans y1
   have y2:=(hb0.cell (World.block_lt_of_cell? _ _ y2)).trans y2
   have y3:=(hb0.cell (World.block_lt_of_cell? _ _ y3)).trans y3
   have y4:=(hb0.cell (World.block_lt_of_cell? _ _ y4)).trans y4
   have hv:=Lib.hid (evalue_any 1 (openOf seed) (pubKey seed 0) 0 nought16 W0 (ent_first seed) (hK.old hb0))
   have hv:Hid (Calls Tryz.prog 36 #[.agg #[.int .u64 1,.string ⟨(openOf seed).toArray⟩,.string ⟨(pubKey seed 0).toArray⟩,.int .i64 0,.string ⟨nought16.toArray⟩]] W0 fun e w'=>e=.returned (.string ⟨(fstVal seed).toArray⟩)/\Below W0.heap.size W0 w'):=hv
   have HB:=Lib.hid hb0
   clear h hK hadd hrow hb0
   generalize openOf seed=so at *
   generalize pubKey seed 0=sp at *
   generalize fstVal seed=sv at *
   go_enter Tryz.func35,Tryz.ntmps35
   go_wp2_with fail
   rw [<-hW0]
   clear hW0
   refine hv.out.mono ?_
   rintro e w2 ⟨rfl,hb2⟩
   have HB2:=Lib.hid (HB.out.trans (hb2.mono HB.out.size))
   clear hv hb2 y0 y1 y2 y3 y4 x1
   go_wp2
   go_ret
   exact ⟨rfl,HB2.out⟩
def tellB (o:Option (List UInt8)) (pf:Pf) (key R:Tx):Bool:=
 match o with
 | none=>(!pf.there || pf.key != key)&&hs.climb key pf.beside 0 (hs.foot pf)==R
 | some seed=>pf.there&&pf.key==key&&pf.val==fstVal seed&&hs.climb key pf.beside 0 (hs.foot pf)==R
theorem ttells_any (s:ByteArray) (ha:Option Addr) (hc:Nat) (o:Option (List UInt8)) (za:Option Addr) (zn zc:Nat) (zt:Bool) (zk zv:ByteArray) (pa:Option Addr) (pc:Nat) (pf:Pf) (F Gb Kb:Nat) (dg:Tx) (d n N:Nat) (na:Option Addr) (nc:Nat) (key R:Tx) (w:World)
 (hown:w.ownsRow 0 105 5 (.slice ha (histK o) hc) (histK o) (histL o)) (hpf:Keyrow w pa pc pf.beside) (hg:IsGood pf key 0) (hval:pf.val.length<=1000)
 (hF:w.cell? ⟨F,0,none⟩=some (.func (.func 35) #[] #[])) (hGb:w.heap[Gb]?=some (.cells #[.int .u64 1,.string ⟨dg.toArray⟩,.int .i64 d,.int .i64 n,.slice na N nc] 69 (0,0))) (hKb:w.cell? ⟨Kb,0,none⟩=some (.string ⟨key.toArray⟩)) (hK:Kon w)
 (hRoot:∀ W,Below w.heap.size w W->Calls Tryz.prog 38 #[.agg #[.int .u64 1,.string ⟨dg.toArray⟩,.int .i64 d,.int .i64 n,.slice na N nc]] W fun e w'=>e=.returned (.string ⟨R.toArray⟩)/\Below W.heap.size W w') :
 Calls Tryz.prog 37 #[.agg #[.string s,.slice ha (histK o) hc,.slice za zn zc,.bool zt,.string zk,.string zv],.agg #[.slice pa pf.beside.length pc,.bool pf.there,.string ⟨pf.key.toArray⟩,.string ⟨pf.val.toArray⟩],.pointer (some ⟨F,0,none⟩),.pointer (some ⟨Gb,0,none⟩),.pointer (some ⟨Kb,0,none⟩)] w fun e w'=>e=.returned (.bool (tellB o pf key R))/\Below w.heap.size w w':=by
 have hb0:Below w.heap.size w ((w.alloc (.cells #[.string s,.slice ha (histK o) hc,.slice za zn zc,.bool zt,.string zk,.string zv] 100)).alloc (.cells #[.slice pa pf.beside.length pc,.bool pf.there,.string ⟨pf.key.toArray⟩,.string ⟨pf.val.toArray⟩] 51)):=((Below.refl _ _).alloc (Nat.le_refl _) _).alloc (by rw [World.size_alloc];omega) _
 have hrA:((w.alloc (.cells #[.string s,.slice ha (histK o) hc,.slice za zn zc,.bool zt,.string zk,.string zv] 100)).alloc (.cells #[.slice pa pf.beside.length pc,.bool pf.there,.string ⟨pf.key.toArray⟩,.string ⟨pf.val.toArray⟩] 51)).heap[w.heap.size]?=some (.cells #[.string s,.slice ha (histK o) hc,.slice za zn zc,.bool zt,.string zk,.string zv] 100 (0,0)):=heap_alloc2_old _ _ _
 have hrP:((w.alloc (.cells #[.string s,.slice ha (histK o) hc,.slice za zn zc,.bool zt,.string zk,.string zv] 100)).alloc (.cells #[.slice pa pf.beside.length pc,.bool pf.there,.string ⟨pf.key.toArray⟩,.string ⟨pf.val.toArray⟩] 51)).heap[w.heap.size+1]?=some (.cells #[.slice pa pf.beside.length pc,.bool pf.there,.string ⟨pf.key.toArray⟩,.string ⟨pf.val.toArray⟩] 51 (0,0)):=heap_alloc2_new _ _ _
 have cF:=(hb0.cell (World.block_lt_of_cell? _ _ hF)).trans hF
 obtain ⟨a0,a1,a2,a3,a4,a5,_⟩:=six_of_row hrA
 have hcall:=Lib.hid (tvalue_any s ha hc o za zn zc zt zk zv ((w.alloc (.cells #[.string s,.slice ha (histK o) hc,.slice za zn zc,.bool zt,.string zk,.string zv] 100)).alloc (.cells #[.slice pa pf.beside.length pc,.bool pf.there,.string ⟨pf.key.toArray⟩,.string ⟨pf.val.toArray⟩] 51)) ((Touch.of_below hb0 (fun _=>False)).own hown (fun _ _=>id)) (hK.old hb0))
 have HB:=Lib.hid (And.intro hb0 (And.intro hrA hrP))
 have HR:=Lib.hid hRoot
 have HP:=Lib.hid (And.intro hpf (And.intro hg (And.intro hval (And.intro hGb (And.intro hKb hK)))))
 clear hb0 hrA hrP hRoot hpf hg hval hGb hKb hK hown hF
 go_enter Tryz.func37,Tryz.ntmps37
 go_wp2_with fail
 generalize ((w.alloc (.cells #[.string s,.slice ha (histK o) hc,.slice za zn zc,.bool zt,.string zk,.string zv] 100)).alloc (.cells #[.slice pa pf.beside.length pc,.bool pf.there,.string ⟨pf.key.toArray⟩,.string ⟨pf.val.toArray⟩] 51))=W0 at HB hcall cF a0 a1 a2 a3 a4 a5 |-
 refine hcall.out.mono ?_
 rintro e w2 ⟨rfl,hb2⟩
 obtain ⟨hb0,hrA,hrP⟩:=HB.out
 obtain ⟨hpf,hg,hval,hGb,hKb,hK⟩:=HP.out
 have hB2:=hb0.trans (hb2.mono hb0.size)
 have hrP:=(hb2.block _ (lt_of_heap hrP)).trans hrP
 obtain ⟨PB,hPB⟩:∃ PB,PB=w.heap.size+1:=⟨_,rfl⟩
 rw [<-hPB] at hrP |-
 obtain ⟨Pre,hPre⟩:∃ Pre:World->Prop,Pre=fun A=>Below w2.heap.size w2 A:=⟨_,rfl⟩
 have hpre0:Pre w2.drew:=by rw [hPre];exact below_drew w2
 have HE:=Lib.hid (fun A (hA:Pre A)=>(show Below w.heap.size w A from by rw [hPre] at hA;exact hB2.trans (hA.mono hB2.size)))
 have hcp:=Lib.hid (fun A (hA:Pre A)=>(show A.cell? ⟨PB,0,none⟩=some (.slice pa pf.beside.length pc)/\A.cell? ⟨PB,1,none⟩=some (.bool pf.there)/\A.cell? ⟨PB,2,none⟩=some (.string ⟨pf.key.toArray⟩)/\A.cell? ⟨PB,3,none⟩=some (.string ⟨pf.val.toArray⟩)/\A.cell? ⟨Gb,0,none⟩=some (.int .u64 1)/\A.cell? ⟨Gb,1,none⟩=some (.string ⟨dg.toArray⟩)/\A.cell? ⟨Gb,2,none⟩=some (.int .i64 d)/\A.cell? ⟨Gb,3,none⟩=some (.int .i64 n)/\A.cell? ⟨Gb,4,none⟩=some (.slice na N nc)/\A.cell? ⟨Kb,0,none⟩=some (.string ⟨key.toArray⟩) by
  have hwA:=HE.out A hA
  rw [hPre] at hA
  obtain ⟨p0,p1,p2,p3,_,_,_,_⟩:=four_of_row ((hA.block _ (lt_of_heap hrP)).trans hrP)
  obtain ⟨g0,g1,g2,g3,g4,_⟩:=ten_of_row ((hwA.block _ (lt_of_heap hGb)).trans hGb)
  exact ⟨p0,p1,p2,p3,g0,g1,g2,g3,g4,(hwA.cell (World.block_lt_of_cell? _ _ hKb)).trans hKb⟩))
 have hpp:∀ A B,Pre A->Below A.heap.size A B->Pre B:=by
  intro A B hA hb
  rw [hPre] at hA |-
  exact hA.trans (hb.mono hA.size)
 have q0:=Lib.hid (fun A (hA:Pre A)=>(HR.out A (HE.out A hA)).mono (R':=fun e w'=>e=.returned (.string ⟨R.toArray⟩)/\Pre w') fun e w' hh=>⟨hh.1,hpp A w' hA hh.2⟩)
 clear hb0 hrA hrP hb2 hB2 hPre hPB a0 a1 a2 a3 a4 a5 cF hcall
 obtain ⟨v,hv⟩:∃ v,v=valU o:=⟨_,rfl⟩
 rw [<-hv]
 cases o with
 | none=>
   obtain rfl:v=[]:=hv
   have q1:=Lib.hid (fun A (hA:Pre A)=>(show Calls Tryz.prog 21 #[.agg #[.slice pa pf.beside.length pc,.bool pf.there,.string ⟨pf.key.toArray⟩,.string ⟨pf.val.toArray⟩],.string ⟨R.toArray⟩,.string ⟨key.toArray⟩,.int .i64 0] A fun e w'=>e=.returned (.bool (tellB none pf key R))/\Pre w' from (placks_gen (.agg #[.slice pa pf.beside.length pc,.bool pf.there,.string ⟨pf.key.toArray⟩,.string ⟨pf.val.toArray⟩]) pf key R 0 (tellB none pf key R) A ⟨pa,pc,rfl,hpf.old (HE.out A hA)⟩ hg hval (hK.old (HE.out A hA)) rfl).mono (R':=fun e w'=>e=.returned (.bool (tellB none pf key R))/\Pre w') fun e w' hh=>⟨hh.1,hpp A w' hA hh.2⟩))
   go_wp2_with fail
   go_region_held3 (fun A=>A.cell? ⟨PB,0,none⟩=some (.slice pa pf.beside.length pc)/\A.cell? ⟨PB,1,none⟩=some (.bool pf.there)/\A.cell? ⟨PB,2,none⟩=some (.string ⟨pf.key.toArray⟩)/\A.cell? ⟨PB,3,none⟩=some (.string ⟨pf.val.toArray⟩)/\A.cell? ⟨Gb,0,none⟩=some (.int .u64 1)/\A.cell? ⟨Gb,1,none⟩=some (.string ⟨dg.toArray⟩)/\A.cell? ⟨Gb,2,none⟩=some (.int .i64 d)/\A.cell? ⟨Gb,3,none⟩=some (.int .i64 n)/\A.cell? ⟨Gb,4,none⟩=some (.slice na N nc)/\A.cell? ⟨Kb,0,none⟩=some (.string ⟨key.toArray⟩)) (first | with_reducible exact hcp.out _ (by assumption))
    (first
      | (go_at_call 38;with_reducible refine (q0.out _ (by assumption)).mono ?_;rintro e wA ⟨rfl,hpreA⟩)
      | (go_at_call 21;with_reducible refine (q1.out _ (by assumption)).mono ?_;rintro e wB ⟨rfl,hpreB⟩))
   all_goals
    have HX:=Lib.hid (HE.out wB hpreB)
    clear q0 q1 hcp hpreA hpreB hpre0 HE
    go_wp2
    all_goals
     go_ret
     exact ⟨rfl,HX.out⟩
 | some seed=>
   have hvl:(fstVal seed).length=16:=tagOf_length _ _
   have hq1:=fun A (hA:Pre A)=>(show Calls Tryz.prog 20 #[.agg #[.slice pa pf.beside.length pc,.bool pf.there,.string ⟨pf.key.toArray⟩,.string ⟨pf.val.toArray⟩],.string ⟨R.toArray⟩,.string ⟨key.toArray⟩,.string ⟨(fstVal seed).toArray⟩,.int .i64 0] A fun e w'=>e=.returned (.bool (tellB (some seed) pf key R))/\Pre w' from (phas_gen (.agg #[.slice pa pf.beside.length pc,.bool pf.there,.string ⟨pf.key.toArray⟩,.string ⟨pf.val.toArray⟩]) pf key R (fstVal seed) 0 (tellB (some seed) pf key R) A ⟨pa,pc,rfl,hpf.old (HE.out A hA)⟩ hg hval (hK.old (HE.out A hA)) rfl).mono (R':=fun e w'=>e=.returned (.bool (tellB (some seed) pf key R))/\Pre w') fun e w' hh=>⟨hh.1,hpp A w' hA hh.2⟩)
   obtain rfl:v=fstVal seed:=hv
   generalize fstVal seed=V at hvl hq1 |-
   have hne:(V==[])=false:=by cases V with | nil=>cases hvl | cons _ _=>rfl
   have hne2:(V != [])=true:=by rw [bne,hne];rfl
   have Hq1:=Lib.hid hq1
   clear hq1 hvl
   have q1:=Lib.hid (fun A (hA:Pre A)=>Hq1.out A hA)
   go_wp2_with fail
   go_region_held3 (fun A=>A.cell? ⟨PB,0,none⟩=some (.slice pa pf.beside.length pc)/\A.cell? ⟨PB,1,none⟩=some (.bool pf.there)/\A.cell? ⟨PB,2,none⟩=some (.string ⟨pf.key.toArray⟩)/\A.cell? ⟨PB,3,none⟩=some (.string ⟨pf.val.toArray⟩)/\A.cell? ⟨Gb,0,none⟩=some (.int .u64 1)/\A.cell? ⟨Gb,1,none⟩=some (.string ⟨dg.toArray⟩)/\A.cell? ⟨Gb,2,none⟩=some (.int .i64 d)/\A.cell? ⟨Gb,3,none⟩=some (.int .i64 n)/\A.cell? ⟨Gb,4,none⟩=some (.slice na N nc)/\A.cell? ⟨Kb,0,none⟩=some (.string ⟨key.toArray⟩)) (first | with_reducible exact hcp.out _ (by assumption))
    (first
      | (go_at_call 38;with_reducible refine (q0.out _ (by assumption)).mono ?_;rintro e wA ⟨rfl,hpreA⟩)
      | (go_at_call 20;with_reducible refine (q1.out _ (by assumption)).mono ?_;rintro e wB ⟨rfl,hpreB⟩))
   all_goals
    have HX:=Lib.hid (HE.out wB hpreB)
    clear q0 q1 hcp hpreA hpreB hpre0 HE
    go_wp2
    all_goals
     go_ret
     exact ⟨rfl,HX.out⟩
def seedK (c:Nat):List UInt8:=if c=1 then [107,48] else [107,49]
def entU (nm:List UInt8) (c:Nat):List (List UInt8×List UInt8):=if c=0 then [] else [(nm,seedK c)]
def usL (c0 c1 c2:Nat):List (List UInt8×List UInt8):=entU [101,118,101] c2++(entU [98,111,98] c1++entU [97,108,105,99,101] c0)
def entK (c:Nat):Nat:=if c=1 then 199239930398923418169049663849351584643 else 197223449561319944129204862404787694790
def entN (nm c:Nat):List (Nat×Nat):=if c=0 then [] else [(nm,entK c)]
def usN (c0 c1 c2:Nat):List (Nat×Nat):=entN 326090218919067660826388814283837132226 c2++(entN 7430050822040270997558273447267311076 c1++entN 258197051470350780555791945109248033098 c0)
theorem seedK_nn (c:Nat):natOf (fstVal (seedK c))=entK c:=by
 unfold seedK entK
 split
 · exact entFk
 · exact entFl
theorem entU_nn (nm:List UInt8) (c N:Nat) (h:natOf (nameOf nm)=N):(usPuts (entU nm c)).map nn=entN N c:=by
 unfold entU entN
 split
 · rfl
 · show [(natOf (nameOf nm),natOf (fstVal (seedK c)))]=_
   rw [h,seedK_nn]
theorem usPuts_append (a b:List (List UInt8×List UInt8)):usPuts (a++b)=usPuts a++usPuts b:=List.map_append
theorem usL_nn (c0 c1 c2:Nat):(usPuts (usL c0 c1 c2)).map nn=usN c0 c1 c2:=by
 unfold usL usN
 rw [usPuts_append,usPuts_append,List.map_append,List.map_append,entU_nn _ c2 _ name_eve,entU_nn _ c1 _ name_bob,entU_nn _ c0 _ name_alice]
def rootsN:List Nat:=[657820522209025363269994360246445859863,864152208019474896001622572057024010724,699400147049335106094350238800632412857,951186228102814696168897800351261116436,820586054312354034114325927026587130685,748102884544054677359789917649792919313,766383362479920494005264541145737884261,788475764701744315563431031080280705922,834862714533889626253291113093085653641,805588585455607992903837061322154486691,748129128244905544761386466537057807920,714788201593354488594458573032355731190,805277707196097431853961383128456038029,992910478025953001432048846625872291108,912497677453572528131232581229315880499,758888740886845703520511302034763060043,870111780570627703034913467116345629354,921034495018221985563227879072638628187,768838845250446355660484730999124513715,748685758215969000153088831585773286542,974022267752070130923161946588257374306,877262548174516607523443667448163845887,898361870235213525598466516119587086844,928107528430591154337311623583219552748,774246899996219715273853169024204786432,927946149461604859254231179241875274452,754275817700132553359202602807010791191]
theorem rootL_num (c0 c1 c2:Nat) (h0:c0<3) (h1:c1<3) (h2:c2<3):natOf (hs.at (valOf (pubPuts 1 (audsN 1) (usL c0 c1 c2))) (keysOf (pubPuts 1 (audsN 1) (usL c0 c1 c2))) [] 0)=rootsN.getD (9*c0+3*c1+c2) 0:=by
 rw [pub_num 1 1 (usL c0 c1 c2) (usN c0 c1 c2) (by decide) (by decide) (usL_nn c0 c1 c2) ((show ∀ c0,c0<3->∀ c1,c1<3->∀ c2,c2<3->((usN c0 c1 c2++layN 1).map (·.1)).Nodup by decide +kernel) c0 h0 c1 h1 c2 h2)]
 exact (show ∀ c0,c0<3->∀ c1,c1<3->∀ c2,c2<3->ndN 128 (usN c0 c1 c2++layN 1)=rootsN.getD (9*c0+3*c1+c2) 0 by decide +kernel) c0 h0 c1 h1 c2 h2
theorem rootL_apart (c0 c1 c2 e0 e1 e2:Nat) (h0:c0<3) (h1:c1<3) (h2:c2<3) (g0:e0<3) (g1:e1<3) (g2:e2<3) (h:hs.at (valOf (pubPuts 1 (audsN 1) (usL c0 c1 c2))) (keysOf (pubPuts 1 (audsN 1) (usL c0 c1 c2))) [] 0=hs.at (valOf (pubPuts 1 (audsN 1) (usL e0 e1 e2))) (keysOf (pubPuts 1 (audsN 1) (usL e0 e1 e2))) [] 0):c0=e0/\c1=e1/\c2=e2:=by
 have h:=congrArg natOf h
 rw [rootL_num c0 c1 c2 h0 h1 h2,rootL_num e0 e1 e2 g0 g1 g2] at h
 have hd:∀ i,i<27->∀ j,j<27->rootsN.getD i 0=rootsN.getD j 0->i=j:=by decide +kernel
 have:=hd (9*c0+3*c1+c2) (by omega) (9*e0+3*e1+e2) (by omega) h
 omega
def nmL (k:Nat):List UInt8:=if k=0 then [97,108,105,99,101] else if k=1 then [98,111,98] else [101,118,101]
def nameN (k:Nat):Nat:=if k=0 then 258197051470350780555791945109248033098 else if k=1 then 7430050822040270997558273447267311076 else 326090218919067660826388814283837132226
theorem name_num (k:Nat):natOf (nameOf (nmL k))=nameN k:=by
 unfold nmL nameN
 split
 · exact name_alice
 · split
   · exact name_bob
   · exact name_eve
def codeOf (c:Nat):Option (List UInt8):=if c=0 then none else some (seedK c)
theorem usL_nodup (c0 c1 c2:Nat) (h0:c0<3) (h1:c1<3) (h2:c2<3):((pubPuts 1 (audsN 1) (usL c0 c1 c2)).map (·.1)).Nodup:=
 nn_nodup (pub_nn 1 1 (usL c0 c1 c2) (usN c0 c1 c2) (by decide) (by decide) (usL_nn c0 c1 c2)) ((show ∀ c0,c0<3->∀ c1,c1<3->∀ c2,c2<3->((usN c0 c1 c2++layN 1).map (·.1)).Nodup by decide +kernel) c0 h0 c1 h1 c2 h2)
theorem usL_has (c:Nat->Nat) (hc:∀ i,c i<3) (k:Nat) (hk:k<3) (h:c k≠0):nameOf (nmL k)∈keysOf (pubPuts 1 (audsN 1) (usL (c 0) (c 1) (c 2)))/\valOf (pubPuts 1 (audsN 1) (usL (c 0) (c 1) (c 2))) (nameOf (nmL k))=fstVal (seedK (c k)):=by
 have hm:(nmL k,seedK (c k))∈usL (c 0) (c 1) (c 2):=by
  match k,hk with
  | 0,_=>simp [usL,entU,nmL,h]
  | 1,_=>simp [usL,entU,nmL,h]
  | 2,_=>simp [usL,entU,nmL,h]
 have hp:(nameOf (nmL k),fstVal (seedK (c k)))∈pubPuts 1 (audsN 1) (usL (c 0) (c 1) (c 2)):=
  (pub_perm 1 1 _ (by decide)).mem_iff.2 (List.mem_append.2 (.inl (List.mem_map.2 ⟨_,hm,rfl⟩)))
 exact ⟨mem_keysOf.2 (List.mem_map.2 ⟨_,hp,rfl⟩),valOf_mem _ (usL_nodup _ _ _ (hc 0) (hc 1) (hc 2)) _ hp⟩
theorem usL_lacks (c:Nat->Nat) (hc:∀ i,c i<3) (k:Nat) (hk:k<3) (h:c k=0):nameOf (nmL k) ∉ keysOf (pubPuts 1 (audsN 1) (usL (c 0) (c 1) (c 2))):=by
 intro hm
 obtain ⟨q,hq,e⟩:=List.mem_map.1 (mem_keysOf.1 hm)
 have h1:nn q∈usN (c 0) (c 1) (c 2)++layN 1:=(pub_nn 1 1 _ _ (by decide) (by decide) (usL_nn (c 0) (c 1) (c 2))).mem_iff.1 (List.mem_map.2 ⟨q,hq,rfl⟩)
 have h2:nameN k∈(usN (c 0) (c 1) (c 2)++layN 1).map (·.1):=List.mem_map.2 ⟨nn q,h1,by rw [<-name_num k,<-e];rfl⟩
 have hd:∀ c0,c0<3->∀ c1,c1<3->∀ c2,c2<3->(c0==0&&((usN c0 c1 c2++layN 1).map (·.1)).contains (nameN 0))=false/\(c1==0&&((usN c0 c1 c2++layN 1).map (·.1)).contains (nameN 1))=false/\(c2==0&&((usN c0 c1 c2++layN 1).map (·.1)).contains (nameN 2))=false:=by decide +kernel
 have h3:=hd (c 0) (hc 0) (c 1) (hc 1) (c 2) (hc 2)
 have h4:((usN (c 0) (c 1) (c 2)++layN 1).map (·.1)).contains (nameN k)=true:=List.elem_eq_true_of_mem h2
 have hk3:k=0\/k=1\/k=2:=by omega
 rcases hk3 with rfl | rfl | rfl
 · have h5:=h3.1
   rw [h4,h] at h5
   cases h5
 · have h5:=h3.2.1
   rw [h4,h] at h5
   cases h5
 · have h5:=h3.2.2
   rw [h4,h] at h5
   cases h5
theorem fst_apart:fstVal (seedK 1)≠fstVal (seedK 2):=by
 intro e
 have e:=congrArg natOf e
 rw [seedK_nn,seedK_nn] at e
 exact absurd e (by decide +kernel)
def usAt (c:Nat->Nat):Nat->List (List UInt8×List UInt8)
 | 0=>[]
 | k+1=>entU (nmL k) (c k)++usAt c k
theorem usAt_all (c:Nat->Nat):usAt c 3=usL (c 0) (c 1) (c 2):=by
 show entU (nmL 2) (c 2)++(entU (nmL 1) (c 1)++(entU (nmL 0) (c 0)++[]))=_
 rw [List.append_nil]
 rfl
theorem usAt_few (c:Nat->Nat):∀ k,(usAt c k).length<=k
 | 0=>Nat.le_refl _
 | k+1=>by
   rw [usAt,List.length_append]
   have:=usAt_few c k
   have h2:(entU (nmL k) (c k)).length<=1:=by unfold entU;split <;> simp
   omega
theorem usAt_new (c:Nat->Nat) (k:Nat) (hk:k<3):(usAt c k).lookup (nmL k)=none:=by
 match k,hk with
 | 0,_=>rfl
 | 1,_=>simp only [usAt,entU];split <;> rfl
 | 2,_=>simp only [usAt,entU];split <;> split <;> rfl
theorem usL_look (c:Nat->Nat) (k:Nat) (hk:k<3):(usL (c 0) (c 1) (c 2)).lookup (nmL k)=codeOf (c k):=by
 match k,hk with
 | 0,_=>simp only [usL,entU,codeOf];split <;> split <;> split <;> rfl
 | 1,_=>simp only [usL,entU,codeOf];split <;> split <;> split <;> rfl
 | 2,_=>simp only [usL,entU,codeOf];split <;> split <;> split <;> rfl
theorem nm_low (k:Nat):Low ⟨(nmL k).toArray⟩:=by
 unfold nmL
 split
 · exact low_list (by decide)
 · split <;> exact low_list (by decide)
theorem nm_size (k:Nat):0<(nmL k).length/\(nmL k).length<=64:=by
 unfold nmL
 split
 · decide
 · split <;> decide
def codeAt (sl:List UInt8) (i:Nat):Nat:=if i<sl.length/\(sl.getD i 0).toNat%2=1 then 1+(sl.getD i 0).toNat/2%2 else 0
theorem codeAt_lt (sl:List UInt8) (i:Nat):codeAt sl i<3:=by
 unfold codeAt
 split <;> omega
theorem side_at {w:World} {a:Option Addr} {n c:Nat} {sl:List UInt8} (h:Cells w (.slice a n c) (bytesV sl)):n=sl.length/\∀ k,k<n->∃ b o,a=some ⟨b,o,none⟩/\w.cell? ⟨b,o+k,none⟩=some (.int .u8 (((sl.getD k 0).toNat:Nat):Int)):=by
 obtain ⟨a',c',e,hc⟩:=h
 injection e with e1 e2 e3
 subst e1
 rw [bytesV_length] at e2
 refine ⟨e2,fun k hk=>?_⟩
 have hne:bytesV sl≠[]:=by
  intro e
  have:=bytesV_length sl
  rw [e] at this
  simp at this
  omega
 obtain ⟨b,o,rfl,_,hc⟩:=hc hne
 refine ⟨b,o,rfl,?_⟩
 have hl:k<sl.length:=by omega
 rw [hc k (by rw [bytesV_length];omega)]
 simp [bytesV,List.getD_eq_getElem?_getD,List.getElem?_map,List.getElem?_eq_getElem hl]
def nmRow (w:World) (b:Nat):Prop:=w.heap[b]?=some (.cells #[.string ⟨#[97,108,105,99,101]⟩,.string ⟨#[98,111,98]⟩,.string ⟨#[101,118,101]⟩] 9 (0,0))
theorem nm_cell {w:World} {b:Nat} (h:nmRow w b) (k:Nat) (hk:k<3):w.cell? ⟨b,k,none⟩=some (.string ⟨(nmL k).toArray⟩):=by
 rw [cell_of_row _ _ k _ _ _ h]
 match k,hk with
 | 0,_=>rfl
 | 1,_=>rfl
 | 2,_=>rfl
theorem and1:∀ x:Nat,x<256->bits BinOp.and IntKind.u8 (x:Int) 1=((x%2:Nat):Int):=by decide +kernel
structure Lk (w w3 W:World) (Nb pa pb:Nat) (us ut:List (List UInt8×List UInt8)):Prop where
 b3:Below w.heap.size w w3
 two:TwoA w3 (fun j=>False\/j=Nb) W pa pb 1 1 us ut
 row:nmRow W Nb
theorem Lk.bel {w w3 W:World} {Nb pa pb:Nat} {us ut:List (List UInt8×List UInt8)} (h:Lk w w3 W Nb pa pb us ut):Below w.heap.size w W:=h.b3.trans (h.two.bel.mono h.b3.size)
theorem Lk.swap {w w3 W:World} {Nb pa pb:Nat} {us ut:List (List UInt8×List UInt8)} (h:Lk w w3 W Nb pa pb us ut):Lk w w3 W Nb pb pa ut us:=⟨h.b3,h.two.swap,h.row⟩
theorem usAt_none {c:Nat->Nat} {k:Nat} (h:c k=0):usAt c (k+1)=usAt c k:=by
 show entU _ _++_=_
 rw [entU,if_pos h]
 rfl
theorem usAt_some {c:Nat->Nat} {k:Nat} (h:c k≠0):usAt c (k+1)=(nmL k,seedK (c k)) :: usAt c k:=by
 show entU _ _++_=_
 rw [entU,if_neg h]
 rfl
theorem Lk.old {w w3 W W':World} {Nb pa pb:Nat} {us ut:List (List UInt8×List UInt8)} (h:Lk w w3 W Nb pa pb us ut) (hb:Below W.heap.size W W'):Lk w w3 W' Nb pa pb us ut:=⟨h.b3,h.two.old hb,(hb.block _ (lt_of_heap h.row)).trans h.row⟩
theorem no_put {w w3 W:World} {Nb pa pb ln lc k:Nat} {us ut:List (List UInt8×List UInt8)} {la:Option Addr} {ll:List UInt8} (h:Lk w w3 W Nb pa pb us ut) (hl:Cells w (.slice la ln lc) (bytesV ll)) (h0:codeAt ll k=0) :
 (∃ sb so x:Nat,la=some ⟨sb,so,none⟩/\(k:Int)<(ln:Int)/\k<ln/\bits BinOp.and IntKind.u8 (x:Int) 1=0/\W.cell? ⟨sb,so+k,none⟩=some (.int .u8 (x:Int)))\/(¬ (k:Int)<(ln:Int)/\¬ k<ln):=by
 obtain ⟨hn,hc⟩:=side_at hl
 by_cases hk:k<ln
 · obtain ⟨b,o,e,hx⟩:=hc k hk
   refine .inl ⟨b,o,_,e,by omega,hk,?_,(h.bel.cell (World.block_lt_of_cell? _ _ hx)).trans hx⟩
   rw [and1 _ (ll.getD k 0).toNat_lt]
   unfold codeAt at h0
   split at h0
   · omega
   · next hq=>
     have:(ll.getD k 0).toNat%2=0:=by
      by_cases h2:(ll.getD k 0).toNat%2=1
      · exact absurd ⟨by omega,h2⟩ hq
      · omega
     rw [this]
     rfl
 · exact .inr ⟨by omega,hk⟩
theorem put_pack {w w3 W:World} {Nb pa pb ln lc k:Nat} {us ut:List (List UInt8×List UInt8)} {la:Option Addr} {ll:List UInt8} (h:Lk w w3 W Nb pa pb us ut) (hl:Cells w (.slice la ln lc) (bytesV ll)) (h0:codeAt ll k≠0) (hk:k<3) (hus:us.length<=2) (hnew:us.lookup (nmL k)=none) :
 ∃ (sb so x b m:Nat) (Pre Post:World->Prop),la=some ⟨sb,so,none⟩/\((k:Int)<(ln:Int)/\k<ln)/\bits BinOp.and IntKind.u8 (x:Int) 1=1/\bits BinOp.and IntKind.u8 ((x:Int)/2) 1=(b:Int)/\b<=1/\x<256
  /\ IntKind.u8.wrap (48+(b:Int))=(m:Int)/\(48:Int)+(b:Int)=(m:Int)/\IntKind.u8.wrap (m:Int)=(m:Int)/\(⟨#[107]⟩:ByteArray)++⟨[UInt8.ofNat m].toArray⟩=⟨(seedK (codeAt ll k)).toArray⟩
  /\ W.cell? ⟨sb,so+k,none⟩=some (.int .u8 (x:Int))
  /\ Hid (∀ A,Pre A->A.cell? ⟨sb,so+k,none⟩=some (.int .u8 (x:Int))/\A.cell? ⟨Nb,k,none⟩=some (.string ⟨(nmL k).toArray⟩))
  /\ Hid (∀ A,Post A->A.cell? ⟨sb,so+k,none⟩=some (.int .u8 (x:Int))/\A.cell? ⟨Nb,k,none⟩=some (.string ⟨(nmL k).toArray⟩))
  /\ Hid (∀ A,Pre A->Calls Tryz.prog 26 #[.pointer (some ⟨pa,0,none⟩),.string ⟨(nmL k).toArray⟩,.string ⟨(seedK (codeAt ll k)).toArray⟩] A fun e w'=>e=.returned (.bool true)/\Post w')
  /\ Pre W.drew/\Hid (∀ A ob,Pre A->Pre (A.alloc ob))/\Hid (∀ ob,Pre (W.alloc ob).drew)
  /\ (convert 58 9 (.slice (some ⟨W.heap.size,0,none⟩) 1 1)).run Tryz.prog (W.alloc (.cells #[.int .u8 (m:Int)] 5))=.ok (.string ⟨[UInt8.ofNat m].toArray⟩) (W.alloc (.cells #[.int .u8 (m:Int)] 5))
  /\ (convert 58 9 (.slice (some ⟨W.heap.size,0,none⟩) 1 1)).run Tryz.prog (W.alloc (.cells #[.int .u8 (m:Int)] 5)).drew=.ok (.string ⟨[UInt8.ofNat m].toArray⟩) (W.alloc (.cells #[.int .u8 (m:Int)] 5)).drew
  /\ Hid (∀ A,Post A->Lk w w3 A Nb pa pb ((nmL k,seedK (codeAt ll k)) :: us) ut):=by
 obtain ⟨hn,hc⟩:=side_at hl
 have hB:=h.bel
 have hq:k<ll.length/\(ll.getD k 0).toNat%2=1:=by
  by_cases hq:k<ll.length/\(ll.getD k 0).toNat%2=1
  · exact hq
  · exact absurd (if_neg hq) h0
 have hcd:codeAt ll k=1+(ll.getD k 0).toNat/2%2:=if_pos hq
 obtain ⟨sb,so,rfl,hxw⟩:=hc k (by omega)
 have hx:=(ll.getD k 0).toNat_lt
 obtain ⟨hkl,hod⟩:=hq
 rw [<-hn] at hkl
 generalize (ll.getD k 0).toNat=x at hod hcd hxw hx
 have hcat:(⟨#[107]⟩:ByteArray)++⟨[UInt8.ofNat (48+x/2%2)].toArray⟩=⟨(seedK (codeAt ll k)).toArray⟩:=by
  rw [hcd]
  obtain ⟨b,hb⟩:∃ b,b=x/2%2:=⟨_,rfl⟩
  rw [<-hb]
  have hb1:b=0\/b=1:=by omega
  rcases hb1 with rfl | rfl <;> rfl
 have hcv:∀ (V:World) B,V.heap[B]?=some (.cells #[.int .u8 ((48+x/2%2:Nat):Int)] 5 (0,0))->(convert 58 9 (.slice (some ⟨B,0,none⟩) 1 1)).run Tryz.prog V=.ok (.string ⟨[UInt8.ofNat (48+x/2%2)].toArray⟩) V:=fun V B h=>by
  have e:(#[.int .u8 ((48+x/2%2:Nat):Int)]:Array Value)=(bytesV [UInt8.ofNat (48+x/2%2)]).toArray:=by
   simp only [bytesV,List.map_cons,List.map_nil]
   simp
   omega
  rw [e] at h
  exact run_string_block Tryz.underlying58 Tryz.underlying5 Tryz.underlying9 h rfl
 have hsd:(seedK (codeAt ll k)).length<=1000:=by unfold seedK;split <;> decide
 refine ⟨sb,so,x,x/2%2,48+x/2%2,fun A=>Below W.heap.size W A,fun A=>Lk w w3 A Nb pa pb ((nmL k,seedK (codeAt ll k)) :: us) ut,rfl,⟨by omega,hkl⟩,by rw [and1 x hx,hod];rfl,and1 (x/2) (by omega),by omega,hx,by rw [IntKind.wrap_u8];omega,by omega,by rw [IntKind.wrap_u8];omega,hcat,(hB.cell (World.block_lt_of_cell? _ _ hxw)).trans hxw,Lib.hid (fun A hA=>?_),Lib.hid (fun A hA=>?_),Lib.hid (fun A hA=>?_),below_drew W,Lib.hid (fun A ob hA=>hA.alloc hA.size _),Lib.hid (fun ob=>((Below.refl _ _).alloc (Nat.le_refl _) _).drew),hcv _ _ (heap_alloc_new W _),hcv _ _ (heap_alloc_new W _),Lib.hid (fun A hA=>hA)⟩
 · have hxc:=(hB.cell (World.block_lt_of_cell? _ _ hxw)).trans hxw
   have zn:=nm_cell h.row k hk
   exact ⟨(hA.cell (World.block_lt_of_cell? _ _ hxc)).trans hxc,(hA.cell (World.block_lt_of_cell? _ _ zn)).trans zn⟩
 · exact ⟨(hA.bel.cell (World.block_lt_of_cell? _ _ hxw)).trans hxw,nm_cell hA.row k hk⟩
 · refine Calls.mono (puta_any w3 _ pa pb 1 1 us ut ⟨(nmL k).toArray⟩ (seedK (codeAt ll k)) A (h.two.old hA) hus hsd (nm_low k) (by show 0<(nmL k).toArray.size;rw [List.size_toArray];exact (nm_size k).1) (by show (nmL k).toArray.size<=64;rw [List.size_toArray];exact (nm_size k).2) hnew) ?_
   rintro e w' ⟨h1,h2,h3⟩
   exact ⟨h1,h.b3,h2,(h3 Nb (.inr rfl)).trans ((hA.block _ (lt_of_heap h.row)).trans h.row)⟩
end Go.Proofs.YtcgkomafaepjnaaGreatDoor
