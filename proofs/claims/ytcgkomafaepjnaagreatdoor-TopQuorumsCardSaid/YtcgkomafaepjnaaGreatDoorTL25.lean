/- Package server: a new server on a new disk. Conditions: its auditors are named by small letters, with names and keys of their own; a depth of at most three. -/
import Derived.Test.YtcgkomafaepjnaaGreatDoorTL24
import Derived.Test.YtcgkomafaepjnaaGreatDoorTL16
import Derived.Test.YtcgkomafaepjnaaGreatDoorTL10
set_option maxRecDepth 100000
set_option maxHeartbeats 16000000
namespace Go.Proofs.YtcgkomafaepjnaaGreatDoor
open Go.RowKit
theorem sreplay_nil (p:Nat) (w:World) :
 Calls Tryz.prog 113 #[.pointer (some ⟨p,0,none⟩),.slice none 0 0] w fun e w'=>e=.returned (.bool true)/\w=w':=by
 go_enter Tryz.func113,Tryz.ntmps113
 go_wp2_with fail
 refine wp_loop_rounds 1 ?_
 rw [rounds_succ]
 go_wp2
 go_ret
 exact ⟨rfl,rfl⟩
structure AudGood (x:Aud):Prop where
 low:Low x.s
 pos:0<x.s.size
 few:x.s.size<=64
 o:x.o.length=16
 r:x.r.length=16
 h:x.h<=6
theorem AudGood.ok {x:Aud} (h:AudGood x):AudOk x:=⟨by have:=h.few;omega,h.o,h.r,h.h⟩
theorem snewsrv_any (dk g d n gc B:Nat) (ga:Option Addr) (auds:List Aud) (w:World) (hdk:DiskAt w dk g (List.replicate 200 zsec) (.slice none 0 0)) (hgen:w.ownsRow B 90 4 (.slice ga n gc) n (audCells auds)) (hn:n=auds.length) (hn5:n<60) (hgood:∀ x∈auds,AudGood x) (hapart:∀ k (hk:k<auds.length),∀ x∈auds.take k,x.s≠auds[k].s/\x.o≠auds[k].o) (hd3:d<=3) (hT:Kons w) :
 Calls Tryz.prog 65 #[.pointer (some ⟨dk,0,none⟩),.int .i64 0,.int .i64 200,.int .i64 d,.slice ga n gc] w fun e w'=>∃ p S,e=.returned (.tuple #[.pointer (some ⟨p,0,none⟩),.int .i64 0])/\SrvA w' S p d auds []/\(∀ k,S k->k=dk\/k=g\/w.heap.size<=k)/\Below w.heap.size w w':=by
 have hcnt:=Lib.hid (bcount_any d w hd3)
 have hmm:=@run_makeMap Tryz.prog
 obtain ⟨M2,hM2⟩:∃ M2,M2=2^d:=⟨_,rfl⟩
 have hM0:(((M2:Nat):Int)==0)=false:=by
  have:0<M2:=by rw [hM2];exact Nat.two_pow_pos d
  simp;omega
 rw [<-hM2] at hcnt
 have HGen:=Lib.hid (fun (W:World) (hb:Below w.heap.size w W) k (hk:k<auds.length)=>aud_at ((Touch.of_below hb (fun _=>False)).own hgen (fun _ _ h=>h)) hn k hk)
 have HGood:=Lib.hid (And.intro hgood hapart)
 have HT:=Lib.hid hT
 have HDK:=Lib.hid hdk
 have HN:=Lib.hid hn
 clear hgen hgood hapart hT hdk hn hM2
 go_enter Tryz.func65,Tryz.ntmps65
 go_wp2_with fail
 refine hcnt.out.mono ?_
 rintro e w1 ⟨rfl,rfl⟩
 clear hcnt
 go_wp2_with fail
 have hmap1:=World.ownsMap_made w1 Tryz.prog 9 heldR
 have hb1:Below w1.heap.size w1 (w1.alloc (.map #[] 0)):=(Below.refl _ _).alloc (Nat.le_refl _) _
 have hsz1:(w1.alloc (.map #[] 0)).heap.size=w1.heap.size+1:=by simp
 generalize (w1.alloc (.map #[] 0))=W1 at hmap1 hb1 hsz1 |-
 refine (rnew_any _).mono ?_
 rintro e w2 ⟨rfl,hros2,hb2⟩
 obtain ⟨rb,hrb⟩:∃ rb,rb=W1.heap.size:=⟨_,rfl⟩
 rw [<-hrb] at hros2 |-
 have hlrb:=lt_of_heap hros2
 have hB2:=hb1.trans (hb2.mono hb1.size)
 have hmap2:=ownsMap_keep hmap1 (Touch.of_below hb2 (fun _=>False)) id
 have s2:=hB2.size
 have hMr:w1.heap.size<rb:=by omega
 have HRB:=Lib.hid hrb
 clear hrb hb1 hb2 hmap1 hsz1
 go_wp2_with fail
 have hb3:Below w1.heap.size w1 (w2.alloc (.cells #[.int .i64 d,.pointer none,.bool false,.map (some w1.heap.size),.pointer (some ⟨rb,0,none⟩),.map none,.pointer none,.slice none 0 0,.slice none 0 0,.slice none 0 0,.slice none 0 0] 154)):=hB2.alloc s2 _
 have hrow3:SrvAt (w2.alloc (.cells #[.int .i64 d,.pointer none,.bool false,.map (some w1.heap.size),.pointer (some ⟨rb,0,none⟩),.map none,.pointer none,.slice none 0 0,.slice none 0 0,.slice none 0 0,.slice none 0 0] 154)) w2.heap.size (.int .i64 d) (.pointer none) (.bool false) (.map (some w1.heap.size)) (.pointer (some ⟨rb,0,none⟩)) (.map none) (.pointer none) (.slice none 0 0) (.slice none 0 0) (.slice none 0 0) (.slice none 0 0):=heap_alloc_new _ _
 have hros3:=(Below.heap_alloc w2 (.cells #[.int .i64 d,.pointer none,.bool false,.map (some w1.heap.size),.pointer (some ⟨rb,0,none⟩),.map none,.pointer none,.slice none 0 0,.slice none 0 0,.slice none 0 0,.slice none 0 0] 154) _ hlrb).trans hros2
 have hmap3:=hmap2.alloc (.cells #[.int .i64 d,.pointer none,.bool false,.map (some w1.heap.size),.pointer (some ⟨rb,0,none⟩),.map none,.pointer none,.slice none 0 0,.slice none 0 0,.slice none 0 0,.slice none 0 0] 154)
 generalize (w2.alloc (.cells #[.int .i64 d,.pointer none,.bool false,.map (some w1.heap.size),.pointer (some ⟨rb,0,none⟩),.map none,.pointer none,.slice none 0 0,.slice none 0 0,.slice none 0 0,.slice none 0 0] 154))=W3 at hb3 hrow3 hros3 hmap3 |-
 obtain ⟨p,hp⟩:∃ p,p=w2.heap.size:=⟨_,rfl⟩
 rw [<-hp] at hrow3 |-
 have hrp:rb<p:=by omega
 have hlp:=lt_of_heap hrow3
 have hros3:RosAt W3 rb (.slice none 0 0):=hros3
 have hn64:n<64:=by omega
 clear hp hB2 hros2 hmap2 s2 hlrb
 go_loopw [31] (fun i W=>∃ (k:Nat) (a:Option Addr) (c:Nat),k<=n/\i=.int .i64 (k:Int)/\RosAt W rb (.slice a k c)/\W.ownsRow W3.heap.size 90 4 (.slice a k c) k (audCells (auds.take k))/\Touch (fun j=>j=rb\/W3.heap.size<=j) W3 W) (fun i _=>n - (intOf i).toNat)
 case atStart=>exact ⟨0,none,0,Nat.zero_le _,rfl,hros3,World.ownsRow_nil _ _ _ _,Touch.refl _ _⟩
 case round=>
  obtain ⟨k,a,c,hk,rfl,hrk,hok,hTk⟩:=hrel
  have hwk:Below w1.heap.size w1 wr:=hb3.trans (hTk.below (B:=w1.heap.size) (fun j h=>by have:=hb3.size;omega) hb3.size)
  have hpk:=hTk.heap hrow3 (fun e=>by omega)
  have sk:=hwk.size
  by_cases hlt:k<n
  · have hlt':(k:Int)<(n:Int):=by omega
    have hkl:k<auds.length:=by rw [<-HN.out];exact hlt
    obtain ⟨gg,rfl,hgl,x0,x1,x2,x3⟩:=HGen.out wr hwk k hkl
    have hgood:=HGood.out.1 auds[k] (List.getElem_mem hkl)
    have hap:=HGood.out.2 k hkl
    have htk:auds.take (k+1)=auds.take k++[auds[k]]:=List.take_succ_eq_append_getElem hkl
    generalize auds[k]=x at x0 x1 x2 x3 hgood hap htk
    obtain ⟨xs,xo,xr,xh⟩:=x
    have hb4:Below wr.heap.size wr (wr.alloc (.cells #[.string xs,.string ⟨xo.toArray⟩,.string ⟨xr.toArray⟩,.int .i64 xh] 90)):=(Below.refl _ _).alloc (Nat.le_refl _) _
    have hr4:(wr.alloc (.cells #[.string xs,.string ⟨xo.toArray⟩,.string ⟨xr.toArray⟩,.int .i64 xh] 90)).heap[wr.heap.size]?=some (.cells #[.string xs,.string ⟨xo.toArray⟩,.string ⟨xr.toArray⟩,.int .i64 xh] 90 (0,0)):=heap_alloc_new _ _
    have hKn:=HT.out.old (hwk.trans (hb4.mono sk))
    have hown4:=hok.alloc (.cells #[.string xs,.string ⟨xo.toArray⟩,.string ⟨xr.toArray⟩,.int .i64 xh] 90)
    have hros4:=(hb4.block _ (lt_of_heap hrk)).trans hrk
    have hadd:=Lib.hid (radd_any rb W3.heap.size a k c (auds.take k) xs xo xr xh (wr.alloc (.cells #[.string xs,.string ⟨xo.toArray⟩,.string ⟨xr.toArray⟩,.int .i64 xh] 90)).drew hros4 hown4 (by have:=hTk.size;simp;omega) (fun j hj e=>by have:=(hown4.lt j hj).1;omega) (by rw [List.length_take];omega) (by omega) hap hgood.low hgood.pos hgood.few hgood.o hgood.r hgood.h (hKn.old (below_drew _)))
    have c4:=((hb4.block _ (lt_of_heap hpk)).trans hpk:(wr.alloc (.cells #[.string xs,.string ⟨xo.toArray⟩,.string ⟨xr.toArray⟩,.int .i64 xh] 90)).heap[p]?=_)
    have hTW:=hTk.trans (Touch.of_below hb4 (fun j=>j=rb\/W3.heap.size<=j))
    have hW3r:=hTk.size
    have hov:=hok.lt
    have HR4:=Lib.hid (And.intro hr4 (And.intro c4 hTW))
    have HTK:=Lib.hid htk
    clear hgood hap htk hb4 hr4 hKn hown4 hros4 c4 hTW hTk hrk hok hwk hpk
    go_wp2_with fail
    clear x0 x1 x2 x3
    obtain ⟨hr4,c4,hTW⟩:=HR4.out
    generalize (wr.alloc (.cells #[.string xs,.string ⟨xo.toArray⟩,.string ⟨xr.toArray⟩,.int .i64 xh] 90))=W4 at hadd hr4 c4 hTW |-
    obtain ⟨H,hH⟩:∃ H,H=wr.heap.size:=⟨_,rfl⟩
    rw [<-hH] at hr4 |-
    have hHW:W3.heap.size<=H:=by omega
    have hnp:¬ (p=rb\/(Value.slice a k c).ownBlock=some p):=by
     rintro (e | e)
     · omega
     · have:=(hov p e).1;omega
    have hnH:¬ (H=rb\/(Value.slice a k c).ownBlock=some H):=by
     rintro (e | e)
     · omega
     · have:=(hov H e).2;omega
    have hS0:=Lib.hid (show W4.drew.cell? ⟨p,4,none⟩=some (.pointer (some ⟨rb,0,none⟩))/\W4.drew.cell? ⟨H,0,none⟩=some (.string xs)/\W4.drew.cell? ⟨H,1,none⟩=some (.string ⟨xo.toArray⟩)/\W4.drew.cell? ⟨H,2,none⟩=some (.string ⟨xr.toArray⟩)/\W4.drew.cell? ⟨H,3,none⟩=some (.int .i64 xh) from by
     have e4:W4.cell? ⟨p,4,none⟩=some (.pointer (some ⟨rb,0,none⟩)):=cel c4
     have e0:W4.cell? ⟨H,0,none⟩=some (.string xs):=cel hr4
     have e1:W4.cell? ⟨H,1,none⟩=some (.string ⟨xo.toArray⟩):=cel hr4
     have e2:W4.cell? ⟨H,2,none⟩=some (.string ⟨xr.toArray⟩):=cel hr4
     have e3:W4.cell? ⟨H,3,none⟩=some (.int .i64 xh):=cel hr4
     exact ⟨e4,e0,e1,e2,e3⟩)
    have hS6:=Lib.hid (fun (w6:World) (hT6:Touch (fun j=>j=rb\/(Value.slice a k c).ownBlock=some j) W4.drew w6)=>(show w6.cell? ⟨p,4,none⟩=some (.pointer (some ⟨rb,0,none⟩))/\w6.cell? ⟨H,0,none⟩=some (.string xs)/\w6.cell? ⟨H,1,none⟩=some (.string ⟨xo.toArray⟩)/\w6.cell? ⟨H,2,none⟩=some (.string ⟨xr.toArray⟩)/\w6.cell? ⟨H,3,none⟩=some (.int .i64 xh) from ⟨hT6.keep_cell hS0.out.1 hnp,hT6.keep_cell hS0.out.2.1 hnH,hT6.keep_cell hS0.out.2.2.1 hnH,hT6.keep_cell hS0.out.2.2.2.1 hnH,hT6.keep_cell hS0.out.2.2.2.2 hnH⟩))
    unfold audV at hadd
    have HTW:=Lib.hid hTW
    clear hr4 c4 hH hTW HR4
    go_region_held3 (fun A=>A.cell? ⟨p,4,none⟩=some (.pointer (some ⟨rb,0,none⟩))/\A.cell? ⟨H,0,none⟩=some (.string xs)/\A.cell? ⟨H,1,none⟩=some (.string ⟨xo.toArray⟩)/\A.cell? ⟨H,2,none⟩=some (.string ⟨xr.toArray⟩)/\A.cell? ⟨H,3,none⟩=some (.int .i64 xh)) (first | with_reducible exact hS0.out | with_reducible exact hS6.out _ hT6) (first
     | (go_at_call 108;with_reducible refine hadd.out.mono ?_;rintro r w6 ⟨rfl,a',c',hra,hro,hrn,hT6⟩))
    rename_i hHeld
    have hT36:Touch (fun j=>j=rb\/W3.heap.size<=j) W3 w6:=(HTW.out.trans (Touch.drewN W4 1)).trans (hT6.mono (fun j h=>.inl (h.imp id (fun h=>(hov j h).1))))
    rw [<-HTK.out] at hro
    have HF:=Lib.hid (And.intro hra (And.intro hro hT36))
    clear hHeld hS0 hS6 hadd hra hro hrn hT6 hT36 hov hnp hnH
    go_wp2
    go_roundw
    case rel=>exact ⟨k+1,a',c',by omega,by go_num,HF.out.1,HF.out.2.1,HF.out.2.2⟩
    case measure=>simp [intOf];omega
  · have hkn:k=n:=by omega
    subst hkn
    have hge:¬ (k:Int)<(k:Int):=by omega
    have hall:auds.take k=auds:=by rw [HN.out,List.take_length]
    rw [hall] at hok
    have hKr:=HT.out.old hwk
    have hclt:=hKr.kon.lt
    have hcl1:=HT.out.kon.lt
    have HOK:=Lib.hid (And.intro hok (And.intro hrk (And.intro hpk (And.intro hTk hwk))))
    have hov:=hok.lt
    have hpr:=lt_of_heap hpk
    have hW3r:=hTk.size
    clear hall hok hrk hpk hTk hwk
    go_wp2_with fail
    refine (tnew_any wr).mono ?_
    rintro e w4 ⟨t,tb,rfl,ht4,htl,htbl,hb4⟩
    obtain ⟨hok,hrk,hpk,hTk,hwk⟩:=HOK.out
    have hp4:=(hb4.block _ hpr).trans hpk
    have c4:w4.cell? ⟨p,4,none⟩=some (.pointer (some ⟨rb,0,none⟩)):=cel hp4
    have hw4:=hwk.trans (hb4.mono sk)
    have hlay:=Lib.hid (rlay_any rb W3.heap.size t tb a k c auds [] w4 ((hb4.block _ (lt_of_heap hrk)).trans hrk) ((Touch.of_below hb4 (fun _=>False)).own hok (fun _ _ h=>h)) HN.out hn64 (fun x hx=>(HGood.out.1 x hx).ok) ht4 (by decide) (fun j hj e=>by have:=(hov j hj).2;omega) (HT.out.old hw4).kon (by omega))
    have hmap4:=ownsMap_keep hmap3 (hTk.trans (Touch.of_below hb4 (fun j=>j=rb\/W3.heap.size<=j))) (fun e=>by have:=hmap3.lt;omega)
    have H4:=Lib.hid (And.intro hp4 (And.intro hw4 (And.intro hmap4 (And.intro ((hb4.block _ (lt_of_heap hrk)).trans hrk) ((Touch.of_below hb4 (fun _=>False)).own hok (fun _ _ h=>h))))))
    have s4:=hb4.size
    clear hok hrk hpk hTk hwk hp4 hw4 hb4 ht4 hmap4 HOK
    go_wp2_with fail
    clear c4
    refine hlay.out.mono ?_
    rintro e w5 ⟨rfl,ht5,hT5⟩
    obtain ⟨hp4,hw4,hmap4,hr4,ho4⟩:=H4.out
    have hp5:=hT5.heap hp4 (fun e=>by omega)
    have hmap5:=ownsMap_keep hmap4 hT5 (fun e=>by have:=hmap3.lt;omega)
    have hr5:=hT5.heap hr4 (fun e=>by omega)
    have ho5:=hT5.own ho4 (fun j hj e=>by have:=(hov j hj).2;omega)
    have hw5:Below w1.heap.size w1 w5:=hw4.trans (hT5.below (B:=w1.heap.size) (fun j h=>by omega) hw4.size)
    have c3:w5.cell? ⟨p,3,none⟩=some (.map (some w1.heap.size)):=cel hp5
    have c4:w5.cell? ⟨p,4,none⟩=some (.pointer (some ⟨rb,0,none⟩)):=cel hp5
    have hlab5:LabsAt w5 (fun _=>False) w1.heap.size []:=⟨_,hmap5,(fun k h=>by cases h),(fun k sd h=>by cases h)⟩
    have hcp:=Lib.hid (scopy_any w1.heap.size rb W3.heap.size [] (fun _=>False) (.slice a k c) k (audCells auds) w5 hlab5 (by decide) hr5 ho5 (audCells_one auds) (by omega))
    have H5:=Lib.hid (And.intro hp5 (And.intro ht5 hw5))
    have s5:=hT5.size
    have htl5:=ht5.lt
    clear hlay hp4 hw4 hmap4 hr4 ho4 hp5 ht5 hw5 hmap5 hr5 ho5 hT5 hlab5 H4
    go_wp2_with fail
    clear c3 c4
    refine hcp.out.mono ?_
    rintro e w6 ⟨b',rb',v',rfl,hb',hrb',hlab6,hros6,hown6,hb6⟩
    obtain ⟨hp5,ht5,hw5⟩:=H5.out
    have hp6:=(hb6.block _ (lt_of_heap hp5)).trans hp5
    have hp6:SrvAt w6 p (.int .i64 d) (.pointer none) (.bool false) (.map (some w1.heap.size)) (.pointer (some ⟨rb,0,none⟩)) (.map none) (.pointer none) (.slice none 0 0) (.slice none 0 0) (.slice none 0 0) (.slice none 0 0):=hp6
    obtain ⟨_,_,_,_,_,c5,c6,_,_,_,_,cf⟩:=hp6.cells
    have f5:=cf 5
    have f6:=cf 6
    have ht6:=ht5.old hb6
    have hw6:=hw5.trans (hb6.mono hw5.size)
    have H6:=Lib.hid (And.intro hp6 (And.intro ht6 (And.intro hw6 (And.intro hlab6 (And.intro hros6 hown6)))))
    have s6:=hb6.size
    have htp:=ht6.lt
    have hbl6:=hlab6.lt
    have hrl6:=lt_of_heap hros6
    clear hcp hp5 ht5 hw5 hp6 ht6 hw6 hlab6 hros6 hown6 hb6 cf H5
    go_wp2_with fail
    clear c5 c6 f5 f6
    obtain ⟨hp6,ht6,hw6,hlab6,hros6,hown6⟩:=H6.out
    have hT7:Touch (fun j=>j=p) w6 ((w6.setCell ⟨p,5,none⟩ (.map (some b'))).setCell ⟨p,6,none⟩ (.pointer (some ⟨rb',0,none⟩))):=(Touch.setCell (S:=fun j=>j=p) w6 ⟨p,5,none⟩ _ rfl).trans (Touch.setCell (S:=fun j=>j=p) _ ⟨p,6,none⟩ _ rfl)
    have hp7:=heap_setCell_same _ p 6 _ _ (.pointer (some ⟨rb',0,none⟩)) (heap_setCell_same w6 p 5 _ _ (.map (some b')) hp6)
    generalize ((w6.setCell ⟨p,5,none⟩ (.map (some b'))).setCell ⟨p,6,none⟩ (.pointer (some ⟨rb',0,none⟩)))=w7 at hT7 hp7 |-
    have hp7:SrvAt w7 p (.int .i64 d) (.pointer none) (.bool false) (.map (some w1.heap.size)) (.pointer (some ⟨rb,0,none⟩)) (.map (some b')) (.pointer (some ⟨rb',0,none⟩)) (.slice none 0 0) (.slice none 0 0) (.slice none 0 0) (.slice none 0 0):=hp7
    have ht7:=ht6.touch hT7 (by omega) (by omega)
    have hw7:Below w1.heap.size w1 w7:=hw6.trans (hT7.below (B:=w1.heap.size) (fun j h=>by omega) hw6.size)
    have hlab7:=hlab6.touch hT7 (by omega) (fun q hq e=>by omega)
    have hros7:=hT7.heap hros6 (by omega)
    have hown7:=hT7.own hown6 (fun j hj e=>by have:=(hown6.lt j hj).1;omega)
    obtain ⟨va,vc,rfl⟩:=own_slice hown7
    have hadd:=Lib.hid (sadd_any p d t tb rb' k 0 0 (.pointer none) (.bool false) (.map (some w1.heap.size)) (.pointer (some ⟨rb,0,none⟩)) (.map (some b')) (.slice none 0 0) (.slice none 0 0) (.slice none 0 0) (.slice none 0 0) va vc [] [] (layP auds [] k) nought16 w7 hp7 hros7 ht7 hd3 (HT.out.old hw7).kon (World.ownsRow_nil _ _ _ _) (World.ownsRow_nil _ _ _ _) (by decide) (Nat.zero_le _))
    have H7:=Lib.hid (And.intro ht7 (And.intro hw7 (And.intro hlab7 (And.intro hros7 hown7))))
    have s7:=hT7.size
    clear hp6 ht6 hw6 hlab6 hros6 hown6 hT7 hp7 ht7 hw7 hlab7 hros7 hown7 H6
    go_wp2_with fail
    refine hadd.out.mono ?_
    rintro e w8 ⟨rfl,tv',hv',na,nc,hS8,hot8,hoh8,hnd8,htb8,hhb8,hT8⟩
    obtain ⟨ht7,hw7,hlab7,hros7,hown7⟩:=H7.out
    have hT8:Touch (fun j=>j=p) w7 w8:=hT8.mono (fun j h=>by
     rcases h with h | h | h
     · exact .inl h
     · cases h
     · cases h)
    have ht8:=ht7.touch hT8 (by omega) (by omega)
    have hw8:Below w1.heap.size w1 w8:=hw7.trans (hT8.below (B:=w1.heap.size) (fun j h=>by omega) hw7.size)
    have hlab8:=hlab7.touch hT8 (by omega) (fun q hq e=>by omega)
    have hros8:=hT8.heap hros7 (by omega)
    have hown8:=hT8.own hown7 (fun j hj e=>by have:=(hown7.lt j hj).1;omega)
    have s8:=hT8.size
    have hldk:=HDK.out.lt
    have hdk8:=HDK.out.below hw8 hldk.1 hldk.2
    have hopen:=Lib.hid (lopen_zero dk g 0 200 100 (List.replicate 200 zsec) (by decide) (by decide) (fun x hx=>List.eq_of_mem_replicate hx) (by simp) (by simp) w8 (HT.out.old hw8).kon hdk8)
    have H8:=Lib.hid (And.intro hS8 (And.intro hot8 (And.intro hoh8 (And.intro hnd8 (And.intro ht8 (And.intro hw8 (And.intro hlab8 (And.intro hros8 (And.intro hown8 hdk8)))))))))
    clear hadd ht7 hw7 hlab7 hros7 hown7 hS8 hot8 hoh8 hnd8 hT8 ht8 hw8 hlab8 hros8 hown8 hdk8 H7
    go_wp2_with fail
    refine hopen.out.mono ?_
    rintro e w9 ⟨bk,rfl,hbk,hbook9,hb9⟩
    obtain ⟨hS8,hot8,hoh8,hnd8,ht8,hw8,hlab8,hros8,hown8,hdk8⟩:=H8.out
    have hS9:SrvAt w9 p (.int .i64 d) (.pointer none) (.bool false) (.map (some w1.heap.size)) (.pointer (some ⟨rb,0,none⟩)) (.map (some b')) (.pointer (some ⟨rb',0,none⟩)) (.slice none 0 0) (.slice none 0 0) tv' hv':=(hb9.block _ (lt_of_heap hS8)).trans hS8
    have hbp:bk≠p:=by have:=lt_of_heap hS8;omega
    obtain ⟨_,c1,_,_,_,_,_,_,_,_,_,cf⟩:=hS9.cells
    have f1:=cf 1
    have hTF:=Touch.of_below hb9 (fun _=>False)
    have hot9:=hTF.own hot8 (fun _ _ h=>h)
    have hoh9:=hTF.own hoh8 (fun _ _ h=>h)
    have hnd9:=hTF.own hnd8 (fun _ _ h=>h)
    have ht9:=ht8.old hb9
    have hw9:=hw8.trans (hb9.mono hw8.size)
    have hlab9:=hlab8.old hb9
    have hros9:=hTF.heap hros8 id
    have hown9:=hTF.own hown8 (fun _ _ h=>h)
    have hdk9:=HDK.out.below hw9 hldk.1 hldk.2
    have s9:=hb9.size
    have hp8:=lt_of_heap hS8
    have H9:=Lib.hid (And.intro hS9 (And.intro hot9 (And.intro hoh9 (And.intro hnd9 (And.intro ht9 (And.intro hw9 (And.intro hlab9 (And.intro hros9 (And.intro hown9 (And.intro hdk9 hbook9))))))))))
    clear hopen hS8 hot8 hoh8 hnd8 ht8 hw8 hlab8 hros8 hown8 hdk8 hS9 cf hTF hot9 hoh9 hnd9 ht9 hw9 hlab9 hros9 hown9 hdk9 hbook9 hb9 H8
    go_wp2_with fail
    clear c1 f1
    obtain ⟨hS9,hot9,hoh9,hnd9,ht9,hw9,hlab9,hros9,hown9,hdk9,hbook9⟩:=H9.out
    have hTp:Touch (fun j=>j=p) w9 (w9.setCell ⟨p,1,none⟩ (.pointer (some ⟨bk,0,none⟩))):=Touch.setCell (S:=fun j=>j=p) w9 ⟨p,1,none⟩ _ rfl
    have hrow:=heap_setCell_same w9 p 1 _ _ (.pointer (some ⟨bk,0,none⟩)) hS9
    generalize (w9.setCell ⟨p,1,none⟩ (.pointer (some ⟨bk,0,none⟩)))=V at hTp hrow |-
    have hrow:SrvAt V p (.int .i64 d) (.pointer (some ⟨bk,0,none⟩)) (.bool false) (.map (some w1.heap.size)) (.pointer (some ⟨rb,0,none⟩)) (.map (some b')) (.pointer (some ⟨rb',0,none⟩)) (.slice none 0 0) (.slice none 0 0) tv' hv':=hrow
    have hbookV:=hTp.heap hbook9 hbp
    have hdkV:DiskAt V dk g (List.replicate 200 zsec) (.slice none 0 0):=by
     obtain ⟨⟨cd,hd1⟩,hd2,hd3'⟩:=hdk9
     exact ⟨⟨cd,hTp.heap hd1 (fun e=>by have:=hldk.1;omega)⟩,hTp.heap hd2 (fun e=>by have:=hldk.2;omega),hd3'⟩
    have hownp:∀ (B':Nat) (e:TypeId) (sz m:Nat) (v:Value) (ys:List Value),w9.ownsRow B' e sz v m ys->e≠154->V.ownsRow B' e sz v m ys:=fun B' e sz m v ys h he=>hTp.own h (fun q hq e'=>own_ne h hS9 he q hq e')
    have htV:=ht9.touch hTp (fun e=>by omega) (fun e=>by omega)
    have hlabV:=hlab9.touch hTp (fun e=>by omega) (fun q hq e=>by omega)
    have hrosV:=hTp.heap hros9 (fun e=>by omega)
    have h1:=hownp _ _ _ _ _ _ hot9 (by decide)
    have h2:=hownp _ _ _ _ _ _ hoh9 (by decide)
    have h3:=hownp _ _ _ _ _ _ hnd9 (by decide)
    have h4:=hownp _ _ _ _ _ _ hown9 (by decide)
    have hwV:Below w1.heap.size w1 V:=hw9.trans (hTp.below (B:=w1.heap.size) (fun j h=>by omega) hw9.size)
    have hrec:=Lib.hid (lrecords_nil bk dk 0 100 0 0 0 V hbookV)
    have hrep:=Lib.hid (sreplay_nil p V)
    have hsV:=hTp.size
    have HV:=Lib.hid (And.intro hrow (And.intro hbookV (And.intro hdkV (And.intro htV (And.intro hlabV (And.intro hrosV (And.intro h1 (And.intro h2 (And.intro h3 (And.intro h4 hwV))))))))))
    clear hS9 hot9 hoh9 hnd9 ht9 hw9 hlab9 hros9 hown9 hdk9 hbook9 H9 hTp hrow hbookV hdkV hownp htV hlabV hrosV h1 h2 h3 h4 hwV
    go_wp2_with fail
    refine hrec.out.mono ?_
    rintro e V' ⟨rfl,rfl⟩
    go_wp2_with fail
    refine hrep.out.mono ?_
    rintro e V' ⟨rfl,rfl⟩
    clear hrec hrep
    go_wp2
    go_ret2
    obtain ⟨hrow,hbookV,hdkV,htV,hlabV,hrosV,h1,h2,h3,h4,hwV⟩:=HV.out
    have hk':=HN.out
    subst hk'
    have h4l:=h4.lt
    have h3l:=h3.lt
    have h1l:=h1.lt
    have h2l:=h2.lt
    have hpV:=lt_of_heap hrow
    have hbV:=lt_of_heap hbookV
    have hrV:=lt_of_heap hrosV
    have hbl:=hlabV.lt
    have htl':=htV.lt
    have hwVs:=hwV.size
    refine ⟨p,fun q=>q=dk\/q=g\/(w1.heap.size<=q/\q<_),rfl,⟨bk,dk,g,b',rb',t,tb,.slice none 0 0,.slice none 0 0,tv',hv',_,_,_,na,nc,[],hrow,hbookV,⟨_,List.length_replicate,fun x hx=>by rw [List.eq_of_mem_replicate hx];simp [zsec,ByteArray.size],hdkV⟩,hlabV.bounded.mono (fun q hq=>.inr (.inr ⟨by omega,hq.2⟩)),hrosV,ownsRow_base h4 (Nat.zero_le _),World.ownsRow_nil _ _ _ _,rfl,World.ownsRow_nil _ _ _ _,by simp,htV,h1,h2,ownsRow_base h3 (Nat.zero_le _),⟨.inr (.inr ⟨by omega,hpV⟩),.inr (.inr ⟨by omega,hbV⟩),.inl rfl,.inr (.inl rfl),.inr (.inr ⟨by omega,hbl⟩),.inr (.inr ⟨by omega,hrV⟩),.inr (.inr ⟨by omega,htl'.1⟩),.inr (.inr ⟨by omega,htl'.2⟩)⟩,⟨by simp [Value.ownBlock],by simp [Value.ownBlock],fun q hq=>?_,fun q hq=>?_,fun q hq=>?_,fun q hq=>?_⟩,⟨by simp [Value.ownBlock],by have:=htl5.2;omega,fun e=>?_⟩,fun q hq=>?_⟩,fun q hq=>hq.imp id (Or.imp id And.left),hwV⟩
    · rcases htb8 q hq with h | h
      · cases h
      · exact .inr (.inr ⟨by omega,(h1l q hq).2⟩)
    · rcases hhb8 q hq with h | h
      · cases h
      · exact .inr (.inr ⟨by omega,(h2l q hq).2⟩)
    · exact .inr (.inr ⟨by have:=(h4l q hq).1;omega,(h4l q hq).2⟩)
    · exact .inr (.inr ⟨by have:=(h3l q hq).1;omega,(h3l q hq).2⟩)
    · have:=(h3l g e).1
      have:=hldk.2
      omega
    · rcases hq with rfl | rfl | h
      · have:=hldk.1;omega
      · have:=hldk.2;omega
      · exact h.2
def audOf (i:Nat):Aud:=⟨⟨[120,UInt8.ofNat (97+i)].toArray⟩,openOf (seedA i),rootOf4 (seedA i),2⟩
def audsN (n:Nat):List Aud:=(List.range n).map audOf
theorem audsN_length (n:Nat):(audsN n).length=n:=by simp [audsN]
theorem audsN_succ (n:Nat):audCells (audsN (n+1))=audCells (audsN n)++audRow (audOf n):=by
 unfold audsN audCells
 rw [List.range_succ,List.map_append,List.flatMap_append]
 simp
theorem audsN_at (n k:Nat) (h:k<(audsN n).length):(audsN n)[k]=audOf k:=by simp [audsN]
theorem KeysAt.ptr {w:World} {m v n E:Nat} {va:Option Addr} {bs:Nat->Nat} (h:KeysAt w m v n E va bs) (k:Nat) (hk:k<n):∃ g,va=some ⟨g,0,none⟩/\g<w.heap.size/\w.cell? ⟨g,k,none⟩=some (.pointer (some ⟨bs k,0,none⟩)):=by
 obtain ⟨g,cap,e,hb,hg⟩:=h.1.form (by omega)
 injection e with e1 e2 e3
 subst e1
 have hadd:∀ i,(⟨g,0,none⟩:Addr).add i=⟨g,i,none⟩:=fun i=>by unfold Addr.add;split <;> simp_all
 have c0:=h.1.cells (g:=g) rfl k (.pointer (some ⟨bs k,0,none⟩)) (by rw [List.getElem?_map,List.getElem?_range hk];rfl)
 rw [hadd] at c0
 exact ⟨g,rfl,hg,c0⟩
theorem heap_alloc_at (w:World) (o:Obj) (b:Nat) (h:b=w.heap.size):(w.alloc o).heap[b]?=some o:=by rw [h];exact heap_alloc_new w o
theorem newside_any (n d m E vc:Nat) (va:Option Addr) (bs:Nat->Nat) (w:World) (hk:KeysAt w m vc n E va bs) (hn5:n<=5) (hd3:d<=3) (hgood:∀ x∈audsN n,AudGood x) (hap:∀ i j,i<j->j<n->openOf (seedA i)≠openOf (seedA j)) (hT:Kons w) :
 Calls Tryz.prog 25 #[.slice va n vc,.int .i64 d] w fun e w'=>∃ p S,e=.returned (.pointer (some ⟨p,0,none⟩))/\SrvA w' S p d (audsN n) []/\(∀ k,S k->w.heap.size<=k)/\Below w.heap.size w w':=by
 have HKey:=Lib.hid hk
 have HT:=Lib.hid hT
 have HG:=Lib.hid (And.intro hgood hap)
 obtain ⟨i0,hi,hz0,hz1,hz2⟩:=info_parts (show (Tryz.prog.info? 90).map (fun i=>(i.zero,i.size,i.bytes))=some (some (.agg #[.string ⟨#[]⟩,.string ⟨#[]⟩,.string ⟨#[]⟩,.int .i64 0]),4,56) by kernel_rfl)
 clear hk hT hgood hap
 go_enter Tryz.func25,Tryz.ntmps25
 go_wp2_with fail
 go_loopw [5,6] (fun v i W=>∃ k:Nat,k<=n/\i=.int .i64 k/\W.ownsRow w.heap.size 90 4 v k (audCells (audsN k))/\Below w.heap.size w W) (fun _ i _=>n - (intOf i).toNat)
 case atStart=>exact ⟨0,Nat.zero_le _,rfl,World.ownsRow_nil _ _ _ _,Below.refl _ _⟩
 case round=>
  obtain ⟨k,hkn,rfl,hown,hb⟩:=hrel
  by_cases hlt:k<n
  · have hlt':(k:Int)<n:=by omega
    have v1:IntKind.i64.wrap (97+(k:Int))=((97+k:Nat):Int):=by rw [IntWalk.i64_in _ (by omega)];omega
    have v2:IntKind.u8.wrap ((97+k:Nat):Int)=((97+k:Nat):Int):=by rw [IntKind.wrap_u8];omega
    have hst:=fun W=>one_byte W k (by omega)
    have hcv:=Lib.hid (fun (W:World) b (h:W.heap[b]?=some (.cells #[.int .u8 ((97+k:Nat):Int)] 5 (0,0)))=>(show (convert 58 9 (.slice (some ⟨b,0,none⟩) 1 1)).run Tryz.prog W=.ok (.string ⟨[UInt8.ofNat (97+k)].toArray⟩) W by
     have e:(#[.int .u8 ((97+k:Nat):Int)]:Array Value)=(bytesV [UInt8.ofNat (97+k)]).toArray:=by
      simp only [bytesV,List.map_cons,List.map_nil]
      simp
      omega
     rw [e] at h
     exact run_string_block Tryz.underlying58 Tryz.underlying5 Tryz.underlying9 h rfl))
    have hcat:(⟨#[120]⟩:ByteArray)++⟨[UInt8.ofNat (97+k)].toArray⟩=(audOf k).s:=rfl
    obtain ⟨gv,rfl,hgv,hcell⟩:=HKey.out.ptr k hlt
    have hkey:=(HKey.out.2 k hlt).2
    obtain ⟨X,hX⟩:∃ X,X=audCells (audsN k):=⟨_,rfl⟩
    rw [<-hX] at hown
    obtain ⟨v,hv⟩:∃ v,v=u5:=⟨_,rfl⟩
    rw [<-hv] at hown
    obtain ⟨Pre,hPre⟩:∃ Pre:World->Prop,Pre=fun W=>Below w.heap.size w W/\wr.heap.size<=W.heap.size/\W.ownsRow w.heap.size 90 4 v k X:=⟨_,rfl⟩
    have hpp:∀ A B,Pre A->Below A.heap.size A B->Pre B:=by
     intro A B hA hb
     rw [hPre] at hA |-
     exact ⟨hA.1.trans (hb.mono hA.1.size),Nat.le_trans hA.2.1 hb.size,(Touch.of_below hb (fun _=>False)).own hA.2.2 (fun _ _ h=>h)⟩
    have hcp:=Lib.hid (fun A (hA:Pre A)=>(show A.cell? ⟨gv,k,none⟩=some (.pointer (some ⟨bs k,0,none⟩)) by
     rw [hPre] at hA
     exact (hA.1.cell (p:=⟨gv,k,none⟩) hgv).trans hcell))
    have q0:=Lib.hid (fun A (hA:Pre A)=>(xpublic_two (bs k) (seedA k) A ((hkey.touch (Touch.of_below (by rw [hPre] at hA;exact hA.1) (fun _=>False)) (fun _ _ _ h=>h)).key)).mono (R':=fun e w'=>e=.returned (.agg #[.string ⟨(openOf (seedA k)).toArray⟩,.string ⟨(rootOf4 (seedA k)).toArray⟩,.int .i64 2])/\Pre w'/\Below A.heap.size A w') fun e w' hh=>⟨hh.1,hpp A w' hA hh.2,hh.2⟩)
    have hpre0:Pre wr.drew:=by rw [hPre];exact ⟨hb.drew,Nat.le_refl _,(Touch.drewN (S:=fun _=>False) wr 1).own hown (fun _ _ h=>h)⟩
    have hpa:=Lib.hid (fun A ob (hA:Pre A)=>(show Pre (A.alloc ob) from hpp A _ hA ((Below.refl _ _).alloc (Nat.le_refl _) _)))
    have hpad:=Lib.hid (fun ob=>(show Pre (wr.alloc ob).drew from by rw [hPre];exact ⟨(hb.alloc hb.size _).drew,by show wr.heap.size<=(wr.alloc ob).heap.size;rw [World.size_alloc];omega,(Touch.drewN (S:=fun _=>False) _ 1).own (hown.alloc _) (fun _ _ h=>h)⟩))
    have hpo:=Lib.hid (fun A (hA:Pre A)=>(show A.ownsRow w.heap.size 90 4 v k X from by rw [hPre] at hA;exact hA.2.2))
    have hps:=Lib.hid (fun A (hA:Pre A)=>(show w.heap.size<=A.heap.size from by rw [hPre] at hA;exact hA.1.size))
    have hpb:=Lib.hid (fun A (hA:Pre A)=>(show Below w.heap.size w A from by rw [hPre] at hA;exact hA.1))
    have hcg:=Lib.hid (fun (A:World) (hA:Below w.heap.size w A)=>(show A.cell? ⟨gv,k,none⟩=some (.pointer (some ⟨bs k,0,none⟩)) from (hA.cell (p:=⟨gv,k,none⟩) hgv).trans hcell))
    have hpg:=Lib.hid (fun (A:World) (ob:Obj) (V:World) (hA:Pre A) (hg:(A.alloc ob).grownBy V v.ownBlock)=>(show Below w.heap.size w V by
     rw [hPre] at hA
     exact (hA.1.alloc hA.1.size ob).grown hg (by rw [World.size_alloc];have:=hA.1.size;omega) (fun j hj=>(hA.2.2.lt j hj).1)))
    have hsw:=hb.size
    obtain ⟨nk,hnk⟩:∃ nk,nk=97+k:=⟨_,rfl⟩
    rw [<-hnk] at v1 v2 hst hcat hcv
    have hxs:audCells (audsN (k+1))=X++[.string (audOf k).s,.string ⟨(openOf (seedA k)).toArray⟩,.string ⟨(rootOf4 (seedA k)).toArray⟩,.int .i64 2]:=by rw [hX];exact audsN_succ k
    generalize (audOf k).s=aus at hcat hxs
    generalize openOf (seedA k)=ao at q0 hxs
    generalize rootOf4 (seedA k)=ar at q0 hxs
    have HXS:=Lib.hid hxs
    clear hxs
    clear hPre hpp hown hb hkey hnk hX hcell
    have hk9:k<=5:=by omega
    have hsz:wr.heap.size<(wr.alloc (.cells #[.int .u8 nk] 5)).drew.heap.size:=by
     have h:=World.size_alloc wr (.cells #[.int .u8 nk] 5)
     show wr.heap.size<(wr.alloc (.cells #[.int .u8 nk] 5)).heap.size
     omega
    have hrow0:(wr.alloc (.cells #[.int .u8 nk] 5)).drew.heap[wr.heap.size]?=some (.cells #[.int .u8 nk] 5 (0,0)):=heap_alloc_new wr _
    have hstd:=hcv.out (wr.alloc (.cells #[.int .u8 nk] 5)).drew wr.heap.size (heap_alloc_new wr _)
    rw [<-hv]
    clear hv
    go_wp2_with fail
    refine wp_region_held_drew (S:=(fun A=>A.cell? ⟨gv,k,none⟩=some (.pointer (some ⟨bs k,0,none⟩)))) (by kernel_rfl) (hcp.out _ hpre0) (fun hHeld=>?_)
    (refine tk_on (i:=0) (v:=?_) rfl (fun w hS=>?_) (by assumption) ?_;rotate_left;· (try dsimp only at hS);go_simp;with_reducible rfl)
    simp only [gP,gA,gB,gD,gE,gF]
    (refine tk_on (i:=1) (v:=?_) rfl (fun w hS=>?_) (by assumption) ?_;rotate_left;· (try dsimp only at hS);go_simp;with_reducible rfl)
    simp only [gP,gA,gB,gC,gD,gE,gF]
    (refine tk_on (i:=2) (v:=?_) rfl (fun w hS=>?_) (by assumption) ?_;rotate_left;· (try dsimp only at hS);go_simp;with_reducible rfl)
    simp only [gP,gA,gB,gC,gD,gE,gF]
    (refine tk_on (i:=3) (v:=?_) rfl (fun w hS=>?_) (by assumption) ?_;rotate_left;· (try dsimp only at hS);go_simp;with_reducible rfl)
    simp only [gP,gA,gB,gC,gD,gE,gF]
    (refine tk_on (i:=7) (v:=?_) rfl (fun w hS=>?_) (by assumption) ?_;rotate_left;· (try dsimp only at hS);go_simp;with_reducible rfl)
    simp only [gP,gA,gB,gC,gD,gE,gF]
    (refine tk_on (i:=8) (v:=?_) rfl (fun w hS=>?_) (by assumption) ?_;rotate_left;· (try dsimp only at hS);go_simp;with_reducible rfl)
    simp only [gP,gA,gB,gC,gD,gE,gF]
    (refine tk_on (i:=9) (v:=?_) rfl (fun w hS=>?_) (by assumption) ?_;rotate_left;· (try dsimp only at hS);go_simp;with_reducible rfl)
    simp only [gP,gA,gB,gC,gD,gE,gF]
    (refine tk_on (i:=10) (v:=?_) rfl (fun w hS=>?_) (by assumption) ?_;rotate_left;· (try dsimp only at hS);go_simp;with_reducible rfl)
    simp only [gP,gA,gB,gC,gD,gE,gF]
    refine wpAnyH_ready (rs:=[4,11]) (by kernel_rfl) (by simp) ?_
    refine AllReadyH.cons rfl (fun K hK=>?_) (AllReadyH.cons rfl (fun K hK=>?_) AllReadyH.nil)
    · go_simp
      refine hK.out _ _ (hcp.out _ (hpad.out _)) (fun hHeld=>?_)
      clear hK K
      try simp only [gP,gA,gB,gC,gD,gE,gF]
      refine wpAnyH_ready (rs:=[5,11]) (by kernel_rfl) (by simp) ?_
      refine AllReadyH.cons rfl (fun K hK=>?_) (AllReadyH.cons rfl (fun K hK=>?_) AllReadyH.nil)
      · go_simp
        refine hK.out _ _ (hcp.out _ (hpad.out _)) (fun hHeld=>?_)
        clear hK K
        try simp only [gP,gA,gB,gC,gD,gE,gF]
        (refine tk_on (i:=6) (v:=?_) rfl (fun w hS=>?_) (by assumption) ?_;rotate_left;· (try dsimp only at hS);go_simp;with_reducible rfl)
        simp only [gP,gA,gB,gC,gD,gE,gF]
        refine wpAnyH_ready (rs:=[11]) (by kernel_rfl) (by simp) ?_
        refine AllReadyH.cons rfl (fun K hK=>?_) AllReadyH.nil
        go_simp
        refine (q0.out _ (hpad.out _)).mono ?_
        rintro e wA ⟨rfl,hpreA,hbA⟩
        try (have hcvA:=hcv.out wA wr.heap.size ((hbA.block wr.heap.size hsz).trans hrow0))
        try go_simp
        refine hK.out _ _ (hcp.out _ hpreA) (fun hHeld=>?_)
        clear hK K
        try simp only [gP,gA,gB,gC,gD,gE,gF]
        (refine tk_on (i:=12) (v:=?_) rfl (fun w hS=>?_) (by assumption) ?_;rotate_left;· (try dsimp only at hS);go_simp;with_reducible rfl)
        simp only [gP,gA,gB,gC,gD,gE,gF]
        refine wpAnyH_ready (rs:=[13]) (by kernel_rfl) (by simp) ?_
        refine AllReadyH.cons rfl (fun K hK=>?_) AllReadyH.nil
        go_simp
        refine hK.out _ _ (hcp.out _ (hpa.out _ _ hpreA)) (fun hHeld=>?_)
        clear hK K
        try simp only [gP,gA,gB,gC,gD,gE,gF]
        refine wpAnyH_ready (rs:=[14]) (by kernel_rfl) (by simp) ?_
        refine AllReadyH.cons rfl (fun K hK=>?_) AllReadyH.nil
        refine step_append_lies _ (by rfl) _ _ _ (by rfl) w.heap.size 90 i0 _ 4 56 Tryz.underlying135 hi hz0 hz1 hz2 rfl (by omega) v k X (by rfl) ((hpo.out _ hpreA).alloc _) ⟨_,0,none⟩ 1 1 [.string aus,.string ⟨ao.toArray⟩,.string ⟨ar.toArray⟩,.int .i64 2] (by rfl) (by rfl) (World.news_of_block (cs:=#[.string aus,.string ⟨ao.toArray⟩,.string ⟨ar.toArray⟩,.int .i64 2]) (t:=90) (fr:=(0,0)) (heap_alloc_at _ _ _ (by first | rfl | exact (World.size_alloc _ _).symm))) (by simp [Value.oneCell']) (by omega) (by unfold maxLen;omega) (by omega) (by have:=hps.out _ (by assumption);simp only [World.size_alloc];omega) _ rfl ?_
        intro gg cap2 w6 ho6 hg6 hat hlt6
        have hB6:=hpg.out _ _ _ hpreA hg6
        refine hK.out _ _ (hcg.out _ hB6) (fun hHeld=>?_)
        clear hK K
        try simp only [gP,gA,gB,gC,gD,gE,gF]
        (refine tk_on (i:=15) (v:=?_) rfl (fun w hS=>?_) (by assumption) ?_;rotate_left;· (try dsimp only at hS);go_simp;with_reducible rfl)
        simp only [gP,gA,gB,gC,gD,gE,gF]
        refine wpAnyH_done (by kernel_rfl) ?_ _
        have H6:=Lib.hid (And.intro ho6 hB6)
        clear ho6 hg6 hat hlt6 hB6 hcp q0 hpa hpad hpo hps hpb hcg hpg hst hstd hrow0 hcv hcat v1 v2 hpre0
        go_wp2
        go_roundw
        case rel=>exact ⟨k+1,by omega,by go_num,by rw [HXS.out];exact H6.out.1,H6.out.2⟩
        case measure=>simp [intOf];omega
      · go_simp
        refine (q0.out _ (hpad.out _)).mono ?_
        rintro e wA ⟨rfl,hpreA,hbA⟩
        try (have hcvA:=hcv.out wA wr.heap.size ((hbA.block wr.heap.size hsz).trans hrow0))
        try go_simp
        refine hK.out _ _ (hcp.out _ hpreA) (fun hHeld=>?_)
        clear hK K
        try simp only [gP,gA,gB,gC,gD,gE,gF]
        refine wpAnyH_ready (rs:=[5]) (by kernel_rfl) (by simp) ?_
        refine AllReadyH.cons rfl (fun K hK=>?_) AllReadyH.nil
        go_simp
        refine hK.out _ _ (hcp.out _ hpreA) (fun hHeld=>?_)
        clear hK K
        try simp only [gP,gA,gB,gC,gD,gE,gF]
        (refine tk_on (i:=6) (v:=?_) rfl (fun w hS=>?_) (by assumption) ?_;rotate_left;· (try dsimp only at hS);go_simp;with_reducible rfl)
        simp only [gP,gA,gB,gC,gD,gE,gF]
        (refine tk_on (i:=12) (v:=?_) rfl (fun w hS=>?_) (by assumption) ?_;rotate_left;· (try dsimp only at hS);go_simp;with_reducible rfl)
        simp only [gP,gA,gB,gC,gD,gE,gF]
        refine wpAnyH_ready (rs:=[13]) (by kernel_rfl) (by simp) ?_
        refine AllReadyH.cons rfl (fun K hK=>?_) AllReadyH.nil
        go_simp
        refine hK.out _ _ (hcp.out _ (hpa.out _ _ hpreA)) (fun hHeld=>?_)
        clear hK K
        try simp only [gP,gA,gB,gC,gD,gE,gF]
        refine wpAnyH_ready (rs:=[14]) (by kernel_rfl) (by simp) ?_
        refine AllReadyH.cons rfl (fun K hK=>?_) AllReadyH.nil
        refine step_append_lies _ (by rfl) _ _ _ (by rfl) w.heap.size 90 i0 _ 4 56 Tryz.underlying135 hi hz0 hz1 hz2 rfl (by omega) v k X (by rfl) ((hpo.out _ hpreA).alloc _) ⟨_,0,none⟩ 1 1 [.string aus,.string ⟨ao.toArray⟩,.string ⟨ar.toArray⟩,.int .i64 2] (by rfl) (by rfl) (World.news_of_block (cs:=#[.string aus,.string ⟨ao.toArray⟩,.string ⟨ar.toArray⟩,.int .i64 2]) (t:=90) (fr:=(0,0)) (heap_alloc_at _ _ _ (by first | rfl | exact (World.size_alloc _ _).symm))) (by simp [Value.oneCell']) (by omega) (by unfold maxLen;omega) (by omega) (by have:=hps.out _ (by assumption);simp only [World.size_alloc];omega) _ rfl ?_
        intro gg cap2 w6 ho6 hg6 hat hlt6
        have hB6:=hpg.out _ _ _ hpreA hg6
        refine hK.out _ _ (hcg.out _ hB6) (fun hHeld=>?_)
        clear hK K
        try simp only [gP,gA,gB,gC,gD,gE,gF]
        (refine tk_on (i:=15) (v:=?_) rfl (fun w hS=>?_) (by assumption) ?_;rotate_left;· (try dsimp only at hS);go_simp;with_reducible rfl)
        simp only [gP,gA,gB,gC,gD,gE,gF]
        refine wpAnyH_done (by kernel_rfl) ?_ _
        have H6:=Lib.hid (And.intro ho6 hB6)
        clear ho6 hg6 hat hlt6 hB6 hcp q0 hpa hpad hpo hps hpb hcg hpg hst hstd hrow0 hcv hcat v1 v2 hpre0
        go_wp2
        go_roundw
        case rel=>exact ⟨k+1,by omega,by go_num,by rw [HXS.out];exact H6.out.1,H6.out.2⟩
        case measure=>simp [intOf];omega
    · go_simp
      refine (q0.out _ (hpre0)).mono ?_
      rintro e wA ⟨rfl,hpreA,hbA⟩
      try (have hcvA:=hcv.out wA wr.heap.size ((hbA.block wr.heap.size hsz).trans hrow0))
      try go_simp
      refine hK.out _ _ (hcp.out _ hpreA) (fun hHeld=>?_)
      clear hK K
      try simp only [gP,gA,gB,gC,gD,gE,gF]
      refine wpAnyH_ready (rs:=[4]) (by kernel_rfl) (by simp) ?_
      refine AllReadyH.cons rfl (fun K hK=>?_) AllReadyH.nil
      go_simp
      refine hK.out _ _ (hcp.out _ (hpa.out _ _ hpreA)) (fun hHeld=>?_)
      clear hK K
      try simp only [gP,gA,gB,gC,gD,gE,gF]
      refine wpAnyH_ready (rs:=[5]) (by kernel_rfl) (by simp) ?_
      refine AllReadyH.cons rfl (fun K hK=>?_) AllReadyH.nil
      go_simp
      refine hK.out _ _ (hcp.out _ (hpa.out _ _ hpreA)) (fun hHeld=>?_)
      clear hK K
      try simp only [gP,gA,gB,gC,gD,gE,gF]
      (refine tk_on (i:=6) (v:=?_) rfl (fun w hS=>?_) (by assumption) ?_;rotate_left;· (try dsimp only at hS);go_simp;with_reducible rfl)
      simp only [gP,gA,gB,gC,gD,gE,gF]
      (refine tk_on (i:=12) (v:=?_) rfl (fun w hS=>?_) (by assumption) ?_;rotate_left;· (try dsimp only at hS);go_simp;with_reducible rfl)
      simp only [gP,gA,gB,gC,gD,gE,gF]
      refine wpAnyH_ready (rs:=[13]) (by kernel_rfl) (by simp) ?_
      refine AllReadyH.cons rfl (fun K hK=>?_) AllReadyH.nil
      go_simp
      refine hK.out _ _ (hcp.out _ (hpa.out _ _ (hpa.out _ _ hpreA))) (fun hHeld=>?_)
      clear hK K
      try simp only [gP,gA,gB,gC,gD,gE,gF]
      refine wpAnyH_ready (rs:=[14]) (by kernel_rfl) (by simp) ?_
      refine AllReadyH.cons rfl (fun K hK=>?_) AllReadyH.nil
      refine step_append_lies _ (by rfl) _ _ _ (by rfl) w.heap.size 90 i0 _ 4 56 Tryz.underlying135 hi hz0 hz1 hz2 rfl (by omega) v k X (by rfl) ((hpo.out _ (hpa.out _ _ hpreA)).alloc _) ⟨_,0,none⟩ 1 1 [.string aus,.string ⟨ao.toArray⟩,.string ⟨ar.toArray⟩,.int .i64 2] (by rfl) (by rfl) (World.news_of_block (cs:=#[.string aus,.string ⟨ao.toArray⟩,.string ⟨ar.toArray⟩,.int .i64 2]) (t:=90) (fr:=(0,0)) (heap_alloc_at _ _ _ (by first | rfl | exact (World.size_alloc _ _).symm))) (by simp [Value.oneCell']) (by omega) (by unfold maxLen;omega) (by omega) (by have:=hps.out _ (by assumption);simp only [World.size_alloc];omega) _ rfl ?_
      intro gg cap2 w6 ho6 hg6 hat hlt6
      have hB6:=hpg.out _ _ _ (hpa.out _ _ hpreA) hg6
      refine hK.out _ _ (hcg.out _ hB6) (fun hHeld=>?_)
      clear hK K
      try simp only [gP,gA,gB,gC,gD,gE,gF]
      (refine tk_on (i:=15) (v:=?_) rfl (fun w hS=>?_) (by assumption) ?_;rotate_left;· (try dsimp only at hS);go_simp;with_reducible rfl)
      simp only [gP,gA,gB,gC,gD,gE,gF]
      refine wpAnyH_done (by kernel_rfl) ?_ _
      have H6:=Lib.hid (And.intro ho6 hB6)
      clear ho6 hg6 hat hlt6 hB6 hcp q0 hpa hpad hpo hps hpb hcg hpg hst hstd hrow0 hcv hcat v1 v2 hpre0
      go_wp2
      go_roundw
      case rel=>exact ⟨k+1,by omega,by go_num,by rw [HXS.out];exact H6.out.1,H6.out.2⟩
      case measure=>simp [intOf];omega
  · obtain rfl:k=n:=by omega
    obtain ⟨aa,ac,rfl⟩:=own_slice hown
    have HO:=Lib.hid (And.intro hown hb)
    have hsw:=hb.size
    clear hown hb
    go_wp2_with fail
    refine (snew_big wr).mono ?_
    rintro e w2 ⟨dk,rfl,hdk,g,hg,hdisk,hb2⟩
    obtain ⟨hown,hb⟩:=HO.out
    have hB2:=hb.trans (hb2.mono hsw)
    have hown2:=(Touch.of_below hb2 (fun _=>False)).own hown (fun _ _ h=>h)
    have hcall:=Lib.hid (snewsrv_any dk g d k ac w.heap.size aa (audsN k) w2 hdisk hown2 (audsN_length k).symm (by omega) HG.out.1 (fun i hi x hx=>by
     rw [audsN_at]
     rw [audsN_length] at hi
     obtain ⟨j,hj,rfl⟩:=List.getElem_of_mem hx
     rw [List.length_take,audsN_length] at hj
     rw [List.getElem_take,audsN_at]
     refine ⟨fun e=>?_,HG.out.2 j i (by omega) hi⟩
     have h2:UInt8.ofNat (97+j)=UInt8.ofNat (97+i):=by
      have:=congrArg (fun b:ByteArray=>b.data.toList.getD 1 0) e
      exact this
     have h3:=congrArg UInt8.toNat h2
     rw [UInt8.toNat_ofNat',UInt8.toNat_ofNat'] at h3
     omega) hd3 (HT.out.old hB2))
    have HB:=Lib.hid hB2
    have s2:=hB2.size
    clear hown hb hB2 hown2 hdisk hb2
    go_wp2_with fail
    refine hcall.out.mono ?_
    rintro e w3 ⟨p,S,rfl,hsrv,hS,hb3⟩
    have H3:=Lib.hid (And.intro hsrv (And.intro hS (HB.out.trans (hb3.mono s2))))
    clear hcall hsrv hS hb3
    go_wp2
    go_ret
    refine ⟨p,S,rfl,H3.out.1,fun k hk=>?_,H3.out.2.2⟩
    rcases H3.out.2.1 k hk with h | h | h
    · omega
    · omega
    · omega
theorem SigAt.old {w w':World} {v:Value} {seed m:List UInt8} (h:SigAt w v seed m) (hb:Below w.heap.size w w'):SigAt w' v seed m:=by
 obtain ⟨a,c,e,hc⟩:=h
 exact ⟨a,c,e,hc.old hb⟩
theorem put_any (p d:Nat) (auds:List Aud) (us:List (List UInt8×List UInt8)) (S:Nat->Prop) (s:ByteArray) (seed:List UInt8) (w:World) (h:SrvA w S p d auds us) (hus:us.length<=2) (hseed:seed.length<=1000) (hlow:Low s) (hs0:0<s.size) (hs64:s.size<=64) (hnew:us.lookup s.data.toList=none) (hT:Kons w) (hKS:¬ S 0) :
 Calls Tryz.prog 26 #[.pointer (some ⟨p,0,none⟩),.string s,.string ⟨seed.toArray⟩] w fun e w'=>e=.returned (.bool true)/\∃ S',SrvA w' S' p d auds ((s.data.toList,seed) :: us)/\(∀ k,S' k->S k\/w.heap.size<=k)/\Touch S w w':=by
 have HSrv:=Lib.hid h
 have HT:=Lib.hid hT
 have HL:=Lib.hid (And.intro hlow (And.intro hs0 (And.intro hs64 hnew)))
 have hlt:∀ k,S k->k<w.heap.size:=by
  obtain ⟨bk,dk,g,xl,xr,t0,tb,cv,nv,tv,hv,x3,x4,v2,na,nc,nts,h⟩:=h
  exact h.lt
 have HLT:=Lib.hid hlt
 have hNew:=Lib.hid (xnew_zero ⟨seed.toArray⟩ w (by show seed.toArray.size<=1000;simpa using hseed) hT.kon)
 have hnt:(⟨#[0,0,0,0,0,0,0,0,0,0,0,0,0,0,0,0]⟩:ByteArray)=⟨nought16.toArray⟩:=rfl
 clear h hT hlow hs0 hs64 hnew hlt
 go_enter Tryz.func26,Tryz.ntmps26
 go_wp2_with fail
 refine hNew.out.mono ?_
 rintro e w1 ⟨b,rfl,_,hkey,hb1⟩
 have hkey:KeyAt w1 b seed:=hkey.at
 have hcall:=Lib.hid (xpublic_any b seed w1 hkey)
 have HB1:=Lib.hid (And.intro hkey hb1)
 clear hNew hkey hb1
 unfold pubV at hcall
 go_wp2_with fail
 refine hcall.out.mono ?_
 rintro e w2 ⟨rfl,hb2⟩
 have hB2:=HB1.out.2.trans (hb2.mono HB1.out.2.size)
 have hcall:=Lib.hid (psign_any b seed s 1 (openOf seed) (pubKey seed 0) 0 nought16 w2 (HB1.out.1.old hb2) hseed (by have:=HL.out.2.2.1;omega) (ent_first seed) (HT.out.kon.old hB2))
 unfold entV upV at hcall
 have HB2:=Lib.hid hB2
 clear hb2 hB2 HB1
 go_wp2_with fail
 refine hcall.out.mono ?_
 rintro e w3 ⟨a,c,rfl,hsig,hb3⟩
 have hB3:=HB2.out.trans (hb3.mono HB2.out.size)
 obtain ⟨W4,hW4⟩:∃ W4,W4=w3.alloc (.cells #[.string s,.int .u64 1,.string ⟨(openOf seed).toArray⟩,.string ⟨(pubKey seed 0).toArray⟩,.int .i64 0,.string ⟨nought16.toArray⟩,.int .i64 0,.slice a 35 c,.slice none 0 0] 143):=⟨_,rfl⟩
 have hb4:Below w3.heap.size w3 W4:=by rw [hW4];exact (Below.refl _ _).alloc (Nat.le_refl _) _
 have hB4:=hB3.trans (hb4.mono hB3.size)
 have hcall:=Lib.hid (ssubmit_any p d auds us S s seed a c W4 (HSrv.out.touch (Touch.of_below hB4 (fun _=>False)) (fun _ _ h=>h)) hus HL.out.1 HL.out.2.1 HL.out.2.2.1 HL.out.2.2.2 (hsig.old hb4) (HT.out.old hB4) hKS)
 unfold upV at hcall
 have HB4:=Lib.hid hB4
 clear hsig hb3 hB3 hb4 hB4 HB2
 go_wp2_with fail
 rw [<-hW4]
 refine hcall.out.mono ?_
 rintro e w5 ⟨rfl,hsrv,ht5⟩
 have H5:=Lib.hid (And.intro hsrv ht5)
 clear hcall hsrv ht5
 go_wp2
 go_ret
 refine ⟨rfl,_,H5.out.1,fun k hk=>?_,(Touch.of_below HB4.out S).trans H5.out.2⟩
 rcases hk with h | ⟨h,_⟩
 · exact .inl h
 · exact .inr (Nat.le_trans HB4.out.size h)
theorem owners_any (w:World) (hT:Kons w) (hlow:Low ⟨#[97,108,105,99,101]⟩) :
 Calls Tryz.prog 61 #[] w fun e w'=>e=.returned (.bool true)/\Below w.heap.size w w':=by
 have HT:=Lib.hid hT
 have HL:=Lib.hid hlow
 have hNew:=Lib.hid (xnew_zero ⟨#[97]⟩ w (by decide) hT.kon)
 have hnt:(⟨#[0,0,0,0,0,0,0,0,0,0,0,0,0,0,0,0]⟩:ByteArray)=⟨nought16.toArray⟩:=rfl
 clear hT hlow
 go_enter Tryz.func61,Tryz.ntmps61
 go_wp2_with fail
 refine hNew.out.mono ?_
 rintro e w1 ⟨b,rfl,_,hkey,hb1⟩
 have hkey:KeyAt w1 b [97]:=hkey.at
 have hcall:=Lib.hid (xpublic_any b [97] w1 hkey)
 have HB1:=Lib.hid (And.intro hkey hb1)
 clear hNew hkey hb1
 unfold pubV at hcall
 go_wp2_with fail
 refine hcall.out.mono ?_
 rintro e w2 ⟨rfl,hb2⟩
 have hB2:=HB1.out.2.trans (hb2.mono HB1.out.2.size)
 have hcall:=Lib.hid (psign_any b [97] ⟨#[97,108,105,99,101]⟩ 1 (openOf [97]) (pubKey [97] 0) 0 nought16 w2 (HB1.out.1.old hb2) (by decide) (by decide) (ent_first [97]) (HT.out.kon.old hB2))
 unfold entV upV at hcall
 have HB2:=Lib.hid hB2
 clear hb2 hB2 HB1
 go_wp2_with fail
 refine hcall.out.mono ?_
 rintro e w3 ⟨a,c,rfl,hsig,hb3⟩
 have hB3:=HB2.out.trans (hb3.mono HB2.out.size)
 obtain ⟨W4,hW4⟩:∃ W4,W4=w3.alloc (.cells #[.string ⟨#[97,108,105,99,101]⟩,.int .u64 1,.string ⟨(openOf [97]).toArray⟩,.string ⟨(pubKey [97] 0).toArray⟩,.int .i64 0,.string ⟨nought16.toArray⟩,.int .i64 0,.slice a 35 c,.slice none 0 0] 143):=⟨_,rfl⟩
 have hb4:Below w3.heap.size w3 W4:=by rw [hW4];exact (Below.refl _ _).alloc (Nat.le_refl _) _
 have hr4:W4.heap[w3.heap.size]?=some (.cells #[.string ⟨#[97,108,105,99,101]⟩,.int .u64 1,.string ⟨(openOf [97]).toArray⟩,.string ⟨(pubKey [97] 0).toArray⟩,.int .i64 0,.string ⟨nought16.toArray⟩,.int .i64 0,.slice a 35 c,.slice none 0 0] 143 (0,0)):=by rw [hW4];exact heap_alloc_new _ _
 have hB4:=hB3.trans (hb4.mono hB3.size)
 have HB4:=Lib.hid (And.intro hB4 (And.intro (hsig.old hb4) hr4))
 clear hsig hb3 hB3 hb4 hB4 HB2 hcall hr4
 go_wp2_with fail
 rw [<-hW4]
 have hcall:=Lib.hid (trees_any W4 (HT.out.kon.old HB4.out.1))
 refine hcall.out.mono ?_
 rintro e w5 ⟨rfl,hb5⟩
 clear hW4
 have hB5:=HB4.out.1.trans (hb5.mono HB4.out.1.size)
 have hcall:=Lib.hid (judge_any [97] ⟨#[97,108,105,99,101]⟩ a c (.int .u64 0) (.string ⟨#[]⟩) (.string ⟨#[]⟩) (.int .i64 0) (.string ⟨#[]⟩) w5 HL.out (by decide) (by decide) (HB4.out.2.1.old hb5) (HT.out.old hB5))
 unfold upV at hcall
 obtain ⟨u0,u1,u2,u3,u4,u5,u6,u7,u8⟩:=nine_cells ((hb5.block _ (lt_of_heap HB4.out.2.2)).trans HB4.out.2.2)
 have HB5:=Lib.hid hB5
 clear hB5 hb5 HB4
 go_wp2_with fail
 refine hcall.out.mono ?_
 rintro e w6 ⟨rfl,hb6⟩
 have HB6:=Lib.hid (HB5.out.trans (hb6.mono HB5.out.size))
 clear hcall hb6 u0 u1 u2 u3 u4 u5 u6 u7 u8
 go_wp2
 go_ret
 exact ⟨rfl,HB6.out⟩
end Go.Proofs.YtcgkomafaepjnaaGreatDoor
