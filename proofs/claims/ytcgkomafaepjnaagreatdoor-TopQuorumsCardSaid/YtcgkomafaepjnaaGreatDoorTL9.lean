/- Package logbook: a sector of noughts is no record's. Conditions: none. -/
import Derived.Test.YtcgkomafaepjnaaGreatDoorTL8
import Derived.Test.YtcgkomafaepjnaaGreatDoorTL4
set_option maxRecDepth 100000
set_option maxHeartbeats 16000000
namespace Go.Proofs.YtcgkomafaepjnaaGreatDoor
open Go.RowKit
theorem zk_sz:zsec.size=64/\zsec.extract 0 56=zsn 56/\(zsn 56).size=56:=by decide +kernel
theorem zk_4:nmN (zsn 56) 0 4=0/\nmS (zsn 56) 0 4=zsn 52/\nmE (zsn 56) 0 4=0:=by decide +kernel
theorem zk_2:nmN (zsn 52) 0 2=0/\nmS (zsn 52) 0 2=zsn 50/\nmE (zsn 52) 0 2=0:=by decide +kernel
theorem zk_1:nmN (zsn 50) 0 1=0/\nmS (zsn 50) 0 1=zsn 49/\nmE (zsn 50) 0 1=0:=by decide +kernel
theorem zk_0:nmN (zsn 49) 0 1=0/\nmS (zsn 49) 0 1=zsn 48/\nmE (zsn 49) 0 1=0:=by decide +kernel
theorem zk_n:nmN (zsn 48) 0 1=0/\nmS (zsn 48) 0 1=zsn 47/\nmE (zsn 48) 0 1=0:=by decide +kernel
theorem zk_f:fxT (zsn 47) 0 8=zsn 8/\fxS (zsn 47) 0 8=zsn 39/\fxE (zsn 47) 0 8=0/\(zsn 8).size=8:=by decide +kernel
theorem zk_c:fxT (zsn 39) 0 0=⟨#[]⟩:=by decide +kernel
theorem six_of_row {w:World} {b:Nat} {x0 x1 x2 x3 x4 x5:Value} {t:TypeId} (h:w.heap[b]?=some (.cells #[x0,x1,x2,x3,x4,x5] t (0,0))) :
 w.cell? ⟨b,0,none⟩=some x0/\w.cell? ⟨b,1,none⟩=some x1/\w.cell? ⟨b,2,none⟩=some x2/\w.cell? ⟨b,3,none⟩=some x3/\w.cell? ⟨b,4,none⟩=some x4/\w.cell? ⟨b,5,none⟩=some x5 /\
 w.frozen? ⟨b,0,none⟩=false/\w.frozen? ⟨b,1,none⟩=false/\w.frozen? ⟨b,2,none⟩=false/\w.frozen? ⟨b,3,none⟩=false/\w.frozen? ⟨b,4,none⟩=false/\w.frozen? ⟨b,5,none⟩=false:=
 ⟨cel h,cel h,cel h,cel h,cel h,cel h,
  frozen_of_row _ _ 0 _ _ h,frozen_of_row _ _ 1 _ _ h,frozen_of_row _ _ 2 _ _ h,frozen_of_row _ _ 3 _ _ h,frozen_of_row _ _ 4 _ _ h,frozen_of_row _ _ 5 _ _ h⟩
theorem six_store {w:World} {b:Nat} {x0 x1 x2 x3 x4 x5:Value} {t:TypeId} (y0 y1 y2 y3 y4 y5:Value) (h:w.heap[b]?=some (.cells #[x0,x1,x2,x3,x4,x5] t (0,0))) :
 ((((((w.setCell ⟨b,0,none⟩ y0).setCell ⟨b,1,none⟩ y1).setCell ⟨b,2,none⟩ y2).setCell ⟨b,3,none⟩ y3).setCell ⟨b,4,none⟩ y4).setCell ⟨b,5,none⟩ y5).heap[b]?=some (.cells #[y0,y1,y2,y3,y4,y5] t (0,0)):=
 heap_setCell_same _ b 5 _ _ _ (heap_setCell_same _ b 4 _ _ _ (heap_setCell_same _ b 3 _ _ _ (heap_setCell_same _ b 2 _ _ _ (heap_setCell_same _ b 1 _ _ _ (heap_setCell_same w b 0 _ _ _ h)))))
theorem six_below {B:Nat} {w0 w:World} {b:Nat} (y0 y1 y2 y3 y4 y5:Value) (h:Below B w0 w) (hb:B<=b) :
 Below B w0 ((((((w.setCell ⟨b,0,none⟩ y0).setCell ⟨b,1,none⟩ y1).setCell ⟨b,2,none⟩ y2).setCell ⟨b,3,none⟩ y3).setCell ⟨b,4,none⟩ y4).setCell ⟨b,5,none⟩ y5):=
 (((((h.setCell (p:=⟨b,0,none⟩) hb _).setCell (p:=⟨b,1,none⟩) hb _).setCell (p:=⟨b,2,none⟩) hb _).setCell (p:=⟨b,3,none⟩) hb _).setCell (p:=⟨b,4,none⟩) hb _).setCell (p:=⟨b,5,none⟩) hb _
theorem ltext_zero (w:World) (hK:Kon w):Calls Tryz.prog 215 #[.agg #[.int .u64 0,.int .u64 0,.int .i64 0,.int .i64 0,.string (zsn 8),.string ⟨#[]⟩]] w fun e w'=>(∃ t:ByteArray,e=.returned (.string t)/\t.size=64)/\Below w.heap.size w w':=
 ltext_any 0 0 0 0 (zsn 8) ⟨#[]⟩ (by decide) (by decide) (by decide) (by decide) zk_f.2.2.2 (by decide) w hK
theorem lparse_zero (w:World) (hK:Kon w) :
 Calls Tryz.prog 238 #[.string zsec] w fun e w'=>(∃ (num a l:Int) (nm ct:ByteArray) (b:Bool),e=.returned (.tuple #[.agg #[.int .u64 0,.int .u64 num,.int .i64 a,.int .i64 l,.string nm,.string ct],.bool b]))/\Below w.heap.size w w':=by
 have hsum:=Lib.hid (fun W (h:Kon W)=>lsum_any (zsn 56) (by rw [zk_sz.2.2];omega) W h)
 have hts:=tag_half 8 [(zsn 56).data.toList]
 generalize (⟨((tagOf 8 [(zsn 56).data.toList]).take 8).toArray⟩:ByteArray)=T8 at hsum hts
 have hz64:zsec.size=64:=zk_sz.1
 have hx:=zk_sz.2.1
 have HK:=Lib.hid hK
 clear hK
 go_enter Tryz.func238,Tryz.ntmps238
 go_wp2_with fail
 have hb1:Below w.heap.size w (w.alloc (.cells #[.int .u64 0,.int .u64 0,.int .i64 0,.int .i64 0,.string ⟨#[]⟩,.string ⟨#[]⟩] 310)):=(Below.refl _ _).alloc (Nat.le_refl _) _
 have hk1:(w.alloc (.cells #[.int .u64 0,.int .u64 0,.int .i64 0,.int .i64 0,.string ⟨#[]⟩,.string ⟨#[]⟩] 310)).heap[w.heap.size]?=some (.cells #[.int .u64 0,.int .u64 0,.int .i64 0,.int .i64 0,.string ⟨#[]⟩,.string ⟨#[]⟩] 310 (0,0)):=heap_alloc_new _ _
 generalize (w.alloc (.cells #[.int .u64 0,.int .u64 0,.int .i64 0,.int .i64 0,.string ⟨#[]⟩,.string ⟨#[]⟩] 310))=W1 at hb1 hk1 |-
 have hsum1:=hsum.out W1.drew (HK.out.old (hb1.trans ((below_drew W1).mono hb1.size)))
 have hS0:=Lib.hid (below_drew W1)
 have hS1:=Lib.hid (fun w5 (hb5:Below W1.drew.heap.size W1.drew w5)=>below_call hb5)
 go_region_held3 (fun W=>Below W1.heap.size W1 W) (first | exact hS0.out | exact hS1.out _ (by assumption)) (first | (go_at_call 244;with_reducible refine hsum1.mono ?_;rintro r w5 ⟨rfl,hb5⟩))
 rename_i hHeld
 have hk5:=(hHeld.block w.heap.size (Array.getElem?_eq_some_iff.1 hk1).1).trans hk1
 have hb5w:=hb1.trans (hHeld.mono hb1.size)
 clear hsum hsum1 hS0 hS1 hb5 hHeld hb1 hk1
 have hw5:=hb5w.size
 cases hc:(T8.toList==(zsec.extract 56 64).toList)
 · have hrow:=six_store (.int .u64 0) (.int .u64 0) (.int .i64 0) (.int .i64 0) (.string ⟨#[]⟩) (.string ⟨#[]⟩) hk5
   have hbel:=six_below (b:=w.heap.size) (.int .u64 0) (.int .u64 0) (.int .i64 0) (.int .i64 0) (.string ⟨#[]⟩) (.string ⟨#[]⟩) hb5w (Nat.le_refl _)
   obtain ⟨q0,q1,q2,q3,q4,q5,g0,g1,g2,g3,g4,g5⟩:=six_of_row hk5
   have HR:=Lib.hid hrow
   have HL:=Lib.hid hbel
   clear hrow hbel hk5 hts hz64 hx hc hb5w hw5
   simp only [Bool.not_false]
   generalize hrb0:w.heap.size=rb at q0 q1 q2 q3 q4 q5 g0 g1 g2 g3 g4 g5 HR HL |-
   have Hrb0:=Lib.hid hrb0
   clear hrb0
   go_wp2_with fail
   have hrow:=HR.out
   have hbel:=HL.out
   clear HR HL
   generalize ((((((w5.setCell ⟨w.heap.size,0,none⟩ (.int .u64 0)).setCell ⟨w.heap.size,1,none⟩ (.int .u64 0)).setCell ⟨w.heap.size,2,none⟩ (.int .i64 0)).setCell ⟨w.heap.size,3,none⟩ (.int .i64 0)).setCell ⟨w.heap.size,4,none⟩ (.string ⟨#[]⟩)).setCell ⟨w.heap.size,5,none⟩ (.string ⟨#[]⟩))=V at hrow hbel |-
   clear q0 q1 q2 q3 q4 q5 g0 g1 g2 g3 g4 g5
   obtain ⟨p0,p1,p2,p3,p4,p5,_,_,_,_,_,_⟩:=six_of_row hrow
   refine bodyPost_ret (v:=.tuple #[.agg #[.int .u64 0,.int .u64 0,.int .i64 0,.int .i64 0,.string ⟨#[]⟩,.string ⟨#[]⟩],.bool false]) ?_ rfl ?_
   · simp [results,Tryz.f238,go_sem,p0,p1,p2,p3,p4,p5]
   · exact ⟨⟨_,_,_,_,_,_,rfl⟩,by rw [Hrb0.out];exact hbel⟩
 · go_wp2_with fail
   refine (read_any (zsn 56) _).mono ?_
   rintro r w6 ⟨rfl,hr6,ht6⟩
   have hb6:Below w5.heap.size w5 w6:=ht6.below (fun k hk=>hk.elim) (Nat.le_refl _)
   go_wp2_with fail
   have n:=rdNum_any w5.heap.size (zsn 56) 0 4 w6 hr6
   rw [zk_4.1,zk_4.2.1,zk_4.2.2] at n
   refine n.mono ?_
   clear n hr6
   rintro r w7 ⟨rfl,hr7,ht7⟩
   have hb7:=hb6.trans (ht7.below (B:=w5.heap.size) (fun k hk=>by subst hk;exact Nat.le_refl _) hb6.size)
   go_wp2_with fail
   have n:=rdNum_any w5.heap.size (zsn 52) 0 2 w7 hr7
   rw [zk_2.1,zk_2.2.1,zk_2.2.2] at n
   refine n.mono ?_
   clear n hr7
   rintro r w8 ⟨rfl,hr8,ht8⟩
   have hb8:=hb7.trans (ht8.below (B:=w5.heap.size) (fun k hk=>by subst hk;exact Nat.le_refl _) hb7.size)
   go_wp2_with fail
   have n:=rdNum_any w5.heap.size (zsn 50) 0 1 w8 hr8
   rw [zk_1.1,zk_1.2.1,zk_1.2.2] at n
   refine n.mono ?_
   clear n hr8
   rintro r w9 ⟨rfl,hr9,ht9⟩
   have hb9:=hb8.trans (ht9.below (B:=w5.heap.size) (fun k hk=>by subst hk;exact Nat.le_refl _) hb8.size)
   go_wp2_with fail
   have n:=rdNum_any w5.heap.size (zsn 49) 0 1 w9 hr9
   rw [zk_0.1,zk_0.2.1,zk_0.2.2] at n
   refine n.mono ?_
   clear n hr9
   rintro r w10 ⟨rfl,hr10,ht10⟩
   have hb10:=hb9.trans (ht10.below (B:=w5.heap.size) (fun k hk=>by subst hk;exact Nat.le_refl _) hb9.size)
   clear ht6 ht7 ht8 ht9 ht10 hb6 hb7 hb8 hb9
   go_wp2_with fail
   have hr11:Rd (w10.alloc (.cells #[.int .u64 0,.int .u64 0,.int .i64 0,.int .i64 0,.string ⟨#[]⟩,.string ⟨#[]⟩] 310)) w5.heap.size (zsn 48) 0:=hr10.touch (Touch.alloc (S:=fun _=>False) _ _) (fun h=>h)
   have hk11:(w10.alloc (.cells #[.int .u64 0,.int .u64 0,.int .i64 0,.int .i64 0,.string ⟨#[]⟩,.string ⟨#[]⟩] 310)).heap[w10.heap.size]?=some (.cells #[.int .u64 0,.int .u64 0,.int .i64 0,.int .i64 0,.string ⟨#[]⟩,.string ⟨#[]⟩] 310 (0,0)):=heap_alloc_new _ _
   have hb11:=hb10.alloc hb10.size (.cells #[.int .u64 0,.int .u64 0,.int .i64 0,.int .i64 0,.string ⟨#[]⟩,.string ⟨#[]⟩] 310)
   have hne:w5.heap.size≠w10.heap.size:=Nat.ne_of_lt (lt_of_heap hr10)
   have hpb:=hb10.size
   generalize (w10.alloc (.cells #[.int .u64 0,.int .u64 0,.int .i64 0,.int .i64 0,.string ⟨#[]⟩,.string ⟨#[]⟩] 310))=w11 at hr11 hk11 hb11 |-
   generalize w10.heap.size=pb at hk11 hne hpb |-
   clear hr10 hb10
   have n:=rdNum_any w5.heap.size (zsn 48) 0 1 w11 hr11
   rw [zk_n.1,zk_n.2.1,zk_n.2.2] at n
   refine n.mono ?_
   clear n hr11
   rintro r w12 ⟨rfl,hr12,ht12⟩
   have hk12:=ht12.heap hk11 (fun e=>hne e.symm)
   have hb12:=hb11.trans (ht12.below (B:=w5.heap.size) (fun k hk=>by subst hk;exact Nat.le_refl _) hb11.size)
   clear ht12 hk11 hb11
   go_wp2_with fail
   have n:=fixed_any w5.heap.size (zsn 47) 0 8 w12 hr12
   rw [zk_f.1,zk_f.2.1,zk_f.2.2.1] at n
   refine n.mono ?_
   clear n hr12
   rintro r w13 ⟨rfl,hr13,ht13⟩
   have hk13:=ht13.heap hk12 (fun e=>hne e.symm)
   have hb13:=hb12.trans (ht13.below (B:=w5.heap.size) (fun k hk=>by subst hk;exact Nat.le_refl _) hb12.size)
   clear ht13 hk12 hb12
   have y4:w13.cell? ⟨pb,4,none⟩=some (.string ⟨#[]⟩):=cel hk13
   have f4:w13.frozen? ⟨pb,4,none⟩=false:=frozen_of_row _ _ 4 _ _ hk13
   go_wp2_with fail
   have hk14:=heap_setCell_same w13 pb 4 _ _ (.string (zsn 8)) hk13
   have hr14:Rd (w13.setCell ⟨pb,4,none⟩ (.string (zsn 8))) w5.heap.size (zsn 39) 0:=hr13.touch (Touch.setCell (S:=(·=pb)) _ _ _ rfl) hne
   have hb14:=hb13.setCell (p:=⟨pb,4,none⟩) (by exact hpb) (.string (zsn 8))
   generalize (w13.setCell ⟨pb,4,none⟩ (.string (zsn 8)))=w14 at hk14 hr14 hb14 |-
   have hk14:w14.heap[pb]?=some (.cells #[.int .u64 0,.int .u64 0,.int .i64 0,.int .i64 0,.string (zsn 8),.string ⟨#[]⟩] 310 (0,0)):=hk14
   clear hk13 hr13 hb13 y4 f4
   go_wp2_with fail
   have n:=fixed_any w5.heap.size (zsn 39) 0 0 w14 hr14
   rw [zk_c] at n
   refine n.mono ?_
   clear n hr14
   rintro r w15 ⟨rfl,_,ht15⟩
   have hk15:=ht15.heap hk14 (fun e=>hne e.symm)
   have hb15:=hb14.trans (ht15.below (B:=w5.heap.size) (fun k hk=>by subst hk;exact Nat.le_refl _) hb14.size)
   clear ht15 hk14 hb14
   have y5:w15.cell? ⟨pb,5,none⟩=some (.string ⟨#[]⟩):=cel hk15
   have f5:w15.frozen? ⟨pb,5,none⟩=false:=frozen_of_row _ _ 5 _ _ hk15
   go_wp2_with fail
   have hk16:=heap_setCell_same w15 pb 5 _ _ (.string ⟨#[]⟩) hk15
   have hb16:=hb15.setCell (p:=⟨pb,5,none⟩) (by exact hpb) (.string ⟨#[]⟩)
   generalize (w15.setCell ⟨pb,5,none⟩ (.string ⟨#[]⟩))=w16 at hk16 hb16 |-
   have hk16:w16.heap[pb]?=some (.cells #[.int .u64 0,.int .u64 0,.int .i64 0,.int .i64 0,.string (zsn 8),.string ⟨#[]⟩] 310 (0,0)):=hk16
   clear hk15 hb15 y5 f5
   have hrb:=(hb16.block _ (lt_of_heap hk5)).trans hk5
   have hl5:=lt_of_heap hk5
   have hb16:=hb5w.trans (hb16.mono hw5)
   have hne2:w.heap.size≠pb:=by omega
   generalize hrbn:w.heap.size=rb at hrb hne2 |-
   have hlr:=lt_of_heap hrb
   have hlp:=lt_of_heap hk16
   have htext:=Lib.hid (ltext_zero w16.drew (HK.out.old (hb16.trans ((below_drew w16).mono (by have:=hb16.size;omega)))))
   obtain ⟨p0,p1,p2,p3,p4,p5,_,_,_,_,_,_⟩:=six_of_row hk16
   obtain ⟨q0,q1,q2,q3,q4,q5,g0,g1,g2,g3,g4,g5⟩:=six_of_row hrb
   have HP:=Lib.hid (fun w17 (hb:Below w16.drew.heap.size w16.drew w17)=>six_of_row (((below_call hb).block pb hlp).trans hk16))
   have HR:=Lib.hid (fun w17 (hb:Below w16.drew.heap.size w16.drew w17)=>six_of_row (((below_call hb).block rb hlr).trans hrb))
   have Hk16:=Lib.hid hk16
   have Hrb:=Lib.hid hrb
   clear hk16 hrb
   go_region_law (first | (go_simp;go_at_call 215;with_reducible refine htext.out.mono ?_;rintro r w17 ⟨⟨tt,rfl,_⟩,hb17⟩;obtain ⟨p0',p1',p2',p3',p4',p5',_,_,_,_,_,_⟩:=HP.out _ hb17;obtain ⟨q0',q1',q2',q3',q4',q5',g0',g1',g2',g3',g4',g5'⟩:=HR.out _ hb17))
   all_goals
    have hq17:=(below_call hb17).block rb hlr
    have hrow:=six_store (.int .u64 0) (.int .u64 0) (.int .i64 0) (.int .i64 0) (.string (zsn 8)) (.string ⟨#[]⟩) (hq17.trans Hrb.out)
    have hbel:=six_below (b:=rb) (.int .u64 0) (.int .u64 0) (.int .i64 0) (.int .i64 0) (.string (zsn 8)) (.string ⟨#[]⟩) (hb16.trans ((below_call hb17).mono (by have:=hb16.size;omega))) (by omega)
    generalize ((((((w17.setCell ⟨rb,0,none⟩ (.int .u64 0)).setCell ⟨rb,1,none⟩ (.int .u64 0)).setCell ⟨rb,2,none⟩ (.int .i64 0)).setCell ⟨rb,3,none⟩ (.int .i64 0)).setCell ⟨rb,4,none⟩ (.string (zsn 8))).setCell ⟨rb,5,none⟩ (.string ⟨#[]⟩))=V at hrow hbel |-
    simp only [Act.put,List.getElem_toArray,List.getElem_cons_succ,List.getElem_cons_zero,List.setIfInBounds_toArray,List.set_cons_succ,List.set_cons_zero]
    clear hl5 hne2 hlr hlp htext hne hpb hw5
    clear hb17 p0' p1' p2' p3' p4' p5' q0' q1' q2' q3' q4' q5' g0' g1' g2' g3' g4' g5' HP HR Hk16 Hrb p0 p1 p2 p3 p4 p5 q0 q1 q2 q3 q4 q5 g0 g1 g2 g3 g4 g5
    obtain ⟨p0,p1,p2,p3,p4,p5,_,_,_,_,_,_⟩:=six_of_row hrow
    clear hrow hq17
    clear hk5 hts hz64 hx hb5w hb16
    clear hb16
    clear hk14 hk16
    go_wp2
    refine bodyPost_ret (v:=.tuple #[.agg #[.int .u64 0,.int .u64 0,.int .i64 0,.int .i64 0,.string (zsn 8),.string ⟨#[]⟩],.bool (tt.toList==zsec.toList)]) ?_ rfl ?_
    · simp [results,Tryz.f238,go_sem,p0,p1,p2,p3,p4,p5]
    · exact ⟨⟨_,_,_,_,_,_,rfl⟩,hbel⟩
theorem lrecord_zero (hp:Value) (g n c:Nat) (hn:0<n) (w:World) (hK:Kon w) (hc:w.cell? ⟨g,0,none⟩=some (.string zsec)) :
 Calls Tryz.prog 207 #[hp,.slice (some ⟨g,0,none⟩) n c] w fun e w'=>e=.returned (.tuple #[.int .u64 0,.string ⟨#[]⟩,.int .i64 0,.bool false])/\Below w.heap.size w w':=by
 have hpar:=lparse_zero w hK
 have hn0:(0:Int)<(n:Int):=by omega
 go_enter Tryz.func207,Tryz.ntmps207
 go_wp2_with fail
 refine hpar.mono ?_
 clear hpar
 rintro e w1 ⟨⟨num,a,l,nm,ct,b,rfl⟩,hb1⟩
 go_wp2_with fail
 have hrow:(w1.alloc (.cells #[.int .u64 0,.int .u64 num,.int .i64 a,.int .i64 l,.string nm,.string ct] 310)).heap[w1.heap.size]?=some (.cells #[.int .u64 0,.int .u64 num,.int .i64 a,.int .i64 l,.string nm,.string ct] 310 (0,0)):=heap_alloc_new _ _
 have hb2:=hb1.alloc hb1.size (.cells #[.int .u64 0,.int .u64 num,.int .i64 a,.int .i64 l,.string nm,.string ct] 310)
 generalize (w1.alloc (.cells #[.int .u64 0,.int .u64 num,.int .i64 a,.int .i64 l,.string nm,.string ct] 310))=w2 at hrow hb2 |-
 generalize w1.heap.size=pb at hrow |-
 obtain ⟨p0,p1,p2,p3,p4,p5,_,_,_,_,_,_⟩:=six_of_row hrow
 clear hrow hb1
 cases b
 · go_quiet (fail)
   go_wp2
   exact bodyPost_ret (v:=.tuple #[.int .u64 0,.string ⟨#[]⟩,.int .i64 0,.bool false]) (by simp [results,Tryz.f207,go_sem]) rfl ⟨rfl,hb2.trans (below_drewN w2 nq)⟩
 · by_cases ha:a=0
   · have e1:(a != 0)=false:=by simpa using ha
     clear ha
     obtain ⟨t0,ht0⟩:∃ t0:Int,t0=0:=⟨_,rfl⟩
     have e3:(t0==0)=true:=by simpa using ht0
     have p0:w2.cell? ⟨pb,0,none⟩=some (.int .u64 t0):=by rw [p0,ht0]
     clear ht0
     go_quiet (fail)
     go_wp2
     exact bodyPost_ret (v:=.tuple #[.int .u64 0,.string ⟨#[]⟩,.int .i64 0,.bool false]) (by simp [results,Tryz.f207,go_sem]) rfl ⟨rfl,hb2.trans (below_drewN w2 nq)⟩
   · have e1:(a != 0)=true:=by simpa using ha
     clear ha
     go_quiet (fail)
     go_wp2
     exact bodyPost_ret (v:=.tuple #[.int .u64 0,.string ⟨#[]⟩,.int .i64 0,.bool false]) (by simp [results,Tryz.f207,go_sem]) rfl ⟨rfl,hb2.trans (below_drewN w2 nq)⟩
theorem four_of_row {w:World} {b:Nat} {x0 x1 x2 x3:Value} {t:TypeId} (h:w.heap[b]?=some (.cells #[x0,x1,x2,x3] t (0,0))) :
 w.cell? ⟨b,0,none⟩=some x0/\w.cell? ⟨b,1,none⟩=some x1/\w.cell? ⟨b,2,none⟩=some x2/\w.cell? ⟨b,3,none⟩=some x3 /\
 w.frozen? ⟨b,0,none⟩=false/\w.frozen? ⟨b,1,none⟩=false/\w.frozen? ⟨b,2,none⟩=false/\w.frozen? ⟨b,3,none⟩=false:=
 ⟨cel h,cel h,cel h,cel h,
  frozen_of_row _ _ 0 _ _ h,frozen_of_row _ _ 1 _ _ h,frozen_of_row _ _ 2 _ _ h,frozen_of_row _ _ 3 _ _ h⟩
theorem four_store {w:World} {b:Nat} {x0 x1 x2 x3:Value} {t:TypeId} (y0 y1 y2 y3:Value) (h:w.heap[b]?=some (.cells #[x0,x1,x2,x3] t (0,0))) :
 ((((w.setCell ⟨b,0,none⟩ y0).setCell ⟨b,1,none⟩ y1).setCell ⟨b,2,none⟩ y2).setCell ⟨b,3,none⟩ y3).heap[b]?=some (.cells #[y0,y1,y2,y3] t (0,0)):=
 heap_setCell_same _ b 3 _ _ _ (heap_setCell_same _ b 2 _ _ _ (heap_setCell_same _ b 1 _ _ _ (heap_setCell_same w b 0 _ _ _ h)))
theorem four_below {B:Nat} {w0 w:World} {b:Nat} (y0 y1 y2 y3:Value) (h:Below B w0 w) (hb:B<=b) :
 Below B w0 ((((w.setCell ⟨b,0,none⟩ y0).setCell ⟨b,1,none⟩ y1).setCell ⟨b,2,none⟩ y2).setCell ⟨b,3,none⟩ y3):=
 (((h.setCell (p:=⟨b,0,none⟩) hb _).setCell (p:=⟨b,1,none⟩) hb _).setCell (p:=⟨b,2,none⟩) hb _).setCell (p:=⟨b,3,none⟩) hb _
def zlist (k:Nat):List Value:=List.replicate k (.string zsec)
theorem zlist_succ (k:Nat):zlist (k+1)=zlist k++[.string zsec]:=by unfold zlist;rw [List.replicate_succ']
theorem lread_zero (b d g sz at':Nat) (xs:List ByteArray) (hsz:0<sz) (hx:∀ x∈xs,x=zsec) (hle:at'+sz<=xs.length) (h64:xs.length<65536) (w:World) (hK:Kon w) (hd:DiskAt w d g xs (.slice none 0 0))
 (hb0:w.cell? ⟨b,0,none⟩=some (.pointer (some ⟨d,0,none⟩))) (hb2:w.cell? ⟨b,2,none⟩=some (.int .i64 sz)) (hbl:b<w.heap.size) :
 Calls Tryz.prog 175 #[.pointer (some ⟨b,0,none⟩),.int .i64 at'] w fun e w'=>e=.returned (.tuple #[.agg #[.int .i64 at',.int .u64 0,.int .i64 0,.slice none 0 0],.int .i64 0])/\Below w.heap.size w w':=by
 have HX:=Lib.hid hx
 have HK:=Lib.hid hK
 have HD:=Lib.hid hd
 have hin:∀ k,k<sz->IntKind.i64.wrap ((at':Int)+(k:Int))=((at'+k:Nat):Int):=fun k hk=>by rw [show (at':Int)+(k:Int)=((at'+k:Nat):Int) by omega];exact IntWalk.i64_in _ (by omega)
 have HIN:=Lib.hid hin
 have hread:=Lib.hid (fun (W:World) (k:Nat) (hk:at'+k<xs.length) (h:DiskAt W d g xs (.slice none 0 0))=>sread_any d g xs (at'+k) hk W h)
 clear hx hK hd hin
 go_enter Tryz.func175,Tryz.ntmps175
 go_wp2_with fail
 have rowR:((w.alloc (.cells #[.int .i64 0,.int .u64 0,.int .i64 0,.slice none 0 0] 268)).alloc (.cells #[.int .i64 at',.int .u64 0,.int .i64 0,.slice none 0 0] 268)).heap[w.heap.size]?=some (.cells #[.int .i64 0,.int .u64 0,.int .i64 0,.slice none 0 0] 268 (0,0)):=by
  rw [Below.heap_alloc _ _ _ (by simp)];exact heap_alloc_new _ _
 have rowH:((w.alloc (.cells #[.int .i64 0,.int .u64 0,.int .i64 0,.slice none 0 0] 268)).alloc (.cells #[.int .i64 at',.int .u64 0,.int .i64 0,.slice none 0 0] 268)).heap[w.heap.size+1]?=some (.cells #[.int .i64 at',.int .u64 0,.int .i64 0,.slice none 0 0] 268 (0,0)):=heap_alloc2_new _ _ _
 have hb1:Below w.heap.size w ((w.alloc (.cells #[.int .i64 0,.int .u64 0,.int .i64 0,.slice none 0 0] 268)).alloc (.cells #[.int .i64 at',.int .u64 0,.int .i64 0,.slice none 0 0] 268)):=((Below.refl _ w).alloc (Nat.le_refl _) _).alloc (by simp) _
 generalize ((w.alloc (.cells #[.int .i64 0,.int .u64 0,.int .i64 0,.slice none 0 0] 268)).alloc (.cells #[.int .i64 at',.int .u64 0,.int .i64 0,.slice none 0 0] 268))=W1 at rowR rowH hb1 |-
 have hs1:=(Array.getElem?_eq_some_iff.1 rowH).1
 clear hb2
 go_loopw [7,21] (fun v i W=>∃ k:Nat,k<=sz/\i=.int .i64 k/\W.ownsRow W1.heap.size 9 1 v k (zlist k)/\Below W1.heap.size W1 W) (fun _ i _=>sz - (intOf i).toNat)
 case atStart=>exact ⟨0,Nat.zero_le _,rfl,World.ownsRow_nil _ _ _ _,Below.refl _ _⟩
 case round=>
  obtain ⟨k,hk,rfl,hown,hb⟩:=hrel
  have hbw:=hb1.trans (hb.mono (by have:=hb1.size;omega))
  have y0:wr.cell? ⟨b,0,none⟩=some (.pointer (some ⟨d,0,none⟩)):=(hbw.cell (p:=⟨b,0,none⟩) hbl).trans hb0
  by_cases hlt:k<sz
  · have hki:(k:Int)<(sz:Int):=by omega
    have hwk:=HIN.out k hlt
    have hcall:=hread.out wr k (by omega) (HD.out.below hbw HD.out.lt.1 HD.out.lt.2)
    have hxk:xs.getD (at'+k) ⟨#[]⟩=zsec:=HX.out _ (by
     have h:at'+k<xs.length:=by omega
     simp [h])
    rw [hxk] at hcall
    clear hxk
    have HO:=Lib.hid hown
    have hbs:=hb.size
    clear hown
    go_wp2_with fail
    refine hcall.mono ?_
    rintro e w2 ⟨rfl,hb2⟩
    have hown:=(Touch.of_below hb2 (fun _=>False)).own HO.out (fun _ _ h=>h)
    have hb3:=hb.trans (hb2.mono hbs)
    have hs3:=hb3.size
    clear hcall y0
    go_wp2_with (at_builtin;refine Hid.out ?_)
    unfold Hid
    refine wpList_app1 rfl rfl Tryz.underlying31 Tryz.infoStr rfl hown rfl rfl rfl (by omega) (by unfold maxLen;omega) (by omega) ?_
    intro v' w4 ho4 hg4
    rw [<-zlist_succ] at ho4
    have hb4:=hb3.grown hg4 hs3 (fun j hj=>(hown.lt j hj).1)
    clear hown
    go_wp2
    go_roundw
    case rel=>exact ⟨k+1,by omega,by go_num,ho4,hb4⟩
    case measure=>simp [intOf];omega
  · obtain rfl:k=sz:=by omega
    obtain ⟨g2,c2,rfl,hgB,hgl,hgc,hcell⟩:=own_opened hown (by omega)
    have hc0:wr.cell? ⟨g2,0,none⟩=some (.string zsec):=hcell 0 _ (by unfold zlist;rw [List.getElem?_replicate];simp [hsz])
    have rowH':=(hb.block _ hs1).trans rowH
    have rowR':=(hb.block _ (by omega)).trans rowR
    have hrec:=Lib.hid (lrecord_zero (.pointer (some ⟨w.heap.size+1,0,none⟩)) g2 k c2 (by omega) wr (HK.out.old hbw) hc0)
    have hk0:(0:Int)<(k:Int):=by omega
    clear hown hcell hc0 hgc y0
    go_wp2_with fail
    refine wp_loop_rounds 2 ?_
    rw [rounds_succ]
    go_wp2_with fail
    refine hrec.out.mono ?_
    rintro e w2 ⟨rfl,hb2⟩
    have rowH2:=(hb2.block _ (by have:=hb.size;omega)).trans rowH'
    have rowR2:=(hb2.block _ (by have:=hb.size;omega)).trans rowR'
    have hbf:=hbw.trans (hb2.mono hbw.size)
    clear hrec rowH' rowR' rowH rowR hb2 hb
    have h0:w2.cell? ⟨w.heap.size+1,0,none⟩=some (.int .i64 at'):=cel rowH2
    have h1:w2.cell? ⟨w.heap.size+1,1,none⟩=some (.int .u64 0):=cel rowH2
    have h2:w2.cell? ⟨w.heap.size+1,2,none⟩=some (.int .i64 0):=cel rowH2
    have h3:w2.cell? ⟨w.heap.size+1,3,none⟩=some (.slice none 0 0):=cel rowH2
    have q0:w2.cell? ⟨w.heap.size,0,none⟩=some (.int .i64 0):=cel rowR2
    have q1:w2.cell? ⟨w.heap.size,1,none⟩=some (.int .u64 0):=cel rowR2
    have q2:w2.cell? ⟨w.heap.size,2,none⟩=some (.int .i64 0):=cel rowR2
    have q3:w2.cell? ⟨w.heap.size,3,none⟩=some (.slice none 0 0):=cel rowR2
    have f0:w2.frozen? ⟨w.heap.size,0,none⟩=false:=frozen_of_row _ _ 0 _ _ rowR2
    have f1:w2.frozen? ⟨w.heap.size,1,none⟩=false:=frozen_of_row _ _ 1 _ _ rowR2
    have f2:w2.frozen? ⟨w.heap.size,2,none⟩=false:=frozen_of_row _ _ 2 _ _ rowR2
    have f3:w2.frozen? ⟨w.heap.size,3,none⟩=false:=frozen_of_row _ _ 3 _ _ rowR2
    have HR:=Lib.hid rowR2
    have HF:=Lib.hid hbf
    clear rowH2 rowR2 hbf hbw hb1 hb0 hle h64 hs1 hgl hgB hbl
    generalize hrb0:w.heap.size=rb at h0 h1 h2 h3 q0 q1 q2 q3 f0 f1 f2 f3 HR HF |-
    have Hrb0:=Lib.hid hrb0
    clear hrb0
    go_wp2_with fail
    have rowV:=four_store (.int .i64 at') (.int .u64 0) (.int .i64 0) (.slice none 0 0) HR.out
    have hbV:=four_below (b:=rb) (.int .i64 at') (.int .u64 0) (.int .i64 0) (.slice none 0 0) HF.out (Nat.le_refl _)
    generalize ((((w2.setCell ⟨rb,0,none⟩ (.int .i64 at')).setCell ⟨rb,1,none⟩ (.int .u64 0)).setCell ⟨rb,2,none⟩ (.int .i64 0)).setCell ⟨rb,3,none⟩ (.slice none 0 0))=V at rowV hbV |-
    obtain ⟨p0,p1,p2,p3,_,_,_,_⟩:=four_of_row rowV
    refine bodyPost_ret (v:=.tuple #[.agg #[.int .i64 at',.int .u64 0,.int .i64 0,.slice none 0 0],.int .i64 0]) ?_ rfl ⟨rfl,by rw [Hrb0.out];exact hbV⟩
    simp [results,Tryz.f175,go_sem,p0,p1,p2,p3]
def BookAt (w:World) (b d first sz at' turn nend:Nat) (recs:Value):Prop:=
 w.heap[b]?=some (.cells #[.pointer (some ⟨d,0,none⟩),.int .i64 first,.int .i64 sz,.int .i64 at',.int .u64 turn,.int .i64 nend,recs,.bool false] 270 (0,0))
theorem lopen_zero (d g first count sz:Nat) (xs:List ByteArray) (h8:8<=count) (hsz:sz=count/2) (hx:∀ x∈xs,x=zsec) (hle:first+count<=xs.length) (h64:xs.length<65536) (w:World) (hK:Kon w) (hd:DiskAt w d g xs (.slice none 0 0)) :
 Calls Tryz.prog 112 #[.pointer (some ⟨d,0,none⟩),.int .i64 first,.int .i64 count] w fun e w'=>∃ b,e=.returned (.tuple #[.pointer (some ⟨b,0,none⟩),.int .i64 0])/\w.heap.size<=b/\BookAt w' b d first sz first 0 0 (.slice none 0 0)/\Below w.heap.size w w':=by
 have hcount:=scount_any d g xs (.slice none 0 0) w hd
 have HK:=Lib.hid hK
 have HD:=Lib.hid hd
 have c1:¬ ((count:Int)<8):=by omega
 have c2:¬ ((first:Int)<0):=by omega
 have c3:¬ ((xs.length:Int)<(count:Int)):=by omega
 obtain ⟨r,hr⟩:∃ r,r=xs.length - count:=⟨_,rfl⟩
 have c4:IntKind.i64.wrap ((xs.length:Int) - (count:Int))=(r:Int):=by rw [show (xs.length:Int) - (count:Int)=(r:Int) by omega];exact IntWalk.i64_in _ (by omega)
 have c5:¬ ((r:Int)<(first:Int)):=by omega
 have c6:(count:Int)/2=(sz:Int):=by omega
 have c7:IntKind.i64.wrap (sz:Int)=(sz:Int):=IntWalk.i64_in _ (by omega)
 have c8:IntKind.i64.wrap (first:Int)=(first:Int):=IntWalk.i64_in _ (by omega)
 obtain ⟨f2,hf2⟩:∃ f2,f2=first+sz:=⟨_,rfl⟩
 have c9:IntKind.i64.wrap ((first:Int)+(sz:Int))=(f2:Int):=by rw [show (first:Int)+(sz:Int)=(f2:Int) by omega];exact IntWalk.i64_in _ (by omega)
 have hf2l:f2+sz<=xs.length:=by omega
 have hf1l:first+sz<=xs.length:=by omega
 have C6:=Lib.hid c6
 have hsz0:0<sz:=by omega
 have hread:=Lib.hid (fun (b at':Nat) (h1:at'+sz<=xs.length) (W:World) (hK:Kon W) (h:DiskAt W d g xs (.slice none 0 0)) h2 h3 h4=>lread_zero b d g sz at' xs hsz0 hx h1 h64 W hK h h2 h3 h4)
 clear hd hx hr c6 hsz hf2
 go_enter Tryz.func112,Tryz.ntmps112
 go_wp2_with fail
 refine hcount.mono ?_
 rintro e w' ⟨rfl,rfl⟩
 go_wp2_with fail
 refine hcount.mono ?_
 rintro e w' ⟨rfl,rfl⟩
 go_wp2_with fail
 rw [C6.out]
 have row:(w'.alloc (.cells #[.pointer (some ⟨d,0,none⟩),.int .i64 first,.int .i64 sz,.int .i64 0,.int .u64 0,.int .i64 0,.slice none 0 0,.bool false] 270)).heap[w'.heap.size]?=some (.cells #[.pointer (some ⟨d,0,none⟩),.int .i64 first,.int .i64 sz,.int .i64 0,.int .u64 0,.int .i64 0,.slice none 0 0,.bool false] 270 (0,0)):=heap_alloc_new _ _
 have hb1:Below w'.heap.size w' (w'.alloc (.cells #[.pointer (some ⟨d,0,none⟩),.int .i64 first,.int .i64 sz,.int .i64 0,.int .u64 0,.int .i64 0,.slice none 0 0,.bool false] 270)):=(Below.refl _ w').alloc (Nat.le_refl _) _
 generalize (w'.alloc (.cells #[.pointer (some ⟨d,0,none⟩),.int .i64 first,.int .i64 sz,.int .i64 0,.int .u64 0,.int .i64 0,.slice none 0 0,.bool false] 270))=W1 at row hb1 |-
 have hl1:=lt_of_heap row
 have y0:W1.cell? ⟨w'.heap.size,0,none⟩=some (.pointer (some ⟨d,0,none⟩)):=cel row
 have y2:W1.cell? ⟨w'.heap.size,2,none⟩=some (.int .i64 sz):=cel row
 have hcall:=hread.out w'.heap.size first hf1l W1 (HK.out.old hb1) (HD.out.below hb1 HD.out.lt.1 HD.out.lt.2) y0 y2 hl1
 clear hcount
 refine wp_loop_rounds 3 ?_
 rw [rounds_succ]
 go_wp2_with fail
 refine hcall.mono ?_
 clear hcall
 rintro e w2 ⟨rfl,hb2⟩
 have row2:=(hb2.block _ hl1).trans row
 have hb2':=hb1.trans (hb2.mono hb1.size)
 have h0:w2.frozen? ⟨w'.heap.size,3,none⟩=false:=frozen_of_row _ _ 3 _ _ row2
 have h1:w2.frozen? ⟨w'.heap.size,4,none⟩=false:=frozen_of_row _ _ 4 _ _ row2
 have h2:w2.frozen? ⟨w'.heap.size,5,none⟩=false:=frozen_of_row _ _ 5 _ _ row2
 have h3:w2.frozen? ⟨w'.heap.size,6,none⟩=false:=frozen_of_row _ _ 6 _ _ row2
 have x0:w2.cell? ⟨w'.heap.size,3,none⟩=some (.int .i64 0):=cel row2
 have x1:w2.cell? ⟨w'.heap.size,4,none⟩=some (.int .u64 0):=cel row2
 have x2:w2.cell? ⟨w'.heap.size,5,none⟩=some (.int .i64 0):=cel row2
 have x3:w2.cell? ⟨w'.heap.size,6,none⟩=some (.slice none 0 0):=cel row2
 clear y0 y2 row hb2 hb1
 go_wp2_with fail
 have rowH:(w2.alloc (.cells #[.int .i64 first,.int .u64 0,.int .i64 0,.slice none 0 0] 268)).heap[w2.heap.size]?=some (.cells #[.int .i64 first,.int .u64 0,.int .i64 0,.slice none 0 0] 268 (0,0)):=heap_alloc_new _ _
 have hb3:=hb2'.alloc hb2'.size (.cells #[.int .i64 first,.int .u64 0,.int .i64 0,.slice none 0 0] 268)
 have row3:=(Below.heap_alloc w2 (.cells #[.int .i64 first,.int .u64 0,.int .i64 0,.slice none 0 0] 268) _ (lt_of_heap row2)).trans row2
 have hl2:=lt_of_heap row2
 generalize (w2.alloc (.cells #[.int .i64 first,.int .u64 0,.int .i64 0,.slice none 0 0] 268))=W3 at rowH hb3 row3 |-
 have hne:w2.heap.size≠w'.heap.size:=by omega
 generalize w2.heap.size=pb at rowH hne |-
 clear h0 h1 h2 h3 x0 x1 x2 x3 row2 hl2 hb2'
 go_quiet (fail)
 have hb3:=hb3.trans (below_drewN W3 nq)
 have rowH:(W3.drewN nq).heap[pb]?=some (.cells #[.int .i64 first,.int .u64 0,.int .i64 0,.slice none 0 0] 268 (0,0)):=rowH
 have row3:(W3.drewN nq).heap[w'.heap.size]?=some (.cells #[.pointer (some ⟨d,0,none⟩),.int .i64 first,.int .i64 sz,.int .i64 0,.int .u64 0,.int .i64 0,.slice none 0 0,.bool false] 270 (0,0)):=row3
 generalize W3.drewN nq=W4 at hb3 rowH row3 |-
 obtain ⟨p0,p1,p2,p3,_,_,_,_⟩:=four_of_row rowH
 have h0:W4.frozen? ⟨w'.heap.size,3,none⟩=false:=frozen_of_row _ _ 3 _ _ row3
 have h1:W4.frozen? ⟨w'.heap.size,4,none⟩=false:=frozen_of_row _ _ 4 _ _ row3
 have h2:W4.frozen? ⟨w'.heap.size,5,none⟩=false:=frozen_of_row _ _ 5 _ _ row3
 have h3:W4.frozen? ⟨w'.heap.size,6,none⟩=false:=frozen_of_row _ _ 6 _ _ row3
 have x0:W4.cell? ⟨w'.heap.size,3,none⟩=some (.int .i64 0):=cel row3
 have x1:W4.cell? ⟨w'.heap.size,4,none⟩=some (.int .u64 0):=cel row3
 have x2:W4.cell? ⟨w'.heap.size,5,none⟩=some (.int .i64 0):=cel row3
 have x3:W4.cell? ⟨w'.heap.size,6,none⟩=some (.slice none 0 0):=cel row3
 have Row3:=Lib.hid row3
 have Hb3:=Lib.hid hb3
 clear rowH row3 hb3
 go_wp2_with fail
 have row5:((((W4.setCell ⟨w'.heap.size,3,none⟩ (.int .i64 first)).setCell ⟨w'.heap.size,4,none⟩ (.int .u64 0)).setCell ⟨w'.heap.size,5,none⟩ (.int .i64 0)).setCell ⟨w'.heap.size,6,none⟩ (.slice none 0 0)).heap[w'.heap.size]?=some (.cells #[.pointer (some ⟨d,0,none⟩),.int .i64 first,.int .i64 sz,.int .i64 first,.int .u64 0,.int .i64 0,.slice none 0 0,.bool false] 270 (0,0)):=
  heap_setCell_same _ w'.heap.size 6 _ _ _ (heap_setCell_same _ w'.heap.size 5 _ _ _ (heap_setCell_same _ w'.heap.size 4 _ _ _ (heap_setCell_same W4 w'.heap.size 3 _ _ _ Row3.out)))
 have hb5:=(((Hb3.out.setCell (p:=⟨w'.heap.size,3,none⟩) (Nat.le_refl _) (.int .i64 first)).setCell (p:=⟨w'.heap.size,4,none⟩) (Nat.le_refl _) (.int .u64 0)).setCell (p:=⟨w'.heap.size,5,none⟩) (Nat.le_refl _) (.int .i64 0)).setCell (p:=⟨w'.heap.size,6,none⟩) (Nat.le_refl _) (.slice none 0 0)
 generalize ((((W4.setCell ⟨w'.heap.size,3,none⟩ (.int .i64 first)).setCell ⟨w'.heap.size,4,none⟩ (.int .u64 0)).setCell ⟨w'.heap.size,5,none⟩ (.int .i64 0)).setCell ⟨w'.heap.size,6,none⟩ (.slice none 0 0))=W5 at row5 hb5 |-
 clear h0 h1 h2 h3 x0 x1 x2 x3 p0 p1 p2 p3 Row3 Hb3 hne
 have hl5:=lt_of_heap row5
 have y0:W5.cell? ⟨w'.heap.size,0,none⟩=some (.pointer (some ⟨d,0,none⟩)):=cel row5
 have y2:W5.cell? ⟨w'.heap.size,2,none⟩=some (.int .i64 sz):=cel row5
 have hcall:=hread.out w'.heap.size f2 hf2l W5 (HK.out.old hb5) (HD.out.below hb5 HD.out.lt.1 HD.out.lt.2) y0 y2 hl5
 rw [rounds_succ]
 go_wp2_with fail
 refine hcall.mono ?_
 clear hcall
 rintro e w6 ⟨rfl,hb6⟩
 have row6:=(hb6.block _ hl5).trans row5
 have hb6':=hb5.trans (hb6.mono hb5.size)
 clear y0 y2 hb6
 go_wp2_with fail
 have rowH:(w6.alloc (.cells #[.int .i64 f2,.int .u64 0,.int .i64 0,.slice none 0 0] 268)).heap[w6.heap.size]?=some (.cells #[.int .i64 f2,.int .u64 0,.int .i64 0,.slice none 0 0] 268 (0,0)):=heap_alloc_new _ _
 have hb7:=hb6'.alloc hb6'.size (.cells #[.int .i64 f2,.int .u64 0,.int .i64 0,.slice none 0 0] 268)
 have row7:=(Below.heap_alloc w6 (.cells #[.int .i64 f2,.int .u64 0,.int .i64 0,.slice none 0 0] 268) _ (lt_of_heap row6)).trans row6
 generalize (w6.alloc (.cells #[.int .i64 f2,.int .u64 0,.int .i64 0,.slice none 0 0] 268))=W7 at rowH hb7 row7 |-
 generalize w6.heap.size=pb2 at rowH |-
 obtain ⟨p0,p1,p2,p3,_,_,_,_⟩:=four_of_row rowH
 clear rowH row6 hb6' hb5 row5 hl5
 go_quiet (fail)
 have hb8:=hb7.trans (below_drewN W7 nq)
 have row8:(W7.drewN nq).heap[w'.heap.size]?=some (.cells #[.pointer (some ⟨d,0,none⟩),.int .i64 first,.int .i64 sz,.int .i64 first,.int .u64 0,.int .i64 0,.slice none 0 0,.bool false] 270 (0,0)):=row7
 generalize W7.drewN nq=W8 at hb8 row8 |-
 clear hb7 row7 p0 p1 p2 p3
 go_wp2_with fail
 rw [rounds_succ]
 go_wp2
 go_ret2
 exact ⟨_,rfl,Nat.le_refl _,row8,hb8⟩
theorem BookAt.cells {w:World} {b d first sz at' turn nend:Nat} {recs:Value} (h:BookAt w b d first sz at' turn nend recs) :
 w.cell? ⟨b,0,none⟩=some (.pointer (some ⟨d,0,none⟩))/\w.cell? ⟨b,1,none⟩=some (.int .i64 first)/\w.cell? ⟨b,2,none⟩=some (.int .i64 sz)/\w.cell? ⟨b,3,none⟩=some (.int .i64 at')/\w.cell? ⟨b,4,none⟩=some (.int .u64 turn)/\w.cell? ⟨b,5,none⟩=some (.int .i64 nend)/\w.cell? ⟨b,6,none⟩=some recs/\w.cell? ⟨b,7,none⟩=some (.bool false)/\∀ i,w.frozen? ⟨b,i,none⟩=false:=
 ⟨cel h,cel h,cel h,cel h,cel h,cel h,cel h,cel h,fun i=>frozen_of_row _ _ i _ _ h⟩
theorem lrecords_nil (b d first sz at' turn nend:Nat) (w:World) (h:BookAt w b d first sz at' turn nend (.slice none 0 0)) :
 Calls Tryz.prog 114 #[.pointer (some ⟨b,0,none⟩)] w fun e w'=>e=.returned (.slice none 0 0)/\w'=w:=by
 obtain ⟨_,_,_,_,_,_,y6,_,_⟩:=h.cells
 go_enter Tryz.func114,Tryz.ntmps114
 go_wp2_with fail
 refine (Tryz.slices_Clone_string_nil 0 0 w).mono ?_
 rintro e w' ⟨rfl,rfl⟩
 go_wp2
 go_ret
 exact ⟨rfl,rfl⟩
theorem lleft_any (b d first sz at' turn nend m:Nat) (recs:Value) (w:World) (h:BookAt w b d first sz at' turn nend recs) (hm:nend+m=sz) (h64:sz<65536) :
 Calls Tryz.prog 122 #[.pointer (some ⟨b,0,none⟩)] w fun e w'=>e=.returned (.int .i64 m)/\Below w.heap.size w w':=by
 obtain ⟨_,_,y2,_,_,y5,_,_,_⟩:=h.cells
 have e1:IntKind.i64.wrap ((sz:Int) - (nend:Int))=(m:Int):=by rw [show (sz:Int) - (nend:Int)=(m:Int) by omega];exact IntWalk.i64_in _ (by omega)
 clear hm h
 go_enter Tryz.func122,Tryz.ntmps122
 go_wp2_with fail
 go_quiet (fail)
 go_wp2
 go_ret
 exact ⟨rfl,below_drewN w nq⟩
theorem lmay_any (b d first sz at' turn nend:Nat) (recs:Value) (s:ByteArray) (hs:s.size<=900) (w:World) (h:BookAt w b d first sz at' turn nend recs) :
 Calls Tryz.prog 181 #[.pointer (some ⟨b,0,none⟩),.string s] w fun e w'=>e=.returned (.int .i64 0)/\w'=w:=by
 obtain ⟨_,_,_,_,_,_,_,y7,_⟩:=h.cells
 have hle:¬ ((900:Int)<(s.size:Int)):=by omega
 clear h
 go_enter Tryz.func181,Tryz.ntmps181
 go_wp2
 go_ret
 exact ⟨rfl,rfl⟩
theorem Tryz.infoPart:(Tryz.prog.info? 310).map (fun i=>(i.zero,i.size,i.bytes))=some (some (.agg #[.int .u64 0,.int .u64 0,.int .i64 0,.int .i64 0,.string .empty,.string .empty]),6,64):=by kernel_rfl
theorem lparts_one (turn num:Nat) (ht:turn<4294967296) (hn:num<65536) (s:ByteArray) (hs:s.size<=39) (w:World) (hK:Kon w) :
 Calls Tryz.prog 213 #[.int .u64 turn,.int .u64 num,.string s] w fun e w'=>∃ (v:Value) (nm ct:ByteArray),e=.returned v/\nm.size=8/\ct.size<=39/\w'.ownsRow w.heap.size 310 6 v 1 [.int .u64 turn,.int .u64 num,.int .i64 0,.int .i64 1,.string nm,.string ct]/\Below w.heap.size w w':=by
 obtain ⟨i0,hinf,hz0,hz1,hz2⟩:=info_parts Tryz.infoPart
 have hp:∀ W,Calls Tryz.prog 121 #[.int .i64 s.size] W fun e w'=>e=.returned (.int .i64 1)/\w'=W:=fun W=>by
  have:=lparts_any s.size (by omega) W
  rw [show partsOf s.size=1 by unfold partsOf;omega] at this
  exact this
 have hname:=lname_any turn num ht hn s (by omega) w hK
 have hmin:min (s.size:Int) 39=(s.size:Int):=by omega
 go_enter Tryz.func213,Tryz.ntmps213
 go_wp2_with fail
 refine (hp w).mono ?_
 rintro e w1 ⟨rfl,rfl⟩
 go_wp2_with fail
 refine hname.mono ?_
 clear hname hp
 rintro e w2 ⟨⟨nm,rfl,hnm⟩,hb2⟩
 go_wp2_with fail
 refine wp_loop_rounds 2 ?_
 rw [rounds_succ]
 go_wp2_with (at_builtin;refine Hid.out ?_)
 unfold Hid
 have hs2:=hb2.size
 refine wpList_append_own _ rfl _ _ _ rfl w1.heap.size 310 i0 _ 6 64 Tryz.underlying306 hinf hz0 hz1 hz2 rfl (by decide) (.slice none 0 0) 0 [] rfl (World.ownsRow_nil _ _ _ _) ⟨w2.heap.size,0,none⟩ 1 1 [.int .u64 turn,.int .u64 num,.int .i64 0,.int .i64 1,.string nm,.string s] rfl rfl (World.news_of_block (cs:=#[.int .u64 turn,.int .u64 num,.int .i64 0,.int .i64 1,.string nm,.string s]) (t:=310) (fr:=(0,0)) (heap_alloc_new w2 _)) (by simp [Value.oneCell']) (by decide) (by decide) (by simp;omega) ?_
 intro v' w3 ho3 hg3 _
 have hb3:=(hb2.alloc hb2.size (.cells #[.int .u64 turn,.int .u64 num,.int .i64 0,.int .i64 1,.string nm,.string s] 310)).grown hg3 (by simp;omega) (fun j hj=>by cases hj)
 clear hmin hinf hz0 hz1 hz2 hg3
 have HO:=Lib.hid ho3
 clear ho3
 have hmin:min (s.size:Int) 39=(s.size:Int):=by omega
 go_wp2_with fail
 rw [rounds_succ]
 go_wp2
 go_ret
 exact ⟨_,nm,s,rfl,hnm,hs,HO.out,hb3⟩
theorem clone_row (R:Nat) (v:Value) (l:List ByteArray) (w:World) (hl:l.length<=65536) (h:w.ownsRow R 9 1 v l.length (strs l)) :
 Calls Tryz.prog 57 #[v] w fun e w'=>∃ v',e=.returned v'/\w'.ownsRow w.heap.size 9 1 v' l.length (strs l)/\Below w.heap.size w w':=by
 by_cases h0:l.length=0
 · have hnil:l=[]:=List.length_eq_zero_iff.1 h0
   subst hnil
   rcases h.2 with ⟨rfl,_⟩ | ⟨g,cap,cur,rfl,_,_⟩
   · refine (Tryz.slices_Clone_string_nil 0 0 w).mono ?_
     rintro e w' ⟨rfl,rfl⟩
     exact ⟨_,rfl,World.ownsRow_nil _ _ _ _,Below.refl _ _⟩
   · refine (Tryz.slices_Clone_string_zero ⟨g,0,none⟩ cap w).mono ?_
     rintro e w' ⟨v',rfl,ho,_,hb⟩
     exact ⟨_,rfl,ho,hb⟩
 · obtain ⟨g,c,rfl,_,_,_,hcell⟩:=own_opened h h0
   refine (Tryz.slices_Clone_string g 0 l.length c l w (Nat.le_refl _) (by omega) ?_).mono ?_
   · intro j hj
     rw [Nat.zero_add]
     exact hcell j _ (by simp [strs,hj])
   · rintro e w' ⟨v',rfl,ho,_,hb⟩
     rw [List.take_length] at ho
     exact ⟨_,rfl,ho,hb⟩
theorem ltext_one (turn num:Nat) (nm ct:ByteArray) (ht:turn<4294967296) (hn:num<65536) (hnm:nm.size=8) (hct:ct.size<=39) (w:World) (hK:Kon w) :
 Calls Tryz.prog 215 #[.agg #[.int .u64 turn,.int .u64 num,.int .i64 0,.int .i64 1,.string nm,.string ct]] w fun e w'=>(∃ t:ByteArray,e=.returned (.string t)/\t.size=64)/\Below w.heap.size w w':=
 ltext_any turn num 0 1 nm ct ht hn (by decide) (by decide) hnm hct w hK
theorem zsn_size (n:Nat):(zsn n).size=n:=by simp [zsn,ByteArray.size]
theorem ownsRow_base {w:World} {A B:Nat} {e:TypeId} {size n:Nat} {v:Value} {xs:List Value} (h:w.ownsRow B e size v n xs) (hle:A<=B):w.ownsRow A e size v n xs:=
 ⟨h.1,h.2.imp id fun ⟨g,cap,cur,hv,hb,rest⟩=>⟨g,cap,cur,hv,Nat.le_trans hle hb,rest⟩⟩
theorem row_ne {w:World} {i j:Nat} {cs cs':Array Value} {t t':TypeId} {f f':Nat×Nat} (h:w.heap[i]?=some (.cells cs t f)) (h':w.heap[j]?=some (.cells cs' t' f')) (ht:t≠t'):i≠j:=by
 rintro rfl
 rw [h] at h'
 injection h' with h'
 injection h' with _ h' _
 exact ht h'
theorem own_open6 {w:World} {base:Nat} {e:TypeId} {v x0 x1 x2 x3 x4 x5:Value} (h:w.ownsRow base e 6 v 1 [x0,x1,x2,x3,x4,x5]) :
 ∃ g c,v=.slice (some ⟨g,0,none⟩) 1 c/\base<=g/\g<w.heap.size/\w.cell? ⟨g,0,none⟩=some x0/\w.cell? ⟨g,1,none⟩=some x1/\w.cell? ⟨g,2,none⟩=some x2/\w.cell? ⟨g,3,none⟩=some x3/\w.cell? ⟨g,4,none⟩=some x4/\w.cell? ⟨g,5,none⟩=some x5:=by
 have hc:=fun g c (hv:v=.slice (some ⟨g,0,none⟩) 1 c) j u (hj:[x0,x1,x2,x3,x4,x5][j]?=some u)=>h.cells (g:=g) (by rw [hv];rfl) j u hj
 rcases h.2 with ⟨_,h0⟩ | ⟨g,cap,cur,rfl,hB,hg,hnc,_⟩
 · cases h0
 · refine ⟨g,cap,rfl,hB,lt_of_heap hg,?_,?_,?_,?_,?_,?_⟩
   · have:=hc g cap rfl 0 _ rfl;simpa [Addr.add] using this
   · have:=hc g cap rfl 1 _ rfl;simpa [Addr.add] using this
   · have:=hc g cap rfl 2 _ rfl;simpa [Addr.add] using this
   · have:=hc g cap rfl 3 _ rfl;simpa [Addr.add] using this
   · have:=hc g cap rfl 4 _ rfl;simpa [Addr.add] using this
   · have:=hc g cap rfl 5 _ rfl;simpa [Addr.add] using this
theorem keep9 {S:Nat->Prop} {W0 w4 w5:World} {b h p:Nat} {x0 y0 y2 c0 c1 c2 c3 c4 c5:Value} (hB:b<W0.heap.size) (hH:h<W0.heap.size) (hP:p<W0.heap.size) (hn:¬ S b/\¬ S h/\¬ S p) (ht:Touch S w4 w5)
 (q:w4.cell? ⟨b,0,none⟩=some x0/\w4.cell? ⟨h,0,none⟩=some y0/\w4.cell? ⟨h,2,none⟩=some y2/\w4.cell? ⟨p,0,none⟩=some c0/\w4.cell? ⟨p,1,none⟩=some c1/\w4.cell? ⟨p,2,none⟩=some c2/\w4.cell? ⟨p,3,none⟩=some c3/\w4.cell? ⟨p,4,none⟩=some c4/\w4.cell? ⟨p,5,none⟩=some c5/\W0.heap.size<=w4.heap.size) :
 w5.cell? ⟨b,0,none⟩=some x0/\w5.cell? ⟨h,0,none⟩=some y0/\w5.cell? ⟨h,2,none⟩=some y2/\w5.cell? ⟨p,0,none⟩=some c0/\w5.cell? ⟨p,1,none⟩=some c1/\w5.cell? ⟨p,2,none⟩=some c2/\w5.cell? ⟨p,3,none⟩=some c3/\w5.cell? ⟨p,4,none⟩=some c4/\w5.cell? ⟨p,5,none⟩=some c5/\W0.heap.size<=w5.heap.size:=by
 obtain ⟨q1,q2,q3,q4,q5,q6,q7,q8,q9,qs⟩:=q
 have k:∀ (i j:Nat) (x:Value),i<W0.heap.size->¬ S i->w4.cell? ⟨i,j,none⟩=some x->w5.cell? ⟨i,j,none⟩=some x:=fun i j x hi hs hx=>
  (World.cell?_of_block (w:=w4) (w':=w5) (a:=⟨i,j,none⟩) (ht.block i (by omega) hs)).trans hx
 exact ⟨k _ _ _ hB hn.1 q1,k _ _ _ hH hn.2.1 q2,k _ _ _ hH hn.2.1 q3,k _ _ _ hP hn.2.2 q4,k _ _ _ hP hn.2.2 q5,k _ _ _ hP hn.2.2 q6,k _ _ _ hP hn.2.2 q7,k _ _ _ hP hn.2.2 q8,k _ _ _ hP hn.2.2 q9,Nat.le_trans qs ht.size⟩
theorem lwrite_one (b d g first sz at0 turn0 nend0 R at' turn nend:Nat) (recs0 recs:Value) (rl xs:List ByteArray) (s:ByteArray) (w:World) (hK:Kon w) (hb:BookAt w b d first sz at0 turn0 nend0 recs0) (hd:DiskAt w d g xs (.slice none 0 0))
 (hro:w.ownsRow R 9 1 recs rl.length (strs rl)) (hrn:∀ k,recs.ownBlock=some k->k≠d/\k≠g) (hrl:rl.length<65535) (hpos:at'+nend<xs.length) (h64:xs.length<65536) (hx64:∀ x∈xs,x.size=64) (hs:s.size<=39) (hturn:turn<4294967296) :
 Calls Tryz.prog 182 #[.pointer (some ⟨b,0,none⟩),.agg #[.int .i64 at',.int .u64 turn,.int .i64 nend,recs],.string s] w fun e w'=>e=.returned (.int .i64 0)/\∃ recs' ys,BookAt w' b d first sz at' turn (nend+1) recs'/\w'.ownsRow w.heap.size 9 1 recs' (rl.length+1) (strs (rl++[s]))/\ys.length=xs.length/\(∀ x∈ys,x.size=64)/\DiskAt w' d g ys (.slice none 0 0)/\Touch (fun k=>k=b\/k=d\/k=g) w w':=by
 have hbl:=lt_of_heap hb
 have hbd:b≠d:=by obtain ⟨_,hdb⟩:=hd.blk;exact row_ne hb hdb (by decide)
 have hbg:b≠g:=row_ne hb hd.row (by decide)
 have HK:=Lib.hid hK
 have HB:=Lib.hid hb
 have HD:=Lib.hid hd
 have HRO:=Lib.hid hro
 have HRN:=Lib.hid hrn
 obtain ⟨ra,rc,hrecs⟩:=own_slice hro
 subst hrecs
 have hw1:IntKind.u64.wrap (rl.length:Int)=(rl.length:Int):=wrap_u64 _ (by omega) (by omega)
 obtain ⟨p,hp⟩:∃ p,p=at'+nend:=⟨_,rfl⟩
 have e1:IntKind.i64.wrap ((at':Int)+(nend:Int))=(p:Int):=by rw [show (at':Int)+(nend:Int)=(p:Int) by omega];exact IntWalk.i64_in _ (by omega)
 have e2:IntKind.i64.wrap (p:Int)=(p:Int):=IntWalk.i64_in _ (by omega)
 have e3:IntKind.i64.wrap ((nend:Int)+1)=((nend+1:Nat):Int):=by rw [show (nend:Int)+1=((nend+1:Nat):Int) by omega];exact IntWalk.i64_in _ (by omega)
 have hpl:p<xs.length:=by omega
 have E3:=Lib.hid e3
 clear hb hd hro hrn hK e3 hp
 go_enter Tryz.func182,Tryz.ntmps182
 go_wp2_with fail
 have rowH:(w.alloc (.cells #[.int .i64 at',.int .u64 turn,.int .i64 nend,.slice ra rl.length rc] 268)).heap[w.heap.size]?=some (.cells #[.int .i64 at',.int .u64 turn,.int .i64 nend,.slice ra rl.length rc] 268 (0,0)):=heap_alloc_new _ _
 have hB1:Below w.heap.size w (w.alloc (.cells #[.int .i64 at',.int .u64 turn,.int .i64 nend,.slice ra rl.length rc] 268)):=(Below.refl _ _).alloc (Nat.le_refl _) _
 generalize (w.alloc (.cells #[.int .i64 at',.int .u64 turn,.int .i64 nend,.slice ra rl.length rc] 268))=W1 at rowH hB1 |-
 have hl1:=lt_of_heap rowH
 refine (lparts_one turn rl.length hturn (by omega) s hs W1 (HK.out.old hB1)).mono ?_
 rintro e w2 ⟨v,nm,ct,rfl,hnm,hct,ho2,hb2⟩
 obtain ⟨pg,pc,rfl,hpB,hpl2,c0,c1,c2,c3,c4,c5⟩:=own_open6 ho2
 have hB2:=hB1.trans (hb2.mono hB1.size)
 have rowH2:=(hb2.block _ hl1).trans rowH
 have hK2:=HK.out.old hB2
 obtain ⟨y0,y1,y2,y3,g0,g1,g2,g3⟩:=four_of_row rowH2
 have x0:w2.cell? ⟨b,0,none⟩=some (.pointer (some ⟨d,0,none⟩)):=(hB2.cell (p:=⟨b,0,none⟩) hbl).trans HB.out.cells.1
 have hd2:=HD.out.below hB2 HD.out.lt.1 HD.out.lt.2
 have Hl:=Lib.hid (show b<w2.heap.size/\w.heap.size<w2.heap.size/\pg<w2.heap.size/\d<w.heap.size/\W1.heap.size<=pg from ⟨lt_of_heap ((hB2.block _ hbl).trans HB.out),lt_of_heap rowH2,hpl2,HD.out.lt.1,hpB⟩)
 have htext:=Lib.hid (ltext_one turn rl.length nm ct hturn (by omega) hnm hct w2.drew (hK2.old (below_drew w2)))
 have hwrite:=Lib.hid (fun w4 (t:ByteArray) (hb4:Below w2.drew.heap.size w2.drew w4) (ht:t.size=64)=>swrite_any d g xs p hpl t (by omega) w4 (hd2.below (below_call hb4) hd2.lt.1 hd2.lt.2))
 clear rowH hb2 ho2 hpB hpl2 hl1 g0 g1 g2 g3 y1 y3 hd2
 go_wp2_with fail
 refine wp_loop_rounds 2 ?_
 rw [rounds_succ]
 go_wp2_with fail
 have hS0:=Lib.hid (keep9 (S:=fun _=>False) (W0:=w2) Hl.out.1 Hl.out.2.1 Hl.out.2.2.1 ⟨id,id,id⟩ (Touch.of_below (below_drew w2) _) ⟨x0,y0,y2,c0,c1,c2,c3,c4,c5,Nat.le_refl _⟩)
 have hS1:=Lib.hid (fun w4 w5 (hb:Below w4.heap.size w4 w5)=>keep9 (S:=fun _=>False) (W0:=w2) (x0:=.pointer (some ⟨d,0,none⟩)) (y0:=.int .i64 at') (y2:=.int .i64 nend) (c0:=.int .u64 turn) (c1:=.int .u64 rl.length) (c2:=.int .i64 0) (c3:=.int .i64 1) (c4:=.string nm) (c5:=.string ct) Hl.out.1 Hl.out.2.1 Hl.out.2.2.1 ⟨id,id,id⟩ (Touch.of_below hb _))
 have hS2:=Lib.hid (fun w4 w5 (ht:Touch (fun k=>k=d) w4 w5)=>keep9 (S:=fun k=>k=d) (W0:=w2) (x0:=.pointer (some ⟨d,0,none⟩)) (y0:=.int .i64 at') (y2:=.int .i64 nend) (c0:=.int .u64 turn) (c1:=.int .u64 rl.length) (c2:=.int .i64 0) (c3:=.int .i64 1) (c4:=.string nm) (c5:=.string ct) Hl.out.1 Hl.out.2.1 Hl.out.2.2.1 ⟨hbd,fun e=>by have:=Hl.out.2.2.2.1;omega,fun e=>by have h1:=Hl.out.2.2.2;have h2:=hB1.size;omega⟩ ht)
 have HX:=Lib.hid hx64
 have Hh:=Lib.hid rowH2
 clear x0 y0 y2 c0 c1 c2 c3 c4 c5 rowH2 hx64
 generalize hhb:w.heap.size=hbk at hS0 hS1 hS2 |-
 have Hhb:=Lib.hid hhb
 clear hhb
 go_region_held3 (fun W=>W.cell? ⟨b,0,none⟩=some (.pointer (some ⟨d,0,none⟩))/\W.cell? ⟨hbk,0,none⟩=some (.int .i64 at')/\W.cell? ⟨hbk,2,none⟩=some (.int .i64 nend)/\W.cell? ⟨pg,0,none⟩=some (.int .u64 turn)/\W.cell? ⟨pg,1,none⟩=some (.int .u64 rl.length)/\W.cell? ⟨pg,2,none⟩=some (.int .i64 0)/\W.cell? ⟨pg,3,none⟩=some (.int .i64 1)/\W.cell? ⟨pg,4,none⟩=some (.string nm)/\W.cell? ⟨pg,5,none⟩=some (.string ct)/\w2.heap.size<=W.heap.size) (first | exact hS0.out | exact hS2.out _ _ hT5 (by assumption) | exact hS1.out _ _ hb4 (by assumption) | assumption) (first
  | (go_at_call 215;with_reducible refine htext.out.mono ?_;rintro r w4 ⟨⟨t,rfl,ht64⟩,hb4⟩)
  | (go_at_call 214;with_reducible refine (hwrite.out _ _ hb4 ht64).mono ?_;rintro r w5 ⟨rfl,gg,gc,hd5,ho5,hT5⟩))
 rename_i hHeld
 have b0:=hHeld.1
 have hT:Touch (fun k=>k=g\/k=d) w w5:=((Touch.of_below (hB2.trans ((below_call hb4).mono hB2.size)) _).trans (hT5.mono (fun k h=>.inl (.inr h))))
 have row5:w5.heap[hbk]?=some (.cells #[.int .i64 at',.int .u64 turn,.int .i64 nend,.slice ra rl.length rc] 268 (0,0)):=by
  have h1:=Hl.out
  have h2:=Hhb.out
  have hr:=Hh.out
  rw [h2] at hr h1
  rw [hT5.block hbk (by have:=(below_call hb4).size;omega) (by omega),(below_call hb4).block hbk h1.2.1]
  exact hr
 have hsync:=Lib.hid (ssync_any d g gg gc xs p hpl HX.out (t++zsn (64 - t.size)) (by rw [ByteArray.size_append,zsn_size];omega) w5 hd5 _ ho5)
 clear hHeld hS0 hS1 hS2 htext hwrite hb4 hT5 ho5 hd5 hB1 hB2 hw1 hpl
 go_wp2_with fail
 rw [rounds_succ]
 go_wp2_with fail
 refine hsync.out.mono ?_
 rintro e w6 ⟨rfl,ys,hyl,hy64,hd6,hT6⟩
 have hT6':=hT.trans hT6
 have hlg:=HD.out.lt
 have row6:=hT6.heap row5 (fun h=>by have:=Hhb.out;omega)
 have hbk6:=hT6'.heap HB.out (fun h=>h.elim hbg hbd)
 have hro6:=hT6'.own HRO.out (fun k hk h=>h.elim (HRN.out k hk).2 (HRN.out k hk).1)
 have e3:=E3.out
 clear hsync b0 row5 hT hT6 e1 e2
 obtain ⟨y0,y1,y2,y3,g0,g1,g2,g3⟩:=four_of_row row6
 have R6:=Lib.hid row6
 have B6:=Lib.hid hbk6
 have O6:=Lib.hid hro6
 clear row6 hbk6 hro6
 go_wp2_with fail
 have hT7:Touch (fun k=>k=hbk) w6 (w6.setCell ⟨hbk,2,none⟩ (.int .i64 ((nend:Int)+1))):=Touch.setCell (S:=fun k=>k=hbk) w6 ⟨hbk,2,none⟩ _ rfl
 have row7:=heap_setCell_same w6 hbk 2 _ _ (.int .i64 ((nend:Int)+1)) R6.out
 have hro7:=hT7.own O6.out (fun k hk e=>by
  have h1:=(HRO.out.lt k hk).2
  have h2:=Hhb.out
  omega)
 have hbk7:=hT7.heap B6.out (fun e=>by have:=Hhb.out;omega)
 have hd7:DiskAt (w6.setCell ⟨hbk,2,none⟩ (.int .i64 ((nend:Int)+1))) d g ys (.slice none 0 0):=by
  obtain ⟨⟨cc,h1⟩,h2,h3⟩:=hd6
  have:=Hhb.out
  exact ⟨⟨cc,hT7.heap h1 (by omega)⟩,hT7.heap h2 (by omega),h3⟩
 have hTw:Touch (fun k=>k=b\/k=d\/k=g) w (w6.setCell ⟨hbk,2,none⟩ (.int .i64 ((nend:Int)+1))):=(hT6'.mono (fun k h=>.inl (h.elim (fun h=>.inr (.inr h)) (fun h=>.inr (.inl h))))).then hT7 (fun k h=>.inr (by have:=Hhb.out;omega))
 generalize (w6.setCell ⟨hbk,2,none⟩ (.int .i64 ((nend:Int)+1)))=w7 at row7 hro7 hbk7 hd7 hTw |-
 have row7:w7.heap[hbk]?=some (.cells #[.int .i64 at',.int .u64 turn,.int .i64 ((nend:Int)+1),.slice ra rl.length rc] 268 (0,0)):=row7
 clear y0 y1 y2 y3 g0 g1 g2 g3 R6 B6 O6 hT7 hT6' hd6 e3
 refine (clone_row R _ rl w7 (by omega) hro7).mono ?_
 rintro e w8 ⟨v8,rfl,ho8,hb8⟩
 have row8:=(hb8.block _ (lt_of_heap row7)).trans row7
 have hbk8:=(hb8.block _ (lt_of_heap hbk7)).trans hbk7
 have hd8:=hd7.below hb8 hd7.lt.1 hd7.lt.2
 have hTw8:=hTw.trans (Touch.of_below hb8 _)
 have hs8:=hb8.size
 have hw7:=hTw.size
 have Hk7:=Lib.hid (lt_of_heap row7)
 clear hro7 row7 hbk7 hd7 hTw hb8
 go_wp2_with (at_builtin;refine Hid.out ?_)
 unfold Hid
 refine wpList_app1 rfl rfl Tryz.underlying31 Tryz.infoStr rfl ho8 rfl rfl rfl (by omega) (by unfold maxLen;omega) hs8 ?_
 intro v9 w9 ho9 hg9
 have hT9:Touch (fun k=>v8.ownBlock=some k) w8 w9:=(Touch.grown hg9).mono (fun k h=>.inl h.symm)
 have hnb:∀ k,k<w7.heap.size->¬ v8.ownBlock=some k:=fun k hk e=>by have:=(ho8.lt k e).1;omega
 have row9:=hT9.heap row8 (hnb _ Hk7.out)
 have hbk9:=hT9.heap hbk8 (hnb _ (by omega))
 have hd9:DiskAt w9 d g ys (.slice none 0 0):=by
  obtain ⟨⟨cc,h1⟩,h2,h3⟩:=hd8
  exact ⟨⟨cc,hT9.heap h1 (hnb _ (by omega))⟩,hT9.heap h2 (hnb _ (by omega)),h3⟩
 have hTw9:Touch (fun k=>k=b\/k=d\/k=g) w w9:=hTw8.then hT9 (fun k h=>.inr (by have:=(ho8.lt k h).1;omega))
 have hb9:w.heap.size<=w7.heap.size:=hw7
 obtain ⟨a9,c9,rfl⟩:=own_slice ho9
 have HO:=Lib.hid (ownsRow_base ho9 hb9)
 obtain ⟨y0,y1,y2,y3,g0,g1,g2,g3⟩:=four_of_row row9
 have hbk9':BookAt w9 b d first sz at0 turn0 nend0 recs0:=hbk9
 obtain ⟨_,_,_,x3,x4,x5,x6,_,hf⟩:=hbk9'.cells
 have f3:=hf 3
 have f4:=hf 4
 have f5:=hf 5
 have f6:=hf 6
 have Row:=Lib.hid row9
 have Bk:=Lib.hid hbk9
 have Hd:=Lib.hid hd9
 have HT:=Lib.hid hTw9
 have hneh:hbk≠b:=by have:=Hhb.out;omega
 have hoh:∀ k,(Value.slice a9 (rl.length+1) c9).ownBlock=some k->k≠hbk/\k≠b:=fun k hk=>by
  have h1:=(ho9.lt k hk).1
  have h2:=Hk7.out
  omega
 have HOH:=Lib.hid hoh
 clear hoh hf row9 hbk9 hbk9' hd9 hTw9 ho9 hT9 hnb ho8 hg9 hb9 row8 hbk8 hd8 hTw8 hs8 hw7
 go_wp2_with fail
 clear y0 y1 y2 y3 g0 g1 g2 g3 x3 x4 x5 x6 f3 f4 f5 f6
 have hTf:Touch (fun k=>k=hbk\/k=b) w9 (((((w9.setCell ⟨hbk,3,none⟩ (.slice a9 (rl.length+1) c9)).setCell ⟨b,3,none⟩ (.int .i64 at')).setCell ⟨b,4,none⟩ (.int .u64 turn)).setCell ⟨b,5,none⟩ (.int .i64 ((nend:Int)+1))).setCell ⟨b,6,none⟩ (.slice a9 (rl.length+1) c9)):=
  ((((Touch.setCell (S:=fun k=>k=hbk\/k=b) w9 ⟨hbk,3,none⟩ _ (.inl rfl)).trans (Touch.setCell (S:=fun k=>k=hbk\/k=b) _ ⟨b,3,none⟩ _ (.inr rfl))).trans (Touch.setCell (S:=fun k=>k=hbk\/k=b) _ ⟨b,4,none⟩ _ (.inr rfl))).trans (Touch.setCell (S:=fun k=>k=hbk\/k=b) _ ⟨b,5,none⟩ _ (.inr rfl))).trans (Touch.setCell (S:=fun k=>k=hbk\/k=b) _ ⟨b,6,none⟩ _ (.inr rfl))
 have hrow:=heap_setCell_same _ b 6 _ _ (.slice a9 (rl.length+1) c9) (heap_setCell_same _ b 5 _ _ (.int .i64 ((nend:Int)+1)) (heap_setCell_same _ b 4 _ _ (.int .u64 turn) (heap_setCell_same _ b 3 _ _ (.int .i64 at') ((heap_setCell_other w9 ⟨hbk,3,none⟩ b (.slice a9 (rl.length+1) c9) (by exact hneh.symm)).trans Bk.out))))
 generalize (((((w9.setCell ⟨hbk,3,none⟩ (.slice a9 (rl.length+1) c9)).setCell ⟨b,3,none⟩ (.int .i64 at')).setCell ⟨b,4,none⟩ (.int .u64 turn)).setCell ⟨b,5,none⟩ (.int .i64 ((nend:Int)+1))).setCell ⟨b,6,none⟩ (.slice a9 (rl.length+1) c9))=V at hTf hrow |-
 go_ret
 have hlw:=Hhb.out
 refine ⟨rfl,_,ys,hrow,?_,hyl,hy64,?_,HT.out.then hTf (fun k h=>by rcases h with h | h;exact .inr (by omega);exact .inl (.inl h))⟩
 · have:=hTf.own HO.out (fun k hk h=>h.elim (HOH.out k hk).1 (HOH.out k hk).2)
   simpa [strs] using this
 · obtain ⟨⟨cc,h1⟩,h2,h3⟩:=Hd.out
   exact ⟨⟨cc,hTf.heap h1 (by rintro (h | h);omega;exact hbd h.symm)⟩,hTf.heap h2 (by rintro (h | h);omega;exact hbg h.symm),h3⟩
end Go.Proofs.YtcgkomafaepjnaaGreatDoor
