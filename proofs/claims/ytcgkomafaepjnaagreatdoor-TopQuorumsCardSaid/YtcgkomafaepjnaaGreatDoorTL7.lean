/- Package proof: Prove. Conditions: a tree of few short texts, a key of sixteen bytes. -/
import Derived.Test.YtcgkomafaepjnaaGreatDoorTL6
import Derived.Deep.RegionLaw
import Derived.Deep.AppendLies
import Derived.RangeFuncNested
import Derived.RangeFuncBound
import Derived.RangeFuncCalls
import Derived.RangeFuncLeaves
import Derived.Shelf.Abstract
import Derived.OwnWalkIn
import Derived.TacticsInMore
import Derived.LoopNIn
import Derived.LoopIn
import Derived.Test.YtcgkomafaepjnaaGreatDoorTL5
import Derived.Test.YtcgkomafaepjnaaGreatDoorTL1
import Derived.Laws.ResultCell
set_option maxRecDepth 100000
set_option maxHeartbeats 16000000
namespace Go.Proofs.YtcgkomafaepjnaaGreatDoor
open Go.RowKit
theorem pprove_any (p b:Nat) (m:Puts) (key:Tx) (d:Nat) (w:World) (ht:TreeAt w p b m) (hK:Kon w) (hkey:key.length=16) (hd:d<=128) :
 Calls Tryz.prog 19 #[.pointer (some ⟨p,0,none⟩),.string ⟨key.toArray⟩,.int .i64 (d:Int)] w fun e w'=>∃ a c pf n,e=.returned (.tuple #[.agg #[.slice a pf.beside.length c,.bool pf.there,.string ⟨pf.key.toArray⟩,.string ⟨pf.val.toArray⟩],.int .i64 0])/\Keyrow w' a c pf.beside/\Made hs (valOf m) (keysOf m) key d pf n/\Below w.heap.size w w'/\∀ g o,a=some ⟨g,o,none⟩->w.heap.size<=g:=by
 have hlt:=ht.lt
 have hks:=keys_keysOf (m:=m) fun q hq=>(ht.small q hq).1
 have hkl:=length_keysOf m
 have hfew:=ht.few
 have HT:=Lib.hid ht
 have HK:=Lib.hid hK
 obtain ⟨W0,hW0⟩:∃ W0,W0=(w.alloc (.cells #[.string ⟨key.toArray⟩] 9)).alloc (.cells #[.slice none 0 0,.bool false,.string ⟨#[]⟩,.string ⟨#[]⟩] 51):=⟨_,rfl⟩
 obtain ⟨W1,hW1⟩:∃ W1,W1=W0.alloc (.cells #[.slice none 0 0,.bool false,.string ⟨#[]⟩,.string ⟨#[]⟩] 51):=⟨_,rfl⟩
 have hB0:Below w.heap.size w W0:=by rw [hW0];exact ((Below.refl _ _).alloc (Nat.le_refl _) _).alloc (by simp) _
 have hs0:W0.heap.size=w.heap.size+2:=by rw [hW0];simp
 have hB1:Below w.heap.size w W1:=by rw [hW1];exact hB0.alloc hB0.size _
 have hs1:W1.heap.size=w.heap.size+3:=by rw [hW1];simp [hs0]
 have ck1:W1.heap[w.heap.size]?=some (.cells #[.string ⟨key.toArray⟩] 9 (0,0)):=by
  rw [hW1,Below.heap_alloc _ _ _ (by omega),hW0,Below.heap_alloc _ _ _ (by simp)];exact heap_alloc_new _ _
 have cr1:W1.heap[w.heap.size+1]?=some (.cells #[.slice none 0 0,.bool false,.string ⟨#[]⟩,.string ⟨#[]⟩] 51 (0,0)):=by
  rw [hW1,Below.heap_alloc _ _ _ (by omega),hW0];exact heap_alloc2_new _ _ _
 have cp1:W1.heap[w.heap.size+2]?=some (.cells #[.slice none 0 0,.bool false,.string ⟨#[]⟩,.string ⟨#[]⟩] 51 (0,0)):=by
  rw [hW1,show w.heap.size+2=W0.heap.size from by omega];exact heap_alloc_new _ _
 have hkeys:=Lib.hid (tkeys_any p b m W1 (ht.old hB1))
 have hright:=Lib.hid (right_any ⟨key.toArray⟩ d W0 (by show key.toArray.size=16;rw [List.size_toArray,hkey]) hd)
 have CK1:=Lib.hid ck1
 have CR1:=Lib.hid cr1
 have CP1:=Lib.hid cp1
 have HB1:=Lib.hid hB1
 clear ht hK ck1 cr1 cp1 hB0 hB1
 go_enter Tryz.func19,Tryz.ntmps19
 go_wp2_with fail
 rw [<-hW0]
 refine hright.out.mono ?_
 rintro e w' ⟨rfl,rfl⟩
 clear hright hW0
 go_wp2_with fail
 rw [<-hW1]
 refine hkeys.out.mono ?_
 rintro e w2 ⟨v0,rfl,ho,_,hB2⟩
 clear hkeys hW1
 obtain ⟨a0,c0,rfl⟩:=own_slice ho
 obtain ⟨hr0,hl0⟩:=keyrow_of_own ho (by omega) rfl
 rw [show (keysOf m)=under (keysOf m) key 0 from (under_zero _ _).symm] at hr0
 have hBw2:Below w.heap.size w w2:=HB1.out.trans (hB2.mono HB1.out.size)
 have s2:=hB2.size
 obtain ⟨q,hq⟩:∃ q,w2.heap.size=q:=⟨_,rfl⟩
 have hqs:w.heap.size+3<=q:=by omega
 obtain ⟨W3,hW3⟩:∃ W3,W3=w2.alloc (.cells #[.slice a0 (keysOf m).length c0] 31):=⟨_,rfl⟩
 have hB3:Below w2.heap.size w2 W3:=by rw [hW3];exact (Below.refl _ _).alloc (Nat.le_refl _) _
 have hs3:W3.heap.size=q+1:=by rw [hW3];simp [hq]
 have cq3:W3.heap[q]?=some (.cells #[.slice a0 (keysOf m).length c0] 31 (0,0)):=by rw [hW3,<-hq];exact heap_alloc_new _ _
 have ck3:=(hB3.block _ (by omega)).trans ((hB2.block _ (by omega)).trans CK1.out)
 have cr3:=(hB3.block _ (by omega)).trans ((hB2.block _ (by omega)).trans CR1.out)
 have cp3:=(hB3.block _ (by omega)).trans ((hB2.block _ (by omega)).trans CP1.out)
 have hpin:=Lib.hid (pin_any q w.heap.size c0 a0 (keysOf m) key d W3 (cel cq3) (by rw [under_zero] at hr0;exact hr0.old hB3) (cel ck3) hks.len (by omega) hd)
 have HC3:=Lib.hid (And.intro cq3 (And.intro ck3 (And.intro cr3 cp3)))
 have hBw3:=Lib.hid (hBw2.trans (hB3.mono hBw2.size))
 clear hr0 hl0 ho hB2 hB3 CK1 CR1 CP1 cq3 ck3 cr3 cp3 hBw2
 go_wp2_with fail
 rw [<-hW3]
 refine hpin.out.mono ?_
 rintro e w4 ⟨a4,c4,rfl,hr4,hB4,hl4⟩
 clear hpin hW3
 obtain ⟨cq3,ck3,cr3,cp3⟩:=HC3.out
 have cq4:=(hB4.block _ (by omega)).trans cq3
 have yq:=cell_of_row _ _ 0 _ _ _ cq4
 have fq:=frozen_of_row _ _ 0 _ _ cq4
 change _=some (Value.slice a0 (keysOf m).length c0) at yq
 have hst:PS q m key d w (w4.setCell ⟨q,0,none⟩ (.slice a4 (under (keysOf m) key d).length c4)) 0 a4 c4 (.slice none 0 0):=by
  have hTq:Touch (·=q) w4 (w4.setCell ⟨q,0,none⟩ (.slice a4 (under (keysOf m) key d).length c4)):=Touch.setCell (S:=(·=q)) w4 ⟨q,0,none⟩ _ rfl
  exact ⟨hTq.heap ((hB4.block _ (by omega)).trans ck3) (by omega),hTq.heap ((hB4.block _ (by omega)).trans cr3) (by omega),hTq.heap ((hB4.block _ (by omega)).trans cp3) (by omega),heap_setCell_same w4 q 0 _ _ _ cq4,hr4.touch hTq (fun g o e=>by have:=hl4 g o e;omega),World.ownsRow_nil _ _ _ _,(by intro g hg;cases hg),(by intro g g' o' hg;cases hg),fun g' o' e=>by have:=hl4 g' o' e;omega,((hBw3.out.trans (hB4.mono hBw3.out.size)).setCell (p:=⟨q,0,none⟩) (by show w.heap.size<=q;omega) _),fun i hi=>by omega,by omega⟩
 have HST:=Lib.hid hst
 clear hst HC3 cq3 ck3 cr3 cp3 cq4 hr4 hl4 hB4 hBw3
 obtain ⟨i0,hi,hz0,hz1,hz2⟩:=info_parts Tryz.infoStr
 go_wp2_with fail
 generalize (w4.setCell ⟨q,0,none⟩ (.slice a4 (under (keysOf m) key d).length c4))=V at HST |-
 go_loopw [11] (fun dep W=>∃ n a c v,dep=.int .i64 ((d+n:Nat):Int)/\PS q m key d w W n a c v) (fun dep W=>128 - (intOf dep).toNat)
 case atStart=>exact ⟨0,a4,c4,.slice none 0 0,rfl,HST.out⟩
 case round=>
  obtain ⟨n,a,c,v,rfl,hps⟩:=hrel
  have Hps:=Lib.hid hps
  obtain ⟨e,he⟩:∃ e,d+n=e:=⟨_,rfl⟩
  have yq:=cell_of_row _ _ 0 _ _ _ hps.cq
  change _=some (Value.slice a (under (keysOf m) key (d+n)).length c) at yq
  have hroom:=hps.room
  have hpsize:=hps.bel.size
  have hlq:=(Array.getElem?_eq_some_iff.1 hps.cq).1
  rw [he] at yq hroom |-
  by_cases h2:2<=(under (keysOf m) key e).length
  · have he128:e<128:=under_lt hks key e h2 hroom
    have hgt:(1:Int)<((under (keysOf m) key e).length:Int):=by omega
    have zk:=cell_of_row _ _ 0 _ _ _ hps.ck
    change _=some (Value.string ⟨key.toArray⟩) at zk
    have zkf:=frozen_of_row _ _ 0 _ _ hps.ck
    have z4:=cell_of_row _ _ 0 _ _ _ hps.cp
    have z4f:=frozen_of_row _ _ 0 _ _ hps.cp
    change _=some v at z4
    have hown:=Lib.hid hps.own
    have hnown:∀ g,v.ownBlock=some g->w.heap.size+3<=g:=fun g hg=>(hps.own.lt g hg).1
    obtain ⟨va,vc,rfl⟩:=own_slice hps.own
    have hltk:w.heap.size<wr.heap.size:=by omega
    have hlt2:w.heap.size+2<wr.heap.size:=by omega
    have hturn:=turned_any key e wr.drew hkey he128
    have hNode:Hid (∀ W5,Below wr.heap.size wr W5->Calls Tryz.prog 44 #[.pointer (some ⟨p,0,none⟩),.string ⟨(turn key e).toArray⟩,.int .i64 ((e:Int)+1)] W5 fun r w'=>r=.returned (.string ⟨(hs.at (valOf m) (keysOf m) (turn key e) (e+1)).toArray⟩)/\Below W5.heap.size W5 w'):=Lib.hid (fun W5 hb=>by
     have hBW:Below w.heap.size w W5:=Hps.out.bel.trans (hb.mono hpsize)
     have:=tat_any p b m (turn key e) (e+1) W5 (HT.out.old hBW) (HK.out.old hBW) (by rw [turn_length,hkey];decide) (by omega)
     rw [show ((e+1:Nat):Int)=(e:Int)+1 from by omega] at this
     exact this)
    have hsnE:=Lib.hid (beside_snoc hs (valOf m) (keysOf m) key n d)
    rw [he] at hsnE
    generalize hs.at (valOf m) (keysOf m) (turn key e) (e+1)=N at hNode hsnE
    generalize turn key e=tk at hturn hNode
    have hw1:IntKind.i64.wrap ((e:Int)+1)=(e:Int)+1:=by rw [IntKind.wrap_i64];omega
    have HG:Hid (∀ w6 o w7,Below wr.heap.size wr w6->(w6.alloc o).grownBy w7 (Value.slice va n vc).ownBlock->(w7.cell? ⟨w.heap.size+2,0,none⟩=some (.slice va n vc)/\w7.frozen? ⟨w.heap.size+2,0,none⟩=false)):=Lib.hid (fun w6 o w7 hb hg=>by
     have hb6:Below wr.heap.size wr (w6.alloc o):=hb.alloc hb.size o
     have e1:w7.heap[w.heap.size+2]?=wr.heap[w.heap.size+2]?:=(hg.block _ (Nat.lt_of_lt_of_le hlt2 hb6.size) (fun e=>by have:=hnown _ e.symm;omega)).trans (hb6.block _ hlt2)
     exact ⟨(World.cell?_of_block (w:=wr) (w':=w7) (a:=⟨w.heap.size+2,0,none⟩) e1).trans z4,(World.frozen?_of_block (w:=wr) (w':=w7) (a:=⟨w.heap.size+2,0,none⟩) e1).trans z4f⟩)
    have hO:Hid (∀ w6,Below wr.heap.size wr w6->w6.ownsRow (w.heap.size+3) 9 1 (.slice va n vc) n ((hs.beside (valOf m) (keysOf m) key d n).map encStr)):=Lib.hid (fun w6 hb=>(Touch.of_below hb (fun _=>False)).own hown.out (fun _ _ h=>h))
    have hn128:n<=128:=by omega
    have Hh2:=Lib.hid h2
    clear hown h2 hps
    go_wp2_with fail
    go_region_law (first
     | (go_simp;go_at_call 60;refine hturn.mono ?_;rintro r w5 ⟨rfl,hb5⟩;have hb5':=below_call hb5;obtain ⟨z5,z5f,_⟩:=keepC z4 z4f hb5' hlt2;have z5k:=(keepC zk zkf hb5' hltk).1)
     | (go_simp;go_at_call 44;refine (hNode.out w5 hb5').mono ?_;rintro r w6 ⟨rfl,hb6⟩;have hb6':=hb5'.trans (hb6.mono hb5'.size);obtain ⟨z6,z6f,_⟩:=keepC z4 z4f hb6' hlt2;have z6a:=keepE z4 z4f hb6' hlt2)
     | (refine step_append_lies _ (by rfl) _ _ _ (by rfl) (w.heap.size+3) 9 i0 _ 1 16 Tryz.underlying31 hi hz0 hz1 hz2 rfl (by omega) (.slice va n vc) n _ (by rfl) ((hO.out w6 hb6').alloc _) ⟨w6.heap.size,0,none⟩ 1 1 [.string ⟨N.toArray⟩] (by rfl) (by rfl) (World.news_of_block (cs:=#[.string ⟨N.toArray⟩]) (t:=9) (fr:=(0,0)) (heap_alloc_new w6 _)) (by simp [Value.oneCell']) (by omega) (by unfold maxLen;omega) (by omega) (by have:=hb6'.size;simp;omega) (w6.heap.size+1) (by simp) ?_;intro gg cap2 w7 ho7 hg7 hat hlt7;obtain ⟨z7,z7f⟩:=HG.out _ _ _ hb6' hg7))
    all_goals
     obtain ⟨T8,hp8,ho8,hloc,yq8,row8,yk8⟩:=Hps.out.mid (by omega) hsnE.out hb6' _ hg7 ho7 hat
     rw [he] at yq8 row8
     have hpin:=pin_any q w.heap.size c a (under (keysOf m) key e) key (e+1) _ yq8 row8 yk8 (fun k hk=>hks.len k (mem_under.1 hk).1) (by omega) (by omega)
     rw [under_under _ _ (Nat.le_succ e),show ((e+1:Nat):Int)=(e:Int)+1 from by omega] at hpin
     have Hpin:=Lib.hid hpin
     have HT8:=Lib.hid T8
     have HP8:=Lib.hid (And.intro hp8 (And.intro ho8 hloc))
     have cq8:=T8.heap Hps.out.cq (by
      rintro (e | e)
      · omega
      · exact Hps.out.vq q e rfl)
     have s8:=T8.size
     clear hpin T8 hp8 ho8 hloc row8 yk8 z4 z4f z5 z5f z5k z6 z6f z6a z7 z7f zk zkf ho7 hg7 hat hb5 hb5' hb6 hb6' hturn hNode HG hO yq
     generalize (w7.setCell ⟨w.heap.size+2,0,none⟩ (.slice (some ⟨gg,0,none⟩) (n+1) cap2))=W8 at Hpin HT8 HP8 cq8 s8 yq8 |-
     go_wp2_with fail
     refine Hpin.out.mono ?_
     rintro e9 w9 ⟨a9,c9,rfl,hr9,hB9,hl9⟩
     have cq9:=(hB9.block q (by omega)).trans cq8
     have yq9:=cell_of_row _ _ 0 _ _ _ cq9
     have fq9:=frozen_of_row _ _ 0 _ _ cq9
     change _=some (Value.slice a _ c) at yq9
     have HPS:=Lib.hid (Hps.out.step (a9:=a9) (c9:=c9) (by omega) HT8.out HP8.out.1 HP8.out.2.1 HP8.out.2.2 hB9 (by rw [show d+(n+1)=e+1 from by omega];exact hr9) hl9 (by rw [he];exact Hh2.out) (by omega))
     rw [show d+(n+1)=e+1 from by omega] at HPS
     clear Hpin HT8 HP8 cq8 s8 yq8 hr9 hB9 hl9 cq9 Hh2
     go_wp2
     go_roundw
     case rel=>exact ⟨n+1,a9,c9,_,by rw [show d+(n+1)=e+1 from by omega];go_num,HPS.out⟩
     case measure=>simp [intOf];omega
  · have hown:=hps.own
    have hnown:∀ g,v.ownBlock=some g->w.heap.size+3<=g:=fun g hg=>(hps.own.lt g hg).1
    obtain ⟨va,vc,rfl⟩:=own_slice hown
    have hbl:=beside_length hs (valOf m) (keysOf m) key n d
    obtain ⟨hrv,hlv⟩:=keyrow_of_own hown (by omega) hbl.symm
    have more:=hps.more
    obtain ⟨z0,z1,z2,z3⟩:=four_of_cells hps.cp
    have fz1:=frozen_of_row _ _ 1 _ _ hps.cp
    have fz2:=frozen_of_row _ _ 2 _ _ hps.cp
    have fz3:=frozen_of_row _ _ 3 _ _ hps.cp
    obtain ⟨r0,r1,r2,r3⟩:=four_of_cells hps.cr
    have fr0:=frozen_of_row _ _ 0 _ _ hps.cr
    have fr1:=frozen_of_row _ _ 1 _ _ hps.cr
    have fr2:=frozen_of_row _ _ 2 _ _ hps.cr
    have fr3:=frozen_of_row _ _ 3 _ _ hps.cr
    cases hU:under (keysOf m) key e with
    | nil=>
      rw [hU] at yq h2
      have yq:wr.cell? ⟨q,0,none⟩=some (.slice a 0 c):=yq
      have fin4:=heap_setCell_same _ (w.heap.size+1) 3 _ _ (.string ⟨#[]⟩) (heap_setCell_same _ (w.heap.size+1) 2 _ _ (.string ⟨#[]⟩) (heap_setCell_same _ (w.heap.size+1) 1 _ _ (.bool false) (heap_setCell_same wr (w.heap.size+1) 0 _ _ (.slice va n vc) hps.cr)))
      have T4:Touch (·=w.heap.size+1) wr ((((wr.setCell ⟨w.heap.size+1,0,none⟩ (.slice va n vc)).setCell ⟨w.heap.size+1,1,none⟩ (.bool false)).setCell ⟨w.heap.size+1,2,none⟩ (.string ⟨#[]⟩)).setCell ⟨w.heap.size+1,3,none⟩ (.string ⟨#[]⟩)):=
       (((Touch.setCell (S:=(·=w.heap.size+1)) wr ⟨w.heap.size+1,0,none⟩ _ rfl).trans (Touch.setCell (S:=(·=w.heap.size+1)) _ ⟨w.heap.size+1,1,none⟩ _ rfl)).trans (Touch.setCell (S:=(·=w.heap.size+1)) _ ⟨w.heap.size+1,2,none⟩ _ rfl)).trans (Touch.setCell (S:=(·=w.heap.size+1)) _ ⟨w.heap.size+1,3,none⟩ _ rfl)
      have Fin4:=Lib.hid fin4
      have HT4:=Lib.hid T4
      have Hrv:=Lib.hid (And.intro hrv hlv)
      have Hmore:=Lib.hid more
      have HU:=Lib.hid hU
      clear fin4 T4 hrv hlv more hU hown hnown hps h2 hbl
      go_wp2_with fail
      have hrow4:=Fin4.out
      have hT4:=HT4.out
      generalize ((((wr.setCell ⟨w.heap.size+1,0,none⟩ (.slice va n vc)).setCell ⟨w.heap.size+1,1,none⟩ (.bool false)).setCell ⟨w.heap.size+1,2,none⟩ (.string ⟨#[]⟩)).setCell ⟨w.heap.size+1,3,none⟩ (.string ⟨#[]⟩))=V4 at hrow4 hT4 |-
      have hrow4:V4.heap[w.heap.size+1]?=some (.cells #[.slice va n vc,.bool false,.string ⟨#[]⟩,.string ⟨#[]⟩] 51 (0,0)):=hrow4
      obtain ⟨p0,p1,p2,p3⟩:=four_of_cells hrow4
      refine bodyPost_ret (v:=.tuple #[.agg #[.slice va n vc,.bool false,.string ⟨#[]⟩,.string ⟨#[]⟩],.int .i64 0]) ?_ rfl ⟨va,vc,⟨hs.beside (valOf m) (keysOf m) key d n,false,[],[]⟩,n,?_,?_,?_,?_,?_⟩
      · simp [results,Tryz.f19,go_sem,p0,p1,p2,p3]
      · dsimp only;rw [beside_length]
      · exact Hrv.out.1.touch hT4 (fun g o e=>by have:=Hrv.out.2 g o e;omega)
      · exact ⟨hkey,by omega,rfl,Hmore.out,.inl ⟨by rw [he];exact HU.out,rfl,rfl,rfl⟩⟩
      · exact Hps.out.bel.trans (hT4.below (B:=w.heap.size) (by rintro i rfl;omega) hpsize)
      · intro g o e;have:=Hrv.out.2 g o e;omega
    | cons k l=>
      obtain rfl:l=[]:=by
       rw [hU] at h2
       cases l with
       | nil=>rfl
       | cons x l=>simp at h2
      rw [hU] at yq
      have yq:wr.cell? ⟨q,0,none⟩=some (.slice a 1 c):=yq
      have hrow:=hps.row
      rw [he,hU] at hrow
      obtain ⟨g,o,rfl,_,hc⟩:=hrow.cell 0 (by simp)
      have hc:wr.cell? ⟨g,o,none⟩=some (.string ⟨k.toArray⟩):=hc
      have hk16:k.length=16:=hks.len k ((mem_under (p:=key) (d:=e)).1 (by rw [hU];simp)).1
      have hgq:=hps.aq g o rfl
      have zp:=hps.cp
      clear hrow
      go_wp2_with fail
      have nq:¬ (w.heap.size+2=q):=by omega
      have ng:¬ (w.heap.size+2=g):=by omega
      have hcq:∀ v,(wr.drew.setCell ⟨w.heap.size+2,1,none⟩ v).cell? ⟨q,0,none⟩=some (.slice (some ⟨g,o,none⟩) 1 c):=fun v=>by
       rw [World.cell?_setCell_other (a:=⟨w.heap.size+2,1,none⟩) (b:=⟨q,0,none⟩) (h:=by intro h;injection h with h;exact nq h)];exact yq
      have hcg:∀ v,(wr.drew.setCell ⟨w.heap.size+2,1,none⟩ v).cell? ⟨g,o,none⟩=some (.string ⟨k.toArray⟩):=fun v=>by
       rw [World.cell?_setCell_other (a:=⟨w.heap.size+2,1,none⟩) (b:=⟨g,o,none⟩) (h:=by intro h;injection h with h;exact ng h)];exact hc
      go_region_law (fail)
      all_goals
       have hv2:(((wr.setCell ⟨w.heap.size+2,1,none⟩ (.bool true)).setCell ⟨w.heap.size+2,2,none⟩ (.string ⟨k.toArray⟩)).drew).heap[w.heap.size+2]?=some (.cells #[.slice va n vc,.bool true,.string ⟨k.toArray⟩,.string ⟨#[]⟩] 51 (0,0)):=
        heap_setCell_same _ (w.heap.size+2) 2 _ _ (.string ⟨k.toArray⟩) (heap_setCell_same wr (w.heap.size+2) 1 _ _ (.bool true) zp)
       have TV:Touch (·=w.heap.size+2) wr (((wr.setCell ⟨w.heap.size+2,1,none⟩ (.bool true)).setCell ⟨w.heap.size+2,2,none⟩ (.string ⟨k.toArray⟩)).drew):=
        ((Touch.setCell (S:=(·=w.heap.size+2)) wr ⟨w.heap.size+2,1,none⟩ _ rfl).trans (Touch.setCell (S:=(·=w.heap.size+2)) _ ⟨w.heap.size+2,2,none⟩ _ rfl)).trans (Touch.drewN _ 1)
       generalize (((wr.setCell ⟨w.heap.size+2,1,none⟩ (.bool true)).setCell ⟨w.heap.size+2,2,none⟩ (.string ⟨k.toArray⟩)).drew)=V at hv2 TV |-
       have hBV:Below w.heap.size w V:=Hps.out.bel.trans (TV.below (B:=w.heap.size) (by rintro i rfl;omega) hpsize)
       have hget:Calls Tryz.prog 18 #[.pointer (some ⟨p,0,none⟩),.string ⟨k.toArray⟩] V fun e w'=>e=.returned (.tuple #[.string ⟨(valOf m k).toArray⟩,.bool (m.lookup k).isSome])/\V=w':=tget_any p b m ⟨k.toArray⟩ V (HT.out.old hBV) (by show k.toArray.size=16;rw [List.size_toArray,hk16])
       have hcrV:=TV.heap hps.cr (by omega)
       obtain ⟨u0,u1,u2,u3⟩:=four_of_cells hv2
       have fu3:=frozen_of_row _ _ 3 _ _ hv2
       obtain ⟨t0,t1,t2,t3⟩:=four_of_cells hcrV
       have gr0:=frozen_of_row _ _ 0 _ _ hcrV
       have gr1:=frozen_of_row _ _ 1 _ _ hcrV
       have gr2:=frozen_of_row _ _ 2 _ _ hcrV
       have gr3:=frozen_of_row _ _ 3 _ _ hcrV
       have hv3:=heap_setCell_same V (w.heap.size+2) 3 _ _ (.string ⟨(valOf m k).toArray⟩) hv2
       have T3:Touch (·=w.heap.size+2) V (V.setCell ⟨w.heap.size+2,3,none⟩ (.string ⟨(valOf m k).toArray⟩)):=Touch.setCell (S:=(·=w.heap.size+2)) V ⟨w.heap.size+2,3,none⟩ _ rfl
       have hcr3:=T3.heap hcrV (by omega)
       have fin4:=heap_setCell_same _ (w.heap.size+1) 3 _ _ (.string ⟨(valOf m k).toArray⟩) (heap_setCell_same _ (w.heap.size+1) 2 _ _ (.string ⟨k.toArray⟩) (heap_setCell_same _ (w.heap.size+1) 1 _ _ (.bool true) (heap_setCell_same _ (w.heap.size+1) 0 _ _ (.slice va n vc) hcr3)))
       have T4:Touch (·=w.heap.size+1) (V.setCell ⟨w.heap.size+2,3,none⟩ (.string ⟨(valOf m k).toArray⟩)) (((((V.setCell ⟨w.heap.size+2,3,none⟩ (.string ⟨(valOf m k).toArray⟩)).setCell ⟨w.heap.size+1,0,none⟩ (.slice va n vc)).setCell ⟨w.heap.size+1,1,none⟩ (.bool true)).setCell ⟨w.heap.size+1,2,none⟩ (.string ⟨k.toArray⟩)).setCell ⟨w.heap.size+1,3,none⟩ (.string ⟨(valOf m k).toArray⟩)):=
        (((Touch.setCell (S:=(·=w.heap.size+1)) _ ⟨w.heap.size+1,0,none⟩ _ rfl).trans (Touch.setCell (S:=(·=w.heap.size+1)) _ ⟨w.heap.size+1,1,none⟩ _ rfl)).trans (Touch.setCell (S:=(·=w.heap.size+1)) _ ⟨w.heap.size+1,2,none⟩ _ rfl)).trans (Touch.setCell (S:=(·=w.heap.size+1)) _ ⟨w.heap.size+1,3,none⟩ _ rfl)
       have TA:Touch (fun i=>i=w.heap.size+1\/i=w.heap.size+2) wr (((((V.setCell ⟨w.heap.size+2,3,none⟩ (.string ⟨(valOf m k).toArray⟩)).setCell ⟨w.heap.size+1,0,none⟩ (.slice va n vc)).setCell ⟨w.heap.size+1,1,none⟩ (.bool true)).setCell ⟨w.heap.size+1,2,none⟩ (.string ⟨k.toArray⟩)).setCell ⟨w.heap.size+1,3,none⟩ (.string ⟨(valOf m k).toArray⟩)):=
        ((TV.trans T3).mono (fun i h=>.inl (.inr h))).trans (T4.mono (fun i h=>.inl (.inl h)))
       have Fin4:=Lib.hid fin4
       have HTA:=Lib.hid TA
       have Hrv:=Lib.hid (And.intro hrv hlv)
       have Hmore:=Lib.hid more
       have HU:=Lib.hid hU
       clear fin4 T4 TA T3 TV hrv hlv more hU hown hnown h2 hbl hcr3 hv3 hcrV hv2 z0 z1 z2 z3 fz1 fz2 fz3 r0 r1 r2 r3 fr0 fr1 fr2 fr3 yq hc hcq hcg zp hps
       generalize hvk:valOf m k=vk at hget Fin4 HTA
       have Hvk:=Lib.hid hvk
       clear hvk
       go_wp2_with fail
       refine hget.mono ?_
       rintro e5 w5 ⟨rfl,rfl⟩
       clear hget
       go_wp2_with fail
       have hrow4:=Fin4.out
       have hT4:=HTA.out
       generalize (((((V.setCell ⟨w.heap.size+2,3,none⟩ (.string ⟨vk.toArray⟩)).setCell ⟨w.heap.size+1,0,none⟩ (.slice va n vc)).setCell ⟨w.heap.size+1,1,none⟩ (.bool true)).setCell ⟨w.heap.size+1,2,none⟩ (.string ⟨k.toArray⟩)).setCell ⟨w.heap.size+1,3,none⟩ (.string ⟨vk.toArray⟩))=V4 at hrow4 hT4 |-
       have hrow4:V4.heap[w.heap.size+1]?=some (.cells #[.slice va n vc,.bool true,.string ⟨k.toArray⟩,.string ⟨vk.toArray⟩] 51 (0,0)):=hrow4
       obtain ⟨p0,p1,p2,p3⟩:=four_of_cells hrow4
       refine bodyPost_ret (v:=.tuple #[.agg #[.slice va n vc,.bool true,.string ⟨k.toArray⟩,.string ⟨vk.toArray⟩],.int .i64 0]) ?_ rfl ⟨va,vc,⟨hs.beside (valOf m) (keysOf m) key d n,true,k,vk⟩,n,?_,?_,?_,?_,?_⟩
       · simp [results,Tryz.f19,go_sem,p0,p1,p2,p3]
       · dsimp only;rw [beside_length]
       · exact Hrv.out.1.touch hT4 (fun g o e=>by have:=Hrv.out.2 g o e;omega)
       · exact ⟨hkey,by omega,rfl,Hmore.out,.inr ⟨k,by rw [he];exact HU.out,rfl,rfl,Hvk.out.symm⟩⟩
       · exact Hps.out.bel.trans (hT4.below (B:=w.heap.size) (by rintro i (rfl | rfl) <;> omega) hpsize)
       · intro g o e;have:=Hrv.out.2 g o e;omega
end Go.Proofs.YtcgkomafaepjnaaGreatDoor
namespace Go.Proofs.YtcgkomafaepjnaaGreatDoor
open Go.RowKit Go.Shelf
attribute [local go_sem] Oper.semAt_some
abbrev KpT (B n₀:Nat) (X Y:World):Prop:=Touch (fun k=>k=B\/n₀<=k) X Y
theorem kpT_t {B n₀:Nat} {X Y Z:World} (h:KpT B n₀ X Y) (k:KpT B n₀ Y Z):KpT B n₀ X Z:=h.trans k
theorem kpT_b {B n₀:Nat} {w:World} (hn:n₀<=w.heap.size) (W:World) (l:Nat) (o o':Obj) (hl:w.heap.size<=l) (_:W.heap[l]?=some o) (_:o.isCells=false) (_:o.isWalk=false):KpT B n₀ W (W.putObj l o'):=
 (Touch.grown (grownBy_putObj' W l o')).mono (fun k hk=>.inl (.inr (by injection hk with hk;omega)))
theorem KpT.cell {B n₀:Nat} {X Y:World} (h:KpT B n₀ X Y) {b o:Nat} {v:Value} (hb:b<n₀) (hne:b≠B) (hc:X.cell? ⟨b,o,none⟩=some v):Y.cell? ⟨b,o,none⟩=some v:=by
 rw [World.cell?_of_block (w:=X) (w':=Y) (a:=⟨b,o,none⟩) (h.block b (World.block_lt_of_cell? X _ hc) (by rintro (e | e) <;> omega))];exact hc
abbrev Item:={ q:Nat×Tx // q.1<128/\q.2.length<=1000 }
def encI (x:Item):Array Value:=#[.int .i64 (x.1.1:Int),.string ⟨x.1.2.toArray⟩]
def uptoI {α:Type} (f:Nat->α) (k:Nat):List α:=(List.range k).map f
theorem uptoI_succ {α:Type} (f:Nat->α) (k:Nat):uptoI f (k+1)=uptoI f k++[f k]:=by simp [uptoI,List.range_succ]
theorem uptoI_length {α:Type} (f:Nat->α) (k:Nat):(uptoI f k).length=k:=by simp [uptoI]
def backItem (bs:List Tx) (h:bs.length<=128/\∀ s∈bs,s.length<=1000) (j:Nat):Item:=
 ⟨(bs.length - 1 - j,bs.getD (bs.length - 1 - j) []),by
  refine ⟨by have:=h.1;show bs.length - 1 - j<128;omega,?_⟩
  show (bs.getD (bs.length - 1 - j) []).length<=1000
  rw [List.getD_eq_getElem?_getD]
  cases hg:bs[bs.length - 1 - j]? with
  | none=>simp
  | some s=>exact h.2 s (List.mem_of_getElem? hg)⟩
theorem backs1_in (F:Fence) (n:Nat) (h7:F.fn 194) (hro:F.round=none) (hn:1<=n) (l Bs B5 n₀ len cap:Nat) (a:Option Addr) (bs:List Tx) (hbs:bs.length<=128/\∀ s∈bs,s.length<=1000) (hlen:bs.length=len) (hBsn:Bs<n₀) (hBs5:Bs≠B5) (J Jx:List Item->World->Prop)
 (hY:∀ pre x W,J pre W->pre.length<len->YieldAt F (n - 1) Tryz.prog l (encI x) W fun e W'=>
   (e=.returned (.bool true)/\J (pre++[x]) W'/\KpT B5 n₀ W W')\/(e=.returned (.bool false)/\Jx (pre++[x]) W'))
 (W:World) (hBs:W.cell? ⟨Bs,0,none⟩=some (.slice a len cap))
 (hc:∀ j,j<len->∃ g o,a=some ⟨g,o,none⟩/\g<n₀/\g≠B5/\W.cell? ⟨g,o+j,none⟩=some (.string ⟨(bs.getD j []).toArray⟩)) (h0:J [] W) :
 CallsIn F n Tryz.prog 194 #[.func (.yield l) #[] #[],.pointer (some ⟨Bs,0,none⟩)] W fun e W'=>(∃ v,e=.returned v) /\
  ((∃ ys,ys=uptoI (backItem bs hbs) len/\J ys W')\/(∃ pre,True/\Jx pre W')):=by
 have hl128:=hbs.1
 refine callsIn_of_wp Tryz.func194 rfl h7 ?_ hro
 simp only [Tryz.ntmps194,List.size_toArray,List.length_cons,List.length_nil,Nat.reduceAdd,Nat.reduceSub,Array.replicate_succ,Array.replicate_zero,List.push_toArray,List.append_toArray,List.nil_append,List.cons_append]
 gi_wp2
 gi_loopw [3] (fun i wr=>∃ k:Nat,k<=len/\i=.int .i64 ((len:Int) - 1 - k)/\J (uptoI (backItem bs hbs) k) wr/\KpT B5 n₀ W wr)
  (fun i _=>(intOf i+1).toNat)
 case atStart=>exact ⟨0,Nat.zero_le _,by simp,h0,Touch.refl _ _⟩
 case round=>
  obtain ⟨k,hk,rfl,hJs,hnx⟩:=hrel
  have hBx:=hnx.cell hBsn hBs5 hBs
  by_cases hlt:k<len
  · obtain ⟨j,hj⟩:∃ j:Nat,(len:Int) - 1 - k=(j:Int):=⟨len - 1 - k,by omega⟩
    have hjn:len - 1 - k=j:=by omega
    obtain ⟨g,o,rfl,hg1,hg2,hcj⟩:=hc j (by omega)
    have hcx:=hnx.cell hg1 hg2 hcj
    have hY1:=hY _ (backItem bs hbs k) wr hJs (by rw [uptoI_length];exact hlt)
    have hk1:Hid (k+1<=len):=Lib.hid (by omega)
    have hjl:(j:Int)<(len:Int):=by omega
    have hj0:(0:Int)<=(j:Int):=by omega
    have hsu:=uptoI_succ (backItem bs hbs) k
    have eI:encI (backItem bs hbs k)=#[.int .i64 (j:Int),.string ⟨(bs.getD j []).toArray⟩]:=by
     unfold encI backItem
     dsimp only
     rw [hlen,hjn]
    rw [eI,<-hsu] at hY1
    generalize bs.getD j []=t at hcx hY1
    have hfin:Hid ((len:Int) - 1 - ((k+1:Nat):Int)=(j:Int) - 1):=Lib.hid (by omega)
    generalize uptoI (backItem bs hbs) (k+1)=up at hY1 hsu
    have hsu':=Lib.hid hsu
    have Hnx:=Lib.hid hnx
    rw [hj]
    clear hcj hJs hY hc h0 hsu hj hjn eI hlt hk hnx
    obtain ⟨fn,tmps,assign,body,hy,hR⟩:=hY1
    gi_wp2
    refine hR.mono ?_
    rintro e W3 (⟨rfl,hJ3,hk3⟩ | ⟨rfl,hJx3⟩)
    · gi_wp2
      go_roundw
      case rel=>exact ⟨k+1,hk1.out,by rw [hfin.out],by rw [uptoI_succ,<-hsu'.out];exact hJ3,Hnx.out.trans hk3⟩
      case measure=>first | (simp [intOf];done) | (simp [intOf];omega)
    · gi_wp2
      refine bodyPost_ret (results_none rfl _ _ _) rfl ?_
      exact ⟨⟨_,rfl⟩,.inr ⟨_,trivial,hJx3⟩⟩
  · obtain rfl:k=len:=by omega
    have e1:(k:Int) - 1 - k=-1:=by omega
    rw [e1]
    gi_wp2
    go_end0
    exact ⟨⟨_,rfl⟩,.inl ⟨_,rfl,hJs⟩⟩
theorem backs_in (F:Fence) (n:Nat) (h5:F.fn 153) (hro:F.round=none) (a:Option Addr) (len cap:Nat) (w:World) :
 CallsIn F n Tryz.prog 153 #[.slice a len cap] w fun e w'=>e=.returned (.func (.func 194) #[] #[.pointer (some ⟨w.heap.size,0,none⟩)])/\w'=w.alloc (.cells #[.slice a len cap] 31):=by
 refine callsIn_of_wp Tryz.func153 rfl h5 ?_ hro
 simp only [Tryz.ntmps153,List.size_toArray,List.length_cons,List.length_nil,Nat.reduceAdd,Nat.reduceSub,Array.replicate_succ,Array.replicate_zero,List.push_toArray,List.append_toArray,List.nil_append,List.cons_append]
 gi_wp2
 go_ret
 exact ⟨rfl,rfl⟩
theorem backs_stops (F:Fence) (n:Nat) (h7:F.fn 194) (hro:F.round=none) (hn:1<=n) (Bs B5 n₀:Nat) (a:Option Addr) (cap len:Nat) (bs:List Tx) (hbs:bs.length<=128/\∀ s∈bs,s.length<=1000) (hlen:bs.length=len) (w:World)
 (hBsn:Bs<n₀) (hBs5:Bs≠B5) (hn₀:n₀<=w.heap.size) (hcs:w.cell? ⟨Bs,0,none⟩=some (.slice a len cap)) (hr:Keyrow w a cap bs) (hg:0<len->∀ g o,a=some ⟨g,o,none⟩->g<n₀/\g≠B5) :
 SeqStopsK F n Tryz.prog 194 #[.pointer (some ⟨Bs,0,none⟩)] encI (KpT B5 n₀) (fun ys=>ys=uptoI (backItem bs hbs) len) (fun _=>True) len w:=fun l J Jx W hW _ _ hY h0=>by
 refine backs1_in F n h7 hro hn l Bs B5 n₀ len cap a bs hbs hlen hBsn hBs5 J Jx hY W ((hW.cell (p:=⟨Bs,0,none⟩) (by show Bs<_;omega)).trans hcs) ?_ h0
 intro j hj
 obtain ⟨g,o,e,hgl,hc⟩:=hr.cell j (by omega)
 obtain ⟨h1,h2⟩:=hg (by omega) g o e
 exact ⟨g,o,e,h1,h2,(hW.cell (p:=⟨g,o+j,none⟩) hgl).trans hc⟩
end Go.Proofs.YtcgkomafaepjnaaGreatDoor
namespace Go.Proofs.YtcgkomafaepjnaaGreatDoor
open Go.RowKit Go.Shelf
attribute [local go_sem] Oper.semAt_some
def stepUp (key:Tx) (d:Nat) (acc:Tx) (q:Item):Tx:=if bitAt key (d+q.1.1)=0 then hs.jn acc q.1.2 else hs.jn q.1.2 acc
def foldUp (key:Tx) (d:Nat) (x0:Tx) (l:List Item):Tx:=l.foldl (stepUp key d) x0
theorem foldUp_snoc (key:Tx) (d:Nat) (x0:Tx) (l:List Item) (q:Item):foldUp key d x0 (l++[q])=stepUp key d (foldUp key d x0 l) q:=by simp [foldUp]
theorem jn_le (a b:Tx) (ha:a.length<=1000) (hb:b.length<=1000):(hs.jn a b).length<=1000:=by
 unfold Hs.jn
 split
 · exact hb
 · split
   · exact ha
   · show (nfOf a b).length<=1000
     rw [nfOf_length];decide
theorem stepUp_le (key:Tx) (d:Nat) (acc:Tx) (q:Item) (ha:acc.length<=1000):(stepUp key d acc q).length<=1000:=by
 unfold stepUp
 split
 · exact jn_le _ _ ha q.2.2
 · exact jn_le _ _ q.2.2 ha
theorem foldUp_le (key:Tx) (d:Nat) (x0:Tx) (l:List Item) (h0:x0.length<=1000):(foldUp key d x0 l).length<=1000:=by
 unfold foldUp
 induction l generalizing x0 with
 | nil=>exact h0
 | cons q l ih=>exact ih _ (stepUp_le key d x0 q h0)
theorem foldUp_back (key:Tx) (d:Nat) (x0:Tx) (bs:List Tx) (h:bs.length<=128/\∀ s∈bs,s.length<=1000):∀ k,k<=bs.length->foldUp key d x0 (uptoI (backItem bs h) k)=hs.climb key (bs.drop (bs.length - k)) (d+(bs.length - k)) x0
 | 0,_=>by
   rw [Nat.sub_zero,List.drop_length];rfl
 | k+1,hk=>by
   rw [uptoI_succ,foldUp_snoc,foldUp_back key d x0 bs h k (by omega)]
   obtain ⟨j,hj⟩:∃ j,bs.length - (k+1)=j:=⟨_,rfl⟩
   have hj1:bs.length - k=j+1:=by omega
   have hjl:j<bs.length:=by omega
   have e1:(backItem bs h k).1.1=j:=by show bs.length - 1 - k=j;omega
   have e2:(backItem bs h k).1.2=bs[j]:=by
    show bs.getD (bs.length - 1 - k) []=bs[j]
    rw [show bs.length - 1 - k=j from by omega,List.getD_eq_getElem?_getD,List.getElem?_eq_getElem hjl];rfl
   rw [hj,hj1,List.drop_eq_getElem_cons hjl,Hs.climb]
   unfold stepUp
   rw [e1,e2,show d+(j+1)=d+j+1 from by omega]
   by_cases hb:bitAt key (d+j)=0
   · rw [if_pos hb,hb,if_pos (show ((0:Int)==0)=true from rfl)]
   · rw [if_neg hb,if_neg (by simpa using hb)]
theorem foldUp_all (key:Tx) (d:Nat) (x0:Tx) (bs:List Tx) (h:bs.length<=128/\∀ s∈bs,s.length<=1000):foldUp key d x0 (uptoI (backItem bs h) bs.length)=hs.climb key bs d x0:=by
 rw [foldUp_back key d x0 bs h bs.length (Nat.le_refl _),Nat.sub_self,List.drop_zero,Nat.add_zero]
theorem keyrow_lt {w:World} {a:Option Addr} {c:Nat} {bs:List Tx} (h:Keyrow w a c bs) (hne:0<bs.length):∀ g o,a=some ⟨g,o,none⟩->g<w.heap.size:=by
 intro g o e
 obtain ⟨g',o',e',hg,_⟩:=h.cell 0 hne
 rw [e] at e'
 injection e' with e'
 injection e' with e1 e2
 omega
theorem pclimb_any (v:Value) (p:Pf) (x key:Tx) (d:Nat) (w:World) (hv:PfAt w v p) (hbs:p.beside.length<=128/\∀ s∈p.beside,s.length<=1000) (hx:x.length<=1000) (hk:key.length=16) (hd:d<=128) (hK:Kon w) :
 Calls Tryz.prog 95 #[v,.string ⟨x.toArray⟩,.string ⟨key.toArray⟩,.int .i64 (d:Int)] w fun e w'=>e=.returned (.string ⟨(hs.climb key p.beside d x).toArray⟩)/\Below w.heap.size w w':=by
 obtain ⟨a,c,rfl,hrow⟩:=hv
 obtain ⟨bs,there,pk,pv⟩:=p
 dsimp only at *
 rw [<-foldUp_all key d x bs hbs]
 obtain ⟨len,hlen⟩:∃ len,bs.length=len:=⟨_,rfl⟩
 rw [hlen]
 refine (callsIn_wide (n:=5)).1 ?_
 have h1:1<=5:=by decide
 refine callsIn_of_wp_marks Tryz.func95 rfl trivial ?_ rfl
 simp only [Tryz.ntmps95,List.size_toArray,List.length_cons,List.length_nil,Nat.reduceAdd,Nat.reduceSub,Array.replicate_succ,Array.replicate_zero,List.push_toArray,List.append_toArray,List.nil_append,List.cons_append]
 gi_wp2_with fail
 obtain ⟨W,hW⟩:∃ W,W=(((w.alloc (.cells #[.slice a len c,.bool there,.string ⟨pk.toArray⟩,.string ⟨pv.toArray⟩] 51)).alloc (.cells #[.string ⟨x.toArray⟩] 9)).alloc (.cells #[.string ⟨key.toArray⟩] 9)).alloc (.cells #[.int .i64 (d:Int)] 3):=⟨_,rfl⟩
 have hB0:Below w.heap.size w W:=by rw [hW];exact ((((Below.refl _ w).alloc (Nat.le_refl _) _).alloc (by simp) _).alloc (by simp;omega) _).alloc (by simp;omega) _
 have hsz:W.heap.size=w.heap.size+4:=by rw [hW];simp
 have bX:Boxed W (w.heap.size+1) 9 (.string ⟨x.toArray⟩):=by
  have:=((Boxed.new (w.alloc (.cells #[.slice a len c,.bool there,.string ⟨pk.toArray⟩,.string ⟨pv.toArray⟩] 51)) 9 (.string ⟨x.toArray⟩)).alloc (.cells #[.string ⟨key.toArray⟩] 9)).alloc (.cells #[.int .i64 (d:Int)] 3)
  rw [<-hW] at this
  simpa using this
 have bK:Boxed W (w.heap.size+1+1) 9 (.string ⟨key.toArray⟩):=by
  have:=(Boxed.new ((w.alloc (.cells #[.slice a len c,.bool there,.string ⟨pk.toArray⟩,.string ⟨pv.toArray⟩] 51)).alloc (.cells #[.string ⟨x.toArray⟩] 9)) 9 (.string ⟨key.toArray⟩)).alloc (.cells #[.int .i64 (d:Int)] 3)
  rw [<-hW] at this
  simpa using this
 have bD:Boxed W (w.heap.size+1+1+1) 3 (.int .i64 (d:Int)):=by
  have:=Boxed.new (((w.alloc (.cells #[.slice a len c,.bool there,.string ⟨pk.toArray⟩,.string ⟨pv.toArray⟩] 51)).alloc (.cells #[.string ⟨x.toArray⟩] 9)).alloc (.cells #[.string ⟨key.toArray⟩] 9)) 3 (.int .i64 (d:Int))
  rw [<-hW] at this
  simpa using this
 rw [<-hW]
 clear hW
 have hltw:=fun h=>keyrow_lt hrow h
 have hrow0:=hrow.old hB0
 refine ⟨trivial,(backs_in Fence.wide 4 trivial rfl a len c W).mono ?_⟩
 rintro e w2 ⟨rfl,rfl⟩
 have bN:=Boxed.new W 31 (.slice a len c)
 have hBW:Below W.heap.size W (W.alloc (.cells #[.slice a len c] 31)):=(Below.refl _ W).alloc (Nat.le_refl _) _
 have hB1:=hB0.trans (hBW.mono hB0.size)
 have hsz1:(W.alloc (.cells #[.slice a len c] 31)).heap.size=w.heap.size+5:=by simp;omega
 have bX1:=bX.alloc (.cells #[.slice a len c] 31)
 have bK1:=bK.alloc (.cells #[.slice a len c] 31)
 have bD1:=bD.alloc (.cells #[.slice a len c] 31)
 have hrow1:=hrow0.old hBW
 rw [hsz] at bN |-
 generalize W.alloc (.cells #[.slice a len c] 31)=W1 at bN hB1 hsz1 bX1 bK1 bD1 hrow1 |-
 clear bX bK bD hrow0 hBW hB0 hrow
 gi_wp2_with fail
 · refine wpIn_rangeFunc_ownF rfl h1 (gf:=194) (lb:=#[.pointer (some ⟨w.heap.size+4,0,none⟩)]) rfl trivial (enters_of Tryz.func194 (by kernel_rfl) rfl)
    (backs_stops Fence.wide 4 trivial rfl (by decide) (w.heap.size+4) (w.heap.size+1) (w.heap.size+5) a c len bs hbs hlen W1 (by omega) (by omega) (by omega) bN.cell hrow1 (fun h g o e=>by have:=hltw (by omega) g o e;omega)) kpT_t (kpT_b (by omega)) (Below.refl _ _) (fun _=>rfl)
    (fun pre W=>(W.cell? ⟨w.heap.size+1,0,none⟩=some (.string ⟨(foldUp key d x pre).toArray⟩)/\W.frozen? ⟨w.heap.size+1,0,none⟩=false/\W.cell? ⟨w.heap.size+1+1,0,none⟩=some (.string ⟨key.toArray⟩)/\W.cell? ⟨w.heap.size+1+1+1,0,none⟩=some (.int .i64 (d:Int)))/\Below w.heap.size w W)
    (fun _ _ _=>False)
    (OwnFrom.and (Own.from (fun s A B row hs hg hr=>⟨cell_kept hs.1 hg hr,(frozen_kept hs.1 hg hr).trans hs.2.1,cell_kept hs.2.2.1 hg hr,cell_kept hs.2.2.2 hg hr⟩) _) (ownFrom_below (Nat.le_refl _) (by omega)))
    (fun _ _ _ _ _ hs _ _=>hs)
    ⟨⟨bX1.cell,bX1.frozen,bK1.cell,bD1.cell⟩,hB1⟩
    (fun q=>{ tmps:=#[.agg #[.slice a len c,.bool there,.string ⟨pk.toArray⟩,.string ⟨pv.toArray⟩],.string ⟨x.toArray⟩,.string ⟨key.toArray⟩,.int .i64 (d:Int),.pointer (some ⟨w.heap.size,0,none⟩),.pointer (some ⟨w.heap.size+1,0,none⟩),.pointer (some ⟨w.heap.size+1+1,0,none⟩),.pointer (some ⟨w.heap.size+1+1+1,0,none⟩),.string ⟨#[]⟩,.int .i64 (q.1.1:Int),.string ⟨q.1.2.toArray⟩,.pointer (some ⟨w.heap.size,0,none⟩),.slice a len c,.func (.func 194) #[] #[.pointer (some ⟨w.heap.size+4,0,none⟩)],.int .i64 (q.1.1:Int),.string ⟨q.1.2.toArray⟩,undef,undef,undef,undef,undef,undef,undef,undef,undef,undef,undef,undef,undef],defers:=[] }) ?assign ?body ?done ?stop
   case assign=>
    intro l q W K hK
    unfold encI
    gi_wp2
    exact hK
   case stop=>rintro D c pre W _ _ h;exact h.elim
   case done=>
    rintro D ys W hD rfl ⟨⟨hc,_⟩,hB⟩ hK
    gi_wp2
    refine ⟨by simp,.inl ⟨_,_,rfl,run_takeDeferred hK,?_⟩⟩
    exact ⟨_,results_tmp rfl _ _ _,rfl,hB.trans (belowK_b (w:=w) (Nat.le_refl _) W D _ _ (by omega) hK rfl rfl)⟩
   case body=>
    rintro l pre ⟨⟨i,t⟩,hi,ht⟩ W ⟨⟨hc,hf,hck,hcd⟩,hB⟩ _
    dsimp only at *
    have Hfold:=Lib.hid (foldUp_snoc key d x pre ⟨(i,t),hi,ht⟩)
    have hle:=foldUp_le key d x pre hx
    unfold stepUp at Hfold
    dsimp only at Hfold
    generalize foldUp key d x pre=y at hc hle Hfold
    have ht':t.length<=1000:=ht
    have hi':i<128:=hi
    have hKW:Kon W:=hK.old hB
    have hlW:=hB.size
    have hw:wrap64 ((d:Int)+i)=(d:Int)+i:=IntWalk.wrap64_in _ (by omega)
    have hbit:=bit_any ⟨key.toArray⟩ ((d:Int)+i) W (by show key.toArray.size<=_;rw [List.size_toArray];omega)
    have eb:bitI (ByteArray.mk key.toArray).data.toList ((d:Int)+i)=bitAt key (d+i):=by
     rw [show (d:Int)+i=((d+i:Nat):Int) from by omega,bitI_nat]
    rw [eb] at hbit
    have hj0:=Lib.hid (join_any y t W (by omega) (by omega) hKW)
    have hj1:=Lib.hid (join_any t y W (by omega) (by omega) hKW)
    have hlx:=World.block_lt_of_cell? W _ hc
    have hlk:=World.block_lt_of_cell? W _ hck
    have hld:=World.block_lt_of_cell? W _ hcd
    have fin:Hid (∀ (J:Tx) (W':World),Below W.heap.size W W'->foldUp key d x (pre++[⟨(i,t),hi,ht⟩])=J ->
     KeepsOthers W (W'.setCell ⟨w.heap.size+1,0,none⟩ (.string ⟨J.toArray⟩))/\KpT (w.heap.size+1) (w.heap.size+5) W (W'.setCell ⟨w.heap.size+1,0,none⟩ (.string ⟨J.toArray⟩)) /\
     (((W'.setCell ⟨w.heap.size+1,0,none⟩ (.string ⟨J.toArray⟩)).cell? ⟨w.heap.size+1,0,none⟩=some (.string ⟨(foldUp key d x (pre++[⟨(i,t),hi,ht⟩])).toArray⟩)/\(W'.setCell ⟨w.heap.size+1,0,none⟩ (.string ⟨J.toArray⟩)).frozen? ⟨w.heap.size+1,0,none⟩=false/\(W'.setCell ⟨w.heap.size+1,0,none⟩ (.string ⟨J.toArray⟩)).cell? ⟨w.heap.size+1+1,0,none⟩=some (.string ⟨key.toArray⟩)/\(W'.setCell ⟨w.heap.size+1,0,none⟩ (.string ⟨J.toArray⟩)).cell? ⟨w.heap.size+1+1+1,0,none⟩=some (.int .i64 (d:Int)))/\Below w.heap.size w (W'.setCell ⟨w.heap.size+1,0,none⟩ (.string ⟨J.toArray⟩)))):=Lib.hid (by
     intro J W' hb eJ
     have c1:=(hb.cell (p:=⟨w.heap.size+1,0,none⟩) hlx).trans hc
     refine ⟨(KeepsOthers.trans ⟨hb.size,fun k o hk _=>(hb.block k (Array.getElem?_eq_some_iff.1 hk).1).trans hk⟩ (KeepsOthers.setCell _ _ _)),(Touch.of_below hb _).trans (Touch.setCell (S:=fun k=>k=w.heap.size+1\/w.heap.size+5<=k) W' ⟨w.heap.size+1,0,none⟩ _ (.inl rfl)),⟨?_,?_,?_,?_⟩,(hB.trans (hb.mono hlW)).setCell (p:=⟨w.heap.size+1,0,none⟩) (Nat.le_succ _) _⟩
     · rw [eJ];exact World.cell?_setCell_same' _ _ _ (by rw [c1];rfl)
     · rw [World.frozen?_setCell,hb.frozen (p:=⟨w.heap.size+1,0,none⟩) hlx];exact hf
     · rw [World.cell?_setCell_other (a:=⟨w.heap.size+1,0,none⟩) (b:=⟨w.heap.size+1+1,0,none⟩) (h:=by intro h;injection h with h;omega)]
       exact (hb.cell (p:=⟨w.heap.size+1+1,0,none⟩) hlk).trans hck
     · rw [World.cell?_setCell_other (a:=⟨w.heap.size+1,0,none⟩) (b:=⟨w.heap.size+1+1+1,0,none⟩) (h:=by intro h;injection h with h;omega)]
       exact (hb.cell (p:=⟨w.heap.size+1+1+1,0,none⟩) hld).trans hcd)
    have hkeepc:=Lib.hid (fun (W':World) (hb:Below W.heap.size W W')=>And.intro ((hb.cell (p:=⟨w.heap.size+1,0,none⟩) hlx).trans hc) ((hb.frozen (p:=⟨w.heap.size+1,0,none⟩) hlx).trans hf))
    have hc0:(bitAt key (d+i)=0/\Hid (foldUp key d x (pre++[⟨(i,t),hi,ht⟩])=hs.jn y t))\/(bitAt key (d+i)=1/\Hid (foldUp key d x (pre++[⟨(i,t),hi,ht⟩])=hs.jn t y)):=by
     rcases bit_cases key (d+i) with e | e
     · exact .inl ⟨e,Lib.hid (by rw [Hfold.out,if_pos e])⟩
     · exact .inr ⟨e,Lib.hid (by rw [Hfold.out,if_neg (by rw [e];decide)])⟩
    clear Hfold hlx hlk hld eb
    generalize bitAt key (d+i)=bt at hbit hc0
    generalize hs.jn y t=J0 at hj0 hc0
    generalize hs.jn t y=J1 at hj1 hc0
    gi_wp2_with fail
    refine ⟨trivial,?_⟩
    refine (callsIn_wide.2 hbit).mono ?_
    rintro e w' ⟨rfl,rfl⟩
    rcases hc0 with ⟨rfl,hF⟩ | ⟨rfl,hF⟩
    · gi_wp2_with fail
      refine ⟨trivial,?_⟩
      refine (callsIn_wide.2 hj0.out).mono ?_
      rintro e w3 ⟨rfl,hb3⟩
      obtain ⟨k1,k2⟩:=hkeepc.out w3 hb3
      have f1:=Lib.hid (fin.out _ w3 hb3 hF.out)
      gi_wp2
      exact f1.out
    · gi_wp2_with fail
      refine ⟨trivial,?_⟩
      refine (callsIn_wide.2 hj1.out).mono ?_
      rintro e w3 ⟨rfl,hb3⟩
      obtain ⟨k1,k2⟩:=hkeepc.out w3 hb3
      have f1:=Lib.hid (fin.out _ w3 hb3 hF.out)
      gi_wp2
      exact f1.out
end Go.Proofs.YtcgkomafaepjnaaGreatDoor
namespace Go.Proofs.YtcgkomafaepjnaaGreatDoor
open Go.RowKit
theorem okNode_le (s:Tx) (h:okNode s=true):s.length<=1000:=by
 unfold okNode at h
 rcases Bool.or_eq_true _ _ ▸ h with e | e
 · have:s=emp:=by simpa using e
   rw [this];decide
 · rw [Bool.and_eq_true] at e
   have:s.length=17:=by simpa using e.1
   omega
theorem IsGood.small {p:Pf} {key:Tx} {d:Nat} (h:IsGood p key d):p.beside.length<=128/\∀ s∈p.beside,s.length<=1000:=
 ⟨by have:=h.room;omega,fun s hs=>okNode_le s (h.nodes s hs)⟩
theorem IsGood.dep {p:Pf} {key:Tx} {d:Nat} (h:IsGood p key d):d<=128:=by have:=h.room;omega
theorem IsGood.klen {p:Pf} {key:Tx} {d:Nat} (h:IsGood p key d):p.key.length<=16:=by
 cases ht:p.there with
 | false=>rw [(h.none ht).1];decide
 | true=>rw [(h.some ht).1];exact Nat.le_refl _
theorem pnd_any (v:Value) (p:Pf) (key:Tx) (d:Nat) (w:World) (hv:PfAt w v p) (hg:IsGood p key d) (hval:p.val.length<=1000) (hK:Kon w) :
 Calls Tryz.prog 49 #[v,.string ⟨key.toArray⟩,.int .i64 (d:Int)] w fun e w'=>e=.returned (.string ⟨(hs.climb key p.beside d (hs.foot p)).toArray⟩)/\Below w.heap.size w w':=by
 have hgood:=Lib.hid (fun (W:World) (hb:Below w.heap.size w W)=>pgood_any v p key d W (hv.old hb) hg)
 have hclimb:=Lib.hid (fun (W:World) (hb:Below w.heap.size w W)=>pclimb_any v p (hs.foot p) key d W (hv.old hb) hg.small (by
  unfold Hs.foot;split
  · show (lfOf p.key p.val).length<=1000
    rw [lfOf_length];decide
  · decide) hg.len hg.dep (hK.old hb))
 have hkl:=hg.klen
 obtain ⟨a,c,rfl,hrow⟩:=hv
 obtain ⟨bs,there,pk,pv⟩:=p
 dsimp only at *
 have hleaf:=Lib.hid (fun (W:World) (hb:Below w.heap.size w W)=>lfnode_any pk pv W (by omega) (by omega) (hK.old hb))
 clear hg hrow hK hval hkl
 generalize bs.length=len at hgood hclimb |-
 obtain ⟨W0,hW0⟩:∃ W0,W0=w.alloc (.cells #[.slice a len c,.bool there,.string ⟨pk.toArray⟩,.string ⟨pv.toArray⟩] 51):=⟨_,rfl⟩
 have hB0:Below w.heap.size w W0:=by rw [hW0];exact (Below.refl _ _).alloc (Nat.le_refl _) _
 have hl0:w.heap.size<W0.heap.size:=by rw [hW0];simp
 have hrow0:W0.heap[w.heap.size]?=some (.cells #[.slice a len c,.bool there,.string ⟨pk.toArray⟩,.string ⟨pv.toArray⟩] 51 (0,0)):=by rw [hW0];exact heap_alloc_new _ _
 have HC:=Lib.hid (fun (W:World) (hb:Below W0.heap.size W0 W)=>four_of_cells ((hb.block _ hl0).trans hrow0))
 have HB0:=Lib.hid hB0
 obtain ⟨x0,x1,x2,x3⟩:=HC.out W0 (Below.refl _ _)
 clear hB0 hrow0
 cases there
 · have e:hs.foot ⟨bs,false,pk,pv⟩=emp:=rfl
   rw [e] at hclimb |-
   generalize hs.climb key bs d emp=N at hclimb |-
   clear hleaf
   go_enter Tryz.func49,Tryz.ntmps49
   go_wp2_with fail
   rw [<-hW0]
   refine (hgood.out W0 HB0.out).mono ?_
   rintro e w1 ⟨rfl,hB1⟩
   obtain ⟨y0,y1,y2,y3⟩:=HC.out w1 hB1
   have hBw:=HB0.out.trans (hB1.mono HB0.out.size)
   have hc1:=hclimb.out w1 hBw
   clear hgood hclimb x0 x1 x2 x3 hW0
   go_wp2_with fail
   refine hc1.mono ?_
   rintro e w2 ⟨rfl,hB2⟩
   go_wp2
   go_ret
   exact ⟨rfl,hBw.trans (hB2.mono hBw.size)⟩
 · have e:hs.foot ⟨bs,true,pk,pv⟩=lfOf pk pv:=rfl
   rw [e] at hclimb |-
   generalize hs.climb key bs d (lfOf pk pv)=N at hclimb |-
   generalize lfOf pk pv=L at hclimb hleaf
   go_enter Tryz.func49,Tryz.ntmps49
   go_wp2_with fail
   rw [<-hW0]
   refine (hgood.out W0 HB0.out).mono ?_
   rintro e w1 ⟨rfl,hB1⟩
   obtain ⟨y0,y1,y2,y3⟩:=HC.out w1 hB1
   have hBw:=HB0.out.trans (hB1.mono HB0.out.size)
   have hl1:=hleaf.out w1 hBw
   clear hgood hleaf x0 x1 x2 x3 hW0
   go_wp2_with fail
   refine hl1.mono ?_
   rintro e w2 ⟨rfl,hB2⟩
   have hB12:=hB1.trans (hB2.mono hB1.size)
   have hBw2:=hBw.trans (hB2.mono hBw.size)
   obtain ⟨z0,z1,z2,z3⟩:=HC.out w2 hB12
   have hc1:=hclimb.out w2 hBw2
   clear hclimb y0 y1 y2 y3 hl1
   go_wp2_with fail
   refine hc1.mono ?_
   rintro e w3 ⟨rfl,hB3⟩
   go_wp2
   go_ret
   exact ⟨rfl,hBw2.trans (hB3.mono hBw2.size)⟩
theorem phas_any (v:Value) (p:Pf) (key:Tx) (d:Nat) (w:World) (hv:PfAt w v p) (hg:IsGood p key d) (hval:p.val.length<=1000) (hK:Kon w) (ht:p.there=true) (hk:p.key=key) :
 Calls Tryz.prog 20 #[v,.string ⟨(hs.climb key p.beside d (hs.foot p)).toArray⟩,.string ⟨key.toArray⟩,.string ⟨p.val.toArray⟩,.int .i64 (d:Int)] w fun e w'=>e=.returned (.bool true)/\Below w.heap.size w w':=by
 have hgood:=Lib.hid (fun (W:World) (hb:Below w.heap.size w W)=>pgood_any v p key d W (hv.old hb) hg)
 have hnode:=Lib.hid (fun (W:World) (hb:Below w.heap.size w W)=>pnd_any v p key d W (hv.old hb) hg hval (hK.old hb))
 obtain ⟨a,c,rfl,hrow⟩:=hv
 obtain ⟨bs,there,pk,pv⟩:=p
 dsimp only at *
 subst ht hk
 clear hg hrow hK hval
 generalize hs.climb pk bs d (hs.foot ⟨bs,true,pk,pv⟩)=N at hnode |-
 generalize bs.length=len at hgood hnode |-
 obtain ⟨W0,hW0⟩:∃ W0,W0=w.alloc (.cells #[.slice a len c,.bool true,.string ⟨pk.toArray⟩,.string ⟨pv.toArray⟩] 51):=⟨_,rfl⟩
 have hB0:Below w.heap.size w W0:=by rw [hW0];exact (Below.refl _ _).alloc (Nat.le_refl _) _
 have hl0:w.heap.size<W0.heap.size:=by rw [hW0];simp
 have hrow0:W0.heap[w.heap.size]?=some (.cells #[.slice a len c,.bool true,.string ⟨pk.toArray⟩,.string ⟨pv.toArray⟩] 51 (0,0)):=by rw [hW0];exact heap_alloc_new _ _
 have HC:=Lib.hid (fun (W:World) (hb:Below W0.heap.size W0 W)=>four_of_cells ((hb.block _ hl0).trans hrow0))
 have HB0:=Lib.hid hB0
 obtain ⟨x0,x1,x2,x3⟩:=HC.out W0 (Below.refl _ _)
 clear hB0 hrow0
 go_enter Tryz.func20,Tryz.ntmps20
 go_wp2_with fail
 rw [<-hW0]
 refine (hgood.out W0 HB0.out).mono ?_
 rintro e w1 ⟨rfl,hB1⟩
 obtain ⟨y0,y1,y2,y3⟩:=HC.out w1 hB1
 have hBw:=HB0.out.trans (hB1.mono HB0.out.size)
 have hn1:=hnode.out w1 hBw
 clear hgood hnode x0 x1 x2 x3 hW0
 go_wp2_with fail
 refine hn1.mono ?_
 rintro e w2 ⟨rfl,hB2⟩
 go_wp2
 go_ret
 exact ⟨by simp,hBw.trans (hB2.mono hBw.size)⟩
def pubV (o r:List UInt8):Value:=.agg #[.string ⟨o.toArray⟩,.string ⟨r.toArray⟩,.int .i64 0]
theorem xpublic_any (b:Nat) (seed:List UInt8) (w:World) (hk:KeyAt w b seed) :
 Calls Tryz.prog 63 #[.pointer (some ⟨b,0,none⟩)] w fun e w'=>e=.returned (pubV (openOf seed) (pubKey seed 0))/\Below w.heap.size w w':=by
 obtain ⟨g,c,hk,hg,hc⟩:=hk
 have hlt:b<w.heap.size:=(Array.getElem?_eq_some_iff.1 hk).1
 have x1:∀ o,(w.alloc o).cell? ⟨b,1,none⟩=some (.string ⟨(openOf seed).toArray⟩):=fun o=>by
  rw [((Below.refl w.heap.size w).alloc (Nat.le_refl _) o).cell (p:=⟨b,1,none⟩) hlt,cell_of_row _ _ 1 _ _ _ hk];rfl
 have x2:∀ o,(w.alloc o).cell? ⟨b,2,none⟩=some (.string ⟨(pubKey seed 0).toArray⟩):=fun o=>by
  rw [((Below.refl w.heap.size w).alloc (Nat.le_refl _) o).cell (p:=⟨b,2,none⟩) hlt,cell_of_row _ _ 2 _ _ _ hk];rfl
 have x3:∀ o,(w.alloc o).cell? ⟨b,3,none⟩=some (.int .i64 0):=fun o=>by
  rw [((Below.refl w.heap.size w).alloc (Nat.le_refl _) o).cell (p:=⟨b,3,none⟩) hlt,cell_of_row _ _ 3 _ _ _ hk];rfl
 clear hk hc
 generalize openOf seed=o at x1 |-
 generalize pubKey seed 0=r at x2 |-
 go_enter Tryz.func63,Tryz.ntmps63
 go_wp2
 refine bodyPost_ret (results_cell_row rfl _ _ w.heap.size 88 #[.string ⟨o.toArray⟩,.string ⟨r.toArray⟩,.int .i64 0] (0,0) _ rfl (heap_alloc_new _ _) Tryz.underlying88 rfl (by kernel_rfl)) rfl ?_
 exact ⟨rfl,(Below.refl _ _).alloc (Nat.le_refl _) _⟩
theorem xcount_any (b:Nat) (seed:List UInt8) (w:World) (hk:KeyAt w b seed) :
 Calls Tryz.prog 130 #[.pointer (some ⟨b,0,none⟩)] w fun e w'=>e=.returned (.int .i64 1)/\w=w':=by
 obtain ⟨g,c,hk,hg,hc⟩:=hk
 have x4:w.cell? ⟨b,4,none⟩=some (.slice (some ⟨g,0,none⟩) 1 c):=cel hk
 clear hk hc
 go_enter Tryz.func130,Tryz.ntmps130
 go_wp2
 go_ret
 exact ⟨rfl,rfl⟩
def digestOf (o:List UInt8) (m:List UInt8):List UInt8:=tagOf 6 [o,[0,0,0,0],m]
theorem digest_any (o m:ByteArray) (w:World) (ho:o.size<=1000) (hm:m.size<=1000) (hK:Kon w) :
 Calls Tryz.prog 132 #[.string o,.int .i64 0,.string m] w fun e w'=>e=.returned (.string ⟨(digestOf o.data.toList m.data.toList).toArray⟩)/\Below w.heap.size w w':=by
 have HK:=Lib.hid hK
 have hst:∀ W:World,(convert 58 9 (.slice (some ⟨W.heap.size,0,none⟩) 4 4)).run Tryz.prog (W.alloc (.cells #[.int .u8 0,.int .u8 0,.int .u8 0,.int .u8 0] 5))=.ok (.string ⟨#[0,0,0,0]⟩) (W.alloc (.cells #[.int .u8 0,.int .u8 0,.int .u8 0,.int .u8 0] 5)):=by
  intro W
  have e:(#[.int .u8 0,.int .u8 0,.int .u8 0,.int .u8 0]:Array Value)=(bytesV [0,0,0,0]).toArray:=rfl
  rw [e]
  exact run_string_block Tryz.underlying58 Tryz.underlying5 Tryz.underlying9 (heap_alloc_new W _) rfl
 have hb1:Below w.heap.size w (w.alloc (.cells #[.int .u8 0,.int .u8 0,.int .u8 0,.int .u8 0] 5)):=(Below.refl _ _).alloc (Nat.le_refl _) _
 have hT0:=tagged_new 6 [o,⟨#[0,0,0,0]⟩,m] 3 rfl (w.alloc (.cells #[.int .u8 0,.int .u8 0,.int .u8 0,.int .u8 0] 5)) (by decide) (by decide) (by rw [tagIn_len];simp;omega) (HK.out.old hb1)
 rw [show ([o,⟨#[0,0,0,0]⟩,m].map (·.data.toList))=[o.data.toList,[0,0,0,0],m.data.toList] from rfl,show (w.alloc (.cells #[.int .u8 0,.int .u8 0,.int .u8 0,.int .u8 0] 5)).heap.size=w.heap.size+1 from by simp] at hT0
 have hT:=Lib.hid hT0
 have hD:digestOf o.data.toList m.data.toList=tagOf 6 [o.data.toList,[0,0,0,0],m.data.toList]:=rfl
 rw [<-hD] at hT
 clear hT0 hD
 generalize digestOf o.data.toList m.data.toList=D at hT |-
 clear hK
 go_enter Tryz.func132,Tryz.ntmps132
 go_wp2_with fail
 refine hT.out.mono ?_
 rintro e w' ⟨rfl,hb⟩
 go_wp2
 go_ret
 exact ⟨rfl,hb1.trans (hb.mono (Nat.le_succ _))⟩
theorem results_pair_row {fn:Func} {p u:Tmp} {ty:TypeId} (h:fn.results=#[.cell p ty,.tmp u]) (tmps:Array Value) (w:World) (g:Nat) (cs:Array Value)
 (hp:tmps.getD p undef=.pointer (some ⟨g,0,none⟩)) (hl:(loadVar ty ⟨g,0,none⟩).run Tryz.prog w=.ok (.agg cs) w) :
 (results fn tmps).run Tryz.prog w=.ok (.tuple #[.agg cs,tmps.getD u undef]) w:=by
 rw [results_cell_tmp h,hp]
 simp [asAddr,hl,Result.andThen]
theorem keepG {W W':World} {b i j:Nat} {x y:Value} (h:W.cell? ⟨b,i,none⟩=some x) (h':W.cell? ⟨b,j,none⟩=some y) (hb:Below W.heap.size W W') (hlt:b<W.heap.size):W'.cell? ⟨b,i,none⟩=some x/\W'.cell? ⟨b,j,none⟩=some y/\Below W.heap.size W W':=
 ⟨(hb.cell (p:=⟨b,i,none⟩) hlt).trans h,(hb.cell (p:=⟨b,j,none⟩) hlt).trans h',hb⟩
def SigAt (w:World) (v:Value) (seed m:List UInt8):Prop:=
 ∃ a c,v=.agg #[.int .i64 0,.slice a 35 c,.slice none 0 0]/\Cells w (.slice a 35 c) (txs (sigOf seed 0 (digs (digestOf (openOf seed) m)) 35))
theorem xsign_any (b:Nat) (seed:List UInt8) (m:ByteArray) (w:World) (hk:KeyAt w b seed) (hs:seed.length<=1000) (hm:m.size<=1000) (hK:Kon w) :
 Calls Tryz.prog 75 #[.pointer (some ⟨b,0,none⟩),.int .i64 0,.string m] w fun e w'=>∃ v,e=.returned (.tuple #[v,.int .i64 0])/\SigAt w' v seed m.data.toList/\Below w.heap.size w w':=by
 have HK:=Lib.hid hK
 have HKey:=Lib.hid hk
 clear hK hk
 go_enter Tryz.func75,Tryz.ntmps75
 go_wp2_with fail
 have hb1:Below w.heap.size w (w.alloc (.cells #[.int .i64 0,.slice none 0 0,.slice none 0 0] 84)):=(Below.refl _ _).alloc (Nat.le_refl _) _
 have hr1:(w.alloc (.cells #[.int .i64 0,.slice none 0 0,.slice none 0 0] 84)).heap[w.heap.size]?=some (.cells #[.int .i64 0,.slice none 0 0,.slice none 0 0] 84 (0,0)):=heap_alloc_new _ _
 generalize (w.alloc (.cells #[.int .i64 0,.slice none 0 0,.slice none 0 0] 84))=W1 at hb1 hr1 |-
 obtain ⟨g,c,hk,hg,hc⟩:=HKey.out
 have hlt:b<w.heap.size:=(Array.getElem?_eq_some_iff.1 hk).1
 have hk1:=(hb1.block b hlt).trans hk
 have hKey1:KeyAt W1 b seed:=⟨g,c,hk1,Nat.lt_of_lt_of_le hg hb1.size,(hb1.cell (p:=⟨g,0,none⟩) hg).trans hc⟩
 refine (xcount_any b seed W1 hKey1).mono ?_
 rintro e w' ⟨rfl,rfl⟩
 have x0:W1.cell? ⟨b,0,none⟩=some (.string ⟨seed.toArray⟩):=cel hk1
 have x1:W1.cell? ⟨b,1,none⟩=some (.string ⟨(openOf seed).toArray⟩):=cel hk1
 have x4:W1.cell? ⟨b,4,none⟩=some (.slice (some ⟨g,0,none⟩) 1 c):=cel hk1
 have hol:=openOf_length seed
 have hK1:=HK.out.old hb1
 go_wp2_with fail
 have hlt1:b<W1.heap.size:=Nat.lt_of_lt_of_le hlt hb1.size
 have sw1:=hb1.size
 have hdig:=digest_any ⟨(openOf seed).toArray⟩ m W1.drew (by show (openOf seed).toArray.size<=1000;simp [hol]) hm (hK1.old (below_drew W1))
 have hdl:∀ x:List UInt8,(ByteArray.mk (digestOf (openOf seed) m.data.toList).toArray).size=16:=fun _=>by show (digestOf (openOf seed) m.data.toList).toArray.size=16;simp [digestOf,tagOf_length]
 have hsig:=Lib.hid (fun (w5:World) (hb5:Below W1.drew.heap.size W1.drew w5)=>wsign_any ⟨seed.toArray⟩ ⟨(digestOf (openOf seed) m.data.toList).toArray⟩ 0 w5 (by show seed.toArray.size<=1000;simpa using hs) (hdl []) (by decide) (hK1.old (below_call hb5)))
 have hS0:=Lib.hid (keepG x0 x1 (below_drew W1) hlt1)
 have hS1:=Lib.hid (fun w5 (hb5:Below W1.drew.heap.size W1.drew w5)=>keepG x0 x1 (below_call hb5) hlt1)
 have hS2:=Lib.hid (fun w5 w6 (hb5:Below W1.drew.heap.size W1.drew w5) (hb6:Below w5.heap.size w5 w6)=>keepG (W':=w6) x0 x1 ((below_call hb5).trans (hb6.mono (below_call hb5).size)) hlt1)
 clear hdl
 go_region_held3 (fun W=>W.cell? ⟨b,0,none⟩=some (.string ⟨seed.toArray⟩)/\W.cell? ⟨b,1,none⟩=some (.string ⟨(openOf seed).toArray⟩)/\Below W1.heap.size W1 W) (first | exact hS0.out | exact hS2.out _ _ (by assumption) (by assumption) | exact hS1.out _ (by assumption)) (first | (go_at_call 132;refine hdig.mono ?_;rintro r w5 ⟨rfl,hb5⟩) | (go_at_call 131;refine (hsig.out _ (by assumption)).mono ?_;rintro r w6 ⟨vs,rfl,ho6,hb6⟩))
 have hb6s:=hb6.size
 have hb6':=(below_call hb5).trans (hb6.mono (below_call hb5).size)
 have hr6:=(hb6'.block w.heap.size (Array.getElem?_eq_some_iff.1 hr1).1).trans hr1
 have y4:w6.cell? ⟨b,4,none⟩=some (.slice (some ⟨g,0,none⟩) 1 c):=(hb6'.cell (p:=⟨b,4,none⟩) hlt1).trans x4
 have HC:=Lib.hid (cells_of_own ho6)
 have hbs:∀ j,(Value.ownBlock vs)=some j->w5.heap.size<=j:=fun j hj=>(ho6.lt j hj).1
 obtain ⟨av,cv,rfl⟩:=own_slice ho6
 have q0:w6.cell? ⟨w.heap.size,0,none⟩=some (.int .i64 0):=cel hr6
 have q1:w6.cell? ⟨w.heap.size,1,none⟩=some (.slice none 0 0):=cel hr6
 have q2:w6.cell? ⟨w.heap.size,2,none⟩=some (.slice none 0 0):=cel hr6
 have f0:w6.frozen? ⟨w.heap.size,0,none⟩=false:=frozen_of_row _ _ 0 _ _ hr6
 have f1:w6.frozen? ⟨w.heap.size,1,none⟩=false:=frozen_of_row _ _ 1 _ _ hr6
 have f2:w6.frozen? ⟨w.heap.size,2,none⟩=false:=frozen_of_row _ _ 2 _ _ hr6
 have hw5:w.heap.size<w5.heap.size:=Nat.lt_of_lt_of_le (Array.getElem?_eq_some_iff.1 hr1).1 (below_call hb5).size
 have hr7:=heap_setCell_same _ w.heap.size 2 _ _ (.slice none 0 0) (heap_setCell_same _ w.heap.size 1 _ _ (.slice av 35 cv) (heap_setCell_same w6 w.heap.size 0 _ _ (.int .i64 0) hr6))
 clear hdig hsig hS0 hS1 hS2 hb6 hb5 x0 x1 x4 ho6 hKey1 hk1 hk hc
 go_wp2_with fail
 refine (mpath_one (some ⟨g,0,none⟩) c w6).mono ?_
 rintro e w' ⟨rfl,rfl⟩
 go_wp2_with fail
 have hT:Touch (·=w.heap.size) w6 (((w6.setCell ⟨w.heap.size,0,none⟩ (.int .i64 0)).setCell ⟨w.heap.size,1,none⟩ (.slice av 35 cv)).setCell ⟨w.heap.size,2,none⟩ (.slice none 0 0)):=
  ((Touch.setCell (S:=(·=w.heap.size)) w6 ⟨w.heap.size,0,none⟩ _ rfl).trans (Touch.setCell (S:=(·=w.heap.size)) _ ⟨w.heap.size,1,none⟩ _ rfl)).trans (Touch.setCell (S:=(·=w.heap.size)) _ ⟨w.heap.size,2,none⟩ _ rfl)
 generalize (((w6.setCell ⟨w.heap.size,0,none⟩ (.int .i64 0)).setCell ⟨w.heap.size,1,none⟩ (.slice av 35 cv)).setCell ⟨w.heap.size,2,none⟩ (.slice none 0 0))=W8 at hT hr7 |-
 refine bodyPost_ret (results_pair_row rfl _ _ w.heap.size #[.int .i64 0,.slice av 35 cv,.slice none 0 0] rfl (run_loadVar_row W8 w.heap.size 84 84 _ (0,0) _ hr7 Tryz.underlying84 rfl (by kernel_rfl))) rfl ?_
 refine ⟨_,rfl,⟨av,cv,rfl,?_⟩,(hb1.trans (hb6'.mono hb1.size)).trans (hT.below (fun i e=>Nat.le_of_eq e.symm) (Nat.le_of_lt (Nat.lt_of_lt_of_le hw5 (Nat.le_trans hb6s (Nat.le_refl _)))))⟩
 have:=hT.cells HC.out (fun k hk e=>by have:=hbs k hk;omega)
 exact this
end Go.Proofs.YtcgkomafaepjnaaGreatDoor
