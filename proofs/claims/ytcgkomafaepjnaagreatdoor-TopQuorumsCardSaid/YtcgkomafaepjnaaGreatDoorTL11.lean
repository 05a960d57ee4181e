/- Package trans: Make. Conditions: changes of one band, few and short. -/
import Derived.Test.YtcgkomafaepjnaaGreatDoorTL10
set_option maxRecDepth 100000
set_option maxHeartbeats 16000000
namespace Go.Proofs.YtcgkomafaepjnaaGreatDoor
open Go.RowKit
theorem Tryz.infoStep:(Tryz.prog.info? 121).map (fun i=>(i.zero,i.size,i.bytes))=some (some (.agg #[.string .empty,.string .empty,.slice none 0 0,.bool false,.string .empty,.string .empty]),6,96):=by kernel_rfl
theorem encStr_append (l r:List Tx):(l++r).map encStr=l.map encStr++r.map encStr:=List.map_append
theorem make_any (p b:Nat) (m:Puts) (bn d:Nat) (a:Option Addr) (c n:Nat) (cs:Puts) (w:World) (ht:TreeAt w p b m) (hK:Kon w) (hn:cs.length=n) (hr:Chrow w a cs) (hd:d<=3) (hbn:bn<2^d) (hfew:n<=8) (hm:m.length<=100)
 (hcs:∀ q∈cs,q.1.length=16/\q.2.length<=1000/\bandTo q.1 d=bn) :
 Calls Tryz.prog 14 #[.pointer (some ⟨p,0,none⟩),.int .i64 (bn:Int),.int .i64 (d:Int),.slice a n c] w fun e w'=>∃ sa sc l p' b',e=.returned (.tuple #[.agg #[.int .i64 (bn:Int),.int .i64 (d:Int),.string ⟨(hs.at (valOf m) (keysOf m) (firstP bn d) d).toArray⟩,.string ⟨(hs.at (valOf (cs.reverse++m)) (keysOf (cs.reverse++m)) (firstP bn d) d).toArray⟩,.slice sa n sc],.pointer (some ⟨p',0,none⟩),.int .i64 0]) /\
  (∃ R,w'.ownsRow R 121 6 (.slice sa n sc) n (stCells l))/\l.length=n/\(l.map fun s=>(s.k,s.v))=cs/\Chained d m l/\(∀ s∈l,Keyrow w' s.a s.c s.pf.beside)/\TreeAt w' p' b' (cs.reverse++m)/\Below w.heap.size w w'/\w.heap.size<=b'/\w.heap.size<=p':=by
 have hcell:Hid (∀ k,k<n->∃ g o,a=some ⟨g,o,none⟩/\g<w.heap.size/\∃ kk vv:Tx,w.cell? ⟨g,o+k*2,none⟩=some (.string ⟨kk.toArray⟩)/\w.cell? ⟨g,o+k*2+1,none⟩=some (.string ⟨vv.toArray⟩)/\cs.take (k+1)=cs.take k++[(kk,vv)]/\kk.length=16/\vv.length<=1000/\bandTo kk d=bn):=Lib.hid (by
  intro k hk
  obtain ⟨g,o,e,hg,h1,h2⟩:=hr.cell k (by omega)
  have hkl:k<cs.length:=by omega
  have hget:cs.getD k ([],[])=cs[k]:=by rw [List.getD_eq_getElem?_getD,List.getElem?_eq_getElem hkl];rfl
  rw [hget] at h1 h2
  obtain ⟨x1,x2,x3⟩:=hcs cs[k] (List.getElem_mem hkl)
  exact ⟨g,o,e,hg,(cs[k]).1,(cs[k]).2,h1,h2,by rw [List.take_succ_eq_append_getElem hkl],x1,x2,x3⟩)
 have HT:=Lib.hid ht
 have HK:=Lib.hid hK
 obtain ⟨W0,hW0⟩:∃ W0,W0=w.alloc (.cells #[.int .i64 0,.int .i64 0,.string ⟨#[]⟩,.string ⟨#[]⟩,.slice none 0 0] 41):=⟨_,rfl⟩
 have hB0:Below w.heap.size w W0:=by rw [hW0];exact (Below.refl _ _).alloc (Nat.le_refl _) _
 clear ht hK hr
 go_enter Tryz.func14,Tryz.ntmps14
 go_wp2_with fail
 rw [<-hW0]
 go_loopw [11,24] (fun v i W=>∃ k:Nat,k<=n/\i=.int .i64 k/\W.ownsRow W0.heap.size 9 1 v k (((cs.take k).map (·.1)).map encStr)/\Below W0.heap.size W0 W) (fun _ i _=>n - (intOf i).toNat)
 case atStart=>exact ⟨0,Nat.zero_le _,rfl,World.ownsRow_nil _ _ _ _,Below.refl _ _⟩
 case round=>
  obtain ⟨k,hk,rfl,hown,hb⟩:=hrel
  have sz:=hb.size
  have Hown:=Lib.hid hown
  obtain ⟨av,cv,rfl⟩:=own_slice hown
  clear hown
  by_cases hkl:k<n
  · obtain ⟨g,o,rfl,hg,kk,vv,h1,h2,htk,x1,x2,x3⟩:=hcell.out k hkl
    have h1:=((hB0.trans (hb.mono hB0.size)).cell (p:=⟨g,o+k*2,none⟩) hg).trans h1
    have h2:=((hB0.trans (hb.mono hB0.size)).cell (p:=⟨g,o+k*2+1,none⟩) hg).trans h2
    have Htk:=Lib.hid htk
    clear x1 x2 x3 htk
    go_wp2_with (at_builtin;refine Hid.out ?_)
    unfold Hid
    obtain ⟨wa,hwa⟩:∃ wa,wa=wr.alloc (.cells #[.string ⟨kk.toArray⟩,.string ⟨vv.toArray⟩] 38):=⟨_,rfl⟩
    have hBa:Below wr.heap.size wr wa:=by rw [hwa];exact (Below.refl _ _).alloc (Nat.le_refl _) _
    have hba:=hb.trans (hBa.mono sz)
    have hsa:wa.heap.size=wr.heap.size+1:=by rw [hwa];simp
    rw [<-hwa]
    have hown3:wa.ownsRow W0.heap.size 9 1 (.slice av k cv) k (((cs.take k).map (·.1)).map encStr):=(Touch.of_below hBa (fun _=>False)).own Hown.out (fun _ _ h=>h)
    refine wpList_app1 rfl rfl Tryz.underlying31 Tryz.infoStr rfl hown3 rfl (by rw [hsa];rfl) rfl (by omega) (by unfold maxLen;omega) hba.size ?_
    intro v4 w4 ho4 hg4
    have hb4:Below W0.heap.size W0 w4:=hba.grown hg4 hba.size (fun j hj=>(hown3.lt j hj).1)
    have ho4:w4.ownsRow W0.heap.size 9 1 v4 (k+1) (((cs.take (k+1)).map (·.1)).map encStr):=by
     rw [Htk.out,List.map_append,encStr_append];exact ho4
    obtain ⟨a4,c4,rfl⟩:=own_slice ho4
    have Ho4:=Lib.hid ho4
    clear hown3 hg4 h1 h2 hwa hba hBa ho4
    go_wp2
    go_roundw
    case rel=>exact ⟨k+1,by omega,by go_num,Ho4.out,hb4⟩
    case measure=>simp [intOf];omega
  · obtain rfl:k=n:=by omega
    have eks:((cs.take k).map (·.1))=cs.map (·.1):=by rw [<-hn,List.take_length]
    have hown1:=Hown.out
    rw [eks] at hown1
    obtain ⟨hkr,_⟩:=keyrow_of_own (ks:=cs.map (·.1)) hown1 (by rw [List.length_map];omega) (by rw [List.length_map];exact hn.symm)
    have hmay:=Lib.hid (may_any bn d av cv k (cs.map (·.1)) wr (by rw [List.length_map];exact hn) hkr hd hbn (by omega) (fun x hx=>by
     obtain ⟨q,hq,rfl⟩:=List.mem_map.1 hx
     exact (hcs q hq).1) (fun x hx=>by
     obtain ⟨q,hq,rfl⟩:=List.mem_map.1 hx
     exact (hcs q hq).2.2))
    have hBw:=hB0.trans (hb.mono hB0.size)
    have hfst:=Lib.hid (firstP_of bn d (by omega) hbn ▸ first_any (bn:Int) (d:Int) wr)
    clear Hown hown1 hkr
    go_wp2_with fail
    refine hmay.out.mono ?_
    rintro e w' ⟨rfl,rfl⟩
    clear hmay
    go_wp2_with fail
    refine hfst.out.mono ?_
    rintro e w1 ⟨rfl,hB1⟩
    clear hfst
    have hBw1:=hBw.trans (hB1.mono hBw.size)
    have hcopy:=Lib.hid (tcopy_any p b m w1 (HT.out.old hBw1))
    go_wp2_with fail
    refine hcopy.out.mono ?_
    rintro e w2 ⟨p',b',rfl,ht2,hp2,hb2,hB2⟩
    clear hcopy
    have hBw2:=hBw1.trans (hB2.mono hBw1.size)
    have hat:=Lib.hid (tat_any p b m (firstP bn d) d w2 (HT.out.old hBw2) (HK.out.old hBw2) (by rw [firstP_length];decide) (by omega))
    have HT2:=Lib.hid ht2
    have hl2:=ht2.lt
    have s1:=hBw1.size
    have HP2:=Lib.hid (Nat.le_trans s1 hp2)
    clear ht2
    go_wp2_with fail
    refine hat.out.mono ?_
    rintro e w3 ⟨rfl,hB3⟩
    clear hat
    have hBw3:=hBw2.trans (hB3.mono hBw2.size)
    have s3:=hB3.size
    generalize hold:hs.at (valOf m) (keysOf m) (firstP bn d) d=old
    obtain ⟨q,hq⟩:∃ q,w3.heap.size=q:=⟨_,rfl⟩
    obtain ⟨W4,hW4⟩:∃ W4,W4=w3.alloc (.cells #[.int .i64 (bn:Int),.int .i64 (d:Int),.string ⟨old.toArray⟩,.string ⟨#[]⟩,.slice none 0 0] 41):=⟨_,rfl⟩
    have hB4:Below w3.heap.size w3 W4:=by rw [hW4];exact (Below.refl _ _).alloc (Nat.le_refl _) _
    have hs4:W4.heap.size=q+1:=by rw [hW4];simp [hq]
    have xq4:W4.heap[q]?=some (.cells #[.int .i64 (bn:Int),.int .i64 (d:Int),.string ⟨old.toArray⟩,.string ⟨#[]⟩,.slice none 0 0] 41 (0,0)):=by rw [hW4,<-hq];exact heap_alloc_new _ _
    have hBw4:=hBw3.trans (hB4.mono hBw3.size)
    have hst:MS q p' b' bn d old m W4 W4 [] (.slice none 0 0):=
     ⟨xq4,World.ownsRow_nil _ _ _ _,(by intro s hs;cases hs),(by intro s hs;cases hs),(HT2.out.old hB3).old hB4,trivial,Touch.refl _ _⟩
    have HST:=Lib.hid hst
    have HB4:=Lib.hid hBw4
    have hb'q:b'<q:=by omega
    have hp'q:p'<q:=by omega
    have HOLD:=Lib.hid hold
    have hw0:W0.heap.size=w.heap.size+1:=by rw [hW0];simp
    have hbw:w.heap.size<b':=by have:=hB1.size;omega
    have hqw:w.heap.size<q:=by omega
    have hcr0:W0.heap[w.heap.size]?=some (.cells #[.int .i64 0,.int .i64 0,.string ⟨#[]⟩,.string ⟨#[]⟩,.slice none 0 0] 41 (0,0)):=by rw [hW0];exact heap_alloc_new _ _
    have q1:=hB1.size
    have q2:=hB2.size
    have hcr4:=(hB4.block _ (by omega)).trans ((hB3.block _ (by omega)).trans ((hB2.block _ (by omega)).trans ((hB1.block _ (by omega)).trans ((hb.block _ (by omega)).trans hcr0))))
    have HCR4:=Lib.hid hcr4
    clear hst xq4 hold hB1 hB2 hB3 hB4 HT2 hBw1 hBw2 hBw3 hBw4 hcr0 hcr4 hBw hb hB0 hW0
    go_wp2_with fail
    rw [<-hW4]
    clear hW4
    go_loopw [62] (fun i W=>∃ (st:List Stp) (v:Value),st.length<=k/\i=.int .i64 ((st.length:Nat):Int)/\(st.map fun s=>(s.k,s.v))=cs.take st.length/\MS q p' b' bn d old m W4 W st v) (fun i _=>k - (intOf i).toNat)
    case atStart=>exact ⟨[],_,Nat.zero_le _,rfl,rfl,HST.out⟩
    case round=>
     obtain ⟨st,v,hstk,rfl,hmap,hms⟩:=hrel
     obtain ⟨j,hj⟩:∃ j,st.length=j:=⟨_,rfl⟩
     have Hms:=Lib.hid hms
     rw [hj] at hstk hmap |-
     have hBW:Below w.heap.size w wr:=HB4.out.trans (hms.bel.below (B:=w.heap.size) (by rintro i (rfl | rfl) <;> omega) HB4.out.size)
     have szW:=hBW.size
     have hlen:st.length<=8:=by omega
     by_cases hjk:j<k
     · obtain ⟨g,o,rfl,hg,kk,vv,h1,h2,htk,x1,x2,x3⟩:=hcell.out j hjk
       have h1:=(hBW.cell (p:=⟨g,o+j*2,none⟩) hg).trans h1
       have h2:=(hBW.cell (p:=⟨g,o+j*2+1,none⟩) hg).trans h2
       obtain ⟨wa,hwa⟩:∃ wa,wa=wr.alloc (.cells #[.string ⟨kk.toArray⟩,.string ⟨vv.toArray⟩] 38):=⟨_,rfl⟩
       have hBa:Below wr.heap.size wr wa:=by rw [hwa];exact (Below.refl _ _).alloc (Nat.le_refl _) _
       have hsa:wa.heap.size=wr.heap.size+1:=by rw [hwa];simp
       have ca:wa.heap[wr.heap.size]?=some (.cells #[.string ⟨kk.toArray⟩,.string ⟨vv.toArray⟩] 38 (0,0)):=by rw [hwa];exact heap_alloc_new _ _
       have hBwa:=hBW.trans (hBa.mono szW)
       have htree:=hms.tree
       have hpr:=Lib.hid (pprove_any p' b' (behind m st) kk d wa (htree.old hBa) (HK.out.old hBwa) x1 (by omega))
       have hbl:(behind m st).length<=200:=by
        rw [behind_eq,List.length_append,List.length_reverse,List.length_map];omega
       clear htree hms
       go_wp2_with fail
       rw [<-hwa]
       refine hpr.out.mono ?_
       rintro e w5 ⟨pa,pc,pf,pn,rfl,hr5,hmade,hB5,hl5⟩
       clear hpr
       obtain ⟨sa,sc,rfl⟩:=own_slice Hms.out.own
       have hpv:pf.val.length<=1000:=by
        rcases hmade.fin with ⟨_,_,_,e⟩ | ⟨_,_,_,_,e⟩
        · rw [e];decide
        · rw [e];exact valOf_length Hms.out.tree.small _
       obtain ⟨wb,hwb⟩:∃ wb,wb=w5.alloc (.cells #[.slice pa pf.beside.length pc,.bool pf.there,.string ⟨pf.key.toArray⟩,.string ⟨pf.val.toArray⟩] 51):=⟨_,rfl⟩
       have hBb:Below w5.heap.size w5 wb:=by rw [hwb];exact (Below.refl _ _).alloc (Nat.le_refl _) _
       have cb:wb.heap[w5.heap.size]?=some (.cells #[.slice pa pf.beside.length pc,.bool pf.there,.string ⟨pf.key.toArray⟩,.string ⟨pf.val.toArray⟩] 51 (0,0)):=by rw [hwb];exact heap_alloc_new _ _
       have s5:=hB5.size
       have hBab:Below wa.heap.size wa wb:=hB5.trans (hBb.mono s5)
       have hBrb:Below wr.heap.size wr wb:=hBa.trans (hBab.mono hBa.size)
       have hBr5:Below wr.heap.size wr w5:=hBa.trans (hB5.mono hBa.size)
       have ca5:=(hB5.block _ (by omega)).trans ca
       have cq5:=(hBr5.block q (Array.getElem?_eq_some_iff.1 Hms.out.xq).1).trans Hms.out.xq
       have hl5a:=(Array.getElem?_eq_some_iff.1 ca5).1
       have hl5q:=(Array.getElem?_eq_some_iff.1 cq5).1
       have y19:∀ o,(w5.alloc o).cell? ⟨wr.heap.size,0,none⟩=some (.string ⟨kk.toArray⟩):=fun o=>by rw [cell_of_row _ _ 0 _ _ _ ((Below.heap_alloc w5 o _ hl5a).trans ca5)];rfl
       have y19':∀ o,(w5.alloc o).cell? ⟨wr.heap.size,1,none⟩=some (.string ⟨vv.toArray⟩):=fun o=>by rw [cell_of_row _ _ 1 _ _ _ ((Below.heap_alloc w5 o _ hl5a).trans ca5)];rfl
       have yq4:∀ o,(w5.alloc o).cell? ⟨q,4,none⟩=some (.slice sa j sc):=fun o=>by rw [cell_of_row _ _ 4 _ _ _ ((Below.heap_alloc w5 o _ hl5q).trans cq5),<-hj];rfl
       have cab:=(hBab.block _ (by omega)).trans ca
       have hrb:=hr5.old hBb
       have Hrest:=Lib.hid (And.intro hrb (And.intro hl5 hmade))
       have Hpv:=Lib.hid hpv
       obtain ⟨pb,pth,pk,pv⟩:=pf
       dsimp only at *
       generalize hpl:pb.length=pl at *
       clear hr5 hl5 hmade hB5 hBb hrb hpv ca cb h1 h2 hBa hwa hBr5 ca5 cq5
       go_wp2_with (at_builtin;refine Hid.out ?_)
       unfold Hid
       have hsb:wb.heap.size=w5.heap.size+1:=by rw [hwb];simp
       rw [<-hwb]
       obtain ⟨snew,hsn⟩:∃ snew:Stp,snew=⟨kk,vv,pa,pc,⟨pb,pth,pk,pv⟩,pn⟩:=⟨_,rfl⟩
       have hsc:snew.cells=[.string ⟨kk.toArray⟩,.string ⟨vv.toArray⟩,.slice pa pl pc,.bool pth,.string ⟨pk.toArray⟩,.string ⟨pv.toArray⟩]:=by rw [hsn,<-hpl];rfl
       have hownb:wb.ownsRow W4.heap.size 121 6 (.slice sa j sc) j (stCells st):=by
        have:=(Touch.of_below hBrb (fun _=>False)).own Hms.out.own (fun _ _ h=>h)
        rw [hj] at this;exact this
       obtain ⟨i0,hinf,hz0,hz1,hz2⟩:=info_parts Tryz.infoStep
       have hs4r:W4.heap.size<=wr.heap.size:=Hms.out.bel.size
       have hsrb:=hBrb.size
       refine wpList_append_lies _ rfl _ _ _ rfl W4.heap.size 121 i0 _ 6 96 Tryz.underlying39 hinf hz0 hz1 hz2 rfl (by decide) (.slice sa j sc) j (stCells st) rfl (hownb.alloc _) ⟨wb.heap.size,0,none⟩ 1 1 [.string ⟨kk.toArray⟩,.string ⟨vv.toArray⟩,.slice pa pl pc,.bool pth,.string ⟨pk.toArray⟩,.string ⟨pv.toArray⟩] (by rw [hsb];rfl) rfl (World.news_of_block (cs:=#[.string ⟨kk.toArray⟩,.string ⟨vv.toArray⟩,.slice pa pl pc,.bool pth,.string ⟨pk.toArray⟩,.string ⟨pv.toArray⟩]) (t:=121) (fr:=(0,0)) (heap_alloc_new wb _)) (by simp [Value.oneCell']) (by decide) (by unfold maxLen;omega) (by omega) (by simp;omega) (wb.heap.size+1) (by simp) ?_
       intro gg cap2 w6 ho6 hg6 hat6 hlt6
       have Hms2:Hid (MS q p' b' bn d old m W4 wr st (.slice sa j sc)):=Lib.hid (by have:=Hms.out;rw [hj] at this;exact this)
       obtain ⟨T7,ht7,x7,yq6,fq6⟩:=Hms2.out.mid hb'q hp'q hs4 hBrb _ hg6 (.slice (some ⟨gg,0,none⟩) (j+1) cap2)
       have h19:∀ i,i=wr.heap.size->¬ (i=q\/(Value.slice sa j sc).ownBlock=some i):=by
        rintro i rfl (e | e)
        · omega
        · have:=(Hms2.out.own.lt _ e).2;omega
       have T67:Touch (fun i=>i=q\/(Value.slice sa j sc).ownBlock=some i) wb (w6.setCell ⟨q,4,none⟩ (.slice (some ⟨gg,0,none⟩) (j+1) cap2)):=
        (((Touch.alloc wb _).trans ((Touch.grown hg6).mono (fun k hk=>.inl (.inr hk.symm))))).trans (Touch.setCell (S:=fun i=>i=q\/(Value.slice sa j sc).ownBlock=some i) w6 ⟨q,4,none⟩ _ (.inl rfl))
       have c7:=T67.heap cab (h19 _ rfl)
       have z0:=cell_of_row _ _ 0 _ _ _ c7
       have z1:=cell_of_row _ _ 1 _ _ _ c7
       change _=some (Value.string ⟨kk.toArray⟩) at z0
       change _=some (Value.string ⟨vv.toArray⟩) at z1
       have hput:=Lib.hid (tput_any p' b' (behind m st) ⟨kk.toArray⟩ ⟨vv.toArray⟩ (w6.setCell ⟨q,4,none⟩ (.slice (some ⟨gg,0,none⟩) (j+1) cap2)) ht7 (by show kk.toArray.size=16;rw [List.size_toArray,x1]) (by show vv.toArray.size<=1000;rw [List.size_toArray];exact x2) (by omega))
       have Ho6:=Lib.hid (And.intro ho6 (And.intro hg6 hat6))
       clear T7 ht7 x7 T67 c7 ho6 hg6 hat6 hownb hinf hz0 hz1 hz2 h19 y19 y19' yq4 cab x1 x2
       go_wp2_with fail
       refine hput.out.mono ?_
       rintro e8 w8 ⟨rfl,ht8,hT8⟩
       have hmsn:Hid (MS q p' b' bn d old m W4 w8 (st++[snew]) (.slice (some ⟨gg,0,none⟩) (j+1) cap2)):=Lib.hid (by
        have:=Hms2.out.step hb'q hp'q hs4 hBrb _ Ho6.out.2.1 (gg:=gg) (cap2:=cap2) snew (by rw [hj,hsc];exact Ho6.out.1) Ho6.out.2.2 (by rw [hsn];exact Hrest.out.1) (by rw [hsn];intro g o e;have:=Hrest.out.2.1 g o e;omega) (by rw [hsn];exact Hrest.out.2.2) (by rw [hsn];exact ht8) (by rw [hj];exact hT8)
        rw [hj] at this;exact this)
       have hmapn:Hid (((st++[snew]).map fun s=>(s.k,s.v))=cs.take (j+1)):=Lib.hid (by
        rw [List.map_append,hmap,htk,hsn];rfl)
       have hlenn:(st++[snew]).length=j+1:=by rw [List.length_append,hj];rfl
       have Hlenn:=Lib.hid hlenn
       clear hput ht8 hT8 hlenn z0 z1 yq6 fq6 hsc hwb
       go_wp2
       go_roundw
       case rel=>exact ⟨st++[snew],_,by rw [Hlenn.out];omega,by rw [Hlenn.out];go_num,by rw [Hlenn.out];exact hmapn.out,hmsn.out⟩
       case measure=>simp [intOf];omega
     · obtain rfl:j=k:=by omega
       have hbeh:behind m st=cs.reverse++m:=by
        rw [behind_eq,hmap,<-hn,List.take_length]
       have htree:=hms.tree
       rw [hbeh] at htree
       obtain ⟨sa,sc,rfl⟩:=own_slice hms.own
       have hnew:=Lib.hid (tat_any p' b' (cs.reverse++m) (firstP bn d) d wr htree (HK.out.old hBW) (by rw [firstP_length];decide) (by omega))
       generalize hnn:hs.at (valOf (cs.reverse++m)) (keysOf (cs.reverse++m)) (firstP bn d) d=nw at hnew
       have HNN:=Lib.hid hnn
       have HTr:=Lib.hid htree
       have hcrW:=hms.bel.heap HCR4.out (by rintro (e | e) <;> omega)
       have hxq:=hms.xq
       have hlq:=(Array.getElem?_eq_some_iff.1 hxq).1
       have hlw:=(Array.getElem?_eq_some_iff.1 hcrW).1
       have s4:=hms.bel.size
       clear hnn htree hbeh hms
       rw [hj] at hxq
       go_wp2_with fail
       refine hnew.out.mono ?_
       rintro e5 w5 ⟨rfl,hB5⟩
       clear hnew
       have x5:=(hB5.block _ hlq).trans hxq
       have c5:=(hB5.block _ hlw).trans hcrW
       have f3:=frozen_of_row _ _ 3 _ _ x5
       have v3:=cell_of_row _ _ 3 _ _ _ x5
       change _=some (Value.string ⟨#[]⟩) at v3
       have x6:=heap_setCell_same w5 q 3 _ _ (.string ⟨nw.toArray⟩) x5
       have T6:Touch (·=q) w5 (w5.setCell ⟨q,3,none⟩ (.string ⟨nw.toArray⟩)):=Touch.setCell (S:=(·=q)) w5 ⟨q,3,none⟩ _ rfl
       have c6:=T6.heap c5 (by omega)
       have fin5:=heap_setCell_same _ w.heap.size 4 _ _ (.slice sa j sc) (heap_setCell_same _ w.heap.size 3 _ _ (.string ⟨nw.toArray⟩) (heap_setCell_same _ w.heap.size 2 _ _ (.string ⟨old.toArray⟩) (heap_setCell_same _ w.heap.size 1 _ _ (.int .i64 (d:Int)) (heap_setCell_same _ w.heap.size 0 _ _ (.int .i64 (bn:Int)) c6))))
       have T7:Touch (·=w.heap.size) (w5.setCell ⟨q,3,none⟩ (.string ⟨nw.toArray⟩)) ((((((w5.setCell ⟨q,3,none⟩ (.string ⟨nw.toArray⟩)).setCell ⟨w.heap.size,0,none⟩ (.int .i64 (bn:Int))).setCell ⟨w.heap.size,1,none⟩ (.int .i64 (d:Int))).setCell ⟨w.heap.size,2,none⟩ (.string ⟨old.toArray⟩)).setCell ⟨w.heap.size,3,none⟩ (.string ⟨nw.toArray⟩)).setCell ⟨w.heap.size,4,none⟩ (.slice sa j sc)):=
        ((((Touch.setCell (S:=(·=w.heap.size)) _ ⟨w.heap.size,0,none⟩ _ rfl).trans (Touch.setCell (S:=(·=w.heap.size)) _ ⟨w.heap.size,1,none⟩ _ rfl)).trans (Touch.setCell (S:=(·=w.heap.size)) _ ⟨w.heap.size,2,none⟩ _ rfl)).trans (Touch.setCell (S:=(·=w.heap.size)) _ ⟨w.heap.size,3,none⟩ _ rfl)).trans (Touch.setCell (S:=(·=w.heap.size)) _ ⟨w.heap.size,4,none⟩ _ rfl)
       have TA:Touch (fun i=>i=q\/i=w.heap.size) wr ((((((w5.setCell ⟨q,3,none⟩ (.string ⟨nw.toArray⟩)).setCell ⟨w.heap.size,0,none⟩ (.int .i64 (bn:Int))).setCell ⟨w.heap.size,1,none⟩ (.int .i64 (d:Int))).setCell ⟨w.heap.size,2,none⟩ (.string ⟨old.toArray⟩)).setCell ⟨w.heap.size,3,none⟩ (.string ⟨nw.toArray⟩)).setCell ⟨w.heap.size,4,none⟩ (.slice sa j sc)):=
        ((Touch.of_below hB5 _).trans (T6.mono (fun i h=>.inl (.inl h)))).trans (T7.mono (fun i h=>.inl (.inr h)))
       obtain ⟨y0,y1,y2,y3,y4⟩:=five_of_cells x5
       obtain ⟨r0,r1,r2,r3,r4⟩:=five_of_cells c5
       have g0:=frozen_of_row _ _ 0 _ _ c5
       have g1:=frozen_of_row _ _ 1 _ _ c5
       have g2:=frozen_of_row _ _ 2 _ _ c5
       have g3:=frozen_of_row _ _ 3 _ _ c5
       have g4:=frozen_of_row _ _ 4 _ _ c5
       have Fin5:=Lib.hid fin5
       have HTA:=Lib.hid TA
       clear fin5 TA T7 T6 x6 c6 x5 c5 hxq hcrW v3
       go_wp2_with fail
       have hrow5:=Fin5.out
       have hTA:=HTA.out
       generalize ((((((w5.setCell ⟨q,3,none⟩ (.string ⟨nw.toArray⟩)).setCell ⟨w.heap.size,0,none⟩ (.int .i64 (bn:Int))).setCell ⟨w.heap.size,1,none⟩ (.int .i64 (d:Int))).setCell ⟨w.heap.size,2,none⟩ (.string ⟨old.toArray⟩)).setCell ⟨w.heap.size,3,none⟩ (.string ⟨nw.toArray⟩)).setCell ⟨w.heap.size,4,none⟩ (.slice sa j sc))=VF at hrow5 hTA |-
       have hrow5:VF.heap[w.heap.size]?=some (.cells #[.int .i64 (bn:Int),.int .i64 (d:Int),.string ⟨old.toArray⟩,.string ⟨nw.toArray⟩,.slice sa j sc] 41 (0,0)):=hrow5
       obtain ⟨p0,p1,p2,p3,p4⟩:=five_of_cells hrow5
       refine bodyPost_ret (v:=.tuple #[.agg #[.int .i64 (bn:Int),.int .i64 (d:Int),.string ⟨old.toArray⟩,.string ⟨nw.toArray⟩,.slice sa j sc],.pointer (some ⟨p',0,none⟩),.int .i64 0]) ?_ rfl ⟨sa,sc,st,p',b',?_,⟨W4.heap.size,?_⟩,hj,?_,Hms.out.chain,?_,?_,?_,Nat.le_of_lt hbw,HP2.out⟩
       · simp [results,Tryz.f14,go_sem,p0,p1,p2,p3,p4]
       · rw [HOLD.out,HNN.out]
       · have hown:=Hms.out.own
         rw [hj] at hown
         exact hTA.own hown (fun i hi=>by have:=(hown.lt i hi).1;rintro (e | e) <;> omega)
       · rw [hmap,<-hn,List.take_length]
       · intro s hs
         exact (Hms.out.rows s hs).touch' hTA (fun hl g o e=>by have:=(Hms.out.sep s hs hl g o e).1;rintro (e | e) <;> omega)
       · exact HTr.out.touch hTA (by rintro (e | e) <;> omega) (by rintro (e | e) <;> omega)
       · exact hBW.trans (hTA.below (B:=w.heap.size) (by rintro i (rfl | rfl) <;> omega) szW)
end Go.Proofs.YtcgkomafaepjnaaGreatDoor
namespace Go.Proofs.YtcgkomafaepjnaaGreatDoor
open Go.RowKit Go.Shelf
attribute [local go_sem] Oper.semAt_some
theorem chunk_fn (a:Option Addr) (len cap:Nat) (w:World) :
 Calls Tryz.prog 51 #[.slice a len cap,.int .i64 2] w fun e w'=>e=.returned (.func (.func 97) #[] #[.pointer (some ⟨w.heap.size,0,none⟩),.pointer (some ⟨w.heap.size+1,0,none⟩)])/\w'=(w.alloc (.cells #[.slice a len cap] 31)).alloc (.cells #[.int .i64 2] 3):=by
 go_enter Tryz.func51,Tryz.ntmps51
 go_wp2
 go_ret
 exact ⟨rfl,rfl⟩
theorem chunks_stops (n:Nat) (hn:1<=n) (Bs Bn B5 n₀ g o c cap:Nat) (hc0:0<c) (hc:c<=8) (hcap:2*c<=cap) (hBsn:Bs<n₀) (hBs5:Bs≠B5) (hBnn:Bn<n₀) (hBn5:Bn≠B5) (w:World) (hn₀:n₀<=w.heap.size)
 (h1:w.cell? ⟨Bs,0,none⟩=some (.slice (some ⟨g,o,none⟩) (2*c) cap)) (h2:w.cell? ⟨Bn,0,none⟩=some (.int .i64 2)) :
 SeqStopsK Fence.wide n Tryz.prog 97 #[.pointer (some ⟨Bs,0,none⟩),.pointer (some ⟨Bn,0,none⟩)] (encP g o) (KpT B5 n₀) (fun ys=>ys=uptoI (finAt c hc0) c) (fun _=>True) c w:=fun l J Jx W hW hJA _ hY h0=>
 chunks1_in n hn l Bs Bn B5 n₀ g o c cap hc0 hc hcap hBsn hBs5 hBnn hBn5 J Jx _ hJA hY W ((hW.cell (p:=⟨Bs,0,none⟩) (by show Bs<_;omega)).trans h1) ((hW.cell (p:=⟨Bn,0,none⟩) (by show Bn<_;omega)).trans h2) h0
theorem leaves_marks {fn:Func} {tmps:Array Value} {R:Ending->World->Prop} (n B:Nat) (w:World) (hB:B<=w.heap.size) (hfin:∀ W,Below B w W->LeavesIn Fence.wide n Tryz.prog fn tmps R [] .returning W) :
 ∀ (Ds:List Nat) (W:World),Below B w W->Ds.Nodup->(∀ D∈Ds,B<=D/\W.heap[D]?=some (.deferred (some []))) ->
  LeavesInM Fence.wide n Tryz.prog fn tmps R (Ds.map fun D=>{ target:=.collected D,args:=#[] }) .returning W
 | [],W,hW,_,_=>hfin W hW
 | D :: Ds,W,hW,hnd,hDs=>by
   obtain ⟨h1,h2⟩:=hDs D (List.mem_cons_self ..)
   obtain ⟨n1,n2⟩:=List.nodup_cons.1 hnd
   refine ⟨by simp,.inl ⟨D,_,rfl,run_takeDeferred h2,?_⟩⟩
   have hlt:=(Array.getElem?_eq_some_iff.1 h2).1
   refine leaves_marks n B w hB hfin Ds _ (hW.trans ((Below.refl B W).grown (grownBy_putObj' W D _) (by omega) (fun k e=>by cases e;omega))) n2 ?_
   · intro D' hD'
     obtain ⟨k1,k2⟩:=hDs D' (List.mem_cons_of_mem _ hD')
     have hne:D'≠D:=by rintro rfl;exact n1 hD'
     exact ⟨k1,(World.putObj_heap_other hne).trans k2⟩
theorem row_from (B b R:Nat) {α:Type} (f:α->Tx):OwnFrom B (fun (pre:List α) (W:World)=>∃ (v:Value),W.cell? ⟨b,0,none⟩=some v/\W.frozen? ⟨b,0,none⟩=false/\W.ownsRow R 9 1 v pre.length ((pre.map f).map encStr)/\R<=W.heap.size):=by
 rintro s A C row ⟨v,h1,h2,h3,h4⟩ hg hr
 have hr':∀ r,row=some r->∃ o:Obj,A.heap[r]?=some o/\o.isCells=false:=fun r e=>(hr r e).2
 refine ⟨v,cell_kept h1 hg hr',(frozen_kept h1 hg hr').trans h2,(Touch.grown hg).own h3 ?_,Nat.le_trans h4 hg.size⟩
 intro k hk e
 obtain ⟨o,ho,hc⟩:=hr' k e.symm
 rcases h3.2 with ⟨rfl,_⟩ | ⟨g,cap,cur,rfl,_,hb,_⟩
 · cases hk
 · injection hk with hk
   subst hk
   rw [hb] at ho
   injection ho with ho
   subst ho
   cases hc
theorem uptoI_pairs (m:Puts) (e c:Nat) (hc:0<c) (hce:c=2^e) (he:e<16) :
 ((uptoI (finAt c hc) c).map fun x=>hs.jn ((hs.level m (e+1)).getD (2*x.val) []) ((hs.level m (e+1)).getD (2*x.val+1) []))=hs.level m e:=by
 have hlen:(hs.level m (e+1)).length=2*c:=by rw [level_length,Nat.pow_succ,hce,Nat.mul_comm]
 have hl:hs.level m (e+1)=(List.range (2*c)).map fun j=>(hs.level m (e+1)).getD j []:=by
  refine List.ext_getElem (by simp [hlen]) fun i h1 h2=>?_
  rw [List.getElem_map,List.getElem_range,List.getD_eq_getElem?_getD,List.getElem?_eq_getElem h1];rfl
 rw [<-level_up hs m e he]
 generalize hs.level m (e+1)=L at hl |-
 conv=>rhs;rw [hl]
 rw [pairs_range]
 unfold uptoI finAt
 rw [List.map_map]
 refine List.map_congr_left fun j hj=>?_
 have hj:j<c:=List.mem_range.1 hj
 simp only [Function.comp_apply,Nat.mod_eq_of_lt hj]
theorem operIn_round {n:Nat} {P:Program} {o:Oper} {a:Act} {w:World} {K:Act->World->Prop} {Q:Exit->Act->World->Prop} (l:Nat) (ho:∀ c,o.op≠.defer c) (h:o.wpIn Fence.wide n P a w K Q):o.wpIn (Fence.wide.inRound l) n P a w K Q:=by
 unfold Oper.wpIn at *
 rw [Oper.semAt_plain _ _ _ ho] at *
 refine ⟨h.1,?_⟩
 have h2:=h.2
 generalize (execOp a.eval o).run P w=r at *
 cases r with
 | ok x w'=>cases x <;> exact h2
 | halt x w'=>cases x <;> exact h2
theorem anyIn_round {n:Nat} {P:Program} {md:Region.Mode} {ops:Array Oper} {Q:Exit->Act->World->Prop} (l:Nat) (ho:∀ o∈ops.toList,∀ c,o.op≠.defer c):∀ (fuel:Nat) (listed:Array Bool) (a:Act) (w:World),
 wpAnyIn Fence.wide n P md ops Q fuel listed a w->wpAnyIn (Fence.wide.inRound l) n P md ops Q fuel listed a w
 | 0,_,_,_,h=>h
 | fuel+1,listed,a,w,h=>by
   refine ⟨h.1,fun i hi=>?_⟩
   have h2:=h.2 i hi
   have h3:=wpOpIn_mono (fun a' w'=>anyIn_round l ho fuel (listed.setIfInBounds i true) a' w') h2
   unfold wpOpIn at *
   cases hop:ops[i]? with
   | none=>simp only [hop] at h3 |-;exact h3
   | some o=>
     have hmem:o∈ops.toList:=by
      rw [<-Array.getElem?_toList] at hop
      exact List.mem_of_getElem? hop
     simp only [hop] at h3 |-
     split
     · rename_i hw;rw [if_pos hw] at h3;exact operIn_round l (ho o hmem) h3
     · rename_i hw;rw [if_neg hw] at h3;exact h3
end Go.Proofs.YtcgkomafaepjnaaGreatDoor
