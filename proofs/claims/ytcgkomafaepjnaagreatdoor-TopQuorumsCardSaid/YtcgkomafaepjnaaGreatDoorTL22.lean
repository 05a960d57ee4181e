/- Package server: the transitions of all bands. Conditions: at most three changes; a depth of at most three. -/
import Derived.Test.YtcgkomafaepjnaaGreatDoorTL21
set_option maxRecDepth 100000
set_option maxHeartbeats 16000000
namespace Go.Proofs.YtcgkomafaepjnaaGreatDoor
open Go.RowKit
theorem cgrow_of_own {w:World} {R n c:Nat} {a:Option Addr} {cs:Puts} (h:w.ownsRow R 38 2 (.slice a n c) n (cgCells cs)) (hn:n=cs.length):Chrow w a cs:=
 ⟨fun k hk=>by
  obtain ⟨g,cap,e,hb,hg⟩:=h.form (by omega)
  injection e with e1 e2 e3
  subst e1
  have hadd:∀ i,(⟨g,0,none⟩:Addr).add i=⟨g,0+i,none⟩:=fun i=>by unfold Addr.add;split <;> simp_all
  have h0:=h.cells (g:=g) rfl (2*k) _ (cgCells_at cs k hk).1
  have h1:=h.cells (g:=g) rfl (2*k+1) _ (cgCells_at cs k hk).2
  rw [hadd] at h0 h1
  refine ⟨g,0,rfl,hg,?_,?_⟩
  · rw [show 0+k*2=0+2*k from by omega,h0,List.getD_eq_getElem?_getD,List.getElem?_eq_getElem hk];rfl
  · rw [show 0+k*2+1=0+(2*k+1) from by omega,h1,List.getD_eq_getElem?_getD,List.getElem?_eq_getElem hk];rfl⟩
theorem cg_at {w:World} {B:Nat} {a:Option Addr} {n c:Nat} {l:Puts} (h:w.ownsRow B 38 2 (.slice a n c) n (cgCells l)) (hn:n=l.length) (k:Nat) (hk:k<l.length) :
 ∃ g,a=some ⟨g,0,none⟩/\B<=g/\g<w.heap.size/\w.cell? ⟨g,k*2,none⟩=some (.string ⟨(l[k]).1.toArray⟩)/\w.cell? ⟨g,k*2+1,none⟩=some (.string ⟨(l[k]).2.toArray⟩):=by
 obtain ⟨g,cap,e,hb,hg⟩:=h.form (by omega)
 injection e with e1 e2 e3
 subst e1
 have hadd:∀ i,(⟨g,0,none⟩:Addr).add i=⟨g,i,none⟩:=fun i=>by unfold Addr.add;split <;> simp_all
 obtain ⟨h0,h1⟩:=cgCells_at l k hk
 have c0:=h.cells (g:=g) rfl _ _ h0
 have c1:=h.cells (g:=g) rfl _ _ h1
 rw [hadd] at c0 c1
 rw [Nat.mul_comm k 2]
 exact ⟨g,rfl,hb,hg,c0,c1⟩
theorem band_snoc (l:Puts) (q:Tx×Tx) (d b:Nat):ofBand (l++[q]) d b=ofBand l d b++(if bandTo q.1 d=b then [q] else []):=by
 unfold ofBand
 rw [List.filter_append,List.filter_cons,List.filter_nil]
 by_cases h:bandTo q.1 d=b
 · rw [if_pos h,if_pos (by simpa using h)]
 · rw [if_neg h,if_neg (by simpa using h)]
theorem band_len (l:Puts) (k d b:Nat):(ofBand (l.take k) d b).length<=l.length:=Nat.le_trans (List.length_filter_le _ _) (by simp;omega)
theorem own_ne_map {w:World} {b B:Nat} {e:TypeId} {size n c:Nat} {v:Value} {xs:List Value} {es:Array MapEntry} (h:w.ownsRow B e size v n xs) (hb:w.heap[b]?=some (.map es c)):∀ k,v.ownBlock=some k->k≠b:=by
 rintro k hk rfl
 rcases h.2 with ⟨rfl,_⟩ | ⟨g,cap,cur,rfl,hB,hg,_⟩
 · cases hk
 · have e1:g=k:=by simpa [Value.ownBlock] using hk
   subst e1
   rw [hg] at hb
   cases hb
theorem LabsAt.keep {S T:Nat->Prop} {w w':World} {b:Nat} {us:List (List UInt8×List UInt8)} (h:LabsAt w S b us) (ht:Touch T w w') (hb:¬ T b) (hT:∀ g,T g->∀ cs f,w.heap[g]?≠some (.cells cs 105 f)):LabsAt w' S b us:=by
 obtain ⟨D,h1,h2,h3⟩:=h
 refine ⟨D,ownsMap_keep h1 ht hb,h2,fun k seed hk=>?_⟩
 obtain ⟨a,c,e1,e2,e3⟩:=h3 k seed hk
 refine ⟨a,c,e1,ht.own e2 (fun g hg hTg=>?_),e3⟩
 rcases e2.2 with ⟨e,_⟩ | ⟨g',cap,cur,e,_,hg',_⟩
 · rw [e] at hg;cases hg
 · have e4:g'=g:=by rw [e] at hg;simpa [Value.ownBlock] using hg
   subst e4
   exact hT g' hTg _ _ hg'
theorem LabsAt.map {S:Nat->Prop} {w:World} {b:Nat} {us:List (List UInt8×List UInt8)} (h:LabsAt w S b us):∃ es c,w.heap[b]?=some (.map es c):=by
 obtain ⟨D,⟨es,c,h1,_⟩,_⟩:=h
 exact ⟨es,c,h1⟩
theorem own_heap {w:World} {B:Nat} {e:TypeId} {size n:Nat} {v:Value} {xs:List Value} (h:w.ownsRow B e size v n xs):∀ k,v.ownBlock=some k->∃ cs f,w.heap[k]?=some (.cells cs e f):=by
 rintro k hk
 rcases h.2 with ⟨rfl,_⟩ | ⟨g,cap,cur,rfl,hB,hg,_⟩
 · cases hk
 · have e1:g=k:=by simpa [Value.ownBlock] using hk
   subst e1
   exact ⟨_,_,hg⟩
theorem Tryz.infoTrn:(Tryz.prog.info? 41).map (fun i=>(i.zero,i.size,i.bytes))=some (some (.agg #[.int .i64 0,.int .i64 0,.string .empty,.string .empty,.slice none 0 0]),5,72):=by kernel_rfl
theorem ssettle_any (p d xl xr t0 tb n:Nat) (x1 x2 x3 x4 cv nv tv hv:Value) (us:List (List UInt8×List UInt8)) (S:Nat->Prop) (cs m0:Puts) (N B:Nat) (par:List UInt8) (na:Option Addr) (D nc:Nat) (nodes:List Tx) (ra:Option Addr) (rc:Nat) (xs:List Value) (w:World)
 (hS:SrvAt w p (.int .i64 d) x1 x2 x3 x4 (.map (some xl)) (.pointer (some ⟨xr,0,none⟩)) cv nv tv hv) (hnx:LabsAt w S xl us) (hus:us.length<=100) (hros:RosAt w xr (.slice ra n rc)) (hrr:w.ownsRow 0 90 4 (.slice ra n rc) n xs) (hone:∀ u∈xs,u.oneCell'=true) (hn64:n<=64)
 (hcv:w.ownsRow 0 38 2 cv N (cgCells cs)) (hN:N=cs.length) (hN3:N<=3) (hcs16:∀ q∈cs,q.1.length=16/\q.2.length<=1000) (ht:TreeAt w t0 tb m0) (hm0:m0.length<=70)
 (htv:w.ownsRow B 24 1 tv 1 [.pointer (some ⟨t0,0,none⟩)]) (hhv:w.ownsRow B 69 5 hv 1 [.int .u64 0,.string ⟨par.toArray⟩,.int .i64 d,.int .i64 n,.slice na D nc]) (hB:B<=w.heap.size)
 (hnd:Cells w (.slice na D nc) (txs nodes)) (hok:HdOk 0 par d n D nodes) (hK:Kon w) (hd3:d<=3) :
 Calls Tryz.prog 69 #[.pointer (some ⟨p,0,none⟩)] w fun e w'=>∃ v nl' nr' v2' tv' hv' t1 tb1 na1 nc1,e=.returned v/\SrvAt w' p (.int .i64 d) x1 x2 (.map (some nl')) (.pointer (some ⟨nr',0,none⟩)) (.map (some xl)) (.pointer (some ⟨xr,0,none⟩)) (.slice none 0 0) (.slice none 0 0) tv' hv' /\
  LabsAt w' (fun g=>w.heap.size<=g) nl' us/\RosAt w' nr' v2'/\w'.ownsRow w.heap.size 90 4 v2' n xs/\TreeAt w' t1 tb1 (upto cs d m0 (2^d))/\w'.ownsRow B 24 1 tv' 2 [.pointer (some ⟨t0,0,none⟩),.pointer (some ⟨t1,0,none⟩)] /\
  w'.ownsRow B 69 5 hv' 2 [.int .u64 0,.string ⟨par.toArray⟩,.int .i64 d,.int .i64 n,.slice na D nc,.int .u64 1,.string ⟨(digHd 0 par d n nodes).toArray⟩,.int .i64 d,.int .i64 n,.slice na1 (2^d) nc1]/\w'.ownsRow w.heap.size 9 1 (.slice na1 (2^d) nc1) (2^d) ((hs.level (upto cs d m0 (2^d)) d).map encStr) /\
  (∀ j,tv'.ownBlock=some j->tv.ownBlock=some j\/w.heap.size<=j)/\(∀ j,hv'.ownBlock=some j->hv.ownBlock=some j\/w.heap.size<=j)/\w.heap.size<=nl'/\w.heap.size<=nr'/\(t1=t0\/w.heap.size<=t1)/\(tb1=tb\/w.heap.size<=tb1)/\Touch (fun j=>j=p\/tv.ownBlock=some j\/hv.ownBlock=some j) w w':=by
 obtain ⟨i0,hi0,hz0,hz1,hz2⟩:=info_parts Tryz.infoChg
 obtain ⟨i1,hi1,hy0,hy1,hy2⟩:=info_parts Tryz.infoTrn
 obtain ⟨ca,cc,rfl⟩:=own_slice hcv
 obtain ⟨gt,ct,rfl,hgt,hgtl⟩:=htv.form (by decide)
 have hadd:∀ g i,(⟨g,0,none⟩:Addr).add i=⟨g,i,none⟩:=fun g i=>by unfold Addr.add;split <;> simp_all
 have hct:=htv.cells (g:=gt) rfl 0 (.pointer (some ⟨t0,0,none⟩)) rfl
 rw [hadd] at hct
 have htail:=Lib.hid (stail_tree gt 1 0 ct t0 w (by decide) rfl hct)
 have hcnt:=Lib.hid (fun W=>bcount_any d W hd3)
 obtain ⟨s0,_,_,_,_,_,_,s7,_,s9,_,_⟩:=hS.cells
 have HC:=Lib.hid (fun (W:World) (hb:Below w.heap.size w W)=>(show W.cell? ⟨p,0,none⟩=some (.int .i64 d)/\W.cell? ⟨p,7,none⟩=some (.slice ca N cc) from ⟨(hb.cell (World.block_lt_of_cell? _ _ s0)).trans s0,(hb.cell (World.block_lt_of_cell? _ _ s7)).trans s7⟩))
 have HCV:=Lib.hid (fun (W:World) (hb:Below w.heap.size w W) k (hk:k<cs.length)=>cg_at ((Touch.of_below hb (fun _=>False)).own hcv (fun _ _ h=>h)) hN k hk)
 have HT:=Lib.hid ht
 have HK:=Lib.hid hK
 have HN:=Lib.hid (And.intro hN hcs16)
 have HS:=Lib.hid hS
 have HHV:=Lib.hid hhv
 have HTV:=Lib.hid htv
 have HOK:=Lib.hid hok
 have HND:=Lib.hid hnd
 have HRO:=Lib.hid (And.intro hros hrr)
 have HNX:=Lib.hid hnx
 have HONE:=Lib.hid hone
 obtain ⟨M,hM⟩:∃ M,M=2^d:=⟨_,rfl⟩
 have hM8:M<=8:=by rw [hM];exact Nat.pow_le_pow_right (by decide) hd3
 have HM:=Lib.hid hM
 rw [<-hM] at hcnt
 clear hM hK hcv hN hcs16 ht hct hadd hhv htv hok hnd hros hrr hnx hone hS
 go_enter Tryz.func69,Tryz.ntmps69
 go_wp2_with fail
 refine htail.out.mono ?_
 rintro e w1 ⟨rfl,rfl⟩
 go_wp2_with fail
 refine (hcnt.out w).mono ?_
 rintro e w1 ⟨rfl,rfl⟩
 clear htail hcnt s7 s9
 go_wp2_with fail
 clear s0
 have hcsl:cs.length<=3:=by have:=HN.out.1;omega
 go_loopw [3,4,24] (fun t v i W=>∃ bn p' b':Nat,bn<=M/\t=.pointer (some ⟨p',0,none⟩)/\i=.int .i64 (bn:Int)/\TreeAt W p' b' (upto cs d m0 bn)/\(p'=t0\/w1.heap.size<=p')/\(b'=tb\/w1.heap.size<=b')/\(∃ ys,W.ownsRow w1.heap.size 41 5 v bn ys)/\Below w1.heap.size w1 W) (fun _ _ i _=>M - (intOf i).toNat)
 case atStart=>exact ⟨0,t0,tb,Nat.zero_le _,rfl,rfl,HT.out,.inl rfl,.inl rfl,⟨[],World.ownsRow_nil _ _ _ _⟩,Below.refl _ _⟩
 case round=>
  obtain ⟨bn,p',b',hbn,rfl,rfl,htk,hp',hb',⟨ys,hout⟩,hb⟩:=hrel
  obtain ⟨w2,hw2⟩:∃ x,x=wr:=⟨_,rfl⟩
  subst hw2
  obtain ⟨oa,oc,rfl⟩:=own_slice hout
  have s1:=hb.size
  by_cases hlt:bn<M
  · have hlt':(bn:Int)<(M:Int):=by omega
    obtain ⟨c0,c7⟩:=HC.out w2 hb
    have HTK:=Lib.hid htk
    have HOUT:=Lib.hid hout
    have HB:=Lib.hid hb
    clear htk hout hb
    go_wp2_with fail
    clear c0 c7
    go_loopw [6,32] (fun l i W=>∃ j:Nat,j<=N/\i=.int .i64 (j:Int)/\W.ownsRow w2.heap.size 38 2 l (ofBand (cs.take j) d bn).length (cgCells (ofBand (cs.take j) d bn))/\Below w2.heap.size w2 W) (fun _ i _=>N - (intOf i).toNat)
    case atStart=>exact ⟨0,Nat.zero_le _,rfl,World.ownsRow_nil _ _ _ _,Below.refl _ _⟩
    case round=>
     obtain ⟨j,hj,rfl,hown,hbj⟩:=hrel
     have hlen:=band_len cs j d bn
     obtain ⟨la,lc,rfl⟩:=own_slice hown
     obtain ⟨L,hL⟩:∃ L,L=(ofBand (cs.take j) d bn).length:=⟨_,rfl⟩
     obtain ⟨ob,hob⟩:∃ ob,ob=ofBand (cs.take j) d bn:=⟨_,rfl⟩
     rw [<-hL] at hown hlen |-
     rw [<-hob] at hown
     have HL:=Lib.hid hL
     have HOB:=Lib.hid hob
     clear hL hob
     have hbw:=HB.out.trans (hbj.mono s1)
     have HBJ:=Lib.hid hbj
     by_cases hjn:j<N
     · have hjn':(j:Int)<(N:Int):=by omega
       have hjl:j<cs.length:=by rw [<-HN.out.1];exact hjn
       obtain ⟨g,rfl,_,hgl,z0,z1⟩:=HCV.out wr hbw j hjl
       have hsuc:=band_snoc (cs.take j) cs[j] d bn
       rw [<-List.take_succ_eq_append_getElem hjl,<-HOB.out] at hsuc
       obtain ⟨q16,qv⟩:=HN.out.2 cs[j] (List.getElem_mem hjl)
       generalize cs[j]=q at z0 z1 hsuc q16 qv
       obtain ⟨kk,vv⟩:=q
       dsimp only at z0 z1 hsuc q16 qv
       obtain ⟨c0,_⟩:=HC.out wr hbw
       have HOWN:=Lib.hid (And.intro hown hbj)
       have HSUC:=Lib.hid hsuc
       have hsj:=hbj.size
       have hof:=Lib.hid (fun W=>bof_any ⟨kk.toArray⟩ d W q16 hd3)
       have hof:Hid (∀ W,Calls Tryz.prog 39 #[.string ⟨kk.toArray⟩,.int .i64 (d:Int)] W fun e w'=>e=.returned (.tuple #[.int .i64 (bandTo kk d),.int .i64 0])/\w'=W):=hof
       clear hbj hown hbw hsuc
       go_wp2_with fail
       have hb1:Below wr.heap.size wr (wr.alloc (.cells #[.string ⟨kk.toArray⟩,.string ⟨vv.toArray⟩] 38)):=(Below.refl _ _).alloc (Nat.le_refl _) _
       have hr1:(wr.alloc (.cells #[.string ⟨kk.toArray⟩,.string ⟨vv.toArray⟩] 38)).heap[wr.heap.size]?=some (.cells #[.string ⟨kk.toArray⟩,.string ⟨vv.toArray⟩] 38 (0,0)):=heap_alloc_new _ _
       have c0a:=(hb1.cell (World.block_lt_of_cell? _ _ c0)).trans c0
       have hown1:=HOWN.out.1.alloc (.cells #[.string ⟨kk.toArray⟩,.string ⟨vv.toArray⟩] 38)
       have hbj1:Below w2.heap.size w2 (wr.alloc (.cells #[.string ⟨kk.toArray⟩,.string ⟨vv.toArray⟩] 38)):=HOWN.out.2.trans (hb1.mono hsj)
       clear z0 z1 c0
       generalize hH:wr.heap.size=H at hr1 hb1 hsj |-
       generalize (wr.alloc (.cells #[.string ⟨kk.toArray⟩,.string ⟨vv.toArray⟩] 38))=W1 at c0a hb1 hr1 hown1 hbj1 |-
       have hS0:=Lib.hid (show W1.drew.cell? ⟨H,0,none⟩=some (.string ⟨kk.toArray⟩)/\W1.drew.cell? ⟨p,0,none⟩=some (.int .i64 d) from ⟨by
        have:W1.cell? ⟨H,0,none⟩=some (.string ⟨kk.toArray⟩):=cel hr1
        exact this,c0a⟩)
       have hs1:=hbj1.size
       have HW1:=Lib.hid (And.intro (show W1.drew.ownsRow w2.heap.size 38 2 (.slice la L lc) L (cgCells ob) from hown1) (show Below w2.heap.size w2 W1.drew from hbj1.drew))
       have hcell:W1.drew.cell? ⟨H,0,none⟩=some (.string ⟨kk.toArray⟩)/\W1.drew.cell? ⟨H,1,none⟩=some (.string ⟨vv.toArray⟩):=⟨hS0.out.1,by
        have:W1.cell? ⟨H,1,none⟩=some (.string ⟨vv.toArray⟩):=cel hr1
        exact this⟩
       have HCELL:=Lib.hid hcell
       have hof1:=Lib.hid (hof.out W1.drew)
       clear hb1 hr1 hown1 hbj1 c0a hH hcell hof
       go_region_held3 (fun W=>W.cell? ⟨H,0,none⟩=some (.string ⟨kk.toArray⟩)/\W.cell? ⟨p,0,none⟩=some (.int .i64 d)) (first | exact hS0.out) (first
        | (go_at_call 39;with_reducible refine hof1.out.mono ?_;rintro e w5 ⟨rfl,rfl⟩))
       rename_i hHeld
       clear hHeld hS0 hof1
       by_cases hbd:bandTo kk d=(bn:Int)
       · have hnext:ofBand (cs.take (j+1)) d bn=ob++[(kk,vv)]:=by rw [HSUC.out,if_pos hbd]
         rw [hbd]
         obtain ⟨y0,y1⟩:=HCELL.out
         have HNX:=Lib.hid hnext
         clear hnext hbd
         generalize W1.drew=W2 at y0 y1 HW1 |-
         go_wp2_with (at_builtin;refine Hid.out ?_)
         unfold Hid
         have hsW:=HW1.out.2.size
         refine wpList_append_lies _ rfl _ _ _ rfl w2.heap.size 38 i0 _ 2 32 Tryz.underlying35 hi0 hz0 hz1 hz2 rfl (by decide) (.slice la L lc) L (cgCells ob) rfl (HW1.out.1.alloc _) ⟨W2.heap.size,0,none⟩ 1 1 [.string ⟨kk.toArray⟩,.string ⟨vv.toArray⟩] rfl rfl (World.news_of_block (cs:=#[.string ⟨kk.toArray⟩,.string ⟨vv.toArray⟩]) (t:=38) (fr:=(0,0)) (heap_alloc_new W2 _)) (by simp [Value.oneCell']) (by decide) (by unfold maxLen;omega) (by omega) (by simp;omega) _ rfl ?_
         intro gg cap w7 ho7 hg7 _ _
         have hb7:Below w2.heap.size w2 w7:=(HW1.out.2.alloc hsW _).grown hg7 (by simp;omega) (fun i hi=>(HW1.out.1.lt i hi).1)
         have HF:=Lib.hid (And.intro ho7 hb7)
         clear ho7 hb7 hg7 y0 y1
         go_wp2
         go_roundw
         case rel=>
          refine ⟨j+1,by omega,by go_num,?_,HF.out.2⟩
          rw [HNX.out,cgCells_snoc,List.length_append,HOB.out,<-HL.out,<-HOB.out]
          exact HF.out.1
         case measure=>simp [intOf];omega
       · have hnext:ofBand (cs.take (j+1)) d bn=ob:=by rw [HSUC.out,if_neg hbd,List.append_nil]
         generalize bandTo kk d=bt at hbd |-
         have hbd':(bt==(bn:Int))=false:=by simpa using hbd
         have HNX:=Lib.hid hnext
         clear hnext hbd HCELL
         generalize W1.drew=W2 at HW1 |-
         go_wp2
         go_roundw
         case rel=>exact ⟨j+1,by omega,by go_num,by rw [HNX.out,HOB.out,<-HL.out,<-HOB.out];exact HW1.out.1,HW1.out.2⟩
         case measure=>simp [intOf];omega
     · have hjN:j=N:=by omega
       subst hjN
       have hge:¬ (j:Int)<(j:Int):=by omega
       have hall:cs.take j=cs:=by rw [HN.out.1,List.take_length]
       have hob:ob=ofBand cs d bn:=by rw [HOB.out,hall]
       have hLL:L=(ofBand cs d bn).length:=by rw [HL.out,hall]
       obtain ⟨c0,_⟩:=HC.out wr hbw
       have hcr:=cgrow_of_own hown (by rw [hLL,hob])
       rw [hob] at hcr
       have hup:(upto cs d m0 bn).length<=100:=by
        have h1:=upto_length cs m0 d bn
        have h2:bn*cs.length<=8*3:=Nat.mul_le_mul (by omega) (by omega)
        omega
       have hmake:=Lib.hid (make_any p' b' (upto cs d m0 bn) bn d la lc L (ofBand cs d bn) wr (HTK.out.old hbj) (HK.out.old hbw) hLL.symm hcr hd3 (by rw [<-HM.out];exact hlt) (by omega) hup (fun q hq=>by
        obtain ⟨h1,h2⟩:=List.mem_filter.1 hq
        obtain ⟨h3,h4⟩:=HN.out.2 q h1
        exact ⟨h3,h4,by simpa using h2⟩))
       generalize hs.at (valOf (upto cs d m0 bn)) (keysOf (upto cs d m0 bn)) (firstP bn d) d=od at hmake
       generalize hs.at (valOf ((ofBand cs d bn).reverse++upto cs d m0 bn)) (keysOf ((ofBand cs d bn).reverse++upto cs d m0 bn)) (firstP bn d) d=nd at hmake
       have HBW:=Lib.hid hbw
       have hsr:=hbw.size
       clear hown hbj hbw hob hLL hcr hup hall HL HOB
       go_wp2_with fail
       refine hmake.out.mono ?_
       rintro e w6 ⟨sa,sc,sl,p6,b6,rfl,_,_,_,_,_,ht6,hb6,hbb6,hpp6⟩
       have hB6:=HBW.out.trans (hb6.mono hsr)
       have hout6:=(Touch.of_below hb6 (fun _=>False)).own ((Touch.of_below (HBJ.out) (fun _=>False)).own HOUT.out (fun _ _ h=>h)) (fun _ _ h=>h)
       have HT6:=Lib.hid (And.intro ht6 (And.intro hB6 hout6))
       have hs6:=hB6.size
       have hsb6:=hb6.size
       clear hmake c0 ht6 hb6 hB6 hout6
       go_wp2_with (at_builtin;refine Hid.out ?_)
       unfold Hid
       refine wpList_append_lies _ rfl _ _ _ rfl w1.heap.size 41 i1 _ 5 72 Tryz.underlying70 hi1 hy0 hy1 hy2 rfl (by decide) (.slice oa bn oc) bn ys rfl ((HT6.out.2.2.alloc _).alloc _) ⟨w6.heap.size+1,0,none⟩ 1 1 [.int .i64 bn,.int .i64 d,.string ⟨od.toArray⟩,.string ⟨nd.toArray⟩,.slice sa L sc] rfl rfl (World.news_of_block (cs:=#[.int .i64 bn,.int .i64 d,.string ⟨od.toArray⟩,.string ⟨nd.toArray⟩,.slice sa L sc]) (t:=41) (fr:=(0,0)) (heap_alloc2_new _ _ _)) (by simp [Value.oneCell']) (by decide) (by unfold maxLen;omega) (by omega) (by simp;omega) _ rfl ?_
       intro gg cap w7 ho7 hg7 _ _
       have hT7:Touch (fun i=>some i=(Value.slice oa bn oc).ownBlock) w6 w7:=(Touch.alloc w6 _).trans ((Touch.alloc _ _).trans (Touch.grown hg7))
       have hnt:=own_ne HT6.out.2.2 HT6.out.1.blk (by decide)
       have ht7:TreeAt w7 p6 b6 (upto cs d m0 (bn+1)):=by
        obtain ⟨D6,⟨es6,cl6,hmp6,_⟩,_⟩:=HT6.out.1.map
        have hnm:=own_ne_map HT6.out.2.2 hmp6
        exact HT6.out.1.touch hT7 (fun e=>hnt p6 e.symm rfl) (fun e=>hnm b6 e.symm rfl)
       have hb7:Below w1.heap.size w1 w7:=HT6.out.2.1.trans (hT7.below (B:=w1.heap.size) (fun i hi=>(HT6.out.2.2.lt i hi.symm).1) hs6)
       have HF:=Lib.hid (And.intro ht7 (And.intro ho7 hb7))
       clear ht7 ho7 hb7 hT7 hg7 hnt
       go_wp2
       go_roundw
       case rel=>exact ⟨bn+1,p6,b6,by omega,rfl,by go_num,HF.out.1,.inr (by omega),.inr (by omega),⟨_,HF.out.2.1⟩,HF.out.2.2⟩
       case measure=>simp [intOf];omega
  · have hbM:bn=M:=by omega
    subst hbM
    have hge:¬ (bn:Int)<(bn:Int):=by omega
    have hS2:SrvAt w2 p (.int .i64 d) x1 x2 x3 x4 (.map (some xl)) (.pointer (some ⟨xr,0,none⟩)) (.slice ca N cc) nv (.slice (some ⟨gt,0,none⟩) 1 ct) hv:=(hb.block _ (lt_of_heap HS.out)).trans HS.out
    obtain ⟨gh,ch,rfl,hghB,hghl⟩:=HHV.out.form (by decide)
    have hhv2:=(Touch.of_below hb (fun _=>False)).own HHV.out (fun _ _ h=>h)
    have hadd:∀ g i,(⟨g,0,none⟩:Addr).add i=⟨g,i,none⟩:=fun g i=>by unfold Addr.add;split <;> simp_all
    have r0:=hhv2.cells (g:=gh) rfl 0 _ rfl
    have r1:=hhv2.cells (g:=gh) rfl 1 _ rfl
    have r2:=hhv2.cells (g:=gh) rfl 2 _ rfl
    have r3:=hhv2.cells (g:=gh) rfl 3 _ rfl
    have r4:=hhv2.cells (g:=gh) rfl 4 _ rfl
    rw [hadd] at r0 r1 r2 r3 r4
    have hlast:=Lib.hid (slast_head p gh 1 0 ch 0 par d n na D nc _ _ _ _ _ _ _ _ _ _ w2 hS2 (by decide) rfl r0 r1 r2 r3 r4)
    have HTK:=Lib.hid htk
    have HB:=Lib.hid hb
    clear r0 r1 r2 r3 r4 hhv2 hS2 htk hb hout hadd
    unfold hdV at hlast
    go_wp2_with fail
    refine hlast.out.mono ?_
    rintro e w3 ⟨rfl,hb3⟩
    have hB3:=HB.out.trans (hb3.mono s1)
    have hdg:=Lib.hid (hdigest_any 0 par d n na D nc nodes w3 HOK.out (HND.out.old hB3) (HK.out.old hB3))
    have HB3:=Lib.hid (And.intro hb3 hB3)
    have s3:=hB3.size
    clear hlast hb3 hB3
    unfold hdV at hdg
    generalize hdge:digHd 0 par d n nodes=dg at hdg |-
    have HDG:=Lib.hid hdge
    clear hdge
    go_wp2_with fail
    refine hdg.out.mono ?_
    rintro e w4 ⟨rfl,hb4⟩
    have hB4:=HB3.out.2.trans (hb4.mono s3)
    have hs23:=HB3.out.1.size
    have hB24:=HB3.out.1.trans (hb4.mono hs23)
    have s4:=hB4.size
    have hS4:SrvAt w4 p (.int .i64 d) x1 x2 x3 x4 (.map (some xl)) (.pointer (some ⟨xr,0,none⟩)) (.slice ca N cc) nv (.slice (some ⟨gt,0,none⟩) 1 ct) (.slice (some ⟨gh,0,none⟩) 1 ch):=(hB4.block _ (lt_of_heap HS.out)).trans HS.out
    have hTF4:=Touch.of_below hB4 (fun _=>False)
    have hadd:=Lib.hid (sadd_any p d p' b' xr n 1 B x1 x2 x3 x4 (.map (some xl)) (.slice ca N cc) nv (.slice (some ⟨gt,0,none⟩) 1 ct) (.slice (some ⟨gh,0,none⟩) 1 ch) ra rc _ _ (upto cs d m0 bn) dg w4 hS4 ((hB4.block _ (lt_of_heap HRO.out.1)).trans HRO.out.1) (HTK.out.old hB24) hd3 (HK.out.old hB4) (hTF4.own HTV.out (fun _ _ h=>h)) (hTF4.own HHV.out (fun _ _ h=>h)) (by decide) (by omega))
    have HB4:=Lib.hid (And.intro hB4 hB24)
    clear hdg hb4 hB4 hB24 hS4 hTF4
    go_wp2_with fail
    refine hadd.out.mono ?_
    rintro e w5 ⟨rfl,tv',hv',na1,nc1,hS5,ht5,hh5,hn5,htb5,hhb5,hT5⟩
    have hlabs5:LabsAt w5 S xl us:=by
     obtain ⟨hB4,_⟩:=HB4.out
     have hTF4:=Touch.of_below hB4 (fun _=>False)
     have hS4:=hTF4.heap HS.out id
     have htv4:=hTF4.own HTV.out (fun _ _ h=>h)
     have hhv4:=hTF4.own HHV.out (fun _ _ h=>h)
     have hl4:=HNX.out.old hB4
     obtain ⟨es,c,hmap⟩:=hl4.map
     refine hl4.keep hT5 ?_ ?_
     · rintro (e | e | e)
       · rw [e,hS4] at hmap;cases hmap
       · exact own_ne_map htv4 hmap _ e rfl
       · exact own_ne_map hhv4 hmap _ e rfl
     · rintro q (rfl | e | e) cs' f hq
       · exact row_ne hq hS4 (by decide) rfl
       · exact own_ne htv4 hq (by decide) q e rfl
       · exact own_ne hhv4 hq (by decide) q e rfl
    have hros5:RosAt w5 xr (.slice ra n rc)/\w5.ownsRow 0 90 4 (.slice ra n rc) n xs:=by
     obtain ⟨hB4,_⟩:=HB4.out
     have hTF4:=Touch.of_below hB4 (fun _=>False)
     have hS4:=hTF4.heap HS.out id
     have htv4:=hTF4.own HTV.out (fun _ _ h=>h)
     have hhv4:=hTF4.own HHV.out (fun _ _ h=>h)
     have hr4:=hTF4.heap HRO.out.1 id
     have ho4:=hTF4.own HRO.out.2 (fun _ _ h=>h)
     refine ⟨hT5.heap hr4 ?_,hT5.own ho4 ?_⟩
     · rintro (e | e | e)
       · rw [e] at hr4
         exact row_ne hr4 hS4 (by decide) rfl
       · exact own_ne htv4 hr4 (by decide) xr e rfl
       · exact own_ne hhv4 hr4 (by decide) xr e rfl
     · intro q hq hT
       obtain ⟨cs',f,hqh⟩:=own_heap ho4 q hq
       rcases hT with e | e | e
       · rw [e] at hqh
         exact row_ne hqh hS4 (by decide) rfl
       · exact own_ne htv4 hqh (by decide) q e rfl
       · exact own_ne hhv4 hqh (by decide) q e rfl
    have hcp:=Lib.hid (scopy_any xl xr 0 us S (.slice ra n rc) n xs w5 hlabs5 hus hros5.1 hros5.2 HONE.out hn64)
    have ht5w:TreeAt w5 p' b' (upto cs d m0 bn):=by
     obtain ⟨hB4,hB24⟩:=HB4.out
     have hTF4:=Touch.of_below hB4 (fun _=>False)
     have hS4:=hTF4.heap HS.out id
     have htv4:=hTF4.own HTV.out (fun _ _ h=>h)
     have hhv4:=hTF4.own HHV.out (fun _ _ h=>h)
     have ht4:=HTK.out.old hB24
     obtain ⟨D4,⟨es4,cl4,hmp4,_⟩,_⟩:=ht4.map
     refine ht4.touch hT5 ?_ ?_
     · rintro (e | e | e)
       · have hb4:=ht4.blk
         rw [e] at hb4
         exact row_ne hb4 hS4 (by decide) rfl
       · exact own_ne htv4 ht4.blk (by decide) p' e rfl
       · exact own_ne hhv4 ht4.blk (by decide) p' e rfl
     · rintro (e | e | e)
       · rw [e,hS4] at hmp4;cases hmp4
       · exact own_ne_map htv4 hmp4 _ e rfl
       · exact own_ne_map hhv4 hmp4 _ e rfl
    obtain ⟨_,_,_,_,_,z5,z6,_,_,_,_,_⟩:=hS5.cells
    have HF5:=Lib.hid (And.intro hS5 (And.intro ht5 (And.intro hh5 (And.intro hn5 (And.intro htb5 (And.intro hhb5 (And.intro hT5 ht5w)))))))
    have hs45:=hT5.size
    clear hadd hlabs5 hros5 hS5 ht5 hh5 hn5 htb5 hhb5 hT5 ht5w
    go_wp2_with fail
    refine hcp.out.mono ?_
    rintro e w6 ⟨nl',nr',v2',rfl,hnl',hnr',hlab6,hros6,hown6,hb6⟩
    clear hcp z5 z6
    obtain ⟨hS5,ht5,hh5,hn5,htb5,hhb5,hT5,ht5w⟩:=HF5.out
    have hS6:=(hb6.block _ (lt_of_heap hS5)).trans hS5
    have hTF6:=Touch.of_below hb6 (fun _=>False)
    have ht6:=hTF6.own ht5 (fun _ _ h=>h)
    have hh6:=hTF6.own hh5 (fun _ _ h=>h)
    have hn6:=hTF6.own hn5 (fun _ _ h=>h)
    have ht6w:=ht5w.old hb6
    have hT46:=hT5.trans (Touch.of_below hb6 (fun j=>j=p\/(Value.slice (some ⟨gt,0,none⟩) 1 ct).ownBlock=some j\/(Value.slice (some ⟨gh,0,none⟩) 1 ch).ownBlock=some j))
    have hS6:SrvAt w6 p (.int .i64 d) x1 x2 x3 x4 (.map (some xl)) (.pointer (some ⟨xr,0,none⟩)) (.slice ca N cc) nv tv' hv':=hS6
    obtain ⟨_,_,_,z3,z4,_,_,z7,z8,_,_,zf⟩:=hS6.cells
    have f3:=zf 3
    have f4:=zf 4
    have f7:=zf 7
    have f8:=zf 8
    have hpl5:=lt_of_heap hS5
    have HF6:=Lib.hid (And.intro hS6 (And.intro ht6 (And.intro hh6 (And.intro hn6 (And.intro ht6w hT46)))))
    have HN6:=Lib.hid (And.intro hlab6 (And.intro hros6 hown6))
    clear hS5 ht5 hh5 hn5 hT5 ht5w hTF6 ht6 hh6 hn6 ht6w hT46 hS6 zf hb6 hlab6 hros6 hown6 HF5
    go_wp2_with fail
    clear z3 z4 z7 z8 f3 f4 f7 f8
    obtain ⟨hS6,ht6,hh6,hn6,ht6w,hT46⟩:=HF6.out
    obtain ⟨hlab6,hros6,hown6⟩:=HN6.out
    have hTp:Touch (fun j=>j=p) w6 ((((w6.setCell ⟨p,3,none⟩ (.map (some nl'))).setCell ⟨p,4,none⟩ (.pointer (some ⟨nr',0,none⟩))).setCell ⟨p,7,none⟩ (.slice none 0 0)).setCell ⟨p,8,none⟩ (.slice none 0 0)):=
     (((Touch.setCell (S:=fun j=>j=p) w6 ⟨p,3,none⟩ _ rfl).trans (Touch.setCell (S:=fun j=>j=p) _ ⟨p,4,none⟩ _ rfl)).trans (Touch.setCell (S:=fun j=>j=p) _ ⟨p,7,none⟩ _ rfl)).trans (Touch.setCell (S:=fun j=>j=p) _ ⟨p,8,none⟩ _ rfl)
    have hrow:=heap_setCell_same _ p 8 _ _ (.slice none 0 0) (heap_setCell_same _ p 7 _ _ (.slice none 0 0) (heap_setCell_same _ p 4 _ _ (.pointer (some ⟨nr',0,none⟩)) (heap_setCell_same w6 p 3 _ _ (.map (some nl')) hS6)))
    generalize ((((w6.setCell ⟨p,3,none⟩ (.map (some nl'))).setCell ⟨p,4,none⟩ (.pointer (some ⟨nr',0,none⟩))).setCell ⟨p,7,none⟩ (.slice none 0 0)).setCell ⟨p,8,none⟩ (.slice none 0 0))=V at hTp hrow |-
    have hne:∀ (B':Nat) (e:TypeId) (sz m:Nat) (v:Value) (ys:List Value),w6.ownsRow B' e sz v m ys->e≠154->V.ownsRow B' e sz v m ys:=fun B' e sz m v ys h he=>hTp.own h (fun q hq e'=>own_ne h hS6 he q hq e')
    have htwV:TreeAt V p' b' (upto cs d m0 bn):=by
     obtain ⟨D4,⟨es4,cl4,hmp4,_⟩,_⟩:=ht6w.map
     refine ht6w.touch hTp (fun e=>?_) (fun e=>?_)
     · have hb4:=ht6w.blk
       rw [e] at hb4
       exact row_ne hb4 hS6 (by decide) rfl
     · have h1:w6.heap[p]?=_:=hS6
       rw [e,h1] at hmp4;cases hmp4
    have hlabV:LabsAt V (fun g=>w5.heap.size<=g) nl' us:=hlab6.touch hTp (fun e=>by omega) (fun g hg e=>by omega)
    have hrosV:=hTp.heap hros6 (fun e=>by omega)
    have hrowV:SrvAt V p (.int .i64 d) x1 x2 (.map (some nl')) (.pointer (some ⟨nr',0,none⟩)) (.map (some xl)) (.pointer (some ⟨xr,0,none⟩)) (.slice none 0 0) (.slice none 0 0) tv' hv':=hrow
    have hTV:Touch (fun j=>j=p\/(Value.slice (some ⟨gt,0,none⟩) 1 ct).ownBlock=some j\/(Value.slice (some ⟨gh,0,none⟩) 1 ch).ownBlock=some j) w1 V:=(Touch.of_below HB4.out.1 _).trans (hT46.trans (hTp.mono (fun j h=>.inl (.inl h))))
    have h1:=hne _ _ _ _ _ _ ht6 (by decide)
    have h2:=hne _ _ _ _ _ _ hh6 (by decide)
    have h3:=hne _ _ _ _ _ _ hn6 (by decide)
    have h4:=hne _ _ _ _ _ _ hown6 (by decide)
    have HFin:=Lib.hid (And.intro hrowV (And.intro hlabV (And.intro hrosV (And.intro h4 (And.intro htwV (And.intro h1 (And.intro h2 (And.intro h3 hTV))))))))
    clear hS6 ht6 hh6 hn6 ht6w hT46 hlab6 hros6 hown6 hTp hrow hne htwV hlabV hrosV hrowV hTV h1 h2 h3 h4 HF6 HN6
    go_ret
    obtain ⟨g1,g2,g3,g4,g5,g6,g7,g8,g9⟩:=HFin.out
    rw [HM.out] at g5 g8
    rw [HDG.out]
    refine ⟨_,nl',nr',v2',tv',hv',p',b',na1,nc1,rfl,g1,g2.mono (fun g hg=>by omega),g3,ownsRow_base g4 (by omega),g5,g6,g7,ownsRow_base g8 (by omega),fun j hj=>(htb5 j hj).imp id (fun h=>by omega),fun j hj=>(hhb5 j hj).imp id (fun h=>by omega),by omega,by omega,hp',hb',g9⟩
theorem isNd_ok (x:Tx) (h:IsNd x):okNode x=true:=by
 rcases h with rfl | ⟨r,hr,rfl | rfl⟩
 · rfl
 · unfold okNode
   rw [List.length_cons,hr]
   rfl
 · unfold okNode
   rw [List.length_cons,hr]
   rfl
theorem level_ok (m:Puts) (d:Nat):∀ x∈hs.level m d,okNode x=true:=by
 intro x hx
 unfold Hs.level at hx
 obtain ⟨j,_,rfl⟩:=List.mem_map.1 hx
 exact isNd_ok _ (isNd_nd _ _ _)
theorem hdOk0 (d:Nat) (auds:List Aud) (hd:d<=3) (ha:auds.length<=64):HdOk 0 nought16 d auds.length (2^d) (nodes0 d auds):=
 ⟨by decide,by decide,hd,ha,rfl,level_length _ _ _,level_ok _ _⟩
theorem hdOk1 (d:Nat) (auds:List Aud) (us:List (List UInt8×List UInt8)) (hd:d<=3) (ha:auds.length<=64):HdOk 1 (dig0 d auds) d auds.length (2^d) (nodes1 d auds us):=
 ⟨by decide,digHd_length _ _ _ _ _,hd,ha,rfl,level_length _ _ _,level_ok _ _⟩
theorem SrvIn.written {w w1:World} {S:Nat->Prop} {p d:Nat} {auds:List Aud} {us:List (List UInt8×List UInt8)} {bk dk g xl xr t0 tb:Nat} {cv nv tv hv x3 x4 v2:Value} {na:Option Addr} {nc:Nat} {nts:List ByteArray}
 (h:SrvIn w S p d auds us bk dk g xl xr t0 tb cv nv tv hv x3 x4 v2 na nc nts) (ht:Touch (fun k=>k=bk\/k=dk\/k=g) w w1) :
 SrvAt w1 p (.int .i64 d) (.pointer (some ⟨bk,0,none⟩)) (.bool false) x3 x4 (.map (some xl)) (.pointer (some ⟨xr,0,none⟩)) cv nv tv hv/\LabsAt w1 S xl us/\RosAt w1 xr v2/\w1.ownsRow 0 90 4 v2 auds.length (audCells auds)/\w1.ownsRow 0 38 2 cv us.length (cgCells (usPuts us).reverse)/\TreeAt w1 t0 tb (layP auds [] auds.length)/\w1.ownsRow 0 24 1 tv 1 [.pointer (some ⟨t0,0,none⟩)] /\
 w1.ownsRow 0 69 5 hv 1 [.int .u64 0,.string ⟨nought16.toArray⟩,.int .i64 d,.int .i64 auds.length,.slice na (2^d) nc]/\w1.ownsRow 0 9 1 (.slice na (2^d) nc) (2^d) ((hs.level (layP auds [] auds.length) d).map encStr):=by
 obtain ⟨xs,_,_,hd⟩:=h.disk
 obtain ⟨cd,hdb⟩:=hd.blk
 have hno:∀ (j:Nat) (cs:Array Value) (t:TypeId) (f:Nat×Nat),w.heap[j]?=some (.cells cs t f)->t≠270->t≠199->t≠9->¬ (j=bk\/j=dk\/j=g):=by
  rintro j cs t f hj h1 h2 h3 (rfl | rfl | rfl)
  · exact row_ne hj h.book h1 rfl
  · exact row_ne hj hdb h2 rfl
  · exact row_ne hj hd.row h3 rfl
 have hown:∀ (B:Nat) (e:TypeId) (sz n:Nat) (v:Value) (ys:List Value),w.ownsRow B e sz v n ys->e≠270->e≠199->e≠9->w1.ownsRow B e sz v n ys:=fun B e sz n v ys ho h1 h2 h3=>ht.own ho (fun k hk hT=>by
  obtain ⟨cs,f,hq⟩:=own_heap ho k hk
  exact hno k cs e f hq h1 h2 h3 hT)
 have hmap:∀ (j:Nat) (es:Array MapEntry) (c:Nat),w.heap[j]?=some (.map es c)->¬ (j=bk\/j=dk\/j=g):=by
  rintro j es c hj (rfl | rfl | rfl)
  · have h1:w.heap[j]?=_:=h.book
    rw [hj] at h1;cases h1
  · rw [hj] at hdb;cases hdb
  · have h1:=hd.row
    rw [hj] at h1;cases h1
 obtain ⟨es,c,hmx⟩:=h.next.map
 obtain ⟨D4,⟨es4,cl4,hmp4,_⟩,_⟩:=h.tree.map
 refine ⟨ht.heap h.row (hno _ _ _ _ h.row (by decide) (by decide) (by decide)),h.next.keep ht (hmap _ _ _ hmx) (fun q hq cs f hc=>hno q cs _ f hc (by decide) (by decide) (by decide) hq),ht.heap h.ros (hno _ _ _ _ h.ros (by decide) (by decide) (by decide)),hown _ _ _ _ _ _ h.rosr (by decide) (by decide) (by decide),hown _ _ _ _ _ _ h.chg (by decide) (by decide) (by decide),h.tree.touch ht (hno _ _ _ _ h.tree.blk (by decide) (by decide) (by decide)) (hmap _ _ _ hmp4),hown _ _ _ _ _ _ h.trees (by decide) (by decide) (by decide),hown _ _ _ _ _ _ h.heads (by decide) (by decide) (by decide),ht.own h.nodes (fun k hk hT=>?_)⟩
 obtain ⟨cs,f,hq⟩:=own_heap h.nodes k hk
 rcases hT with rfl | rfl | rfl
 · exact row_ne hq h.book (by decide) rfl
 · exact row_ne hq hdb (by decide) rfl
 · exact h.apart.2.2 hk
theorem LabsAt.bounded {S:Nat->Prop} {w:World} {b:Nat} {us:List (List UInt8×List UInt8)} (h:LabsAt w S b us):LabsAt w (fun g=>S g/\g<w.heap.size) b us:=by
 obtain ⟨D,h1,h2,h3⟩:=h
 refine ⟨D,h1,h2,fun k seed hk=>?_⟩
 obtain ⟨a,c,e1,e2,e3⟩:=h3 k seed hk
 exact ⟨a,c,e1,e2,fun g hg=>⟨e3 g hg,(e2.lt g hg).2⟩⟩
def more (S:Nat->Prop) (w w':World):Nat->Prop:=fun k=>S k\/(w.heap.size<=k/\k<w'.heap.size)
theorem own_room {w:World} {base:Nat} {e:TypeId} {n:Nat} {a:Option Addr} {c:Nat} {xs:List Value} (h:w.ownsRow base e 1 (.slice a n c) n xs):n<=c:=by
 rcases h.2 with ⟨_,h0⟩ | ⟨g,cap,cur,e1,_,_,hnc,_⟩
 · omega
 · injection e1 with _ _ e3
   omega
theorem spublish_room (p d:Nat) (auds:List Aud) (us:List (List UInt8×List UInt8)) (S:Nat->Prop) (w:World) (h:SrvA w S p d auds us) (hus:us.length<=3) (ha:auds.length<=64) (hd3:d<=3) (hK:Kon w) (hKS:¬ S 0) :
 Calls Tryz.prog 27 #[.pointer (some ⟨p,0,none⟩)] w fun e w'=>∃ v na1 nc1,e=.returned (.tuple #[hdV 1 (dig0 d auds) d auds.length na1 (2^d) nc1,v,.int .i64 0])/\SrvB w' (more S w w') p d auds us/\Cells w' (.slice na1 (2^d) nc1) (txs (nodes1 d auds us))/\(∀ k,(Value.slice na1 (2^d) nc1).ownBlock=some k->w.heap.size<=k/\k<w'.heap.size)/\Touch S w w'/\2^d<=nc1:=by
 obtain ⟨bk,dk,g,xl,xr,t0,tb,cv,nv,tv,hv,x3,x4,v2,na,nc,nts,h⟩:=h
 obtain ⟨ha1,hc1,rfl⟩:=own_slice h.heads
 obtain ⟨ra,rc,rfl⟩:=own_slice h.rosr
 obtain ⟨i1,i2,i3,i4,i5,i6,i7,i8⟩:=h.inS
 obtain ⟨j1,j2,j3,j4,j5,j6⟩:=h.inS2
 have hlt:=h.lt
 have hb0:Below w.heap.size w (w.alloc (.cells #[.int .u64 0,.string ⟨#[]⟩,.int .i64 0,.int .i64 0,.slice none 0 0] 69)):=(Below.refl _ _).alloc (Nat.le_refl _) _
 have hr0:(w.alloc (.cells #[.int .u64 0,.string ⟨#[]⟩,.int .i64 0,.int .i64 0,.slice none 0 0] 69)).heap[w.heap.size]?=some (.cells #[.int .u64 0,.string ⟨#[]⟩,.int .i64 0,.int .i64 0,.slice none 0 0] 69 (0,0)):=heap_alloc_new _ _
 have hsz0:(w.alloc (.cells #[.int .u64 0,.string ⟨#[]⟩,.int .i64 0,.int .i64 0,.slice none 0 0] 69)).heap.size=w.heap.size+1:=by simp
 have h0:=h.touch (Touch.of_below hb0 (fun _=>False)) (fun _ _ h=>h)
 have c2:(w.alloc (.cells #[.int .u64 0,.string ⟨#[]⟩,.int .i64 0,.int .i64 0,.slice none 0 0] 69)).cell? ⟨p,2,none⟩=some (.bool false):=h0.row.cells.2.2.1
 have H0:=Lib.hid h0
 have HB0:=Lib.hid (And.intro hb0 (And.intro hr0 hsz0))
 have HI:=Lib.hid (And.intro i1 (And.intro i2 (And.intro i3 (And.intro i4 (And.intro i5 (And.intro i6 (And.intro i7 i8)))))))
 have HJ:=Lib.hid (And.intro j3 (And.intro j4 (And.intro j5 j6)))
 have hKd:dk≠0:=fun e=>hKS (e ▸ i3)
 have hKb:bk≠0:=fun e=>hKS (e ▸ i2)
 have hKg:g≠0:=fun e=>hKS (e ▸ i4)
 have hK0:=hK.old hb0
 have HLT:=Lib.hid hlt
 have hwr:=Lib.hid (sawrite_any p bk dk g us.length 1 hc1 nv ha1 nts _ _ _ _ _ _ _ _ h0.row h0.book h0.disk h0.note h0.nlen hus (by decide) h0.small (fun k hk=>(h0.apart.1 k hk).1) hK0 hKd hKb hKg)
 have HK0:=Lib.hid hK0
 have HK1:=Lib.hid (fun W (hT:Touch S w W)=>hK.touch hT hKS)
 clear h h0 hb0 hr0 hsz0 i1 i2 i3 i4 i5 i6 i7 i8 j1 j2 j3 j4 j5 j6 hlt hK hKd hKb hKg hK0 hKS
 go_enter Tryz.func27,Tryz.ntmps27
 go_wp2_with fail
 clear c2
 generalize hW0:(w.alloc (.cells #[.int .u64 0,.string ⟨#[]⟩,.int .i64 0,.int .i64 0,.slice none 0 0] 69))=W0 at H0 HB0 HK0 hwr |-
 clear hW0
 refine hwr.out.mono ?_
 clear hwr
 rintro e w1 ⟨rfl,hT1⟩
 obtain ⟨g1,g2,g3,g4,g5,g6,g7,g8,g9⟩:=H0.out.written hT1
 have hnT:(¬ (t0=p\/tv.ownBlock=some t0\/(Value.slice ha1 1 hc1).ownBlock=some t0))/\(¬ (tb=p\/tv.ownBlock=some tb\/(Value.slice ha1 1 hc1).ownBlock=some tb))/\(∀ k,(Value.slice na (2^d) nc).ownBlock=some k->¬ (k=p\/tv.ownBlock=some k\/(Value.slice ha1 1 hc1).ownBlock=some k)):=by
  obtain ⟨D4,⟨es4,cl4,hmp4,_⟩,_⟩:=g6.map
  refine ⟨?_,?_,fun k hk=>?_⟩
  · rintro (e | e | e)
    · have h1:=g6.blk
      rw [e] at h1
      exact row_ne h1 g1 (by decide) rfl
    · exact own_ne g7 g6.blk (by decide) _ e rfl
    · exact own_ne g8 g6.blk (by decide) _ e rfl
  · rintro (e | e | e)
    · have h1:w1.heap[p]?=_:=g1
      rw [e,h1] at hmp4;cases hmp4
    · exact own_ne_map g7 hmp4 _ e rfl
    · exact own_ne_map g8 hmp4 _ e rfl
  · obtain ⟨cs',f',hq⟩:=own_heap g9 k hk
    rintro (e | e | e)
    · rw [e] at hq
      exact row_ne hq g1 (by decide) rfl
    · exact own_ne g7 hq (by decide) _ e rfl
    · exact own_ne g8 hq (by decide) _ e rfl
 have HNT:=Lib.hid hnT
 clear hnT
 have hs1:=hT1.size
 have hTS1:Touch S w w1:=(Touch.of_below HB0.out.1 _).trans (hT1.mono (fun k hk=>.inl (by
  obtain ⟨i1,i2,i3,i4,_⟩:=HI.out
  rcases hk with rfl | rfl | rfl
  · exact i2
  · exact i3
  · exact i4)))
 have hK1:=HK1.out w1 hTS1
 have hr1:w1.heap[w.heap.size]?=some (.cells #[.int .u64 0,.string ⟨#[]⟩,.int .i64 0,.int .i64 0,.slice none 0 0] 69 (0,0)):=hT1.heap HB0.out.2.1 (fun e=>by
  have hl:=HLT.out
  obtain ⟨_,i2,i3,i4,_⟩:=HI.out
  have h2:=hl _ i2
  have h3:=hl _ i3
  have h4:=hl _ i4
  omega)
 have hset:=Lib.hid (ssettle_any p d xl xr t0 tb auds.length (.pointer (some ⟨bk,0,none⟩)) (.bool false) x3 x4 cv nv tv (.slice ha1 1 hc1) us S (usPuts us).reverse (layP auds [] auds.length) us.length 0 nought16 na (2^d) nc (nodes0 d auds) ra rc (audCells auds) w1 g1 g2 (by omega) g3 g4 (audCells_one auds) ha g5 (by rw [List.length_reverse,usPuts_length]) hus (fun q hq=>by
  unfold usPuts at hq
  obtain ⟨u,_,rfl⟩:=List.mem_map.1 (List.mem_reverse.1 hq)
  exact ⟨tagOf_length _ _,by show (tagOf _ _).length<=1000;rw [tagOf_length];decide⟩) g6 (by rw [layP_length];simp;omega) g7 g8 (Nat.zero_le _) (cells_of_own g9) (hdOk0 d auds hd3 ha) hK1 hd3)
 have HG:=Lib.hid (And.intro g6 (And.intro g9 (And.intro hr1 hTS1)))
 have hs0:w.heap.size<w1.heap.size:=lt_of_heap hr1
 clear g1 g2 g3 g4 g5 g6 g7 g8 g9 hT1 hTS1 hK1 hr1
 go_wp2_with fail
 refine hset.out.mono ?_
 clear hset
 rintro e w2 ⟨v,nl',nr',v2',tv',hv',t1,tb1,na1,nc1,rfl,k1,k2,k3,k4,k5,k6,k7,k8,k9,k10,k11,k12,k13,k14,hT2⟩
 obtain ⟨gh,ch,rfl,_,_⟩:=k7.form (by decide)
 have hadd:∀ g i,(⟨g,0,none⟩:Addr).add i=⟨g,i,none⟩:=fun g i=>by unfold Addr.add;split <;> simp_all
 have r0:=k7.cells (g:=gh) rfl 5 _ rfl
 have r1:=k7.cells (g:=gh) rfl 6 _ rfl
 have r2:=k7.cells (g:=gh) rfl 7 _ rfl
 have r3:=k7.cells (g:=gh) rfl 8 _ rfl
 have r4:=k7.cells (g:=gh) rfl 9 _ rfl
 rw [hadd] at r0 r1 r2 r3 r4
 have hlast:=Lib.hid (slast_head p gh 2 1 ch 1 (dig0 d auds) d auds.length na1 (2^d) nc1 _ _ _ _ _ _ _ _ _ _ w2 k1 (by decide) rfl r0 r1 r2 r3 r4)
 have hr2:w2.heap[w.heap.size]?=some (.cells #[.int .u64 0,.string ⟨#[]⟩,.int .i64 0,.int .i64 0,.slice none 0 0] 69 (0,0)):=hT2.heap HG.out.2.2.1 (fun e=>by
  have hl:=HLT.out
  rcases e with e | e | e
  · have:=hl _ HI.out.1;omega
  · have:=hl _ (HJ.out.1 _ e);omega
  · have:=hl _ (HJ.out.2.1 _ e);omega)
 have hs12:=hT2.size
 have HK2:=Lib.hid (And.intro k1 (And.intro k2 (And.intro k3 (And.intro k4 (And.intro k5 (And.intro k6 (And.intro k7 (And.intro k8 (And.intro k9 (And.intro k10 (And.intro k13 (And.intro k14 hT2))))))))))))
 have HR2:=Lib.hid hr2
 clear r0 r1 r2 r3 r4 hadd k1 k2 k3 k4 k5 k6 k7 k8 k9 k10 k13 k14 hT2 hr2
 unfold hdV at hlast
 generalize hDg:dig0 d auds=dg at hlast
 have HDG:=Lib.hid hDg
 clear hDg
 go_wp2_with fail
 refine hlast.out.mono ?_
 rintro e w3 ⟨rfl,hb3⟩
 have hr3:=(hb3.block _ (lt_of_heap HR2.out)).trans HR2.out
 have f:∀ i,w3.frozen? ⟨w.heap.size,i,none⟩=false:=fun i=>frozen_of_row _ _ i _ _ hr3
 have f0:=f 0
 have f1:=f 1
 have f2:=f 2
 have f3:=f 3
 have f4:=f 4
 have c0:w3.cell? ⟨w.heap.size,0,none⟩=some (.int .u64 0):=cel hr3
 have c1:w3.cell? ⟨w.heap.size,1,none⟩=some (.string ⟨#[]⟩):=cel hr3
 have c2:w3.cell? ⟨w.heap.size,2,none⟩=some (.int .i64 0):=cel hr3
 have c3:w3.cell? ⟨w.heap.size,3,none⟩=some (.int .i64 0):=cel hr3
 have c4:w3.cell? ⟨w.heap.size,4,none⟩=some (.slice none 0 0):=cel hr3
 have HB3:=Lib.hid hb3
 have HR3:=Lib.hid hr3
 clear hlast hb3 hr3 f
 go_wp2
 clear f0 f1 f2 f3 f4 c0 c1 c2 c3 c4
 have row7:=five_store (.int .u64 1) (.string ⟨dg.toArray⟩) (.int .i64 d) (.int .i64 auds.length) (.slice na1 (2^d) nc1) HR3.out
 have hT7:Touch (fun j=>j=w.heap.size) w2 (((((w3.setCell ⟨w.heap.size,0,none⟩ (.int .u64 1)).setCell ⟨w.heap.size,1,none⟩ (.string ⟨dg.toArray⟩)).setCell ⟨w.heap.size,2,none⟩ (.int .i64 d)).setCell ⟨w.heap.size,3,none⟩ (.int .i64 auds.length)).setCell ⟨w.heap.size,4,none⟩ (.slice na1 (2^d) nc1)):=
  (Touch.of_below HB3.out _).trans (((((Touch.setCell (S:=fun j=>j=w.heap.size) w3 ⟨w.heap.size,0,none⟩ _ rfl).trans (Touch.setCell (S:=fun j=>j=w.heap.size) _ ⟨w.heap.size,1,none⟩ _ rfl)).trans (Touch.setCell (S:=fun j=>j=w.heap.size) _ ⟨w.heap.size,2,none⟩ _ rfl)).trans (Touch.setCell (S:=fun j=>j=w.heap.size) _ ⟨w.heap.size,3,none⟩ _ rfl)).trans (Touch.setCell (S:=fun j=>j=w.heap.size) _ ⟨w.heap.size,4,none⟩ _ rfl))
 generalize (((((w3.setCell ⟨w.heap.size,0,none⟩ (.int .u64 1)).setCell ⟨w.heap.size,1,none⟩ (.string ⟨dg.toArray⟩)).setCell ⟨w.heap.size,2,none⟩ (.int .i64 d)).setCell ⟨w.heap.size,3,none⟩ (.int .i64 auds.length)).setCell ⟨w.heap.size,4,none⟩ (.slice na1 (2^d) nc1))=V at row7 hT7 |-
 have p0:V.cell? ⟨w.heap.size,0,none⟩=some (.int .u64 1):=cel row7
 have p1:V.cell? ⟨w.heap.size,1,none⟩=some (.string ⟨dg.toArray⟩):=cel row7
 have p2:V.cell? ⟨w.heap.size,2,none⟩=some (.int .i64 d):=cel row7
 have p3:V.cell? ⟨w.heap.size,3,none⟩=some (.int .i64 auds.length):=cel row7
 have p4:V.cell? ⟨w.heap.size,4,none⟩=some (.slice na1 (2^d) nc1):=cel row7
 have HT7:=Lib.hid hT7
 clear row7 hT7
 refine bodyPost_ret (v:=.tuple #[.agg #[.int .u64 1,.string ⟨dg.toArray⟩,.int .i64 d,.int .i64 auds.length,.slice na1 (2^d) nc1],v,.int .i64 0]) ?_ rfl ⟨v,na1,nc1,by rw [HDG.out];rfl,?_⟩
 · simp [results,Tryz.f27,go_sem,p0,p1,p2,p3,p4]
 · obtain ⟨k1,k2,k3,k4,k5,k6,k7,k8,k9,k10,k13,k14,hT2⟩:=HK2.out
   obtain ⟨g6,g9,_,hTS1⟩:=HG.out
   obtain ⟨n1,n2,n3⟩:=HNT.out
   obtain ⟨i1,i2,i3,i4,i5,i6,i7,i8⟩:=HI.out
   obtain ⟨j3,j4,j5,j6⟩:=HJ.out
   have hT7:=HT7.out
   have hl:=HLT.out
   have hs2V:=hT7.size
   have hw1H:w.heap.size<w1.heap.size:=hs0
   have hSH:∀ k,S k->k≠w.heap.size:=fun k hk=>by have:=hl k hk;omega
   have hSV:∀ k,S k->more S w V k:=fun k hk=>.inl hk
   have hNV:∀ k,w1.heap.size<=k->k<V.heap.size->more S w V k:=fun k h1 h2=>.inr ⟨by omega,h2⟩
   have hTT:Touch S w V:=(hTS1.trans (hT2.mono (fun k hk=>.inl (by
    rcases hk with rfl | e | e
    · exact i1
    · exact j3 _ e
    · exact j4 _ e)))).then hT7 (fun k hk=>.inr (Nat.le_of_eq (Eq.symm hk)))
   have t0':=(g6.touch hT2 n1 n2).touch hT7 (hSH _ i7) (hSH _ i8)
   have t1H:t1≠w.heap.size:=by rcases k13 with e | e;exact e ▸ hSH _ i7;omega
   have tb1H:tb1≠w.heap.size:=by rcases k14 with e | e;exact e ▸ hSH _ i8;omega
   have t1':=k5.touch hT7 t1H tb1H
   have no0:=hT7.own (hT2.own g9 n3) (fun k hk e=>hSH k (j6 k hk) e)
   have no1:=hT7.own k8 (fun k hk e=>by have h1:=(k8.lt k hk).1;have e:k=w.heap.size:=e;omega)
   have tr:=hT7.own k6 (fun k hk e=>by rcases k9 k hk with h | h;exact hSH k (j3 k h) e;omega)
   have hd:=hT7.own k7 (fun k hk e=>by rcases k10 k hk with h | h;exact hSH k (j4 k h) e;omega)
   have hrr:=hT7.own k4 (fun k hk e=>by have h1:=(k4.lt k hk).1;have e:k=w.heap.size:=e;omega)
   refine ⟨⟨nl',nr',t0,tb,t1,tb1,_,_,_,_,_,tv',_,v2',na,nc,na1,nc1,hT7.heap k1 (hSH _ i1),(k2.touch hT7 (by omega) (fun q hq e=>by omega)).bounded.mono (fun q hq=>hNV q hq.1 hq.2),hT7.heap k3 (by omega),ownsRow_base hrr (Nat.zero_le _),t0',t1',tr,hd,no0,ownsRow_base no1 (Nat.zero_le _),⟨hSV _ i1,hNV _ k11 (by have:=k2.lt;omega),hNV _ k12 (by have:=lt_of_heap k3;omega),hSV _ i7,hSV _ i8,?_,?_⟩,⟨fun k hk=>?_,fun k hk=>?_,fun k hk=>?_,fun k hk=>hSV _ (j6 k hk),fun k hk=>?_⟩,fun k hk=>?_⟩,cells_of_own no1,fun k hk=>?_,hTT,own_room no1⟩
   · rcases k13 with e | e
     · rw [e];exact hSV _ i7
     · exact hNV _ e t1'.lt.1
   · rcases k14 with e | e
     · rw [e];exact hSV _ i8
     · exact hNV _ e t1'.lt.2
   · rcases k9 k hk with h | h
     · exact hSV _ (j3 k h)
     · exact hNV _ h (tr.lt k hk).2
   · rcases k10 k hk with h | h
     · exact hSV _ (j4 k h)
     · exact hNV _ h (hd.lt k hk).2
   · exact hNV _ (hrr.lt k hk).1 (hrr.lt k hk).2
   · exact hNV _ (no1.lt k hk).1 (no1.lt k hk).2
   · rcases hk with h | h
     · have:=hl k h
       have:=hTT.size
       omega
     · exact h.2
   · have:=no1.lt k hk
     exact ⟨by omega,this.2⟩
theorem spublish_any (p d:Nat) (auds:List Aud) (us:List (List UInt8×List UInt8)) (S:Nat->Prop) (w:World) (h:SrvA w S p d auds us) (hus:us.length<=3) (ha:auds.length<=64) (hd3:d<=3) (hK:Kon w) (hKS:¬ S 0) :
 Calls Tryz.prog 27 #[.pointer (some ⟨p,0,none⟩)] w fun e w'=>∃ v na1 nc1,e=.returned (.tuple #[hdV 1 (dig0 d auds) d auds.length na1 (2^d) nc1,v,.int .i64 0])/\SrvB w' (more S w w') p d auds us/\Cells w' (.slice na1 (2^d) nc1) (txs (nodes1 d auds us))/\(∀ k,(Value.slice na1 (2^d) nc1).ownBlock=some k->w.heap.size<=k/\k<w'.heap.size)/\Touch S w w':=
 (spublish_room p d auds us S w h hus ha hd3 hK hKS).mono fun _ _ ⟨v,na,nc,h1,h2,h3,h4,h5,_⟩=>⟨v,na,nc,h1,h2,h3,h4,h5⟩
theorem SrvIn.submitted {w0 w w9 A V:World} {S:Nat->Prop} {p d:Nat} {auds:List Aud} {us:List (List UInt8×List UInt8)} {bk dk g xl xr t0 tb:Nat} {cv nv tv hv x3 x4 v2 cv' nv':Value} {na:Option Addr} {nc:Nat} {nts:List ByteArray} (l seed:List UInt8) (note:ByteArray)
 (h:SrvIn w S p d auds us bk dk g xl xr t0 tb cv nv tv hv x3 x4 v2 na nc nts) (hw0:w0.heap.size<=w.heap.size) (h49:Touch (fun j=>j=xl) w w9) (hl9:LabsAt w9 (fun q=>S q\/w.heap.size<=q) xl ((l,seed) :: us)) (h9A:Below w9.heap.size w9 A) (hT:Touch (fun j=>j=p\/cv.ownBlock=some j\/nv.ownBlock=some j) A V)
 (hrow:SrvAt V p (.int .i64 d) (.pointer (some ⟨bk,0,none⟩)) (.bool false) x3 x4 (.map (some xl)) (.pointer (some ⟨xr,0,none⟩)) cv' nv' tv hv) (hcv:V.ownsRow 0 38 2 cv' (us.length+1) (cgCells (usPuts us).reverse++[.string ⟨(nameOf l).toArray⟩,.string ⟨(fstVal seed).toArray⟩])) (hnv:V.ownsRow 0 9 1 nv' (us.length+1) (strs nts++[.string note]))
 (hcb:∀ j,cv'.ownBlock=some j->cv.ownBlock=some j\/A.heap.size<=j) (hnb:∀ j,nv'.ownBlock=some j->nv.ownBlock=some j\/A.heap.size<=j) (hnote:note.size<=700) :
 SrvIn V (more S w0 V) p d auds ((l,seed) :: us) bk dk g xl xr t0 tb cv' nv' tv hv x3 x4 v2 na nc (nts++[note])/\Touch S w V:=by
 obtain ⟨i1,i2,i3,i4,i5,i6,i7,i8⟩:=h.inS
 obtain ⟨j1,j2,j3,j4,j5,j6⟩:=h.inS2
 obtain ⟨a1,a2,a3⟩:=h.apart
 obtain ⟨es,c,hmx⟩:=h.next.map
 obtain ⟨D4,⟨es4,cl4,hmp4,_⟩,_⟩:=h.tree.map
 obtain ⟨xs,hx1,hx2,hd⟩:=h.disk
 obtain ⟨cd,hdb⟩:=hd.blk
 have hltw:=h.lt
 have s49:=h49.size
 have s9A:=h9A.size
 have sAV:=hT.size
 have hTw:Touch (fun j=>j=xl\/j=p\/cv.ownBlock=some j\/nv.ownBlock=some j) w V:=((h49.mono (fun j h=>.inl (.inl h))).trans (Touch.of_below h9A _)).trans (hT.mono (fun j h=>.inl (.inr h)))
 have hTS:Touch S w V:=hTw.mono (fun j hj=>.inl (by
  rcases hj with rfl | rfl | e | e
  · exact i5
  · exact i1
  · exact j1 _ e
  · exact j2 _ e))
 have hno:∀ (j:Nat) (cs:Array Value) (t:TypeId) (f:Nat×Nat),w.heap[j]?=some (.cells cs t f)->t≠154->t≠38->(t≠9\/nv.ownBlock≠some j)->¬ (j=xl\/j=p\/cv.ownBlock=some j\/nv.ownBlock=some j):=by
  rintro j cs t f hj h1 h2 h3 (rfl | rfl | e | e)
  · rw [hj] at hmx;cases hmx
  · exact row_ne hj h.row h1 rfl
  · exact own_ne h.chg hj h2.symm _ e rfl
  · rcases h3 with h3 | h3
    · exact own_ne h.note hj h3.symm _ e rfl
    · exact h3 e
 have hown:∀ (B:Nat) (e:TypeId) (sz n:Nat) (v:Value) (ys:List Value),w.ownsRow B e sz v n ys->e≠154->e≠38->e≠9->V.ownsRow B e sz v n ys:=fun B e sz n v ys ho h1 h2 h3=>hTw.own ho (fun k hk hT'=>by
  obtain ⟨cs,f,hq⟩:=own_heap ho k hk
  exact hno k cs e f hq h1 h2 (.inl h3) hT')
 have hmapn:∀ (j:Nat) (es:Array MapEntry) (c:Nat),w.heap[j]?=some (.map es c)->¬ (j=p\/cv.ownBlock=some j\/nv.ownBlock=some j):=by
  rintro j es c hj (rfl | e | e)
  · have h1:w.heap[j]?=_:=h.row
    rw [hj] at h1;cases h1
  · exact own_ne_map h.chg hj _ e rfl
  · exact own_ne_map h.note hj _ e rfl
 have hSV:∀ k,S k->more S w0 V k:=fun k hk=>.inl hk
 have hcvA:A.ownsRow 0 38 2 cv us.length (cgCells (usPuts us).reverse):=(Touch.of_below h9A (fun _=>False)).own (h49.own h.chg (fun k hk e=>own_ne_map h.chg hmx k hk e)) (fun _ _ h=>h)
 have hnvA:A.ownsRow 0 9 1 nv us.length (strs nts):=(Touch.of_below h9A (fun _=>False)).own (h49.own h.note (fun k hk e=>own_ne_map h.note hmx k hk e)) (fun _ _ h=>h)
 have hpA:SrvAt A p (.int .i64 d) (.pointer (some ⟨bk,0,none⟩)) (.bool false) x3 x4 (.map (some xl)) (.pointer (some ⟨xr,0,none⟩)) cv nv tv hv:=(Touch.of_below h9A (fun _=>False)).heap (h49.heap h.row (fun e=>by
  have h1:w.heap[p]?=_:=h.row
  rw [e,hmx] at h1;cases h1)) id
 have hlA:=hl9.old h9A
 obtain ⟨esA,cA,hmA⟩:=hlA.map
 have hlV:LabsAt V (more S w0 V) xl ((l,seed) :: us):=by
  refine ((hlA.keep hT ?_ ?_).bounded).mono (fun q hq=>?_)
  · rintro (e | e | e)
    · have h1:A.heap[p]?=_:=hpA
      rw [e,h1] at hmA;cases hmA
    · exact own_ne_map hcvA hmA _ e rfl
    · exact own_ne_map hnvA hmA _ e rfl
  · rintro q (rfl | e | e) cs f hq
    · exact row_ne hq hpA (by decide) rfl
    · exact own_ne hcvA hq (by decide) q e rfl
    · exact own_ne hnvA hq (by decide) q e rfl
  · rcases hq.1 with h1 | h1
    · exact .inl h1
    · exact .inr ⟨by omega,hq.2⟩
 refine ⟨⟨hrow,hTw.heap h.book (hno _ _ _ _ h.book (by decide) (by decide) (.inl (by decide))),⟨xs,hx1,hx2,⟨⟨cd,hTw.heap hdb (hno _ _ _ _ hdb (by decide) (by decide) (.inl (by decide)))⟩,hTw.heap hd.row (hno _ _ _ _ hd.row (by decide) (by decide) (.inr (fun e=>(a1 g e).1 rfl))),hd.ne⟩⟩,hlV,hTw.heap h.ros (hno _ _ _ _ h.ros (by decide) (by decide) (.inl (by decide))),hown _ _ _ _ _ _ h.rosr (by decide) (by decide) (by decide),?_,by simp [h.nlen],?_,?_,?_,hown _ _ _ _ _ _ h.trees (by decide) (by decide) (by decide),hown _ _ _ _ _ _ h.heads (by decide) (by decide) (by decide),?_,⟨hSV _ i1,hSV _ i2,hSV _ i3,hSV _ i4,hSV _ i5,hSV _ i6,hSV _ i7,hSV _ i8⟩,⟨?_,?_,fun k hk=>hSV _ (j3 k hk),fun k hk=>hSV _ (j4 k hk),fun k hk=>hSV _ (j5 k hk),fun k hk=>hSV _ (j6 k hk)⟩,⟨?_,a2,a3⟩,?_⟩,hTS⟩
 · have e:cgCells (usPuts ((l,seed) :: us)).reverse=cgCells (usPuts us).reverse++[.string ⟨(nameOf l).toArray⟩,.string ⟨(fstVal seed).toArray⟩]:=by
    unfold usPuts
    rw [List.map_cons,List.reverse_cons,cgCells_snoc]
   rw [e]
   exact hcv
 · have e:strs (nts++[note])=strs nts++[.string note]:=by simp [strs]
   rw [e]
   exact hnv
 · intro q hq
   rcases List.mem_append.1 hq with h1 | h1
   · exact h.small q h1
   · rw [List.mem_singleton.1 h1];exact hnote
 · refine h.tree.touch hTw (hno _ _ _ _ h.tree.blk (by decide) (by decide) (.inl (by decide))) ?_
   rintro (e | e)
   · exact a2 e.symm
   · exact hmapn _ _ _ hmp4 e
 · refine hTw.own h.nodes (fun k hk hT'=>?_)
   obtain ⟨cs,f,hq⟩:=own_heap h.nodes k hk
   exact hno k cs _ f hq (by decide) (by decide) (.inr (fun e=>(a1 k e).2 hk)) hT'
 · intro k hk
   rcases hcb k hk with h1 | h1
   · exact hSV _ (j1 k h1)
   · exact .inr ⟨by omega,(hcv.lt k hk).2⟩
 · intro k hk
   rcases hnb k hk with h1 | h1
   · exact hSV _ (j2 k h1)
   · exact .inr ⟨by omega,(hnv.lt k hk).2⟩
 · intro k hk
   rcases hnb k hk with h1 | h1
   · exact a1 k h1
   · refine ⟨fun e=>?_,fun e=>?_⟩
     · have:=hltw g i4;omega
     · have:=hltw k (j6 k e);omega
 · intro k hk
   rcases hk with h1 | h1
   · have:=hltw k h1;omega
   · exact h1.2
theorem ssub_wait {w w4 w9 A:World} {S:Nat->Prop} {p d:Nat} {auds:List Aud} {us:List (List UInt8×List UInt8)} {bk dk g xl xr t0 tb:Nat} {cv nv tv hv x3 x4 v2:Value} {na:Option Addr} {nc:Nat} {nts:List ByteArray} (l seed:List UInt8) (note kk vv:ByteArray) (o:Obj)
 (h:SrvIn w S p d auds us bk dk g xl xr t0 tb cv nv tv hv x3 x4 v2 na nc nts) (hus:us.length<=2) (hw4:Below w.heap.size w w4) (h49:Touch (fun j=>j=xl) w4 w9) (hl9:LabsAt w9 (fun q=>S q\/w4.heap.size<=q) xl ((l,seed) :: us)) (hA:Below w9.heap.size w9 A) (ho:w9.heap[w.heap.size]?=some o) (hnote:note.size<=700) (hkk:kk=⟨(nameOf l).toArray⟩) (hvv:vv=⟨(fstVal seed).toArray⟩) :
 Calls Tryz.prog 118 #[.pointer (some ⟨p,0,none⟩),.string note,.agg #[.string kk,.string vv]] A fun e V=>e=.returned (.tuple #[])/\(SrvA V (more S w V) p d auds ((l,seed) :: us)/\Touch S w V)/\V.heap[w.heap.size]?=some o:=by
 have h4:=h.touch (Touch.of_below hw4 (fun _=>False)) (fun _ _ h=>h)
 obtain ⟨es,cc,hmx⟩:=h4.next.map
 have hxp:p≠xl:=fun e=>by
  have h1:w4.heap[p]?=_:=h4.row
  rw [e,hmx] at h1;cases h1
 have hcvA:A.ownsRow 0 38 2 cv us.length (cgCells (usPuts us).reverse):=(Touch.of_below hA (fun _=>False)).own (h49.own h4.chg (fun k hk e=>own_ne_map h4.chg hmx k hk e)) (fun _ _ h=>h)
 have hnvA:A.ownsRow 0 9 1 nv us.length (strs nts):=(Touch.of_below hA (fun _=>False)).own (h49.own h4.note (fun k hk e=>own_ne_map h4.note hmx k hk e)) (fun _ _ h=>h)
 have hpA:SrvAt A p (.int .i64 d) (.pointer (some ⟨bk,0,none⟩)) (.bool false) x3 x4 (.map (some xl)) (.pointer (some ⟨xr,0,none⟩)) cv nv tv hv:=(Touch.of_below hA (fun _=>False)).heap (h49.heap h4.row hxp) id
 have hcall:=swait_any p (.int .i64 d) (.pointer (some ⟨bk,0,none⟩)) (.bool false) x3 x4 (.map (some xl)) (.pointer (some ⟨xr,0,none⟩)) cv nv tv hv us.length 0 _ _ note kk vv A hpA hcvA hnvA (by omega) (Nat.zero_le _)
 refine hcall.mono ?_
 rintro e V ⟨rfl,cv',nv',g1,g2,g3,g4,g5,g6⟩
 rw [hkk,hvv] at g2
 have hsub:=h4.submitted (w0:=w) l seed note hw4.size h49 hl9 hA g6 g1 g2 g3 g4 g5 hnote
 refine ⟨rfl,⟨⟨bk,dk,g,xl,xr,t0,tb,cv',nv',tv,hv,x3,x4,v2,na,nc,_,hsub.1⟩,(Touch.of_below hw4 S).trans hsub.2⟩,g6.heap ((hA.block _ (lt_of_heap ho)).trans ho) ?_⟩
 have hl:=h.lt
 have hj:=h.inS2
 rintro (e | e | e)
 · have:=hl _ h.inS.1;omega
 · have:=hl _ (hj.1 _ e);omega
 · have:=hl _ (hj.2.1 _ e);omega
end Go.Proofs.YtcgkomafaepjnaaGreatDoor
