/- Package roster: an auditor by its number. Conditions: the number is of the roster. -/
import Derived.Test.YtcgkomafaepjnaaGreatDoorTL19
import Derived.Test.YtcgkomafaepjnaaGreatDoorTL2
import Derived.Test.YtcgkomafaepjnaaGreatDoorTL15
import Derived.Test.YtcgkomafaepjnaaGreatDoorTL5
import Derived.Test.YtcgkomafaepjnaaGreatDoorTL9
import Derived.Maps.RangeWalk
import Derived.Maps.Views
import Derived.DeepKeys4
set_option maxRecDepth 100000
set_option maxHeartbeats 16000000
namespace Go.Proofs.YtcgkomafaepjnaaGreatDoor
open Go.RowKit
theorem rat_any (b B:Nat) (a:Option Addr) (n c:Nat) (l:List Aud) (w:World) (h:RosAt w b (.slice a n c)) (ho:w.ownsRow B 90 4 (.slice a n c) n (audCells l)) (hn:n=l.length) (k:Nat) (hk:k<l.length) (x:Aud) (hx:l[k]=x) :
 Calls Tryz.prog 136 #[.pointer (some ⟨b,0,none⟩),.int .i64 k] w fun e w'=>e=.returned (.tuple #[audV x.s x.o x.r x.h,.int .i64 0])/\Below w.heap.size w w':=by
 have c0:w.cell? ⟨b,0,none⟩=some (.slice a n c):=cel h
 obtain ⟨g,rfl,hg,x0,x1,x2,x3⟩:=aud_at ho hn k hk
 rw [hx] at x0 x1 x2 x3
 obtain ⟨xs,xo,xr,xh⟩:=x
 dsimp only at x0 x1 x2 x3 |-
 unfold audV
 have hkn:k<n:=by omega
 have hb0:Below w.heap.size w (w.alloc (.cells #[.string ⟨#[]⟩,.string ⟨#[]⟩,.string ⟨#[]⟩,.int .i64 0] 90)):=(Below.refl _ _).alloc (Nat.le_refl _) _
 have hlen:=Lib.hid (rlen_any b _ n c _ ((hb0.block _ (lt_of_heap h)).trans h))
 have k0:¬ ((k:Int)<0):=by omega
 have k1:¬ ((n:Int)<=(k:Int)):=by omega
 have hne:g≠w.heap.size:=by omega
 have d0:(w.alloc (.cells #[.string ⟨#[]⟩,.string ⟨#[]⟩,.string ⟨#[]⟩,.int .i64 0] 90)).cell? ⟨b,0,none⟩=some (.slice (some ⟨g,0,none⟩) n c):=(hb0.cell (World.block_lt_of_cell? _ _ c0)).trans c0
 have d1:(w.alloc (.cells #[.string ⟨#[]⟩,.string ⟨#[]⟩,.string ⟨#[]⟩,.int .i64 0] 90)).cell? ⟨g,k*4,none⟩=some (.string xs):=(hb0.cell (World.block_lt_of_cell? _ _ x0)).trans x0
 have d2:(w.alloc (.cells #[.string ⟨#[]⟩,.string ⟨#[]⟩,.string ⟨#[]⟩,.int .i64 0] 90)).cell? ⟨g,k*4+1,none⟩=some (.string ⟨xo.toArray⟩):=(hb0.cell (World.block_lt_of_cell? _ _ x1)).trans x1
 have d3:(w.alloc (.cells #[.string ⟨#[]⟩,.string ⟨#[]⟩,.string ⟨#[]⟩,.int .i64 0] 90)).cell? ⟨g,k*4+2,none⟩=some (.string ⟨xr.toArray⟩):=(hb0.cell (World.block_lt_of_cell? _ _ x2)).trans x2
 have d4:(w.alloc (.cells #[.string ⟨#[]⟩,.string ⟨#[]⟩,.string ⟨#[]⟩,.int .i64 0] 90)).cell? ⟨g,k*4+3,none⟩=some (.int .i64 xh):=(hb0.cell (World.block_lt_of_cell? _ _ x3)).trans x3
 clear ho hx h hk hn hb0 c0 x0 x1 x2 x3
 go_enter Tryz.func136,Tryz.ntmps136
 go_wp2_with fail
 refine hlen.out.mono ?_
 rintro e w1 ⟨rfl,rfl⟩
 clear hlen
 have k2:¬ (n<=k):=by omega
 go_wp2
 clear d0 d1 d2 d3 d4
 refine bodyPost_ret (v:=.tuple #[.agg #[.string xs,.string ⟨xo.toArray⟩,.string ⟨xr.toArray⟩,.int .i64 xh],.int .i64 0]) ?_ rfl ⟨rfl,(Below.refl _ _).alloc (Nat.le_refl _) _⟩
 simp [results,Tryz.f136,go_sem]
def AudOk (x:Aud):Prop:=x.s.size<=1000/\x.o.length=16/\x.r.length=16/\x.h<=6
def audVal (x:Aud):List UInt8:=valAud x.s x.o x.r x.h
def layP (l:List Aud) (m:Puts):Nat->Puts
 | 0=>m
 | k+1=>(match l[k]? with | some x=>(posOf k,audVal x) | none=>([],[])) :: layP l m k
theorem layP_succ (l:List Aud) (m:Puts) (k:Nat) (hk:k<l.length):layP l m (k+1)=(posOf k,audVal l[k]) :: layP l m k:=by
 rw [layP,List.getElem?_eq_getElem hk]
theorem layP_length (l:List Aud) (m:Puts):∀ k,(layP l m k).length=k+m.length
 | 0=>by rw [layP];omega
 | k+1=>by rw [layP,List.length_cons,layP_length l m k];omega
theorem posOf_length (n:Nat):(posOf n).length=16:=tagOf_length _ _
theorem audVal_length (x:Aud):(audVal x).length=16:=tagOf_length _ _
theorem rlay_any (b B p q:Nat) (a:Option Addr) (n c:Nat) (l:List Aud) (m:Puts) (w:World) (h:RosAt w b (.slice a n c)) (ho:w.ownsRow B 90 4 (.slice a n c) n (audCells l)) (hn:n=l.length) (hn5:n<64) (hl:∀ x∈l,AudOk x) (ht:TreeAt w p q m) (hm:m.length<=900) (hoq:∀ g,(Value.slice a n c).ownBlock=some g->g≠q) (hK:Kon w) (hKq:q≠0) :
 Calls Tryz.prog 109 #[.pointer (some ⟨b,0,none⟩),.pointer (some ⟨p,0,none⟩)] w fun e w'=>e=.returned (.int .i64 0)/\TreeAt w' p q (layP l m n)/\Touch (·=q) w w':=by
 have c0:w.cell? ⟨b,0,none⟩=some (.slice a n c):=cel h
 have HL:=Lib.hid (fun k (hk:k<l.length)=>aud_at ho hn k hk)
 have HK:=Lib.hid (fun W (hT:Touch (·=q) w W)=>hK.touch hT (fun e=>hKq e.symm))
 have HM:=Lib.hid (And.intro hm (And.intro hn5 hl))
 have HO:=Lib.hid hoq
 have HN:=Lib.hid hn
 clear h ho hK hKq hm hn5 hl hoq hn
 go_enter Tryz.func109,Tryz.ntmps109
 go_wp2_with fail
 clear c0
 go_loopw [18] (fun i W=>∃ k:Nat,k<=n/\i=.int .i64 (k:Int)/\TreeAt W p q (layP l m k)/\Touch (·=q) w W) (fun i _=>n - (intOf i).toNat)
 case atStart=>exact ⟨0,Nat.zero_le _,rfl,ht,Touch.refl _ _⟩
 case round=>
  obtain ⟨k,hk,rfl,htk,hTk⟩:=hrel
  clear ht
  by_cases hlt:k<n
  · have hkl:k<l.length:=by rw [<-HN.out];exact hlt
    have hlt':(k:Int)<(n:Int):=by omega
    obtain ⟨g,rfl,hg,x0,x1,x2,x3⟩:=HL.out k hkl
    have hgq:¬ g=q:=HO.out g rfl
    have y0:=hTk.keep_cell x0 hgq
    have y1:=hTk.keep_cell x1 hgq
    have y2:=hTk.keep_cell x2 hgq
    have y3:=hTk.keep_cell x3 hgq
    obtain ⟨hm,hn5,hl⟩:=HM.out
    obtain ⟨a1,a2,a3,a4⟩:=hl l[k] (List.getElem_mem hkl)
    have hv16:(audVal l[k]).length=16:=audVal_length _
    have HS:=Lib.hid (layP_succ l m k hkl)
    have HV:=Lib.hid (show audVal l[k]=valAud l[k].s l[k].o l[k].r l[k].h from rfl)
    generalize audVal l[k]=V at HS HV hv16
    generalize l[k]=x at x0 x1 x2 x3 y0 y1 y2 y3 a1 a2 a3 a4 HV
    obtain ⟨xs,xo,xr,xh⟩:=x
    dsimp only at x0 x1 x2 x3 y0 y1 y2 y3 a1 a2 a3 a4 HV
    clear x0 x1 x2 x3
    have hk64:k<64:=by omega
    have hlen:(layP l m k).length<1000:=by rw [layP_length];omega
    generalize layP l m k=mk at htk HS hlen
    have hKr:=HK.out wr hTk
    obtain ⟨H,hH⟩:∃ H,H=wr.heap.size:=⟨_,rfl⟩
    have hqH:q<H:=by rw [hH];exact htk.lt.2
    obtain ⟨Pre,hPre⟩:∃ Pre:World->Prop,Pre=fun W=>(W.heap[H]?=some (.cells #[.string xs,.string ⟨xo.toArray⟩,.string ⟨xr.toArray⟩,.int .i64 xh] 90 (0,0))/\Below H wr W):=⟨_,rfl⟩
    obtain ⟨Post,hPost⟩:∃ Post:World->Prop,Post=fun W=>(W.heap[H]?=some (.cells #[.string xs,.string ⟨xo.toArray⟩,.string ⟨xr.toArray⟩,.int .i64 xh] 90 (0,0))/\TreeAt W p q ((posOf k,V) :: mk)/\Touch (·=q) wr W):=⟨_,rfl⟩
    have hpp:∀ A B,Pre A->Below A.heap.size A B->Pre B:=by
     intro A B hA hb
     rw [hPre] at hA |-
     exact ⟨(hb.block _ (lt_of_heap hA.1)).trans hA.1,hA.2.trans (hb.mono (by have:=hA.2.size;omega))⟩
    have hKp:∀ A,Pre A->Kon A:=by
     intro A hA
     rw [hPre] at hA
     exact hKr.below hA.2 (by rw [hH];exact hKr.lt)
    have q1:=Lib.hid (fun A (hA:Pre A)=>(rplace_any k A hk64 (hKp A hA)).mono (R':=fun e w'=>e=.returned (.string ⟨(posOf k).toArray⟩)/\Pre w') fun e w' hh=>⟨hh.1,hpp A w' hA hh.2⟩)
    have q2:=Lib.hid (fun A (hA:Pre A)=>(avalue_any xs xo xr xh A a1 a2 a3 a4 (hKp A hA)).mono (R':=fun e w'=>e=.returned (.string ⟨V.toArray⟩)/\Pre w') fun e w' hh=>⟨by rw [HV.out];exact hh.1,hpp A w' hA hh.2⟩)
    have q3:=Lib.hid (fun A (hA:Pre A)=>by
     have hA':=hA
     rw [hPre] at hA'
     exact (tput_any p q mk ⟨(posOf k).toArray⟩ ⟨V.toArray⟩ A (htk.old (hH ▸ hA'.2)) (posOf_length k) (by show V.toArray.size<=1000;simp [hv16]) hlen).mono (R':=fun e w'=>e=.returned (.int .i64 0)/\Post w') fun e w' hh=>⟨hh.1,by
      rw [hPost]
      have hAT:Touch (·=q) wr A:=Touch.of_below (hH ▸ hA'.2) _
      exact ⟨hh.2.2.heap hA'.1 (fun e=>by omega),hh.2.1,hAT.trans hh.2.2⟩⟩)
    have hcp:=Lib.hid (fun A (hA:Pre A)=>(show A.cell? ⟨H,0,none⟩=some (.string xs)/\A.cell? ⟨H,1,none⟩=some (.string ⟨xo.toArray⟩)/\A.cell? ⟨H,2,none⟩=some (.string ⟨xr.toArray⟩)/\A.cell? ⟨H,3,none⟩=some (.int .i64 xh) by
     rw [hPre] at hA
     refine ⟨?_,?_,?_,?_⟩
     · rw [cell_of_row _ _ 0 _ _ _ hA.1];rfl
     · rw [cell_of_row _ _ 1 _ _ _ hA.1];rfl
     · rw [cell_of_row _ _ 2 _ _ _ hA.1];rfl
     · rw [cell_of_row _ _ 3 _ _ _ hA.1];rfl))
    have hcq:=Lib.hid (fun A (hA:Post A)=>(show A.cell? ⟨H,0,none⟩=some (.string xs)/\A.cell? ⟨H,1,none⟩=some (.string ⟨xo.toArray⟩)/\A.cell? ⟨H,2,none⟩=some (.string ⟨xr.toArray⟩)/\A.cell? ⟨H,3,none⟩=some (.int .i64 xh) by
     rw [hPost] at hA
     refine ⟨?_,?_,?_,?_⟩
     · rw [cell_of_row _ _ 0 _ _ _ hA.1];rfl
     · rw [cell_of_row _ _ 1 _ _ _ hA.1];rfl
     · rw [cell_of_row _ _ 2 _ _ _ hA.1];rfl
     · rw [cell_of_row _ _ 3 _ _ _ hA.1];rfl))
    have hpre0:Pre ((wr.alloc (.cells #[.string xs,.string ⟨xo.toArray⟩,.string ⟨xr.toArray⟩,.int .i64 xh] 90)).drew):=by
     rw [hPre]
     exact ⟨by rw [hH];exact heap_alloc_new _ _,by rw [hH];exact ((Below.refl _ _).alloc (Nat.le_refl _) _).drew⟩
    have HPost:=Lib.hid hPost
    have HH:=Lib.hid hH
    have HT:=Lib.hid hTk
    clear hPre hPost hpp hKp htk hKr hTk hH
    unfold audV at q2
    go_wp2_with fail
    rw [<-HH.out]
    go_region_held3 (fun W=>W.cell? ⟨H,0,none⟩=some (.string xs)/\W.cell? ⟨H,1,none⟩=some (.string ⟨xo.toArray⟩)/\W.cell? ⟨H,2,none⟩=some (.string ⟨xr.toArray⟩)/\W.cell? ⟨H,3,none⟩=some (.int .i64 xh)) (first | exact hcp.out _ (by assumption) | exact hcq.out _ (by assumption)) (first
     | (go_at_call 137;with_reducible refine (q1.out _ (by assumption)).mono ?_;rintro r w4 ⟨rfl,hpre4⟩)
     | (go_at_call 139;with_reducible refine (q2.out _ (by assumption)).mono ?_;rintro r w5 ⟨rfl,hpre5⟩)
     | (go_at_call 8;with_reducible refine (q3.out _ (by assumption)).mono ?_;rintro r w6 ⟨rfl,hpost6⟩))
    have HQ:=Lib.hid (HPost.out ▸ hpost6)
    clear hcp hcq q1 q2 q3 hpost6 y0 y1 y2 y3
    go_wp2
    go_roundw
    case rel=>exact ⟨k+1,by omega,by go_num,by rw [HS.out];exact HQ.out.2.1,HT.out.trans HQ.out.2.2⟩
    case measure=>simp [intOf];omega
  · obtain rfl:k=n:=by omega
    have hge:¬ (k:Int)<(k:Int):=by omega
    have HF:=Lib.hid (And.intro htk hTk)
    clear htk hTk
    go_wp2
    go_ret
    exact ⟨rfl,HF.out.1,HF.out.2⟩
theorem vcheck_any (ep b:Nat) (hd:List UInt8) (num:Nat) (si:Int) (a1:Option Addr) (n1 c1:Nat) (a2:Option Addr) (n2 c2:Nat) (s:ByteArray) (o r:List UInt8) (h:Nat) (pa:Option Addr) (pn pc:Nat) (th:Bool) (pk pv:List UInt8) (wg N wc g n c:Nat) (zs:List Int)
 (pe:Nat) (pp:List UInt8) (pd pau:Nat) (pna:Option Addr) (pN pnc:Nat) (hp:List UInt8) (hdd hau:Nat) (hna:Option Addr) (hN hnc:Nat) (R:ByteArray) (w:World)
 (hb:b<N) (hw:w.cell? ⟨wg,b,none⟩=some (.slice (some ⟨g,0,none⟩) n c)) (hz:n<=zs.length) (hbig:n<=1000) (hc:∀ j,j<zs.length->w.cell? ⟨g,j,none⟩=some (.int .i64 (zs.getD j 0))) (i:Nat) (hi:(Lib.idxOf (zs.take n) (num:Int):Int)=(i:Int))
 (hepb:ep<4294967296) (hb16:b<16) (hl:hd.length=16) (hnum:num<64) (hs:s.size<=1000) (ho:o.length=16) (hr:r.length=16) (hh:h<=6) (hK:Kon w)
 (hDig:∀ W,Below w.heap.size w W->Calls Tryz.prog 73 #[hdV ep hp hdd hau hna hN hnc] W fun e w'=>e=.returned (.string ⟨hd.toArray⟩)/\Below W.heap.size W w')
 (hRoot:∀ W,Below w.heap.size w W->Calls Tryz.prog 38 #[hdV pe pp pd pau pna pN pnc] W fun e w'=>e=.returned (.string R)/\Below W.heap.size W w')
 (hHas:∀ W,Below w.heap.size w W->Calls Tryz.prog 20 #[.agg #[.slice pa pn pc,.bool th,.string ⟨pk.toArray⟩,.string ⟨pv.toArray⟩],.string R,.string ⟨(posOf num).toArray⟩,.string ⟨(valAud s o r h).toArray⟩,.int .i64 0] W fun e w'=>e=.returned (.bool true)/\Below W.heap.size W w')
 (hVer:∀ W,Below w.heap.size w W->Calls Tryz.prog 86 #[pubVh o r h,.string ⟨(msgAt ep b num hd).toArray⟩,.agg #[.int .i64 si,.slice a1 n1 c1,.slice a2 n2 c2]] W fun e w'=>e=.returned (.bool true)/\Below W.heap.size W w') :
 Calls Tryz.prog 79 #[.agg (voteC ep b hd num si a1 n1 c1 a2 n2 c2 s o r h pa pn pc th pk pv),hdV pe pp pd pau pna pN pnc,hdV ep hp hdd hau hna hN hnc,.slice (some ⟨wg,0,none⟩) N wc] w fun e w'=>e=.returned (.int .i64 0)/\Below w.heap.size w w':=by
 have hSl:=Lib.hid (fun (W:World) (hbw:Below w.heap.size w W)=>vslot_any ep b hd num si a1 n1 c1 a2 n2 c2 s o r h pa pn pc th pk pv wg N wc g n c zs W hb ((hbw.cell (World.block_lt_of_cell? _ _ hw)).trans hw) hz hbig (fun j hj=>(hbw.cell (World.block_lt_of_cell? _ _ (hc j hj))).trans (hc j hj)) i hi)
 have hPl:=Lib.hid (fun (W:World) (hbw:Below w.heap.size w W)=>rplace_any num W hnum (hK.old hbw))
 have hVa:=Lib.hid (fun (W:World) (hbw:Below w.heap.size w W)=>avalue_any s o r h W hs ho hr hh (hK.old hbw))
 have hAv:=Lib.hid (fun (W:World) (hbw:Below w.heap.size w W)=>averify_any ep b hd num si a1 n1 c1 a2 n2 c2 o r h W hepb hb16 hl hnum (hK.old hbw) (fun W' hb'=>hVer W' (hbw.trans (hb'.mono hbw.size))))
 have HDig:=Lib.hid hDig
 have HRoot:=Lib.hid hRoot
 have HHas:=Lib.hid hHas
 have hde:(hd==[])=false:=by cases hd with | nil=>simp at hl | cons _ _=>rfl
 have hdn:(hd != hd)=false:=by simp
 have hen:((ep:Int) != (ep:Int))=false:=by simp
 unfold voteC at hSl |-
 unfold hdV at HDig HRoot |-
 unfold audV at hVa
 unfold attV pubVh at hAv
 generalize posOf num=PO at hPl HHas
 generalize valAud s o r h=VA at hVa HHas
 clear hDig hRoot hHas hVer hw hc hi hz hbig hepb hb16 hl hnum hs ho hr hh hK hb
 have hb1:Below w.heap.size w (((w.alloc (.cells #[.int .u64 ep,.int .i64 b,.string ⟨hd.toArray⟩,.int .i64 num,.int .i64 si,.slice a1 n1 c1,.slice a2 n2 c2,.string s,.string ⟨o.toArray⟩,.string ⟨r.toArray⟩,.int .i64 h,.slice pa pn pc,.bool th,.string ⟨pk.toArray⟩,.string ⟨pv.toArray⟩] 92)).alloc (.cells #[.int .u64 pe,.string ⟨pp.toArray⟩,.int .i64 pd,.int .i64 pau,.slice pna pN pnc] 69)).alloc (.cells #[.int .u64 ep,.string ⟨hp.toArray⟩,.int .i64 hdd,.int .i64 hau,.slice hna hN hnc] 69)):=(((Below.refl _ _).alloc (Nat.le_refl _) _).alloc (by simp) _).alloc (by simp;omega) _
 have hr1:(((w.alloc (.cells #[.int .u64 ep,.int .i64 b,.string ⟨hd.toArray⟩,.int .i64 num,.int .i64 si,.slice a1 n1 c1,.slice a2 n2 c2,.string s,.string ⟨o.toArray⟩,.string ⟨r.toArray⟩,.int .i64 h,.slice pa pn pc,.bool th,.string ⟨pk.toArray⟩,.string ⟨pv.toArray⟩] 92)).alloc (.cells #[.int .u64 pe,.string ⟨pp.toArray⟩,.int .i64 pd,.int .i64 pau,.slice pna pN pnc] 69)).alloc (.cells #[.int .u64 ep,.string ⟨hp.toArray⟩,.int .i64 hdd,.int .i64 hau,.slice hna hN hnc] 69)).heap[w.heap.size]?=some (.cells #[.int .u64 ep,.int .i64 b,.string ⟨hd.toArray⟩,.int .i64 num,.int .i64 si,.slice a1 n1 c1,.slice a2 n2 c2,.string s,.string ⟨o.toArray⟩,.string ⟨r.toArray⟩,.int .i64 h,.slice pa pn pc,.bool th,.string ⟨pk.toArray⟩,.string ⟨pv.toArray⟩] 92 (0,0)):=(Below.heap_alloc _ _ _ (by simp;omega)).trans (heap_alloc2_old _ _ _)
 have hr2:(((w.alloc (.cells #[.int .u64 ep,.int .i64 b,.string ⟨hd.toArray⟩,.int .i64 num,.int .i64 si,.slice a1 n1 c1,.slice a2 n2 c2,.string s,.string ⟨o.toArray⟩,.string ⟨r.toArray⟩,.int .i64 h,.slice pa pn pc,.bool th,.string ⟨pk.toArray⟩,.string ⟨pv.toArray⟩] 92)).alloc (.cells #[.int .u64 pe,.string ⟨pp.toArray⟩,.int .i64 pd,.int .i64 pau,.slice pna pN pnc] 69)).alloc (.cells #[.int .u64 ep,.string ⟨hp.toArray⟩,.int .i64 hdd,.int .i64 hau,.slice hna hN hnc] 69)).heap[w.heap.size+1]?=some (.cells #[.int .u64 pe,.string ⟨pp.toArray⟩,.int .i64 pd,.int .i64 pau,.slice pna pN pnc] 69 (0,0)):=(Below.heap_alloc _ _ _ (by simp)).trans (heap_alloc2_new _ _ _)
 have hr3:(((w.alloc (.cells #[.int .u64 ep,.int .i64 b,.string ⟨hd.toArray⟩,.int .i64 num,.int .i64 si,.slice a1 n1 c1,.slice a2 n2 c2,.string s,.string ⟨o.toArray⟩,.string ⟨r.toArray⟩,.int .i64 h,.slice pa pn pc,.bool th,.string ⟨pk.toArray⟩,.string ⟨pv.toArray⟩] 92)).alloc (.cells #[.int .u64 pe,.string ⟨pp.toArray⟩,.int .i64 pd,.int .i64 pau,.slice pna pN pnc] 69)).alloc (.cells #[.int .u64 ep,.string ⟨hp.toArray⟩,.int .i64 hdd,.int .i64 hau,.slice hna hN hnc] 69)).heap[w.heap.size+2]?=some (.cells #[.int .u64 ep,.string ⟨hp.toArray⟩,.int .i64 hdd,.int .i64 hau,.slice hna hN hnc] 69 (0,0)):=by
  have:=heap_alloc_new ((w.alloc (.cells #[.int .u64 ep,.int .i64 b,.string ⟨hd.toArray⟩,.int .i64 num,.int .i64 si,.slice a1 n1 c1,.slice a2 n2 c2,.string s,.string ⟨o.toArray⟩,.string ⟨r.toArray⟩,.int .i64 h,.slice pa pn pc,.bool th,.string ⟨pk.toArray⟩,.string ⟨pv.toArray⟩] 92)).alloc (.cells #[.int .u64 pe,.string ⟨pp.toArray⟩,.int .i64 pd,.int .i64 pau,.slice pna pN pnc] 69)) (.cells #[.int .u64 ep,.string ⟨hp.toArray⟩,.int .i64 hdd,.int .i64 hau,.slice hna hN hnc] 69)
  simpa using this
 go_enter Tryz.func79,Tryz.ntmps79
 go_wp2_with fail
 generalize hW1:(World.alloc _ _)=W1 at hb1 hr1 hr2 hr3 |-
 clear hW1
 refine (HDig.out W1 hb1).mono ?_
 rintro e w2 ⟨rfl,hb2⟩
 have hB2:=hb1.trans (hb2.mono hb1.size)
 have hr1:=(hb2.block _ (lt_of_heap hr1)).trans hr1
 have hr2:=(hb2.block _ (lt_of_heap hr2)).trans hr2
 have hr3:=(hb2.block _ (lt_of_heap hr3)).trans hr3
 clear hb1 hb2
 generalize hHe:w.heap.size=H at hr1 hr2 hr3 |-
 have HH:=Lib.hid hHe
 have hHw:Below H w w2:=hHe ▸ hB2
 have sH:H<=w2.heap.size:=by rw [<-HH.out];exact hHw.size
 clear hHe hB2
 have hcp:=Lib.hid (fun A (hA:Below w2.heap.size w2 A)=>(show A.cell? ⟨H,0,none⟩=some (.int .u64 ep)/\A.cell? ⟨H,1,none⟩=some (.int .i64 b)/\A.cell? ⟨H,2,none⟩=some (.string ⟨hd.toArray⟩)/\A.cell? ⟨H,3,none⟩=some (.int .i64 num)/\A.cell? ⟨H,4,none⟩=some (.int .i64 si)/\A.cell? ⟨H,5,none⟩=some (.slice a1 n1 c1)/\A.cell? ⟨H,6,none⟩=some (.slice a2 n2 c2)/\A.cell? ⟨H,7,none⟩=some (.string s)/\A.cell? ⟨H,8,none⟩=some (.string ⟨o.toArray⟩)/\A.cell? ⟨H,9,none⟩=some (.string ⟨r.toArray⟩)/\A.cell? ⟨H,10,none⟩=some (.int .i64 h)/\A.cell? ⟨H,11,none⟩=some (.slice pa pn pc)/\A.cell? ⟨H,12,none⟩=some (.bool th)/\A.cell? ⟨H,13,none⟩=some (.string ⟨pk.toArray⟩)/\A.cell? ⟨H,14,none⟩=some (.string ⟨pv.toArray⟩)/\A.cell? ⟨H+1,0,none⟩=some (.int .u64 pe)/\A.cell? ⟨H+1,1,none⟩=some (.string ⟨pp.toArray⟩)/\A.cell? ⟨H+1,2,none⟩=some (.int .i64 pd)/\A.cell? ⟨H+1,3,none⟩=some (.int .i64 pau)/\A.cell? ⟨H+1,4,none⟩=some (.slice pna pN pnc) by
  have h1:=(hA.block _ (lt_of_heap hr1)).trans hr1
  have h2:=(hA.block _ (lt_of_heap hr2)).trans hr2
  refine ⟨?_,?_,?_,?_,?_,?_,?_,?_,?_,?_,?_,?_,?_,?_,?_,?_,?_,?_,?_,?_⟩
  · rw [cell_of_row _ _ 0 _ _ _ h1];rfl
  · rw [cell_of_row _ _ 1 _ _ _ h1];rfl
  · rw [cell_of_row _ _ 2 _ _ _ h1];rfl
  · rw [cell_of_row _ _ 3 _ _ _ h1];rfl
  · rw [cell_of_row _ _ 4 _ _ _ h1];rfl
  · rw [cell_of_row _ _ 5 _ _ _ h1];rfl
  · rw [cell_of_row _ _ 6 _ _ _ h1];rfl
  · rw [cell_of_row _ _ 7 _ _ _ h1];rfl
  · rw [cell_of_row _ _ 8 _ _ _ h1];rfl
  · rw [cell_of_row _ _ 9 _ _ _ h1];rfl
  · rw [cell_of_row _ _ 10 _ _ _ h1];rfl
  · rw [cell_of_row _ _ 11 _ _ _ h1];rfl
  · rw [cell_of_row _ _ 12 _ _ _ h1];rfl
  · rw [cell_of_row _ _ 13 _ _ _ h1];rfl
  · rw [cell_of_row _ _ 14 _ _ _ h1];rfl
  · rw [cell_of_row _ _ 0 _ _ _ h2];rfl
  · rw [cell_of_row _ _ 1 _ _ _ h2];rfl
  · rw [cell_of_row _ _ 2 _ _ _ h2];rfl
  · rw [cell_of_row _ _ 3 _ _ _ h2];rfl
  · rw [cell_of_row _ _ 4 _ _ _ h2];rfl))
 have hpw:=Lib.hid (fun A (hA:Below w2.heap.size w2 A)=>(show Below w.heap.size w A by rw [HH.out];exact hHw.trans (hA.mono sH)))
 obtain ⟨y0,y1,y2,y3,y4,y5,y6,y7,y8,y9,y10,y11,y12,y13,y14,_,_,_,_,_⟩:=hcp.out w2 (Below.refl _ _)
 have t0:w2.cell? ⟨H+2,0,none⟩=some (.int .u64 ep):=cel hr3
 clear hr1 hr2 hr3
 go_wp2_with fail
 refine (hSl.out w2 (hpw.out w2 (Below.refl _ _))).mono ?_
 rintro e w3 ⟨rfl,hb3⟩
 clear y0 y1 y2 y3 y4 y5 y6 y7 y8 y9 y10 y11 y12 y13 y14 t0 hSl
 obtain ⟨Pre,hPre⟩:∃ Pre:World->Prop,Pre=fun W=>Below w2.heap.size w2 W:=⟨_,rfl⟩
 have hpp:∀ A B,Pre A->Below A.heap.size A B->Pre B:=by
  intro A B hA hb
  rw [hPre] at hA |-
  exact hA.trans (hb.mono hA.size)
 have hpq:∀ A,Pre A->Below w.heap.size w A:=by
  intro A hA
  rw [hPre] at hA
  exact hpw.out A hA
 have HCP:=Lib.hid (fun A (hA:Pre A)=>hcp.out A (by rw [hPre] at hA;exact hA))
 have q0:=Lib.hid (fun A (hA:Pre A)=>(HRoot.out A (hpq A hA)).mono (R':=fun e w'=>e=.returned (.string R)/\Pre w') fun e w' hh=>⟨hh.1,hpp A w' hA hh.2⟩)
 have q1:=Lib.hid (fun A (hA:Pre A)=>(hPl.out A (hpq A hA)).mono (R':=fun e w'=>e=.returned (.string ⟨PO.toArray⟩)/\Pre w') fun e w' hh=>⟨hh.1,hpp A w' hA hh.2⟩)
 have q2:=Lib.hid (fun A (hA:Pre A)=>(hVa.out A (hpq A hA)).mono (R':=fun e w'=>e=.returned (.string ⟨VA.toArray⟩)/\Pre w') fun e w' hh=>⟨hh.1,hpp A w' hA hh.2⟩)
 have q3:=Lib.hid (fun A (hA:Pre A)=>(HHas.out A (hpq A hA)).mono (R':=fun e w'=>e=.returned (.bool true)/\Pre w') fun e w' hh=>⟨hh.1,hpp A w' hA hh.2⟩)
 have q4:=Lib.hid (fun A (hA:Pre A)=>(hAv.out A (hpq A hA)).mono (R':=fun e w'=>e=.returned (.bool true)/\Pre w') fun e w' hh=>⟨hh.1,hpp A w' hA hh.2⟩)
 have hpre0:Pre w3.drew:=by rw [hPre];exact hb3.drew
 have HPQ:=Lib.hid hpq
 clear hPre hpp hpq hpw hPl hVa hAv HRoot HHas HDig hb3
 go_wp2_with fail
 go_region_held3 (fun A=>A.cell? ⟨H,0,none⟩=some (.int .u64 ep)/\A.cell? ⟨H,1,none⟩=some (.int .i64 b)/\A.cell? ⟨H,2,none⟩=some (.string ⟨hd.toArray⟩)/\A.cell? ⟨H,3,none⟩=some (.int .i64 num)/\A.cell? ⟨H,4,none⟩=some (.int .i64 si)/\A.cell? ⟨H,5,none⟩=some (.slice a1 n1 c1)/\A.cell? ⟨H,6,none⟩=some (.slice a2 n2 c2)/\A.cell? ⟨H,7,none⟩=some (.string s)/\A.cell? ⟨H,8,none⟩=some (.string ⟨o.toArray⟩)/\A.cell? ⟨H,9,none⟩=some (.string ⟨r.toArray⟩)/\A.cell? ⟨H,10,none⟩=some (.int .i64 h)/\A.cell? ⟨H,11,none⟩=some (.slice pa pn pc)/\A.cell? ⟨H,12,none⟩=some (.bool th)/\A.cell? ⟨H,13,none⟩=some (.string ⟨pk.toArray⟩)/\A.cell? ⟨H,14,none⟩=some (.string ⟨pv.toArray⟩)/\A.cell? ⟨H+1,0,none⟩=some (.int .u64 pe)/\A.cell? ⟨H+1,1,none⟩=some (.string ⟨pp.toArray⟩)/\A.cell? ⟨H+1,2,none⟩=some (.int .i64 pd)/\A.cell? ⟨H+1,3,none⟩=some (.int .i64 pau)/\A.cell? ⟨H+1,4,none⟩=some (.slice pna pN pnc)) (first | exact HCP.out _ (by assumption))
  (first
    | (go_at_call 38;with_reducible refine (q0.out _ (by assumption)).mono ?_;rintro e wA ⟨rfl,hpreA⟩)
    | (go_at_call 137;with_reducible refine (q1.out _ (by assumption)).mono ?_;rintro e wB ⟨rfl,hpreB⟩)
    | (go_at_call 139;with_reducible refine (q2.out _ (by assumption)).mono ?_;rintro e wC ⟨rfl,hpreC⟩)
    | (go_at_call 20;with_reducible refine (q3.out _ (by assumption)).mono ?_;rintro e wD ⟨rfl,hpreD⟩))
 all_goals
  clear q0 q1 q2 q3 hpre0
  obtain ⟨y0,y1,y2,y3,y4,y5,y6,y7,y8,y9,y10,y11,y12,y13,y14,_,_,_,_,_⟩:=HCP.out wD hpreD
  have hcall:=Lib.hid (q4.out wD hpreD)
  clear q4 HCP hpreA hpreB hpreC
  go_wp2_with fail
  refine hcall.out.mono ?_
  rintro e wE ⟨rfl,hpreE⟩
  have HQ:=Lib.hid (HPQ.out wE hpreE)
  clear hcall hpreD hpreE y0 y1 y2 y3 y4 y5 y6 y7 y8 y9 y10 y11 y12 y13 y14
  rw [<-HH.out]
  go_wp2
  go_ret
  exact ⟨rfl,HQ.out⟩
theorem cwindows_any (ep:Nat) (hp:List UInt8) (hau:Nat) (hna:Option Addr) (hN hnc:Nat) (n slots needed:Nat) (hd:List UInt8) (w:World) (hn:n<=5) (hs0:0<slots) (hsn:slots<=n) (hne0:0<needed) (hnes:needed<=slots) (hl:hd.length=16) (hz:WinOk hd) (hK:Kon w)
 (hDig:∀ W,Below w.heap.size w W->Calls Tryz.prog 73 #[hdV ep hp 0 hau hna hN hnc] W fun e w'=>e=.returned (.string ⟨hd.toArray⟩)/\Below W.heap.size W w') :
 Calls Tryz.prog 30 #[hdV ep hp 0 hau hna hN hnc,.int .i64 n,.agg #[.int .i64 slots,.int .i64 needed]] w fun e w'=>∃ G c g,e=.returned (.tuple #[.slice (some ⟨G,0,none⟩) 1 c,.int .i64 0])/\w'.cell? ⟨G,0,none⟩=some (.slice (some ⟨g,0,none⟩) slots slots)/\w'.heap[g]?=some (.cells (natRow (winL hd n slots)) 3 (0,0))/\Below w.heap.size w w':=by
 have hOf:=Lib.hid (fun (W:World) (hb:Below w.heap.size w W)=>wof_any hd n slots W hn hs0 hsn hl hz (hK.old hb))
 have HDig:=Lib.hid hDig
 have hCnt:=Lib.hid (fun (W:World)=>(show Calls Tryz.prog 12 #[.int .i64 0] W fun e w'=>e=.returned (.int .i64 1)/\w'=W from bcount_any 0 W (by decide)))
 have hne:hd.isEmpty=false:=by
  cases hd
  · cases hl
  · rfl
 have e3:¬ (slots<needed):=by omega
 generalize winL hd n slots=l at *
 have e1:¬ ((needed:Int)<1):=by omega
 have e2:¬ ((slots:Int)<(needed:Int)):=by omega
 have hi0:(Tryz.prog.info? 82).map (fun i=>(i.zero,i.size,i.bytes))=some (some (.slice none 0 0),1,24):=by kernel_rfl
 have hb1:Below w.heap.size w ((w.alloc (.cells #[.int .u64 ep,.string ⟨hp.toArray⟩,.int .i64 0,.int .i64 hau,.slice hna hN hnc] 69)).alloc (.cells #[.int .i64 slots,.int .i64 needed] 61)):=((Below.refl _ _).alloc (Nat.le_refl _) _).alloc (by simp) _
 have hr1:((w.alloc (.cells #[.int .u64 ep,.string ⟨hp.toArray⟩,.int .i64 0,.int .i64 hau,.slice hna hN hnc] 69)).alloc (.cells #[.int .i64 slots,.int .i64 needed] 61)).heap[w.heap.size]?=some (.cells #[.int .u64 ep,.string ⟨hp.toArray⟩,.int .i64 0,.int .i64 hau,.slice hna hN hnc] 69 (0,0)):=heap_alloc2_old _ _ _
 have hr2:((w.alloc (.cells #[.int .u64 ep,.string ⟨hp.toArray⟩,.int .i64 0,.int .i64 hau,.slice hna hN hnc] 69)).alloc (.cells #[.int .i64 slots,.int .i64 needed] 61)).heap[w.heap.size+1]?=some (.cells #[.int .i64 slots,.int .i64 needed] 61 (0,0)):=heap_alloc2_new _ _ _
 clear hK hz hl hDig
 unfold hdV at HDig |-
 go_enter Tryz.func30,Tryz.ntmps30
 go_wp2_with fail
 generalize ((w.alloc (.cells #[.int .u64 ep,.string ⟨hp.toArray⟩,.int .i64 0,.int .i64 hau,.slice hna hN hnc] 69)).alloc (.cells #[.int .i64 slots,.int .i64 needed] 61))=W1 at hb1 hr1 hr2 |-
 refine (HDig.out W1 hb1).mono ?_
 rintro e w2 ⟨rfl,hb2⟩
 have hB2:=hb1.trans (hb2.mono hb1.size)
 have hr1:=(hb2.block _ (lt_of_heap hr1)).trans hr1
 have hr2:=(hb2.block _ (lt_of_heap hr2)).trans hr2
 have z2:w2.cell? ⟨w.heap.size,2,none⟩=some (.int .i64 0):=cel hr1
 have y0:w2.cell? ⟨w.heap.size+1,0,none⟩=some (.int .i64 slots):=cel hr2
 have y1:w2.cell? ⟨w.heap.size+1,1,none⟩=some (.int .i64 needed):=cel hr2
 clear HDig hb1 hb2 hr1
 go_wp2_with fail
 refine (hCnt.out w2).mono ?_
 rintro e w3 ⟨rfl,rfl⟩
 clear z2 y0 y1 hCnt hne
 go_wp2_with fail
 go_loopw [9,32] (fun v i W=>(v=.slice none 0 0/\i=.int .i64 0/\W.heap[w.heap.size+1]?=some (.cells #[.int .i64 slots,.int .i64 needed] 61 (0,0))/\Below w.heap.size w W)\/(∃ G c g,v=.slice (some ⟨G,0,none⟩) 1 c/\i=.int .i64 1/\W.cell? ⟨G,0,none⟩=some (.slice (some ⟨g,0,none⟩) slots slots)/\W.heap[g]?=some (.cells (natRow l) 3 (0,0))/\Below w.heap.size w W)) (fun _ i _=>1 - (intOf i).toNat)
 case atStart=>exact .inl ⟨rfl,rfl,hr2,hB2⟩
 case round=>
  clear hr2 hB2
  rcases hrel with ⟨rfl,rfl,hr,hb⟩ | ⟨G,c,g,rfl,rfl,hG,hg,hb⟩
  · have y0:wr.cell? ⟨w.heap.size+1,0,none⟩=some (.int .i64 slots):=cel hr
    have hcall:=Lib.hid (hOf.out wr hb)
    have HR:=Lib.hid (And.intro hr hb)
    clear hOf hr hb
    go_wp2_with fail
    refine hcall.out.mono ?_
    rintro e w4 ⟨g,rfl,hg,hgl,hb4⟩
    have hB4:=HR.out.2.trans (hb4.mono HR.out.2.size)
    have s4:=hB4.size
    have HG:=Lib.hid (And.intro hg (And.intro hgl hB4))
    clear hcall y0 hg hgl hb4 hB4
    go_wp2_with (at_builtin;refine Hid.out ?_)
    unfold Hid
    refine wpList_appW rfl rfl Tryz.underlying76 hi0 rfl 1 (show w4.ownsRow w4.heap.size 82 1 (.slice none 0 0) 0 [] from World.ownsRow_nil _ _ _ _) rfl rfl rfl (by intro u hu;simp at hu;subst hu;rfl) (by decide) (by decide) (Nat.le_refl _) ?_
    intro v' w5 hown hgr hns
    obtain ⟨G,c,rfl,_,_⟩:=World.ownsRow.form hown (by decide)
    have hG:=hown.cells (g:=G) rfl 0 _ rfl
    have hadd:(⟨G,0,none⟩:Addr).add 0=⟨G,0,none⟩:=by unfold Addr.add;split <;> simp_all
    rw [hadd] at hG
    have hb5:=HG.out.2.2.grown hgr s4 (fun j hj=>by cases hj)
    have hg5:=(Touch.grown hgr).heap HG.out.1 (fun e=>by cases e)
    have H5:=Lib.hid (And.intro hG (And.intro hg5 hb5))
    clear hown hgr hns hadd hG hb5 hg5
    go_wp2
    go_roundw
    case rel=>exact .inr ⟨G,c,g,rfl,rfl,H5.out.1,H5.out.2.1,H5.out.2.2⟩
    case measure=>simp [intOf]
  · have HG:=Lib.hid (And.intro hG (And.intro hg hb))
    clear hG hg hb hOf
    go_wp2
    go_ret2
    exact ⟨G,c,g,rfl,HG.out.1,HG.out.2.1,HG.out.2.2⟩
def heldR (v:Value):Option (DataW Value×List MemPlace):=some (.held v,[])
def entRow (seed:List UInt8):List Value:=[.int .u64 1,.string ⟨(openOf seed).toArray⟩,.string ⟨(pubKey seed 0).toArray⟩,.int .i64 0,.string ⟨nought16.toArray⟩]
def LabsAt (w:World) (S:Nat->Prop) (b:Nat) (us:List (List UInt8×List UInt8)):Prop:=
 ∃ D:DataW Value,w.ownsMap Tryz.prog 9 heldR b us.length D/\(∀ k,Maps.has D (.string k)=true->∃ seed,us.lookup k=some seed) /\
  ∀ k seed,us.lookup k=some seed->∃ a c,(∀ z,D.atKey (.string k) z=.held (.slice a 1 c))/\w.ownsRow 0 105 5 (.slice a 1 c) 1 (entRow seed)/\∀ g,(Value.slice a 1 c).ownBlock=some g->S g
theorem LabsAt.touch {S T:Nat->Prop} {w w':World} {b:Nat} {us:List (List UInt8×List UInt8)} (h:LabsAt w S b us) (ht:Touch T w w') (hb:¬ T b) (hS:∀ g,S g->¬ T g):LabsAt w' S b us:=by
 obtain ⟨D,⟨es,clock,h1,F,hs,hD⟩,h2,h3⟩:=h
 refine ⟨D,⟨es,clock,ht.heap h1 hb,F,hs,hD⟩,h2,fun k seed hk=>?_⟩
 obtain ⟨a,c,e1,e2,e3⟩:=h3 k seed hk
 exact ⟨a,c,e1,ht.own e2 (fun g hg=>hS g (e3 g hg)),e3⟩
theorem LabsAt.old {S:Nat->Prop} {w w':World} {b:Nat} {us:List (List UInt8×List UInt8)} (h:LabsAt w S b us) (hb:Below w.heap.size w w'):LabsAt w' S b us:=
 h.touch (Touch.of_below hb (fun _=>False)) id (fun _ _=>id)
theorem LabsAt.mono {S T:Nat->Prop} {w:World} {b:Nat} {us:List (List UInt8×List UInt8)} (h:LabsAt w S b us) (hS:∀ g,S g->T g):LabsAt w T b us:=by
 obtain ⟨D,h1,h2,h3⟩:=h
 refine ⟨D,h1,h2,fun k seed hk=>?_⟩
 obtain ⟨a,c,e1,e2,e3⟩:=h3 k seed hk
 exact ⟨a,c,e1,e2,fun g hg=>hS g (e3 g hg)⟩
theorem LabsAt.lt {S:Nat->Prop} {w:World} {b:Nat} {us:List (List UInt8×List UInt8)} (h:LabsAt w S b us):b<w.heap.size:=by
 obtain ⟨D,h1,_⟩:=h
 exact h1.lt
theorem LabsAt.look {S:Nat->Prop} {w:World} {b:Nat} {us:List (List UInt8×List UInt8)} (h:LabsAt w S b us) (l:ByteArray) (hl:l.size<=maxLen) :
 (us.lookup l.data.toList=none->(Instr.lookup 148 (.map (some b)) (.string l) false).run Tryz.prog w=.ok (.slice none 0 0) w) /\
 ∀ seed,us.lookup l.data.toList=some seed->∃ a c,(Instr.lookup 148 (.map (some b)) (.string l) false).run Tryz.prog w=.ok (.slice a 1 c) w/\w.ownsRow 0 105 5 (.slice a 1 c) 1 (entRow seed)/\∀ g,(Value.slice a 1 c).ownBlock=some g->S g:=by
 obtain ⟨D,h1,h2,h3⟩:=h
 obtain ⟨v,ps,hrun,hv⟩:=h1.lookup (Maps.string_keyed Tryz.underlying9) Tryz.underlying148 (z:=.slice none 0 0) (by rfl) (zd:=.held (.slice none 0 0)) (zp:=[]) rfl (WideMaps.keyOf_string_mk Tryz.underlying9 (s:=l) hl)
 have hv':DataW.held v=D.atKey (.string l.data.toList) (.held (.slice none 0 0)):=by
  have:=Option.some.inj hv
  exact (Prod.ext_iff.1 this).1
 constructor
 · intro hn
   have hhas:Maps.has D (.string l.data.toList)=false:=by
    cases hh:Maps.has D (.string l.data.toList)
    · rfl
    · obtain ⟨seed,e⟩:=h2 _ hh
      rw [hn] at e;cases e
   rw [Maps.atKey_of_not_has hhas] at hv'
   injection hv' with hv'
   rw [hrun,hv']
 · intro seed hsome
   obtain ⟨a,c,e1,e2,e3⟩:=h3 _ _ hsome
   rw [e1] at hv'
   injection hv' with hv'
   exact ⟨a,c,by rw [hrun,hv'],e2,e3⟩
theorem slast_none (b rb:Nat) (us:List (List UInt8×List UInt8)) (S:Nat->Prop) (l:ByteArray) (w:World) (h:LabsAt w S b us) (hl:l.size<=maxLen) (hn:us.lookup l.data.toList=none) :
 Calls Tryz.prog 116 #[.agg #[.map (some b),.pointer (some ⟨rb,0,none⟩)],.string l] w fun e w'=>e=.returned (.tuple #[.agg #[.int .u64 0,.string ⟨#[]⟩,.string ⟨#[]⟩,.int .i64 0,.string ⟨#[]⟩],.bool false])/\Below w.heap.size w w':=by
 have hb:Below w.heap.size w ((w.alloc (.cells #[.map (some b),.pointer (some ⟨rb,0,none⟩)] 151)).alloc (.cells #[.int .u64 0,.string ⟨#[]⟩,.string ⟨#[]⟩,.int .i64 0,.string ⟨#[]⟩] 105)):=((Below.refl _ _).alloc (Nat.le_refl _) _).alloc (by simp) _
 have hlook:=((h.old hb).look l hl).1 hn
 have HB:=Lib.hid hb
 clear h hn hl hb
 go_enter Tryz.func116,Tryz.ntmps116
 go_wp2
 refine bodyPost_ret (v:=.tuple #[.agg #[.int .u64 0,.string ⟨#[]⟩,.string ⟨#[]⟩,.int .i64 0,.string ⟨#[]⟩],.bool false]) ?_ rfl ⟨rfl,?_⟩
 · simp [results,Tryz.f116,go_sem]
 · exact HB.out
theorem keyOf_string_inv {P:Program} {k:TypeId} (hk:P.underlying k=some .string) {key:Value} {kl:Lit} (h:keyOf P k key=some kl):∃ s:ByteArray,key=.string s/\kl=.string s.data.toList/\s.size<=maxLen:=by
 cases key <;> simp [keyOf,hk,mapKey] at h
 obtain ⟨h1,h2⟩:=h
 exact ⟨_,rfl,h2.symm,h1⟩
theorem ownsMap_keep {S:Nat->Prop} {w w':World} {P:Program} {k:TypeId} {R:Value->Option (DataW Value×List MemPlace)} {b n:Nat} {D:DataW Value} (h:w.ownsMap P k R b n D) (ht:Touch S w w') (hb:¬ S b):w'.ownsMap P k R b n D:=by
 obtain ⟨es,clock,h1,F,hs,hD⟩:=h
 exact ⟨es,clock,ht.heap h1 hb,F,hs,hD⟩
theorem scopy_any (b rb B:Nat) (us:List (List UInt8×List UInt8)) (S:Nat->Prop) (v:Value) (n:Nat) (xs:List Value) (w:World) (h:LabsAt w S b us) (hus:us.length<=100) (hr:RosAt w rb v) (ho:w.ownsRow B 90 4 v n xs) (hone:∀ u∈xs,u.oneCell'=true) (hn:n<=64) :
 Calls Tryz.prog 110 #[.agg #[.map (some b),.pointer (some ⟨rb,0,none⟩)]] w fun e w'=>∃ b' rb' v',e=.returned (.agg #[.map (some b'),.pointer (some ⟨rb',0,none⟩)])/\w.heap.size<=b'/\w.heap.size<=rb'/\LabsAt w' (fun g=>w.heap.size<=g) b' us/\RosAt w' rb' v'/\w'.ownsRow w.heap.size 90 4 v' n xs/\Below w.heap.size w w':=by
 have hKs:Maps.Keyed Tryz.prog 9:=Maps.string_keyed Tryz.underlying9
 obtain ⟨D,hm,hh,hat⟩:=h
 have hmm:=@run_makeMap Tryz.prog
 have hszD:Maps.size D<=us.length:=hm.size_le
 have HRC:=Lib.hid (fun W (hb:Below w.heap.size w W)=>rcopy_any rb B v n xs W ((hb.block _ (lt_of_heap hr)).trans hr) ((Touch.of_below hb (fun _=>False)).own ho (fun _ _ h=>h)) hone hn)
 have HM:=Lib.hid hm
 have HH:=Lib.hid hh
 have HAT:=Lib.hid (fun W (hb:Below w.heap.size w W) k seed (hk:us.lookup k=some seed)=>(show ∃ a c,(∀ z,D.atKey (.string k) z=.held (.slice a 1 c))/\W.ownsRow 0 105 5 (.slice a 1 c) 1 (entRow seed) by
  obtain ⟨a,c,e1,e2,_⟩:=hat k seed hk
  exact ⟨a,c,e1,(Touch.of_below hb (fun _=>False)).own e2 (fun _ _ h=>h)⟩))
 have hbw:=hm.lt
 clear hm hh hat hr ho
 have hb1:Below w.heap.size w (((w.alloc (.cells #[.map (some b),.pointer (some ⟨rb,0,none⟩)] 151)).alloc (.cells #[.map none,.pointer none] 151)).alloc (.map #[] 0)):=(((Below.refl _ _).alloc (Nat.le_refl _) _).alloc (by simp) _).alloc (by simp;omega) _
 go_enter Tryz.func110,Tryz.ntmps110
 go_wp2_with fail
 have hr0:(((w.alloc (.cells #[.map (some b),.pointer (some ⟨rb,0,none⟩)] 151)).alloc (.cells #[.map none,.pointer none] 151)).alloc (.map #[] 0)).heap[w.heap.size]?=some (.cells #[.map (some b),.pointer (some ⟨rb,0,none⟩)] 151 (0,0)):=(Below.heap_alloc _ _ _ (by simp;omega)).trans (heap_alloc2_old _ _ _)
 have hr1:(((w.alloc (.cells #[.map (some b),.pointer (some ⟨rb,0,none⟩)] 151)).alloc (.cells #[.map none,.pointer none] 151)).alloc (.map #[] 0)).heap[w.heap.size+1]?=some (.cells #[.map none,.pointer none] 151 (0,0)):=(Below.heap_alloc _ _ _ (by simp)).trans (heap_alloc2_new _ _ _)
 have hmp:(((w.alloc (.cells #[.map (some b),.pointer (some ⟨rb,0,none⟩)] 151)).alloc (.cells #[.map none,.pointer none] 151)).alloc (.map #[] 0)).ownsMap Tryz.prog 9 heldR (w.heap.size+2) 0 (.map []):=by
  have:=World.ownsMap_made ((w.alloc (.cells #[.map (some b),.pointer (some ⟨rb,0,none⟩)] 151)).alloc (.cells #[.map none,.pointer none] 151)) Tryz.prog 9 heldR
  rw [show ((w.alloc (.cells #[.map (some b),.pointer (some ⟨rb,0,none⟩)] 151)).alloc (.cells #[.map none,.pointer none] 151)).heap.size=w.heap.size+2 from by simp] at this
  exact this
 generalize (((w.alloc (.cells #[.map (some b),.pointer (some ⟨rb,0,none⟩)] 151)).alloc (.cells #[.map none,.pointer none] 151)).alloc (.map #[] 0))=W1 at hb1 hr0 hr1 hmp |-
 refine (HRC.out W1 hb1).mono ?_
 rintro e w2 ⟨rb',v',rfl,hrb',hr2,ho2,hb2⟩
 have hlt1:=hmp.lt
 have hB2:=hb1.trans (hb2.mono hb1.size)
 have row0:=(hb2.block _ (lt_of_heap hr0)).trans hr0
 have row1:=(hb2.block _ (lt_of_heap hr1)).trans hr1
 have hmp2:=ownsMap_keep hmp (Touch.of_below hb2 (fun _=>False)) id
 have hmw:=ownsMap_keep HM.out (Touch.of_below hB2 (fun _=>False)) id
 have hs12:=hb2.size
 have hvo:=ho2.lt
 clear HRC hr0 hr1 hmp
 have hb3:Below w2.heap.size w2 (w2.alloc (.cells #[.map (some (w.heap.size+2)),.pointer (some ⟨rb',0,none⟩)] 151)):=(Below.refl _ _).alloc (Nat.le_refl _) _
 have y0:(w2.alloc (.cells #[.map (some (w.heap.size+2)),.pointer (some ⟨rb',0,none⟩)] 151)).cell? ⟨w.heap.size,0,none⟩=some (.map (some b)):=by
  rw [cell_of_row _ _ 0 _ _ _ ((hb3.block _ (lt_of_heap row0)).trans row0)];rfl
 have hmw3:=hmw.alloc (.cells #[.map (some (w.heap.size+2)),.pointer (some ⟨rb',0,none⟩)] 151)
 go_wp2_with (first | (at_range;refine wpList_range_own _ rfl _ 148 rfl 9 98 hKs Tryz.underlying148 heldR b us.length D rfl hmw3 ?_;intro w0 hrg0 hg0 hs0) | go_in)
 go_frame
 have er:(w2.alloc (.cells #[.map (some (w.heap.size+2)),.pointer (some ⟨rb',0,none⟩)] 151)).heap.size=w2.heap.size+1:=by simp
 rw [er] at hrg0 hs0
 have hT20:Touch (fun _=>False) w2 w0:=(Touch.of_below hb3 _).trans ((Touch.grown hg0).mono (fun j h=>by cases h))
 have hBw0:Below w.heap.size w w0:=hB2.trans ((hT20.below (B:=w2.heap.size) (fun _ h=>h.elim) (Nat.le_refl _)).mono hB2.size)
 have rs0:w0.heap[w2.heap.size]?=some (.cells #[.map (some (w.heap.size+2)),.pointer (some ⟨rb',0,none⟩)] 151 (0,0)):=(Touch.grown hg0).heap (heap_alloc_new _ _) (fun e=>by cases e)
 have rz0:=hT20.heap row1 id
 have hmp0:=ownsMap_keep hmp2 hT20 id
 have hrr0:=hT20.heap hr2 id
 have hro0:=hT20.own ho2 (fun _ _ h=>h)
 have hlrb:=lt_of_heap hrr0
 have hrb2:=lt_of_heap hr2
 have hlr:=hrg0.lt
 have hsw:=hB2.size
 have hlM:=hmp2.lt
 obtain ⟨q,hq⟩:∃ q,q=w2.heap.size:=⟨_,rfl⟩
 obtain ⟨M,hM⟩:∃ M,M=w.heap.size+2:=⟨_,rfl⟩
 have RS:=Lib.hid rs0
 have RZ:=Lib.hid rz0
 have RR:=Lib.hid (And.intro hrr0 hro0)
 have HBw0:=Lib.hid hBw0
 clear rs0 rz0 hrr0 hro0 hT20 hg0 hmw3 hmw hmp2 hb3 y0 row0 row1 hr2 ho2 hb2 hB2 hBw0 hb1
 simp only [er]
 rw [<-hq] at hrg0 hs0 RS hlr |-
 rw [<-hM] at hmp0 RS hlM |-
 have HQM:=Lib.hid (And.intro hq hM)
 have hqw:w.heap.size+2<=q:=by omega
 have hMq:M<q:=by omega
 have hwM:w.heap.size<=M:=by omega
 have hrbq:rb'<q:=by omega
 have hMW:M<W1.heap.size:=by omega
 have hM2:w.heap.size+1<M:=by omega
 have HVO:=Lib.hid (fun j hj=>(show W1.heap.size<=j/\j<q by have:=hvo j hj;omega))
 clear hq hM er hvo
 go_loopw [] (fun W=>∃ left cnt Dout no,W.ranges Tryz.prog 9 heldR b (q+1) us.length D left cnt/\(∀ kl,left kl=true->Maps.has D kl=true)/\W.ownsMap Tryz.prog 9 heldR M no Dout/\no+cnt<=us.length/\(∀ k,Maps.has Dout (.string k)=true->∃ seed,us.lookup k=some seed)/\(∀ k seed,us.lookup k=some seed->left (.string k)=false->∃ a c,(∀ z,Dout.atKey (.string k) z=.held (.slice a 1 c))/\W.ownsRow w0.heap.size 105 5 (.slice a 1 c) 1 (entRow seed))/\Touch (fun j=>j=M\/j=q+1\/w0.heap.size<=j) w0 W) (fun W=>W.rangeLeft b (q+1))
 case atStart=>
  refine ⟨_,_,.map [],0,hrg0,fun _ h=>h,hmp0,by omega,(fun k h=>by cases h),(fun k seed hk hl=>?_),Touch.refl _ _⟩
  obtain ⟨a,c,e1,_⟩:=HAT.out w (Below.refl _ _) k seed hk
  rw [Maps.has_true_of_atKey e1] at hl
  cases hl
 case round=>
  obtain ⟨left,cnt,Dout,no,hrg,hleft,hmo,hcs,hho,hao,hTk⟩:=hrel
  have rsk:=hTk.heap RS.out (fun e=>by rcases e with e | e | e <;> omega)
  clear hrg0 hmp0
  go_wp2_with (first
   | (at_next;refine wpList_next_ranges _ rfl _ rfl 9 hKs heldR Value.string (fun v:Value=>v) (fun key kl hkey=>by obtain ⟨x,e,_⟩:=keyOf_string_inv Tryz.underlying9 hkey;exact ⟨x,e⟩) (fun v y _=>⟨v,rfl⟩) b (q+1) us.length D left cnt rfl hrg ?_ ?_)
   | go_in)
  · intro hc0 hl0
    have rzk:=hTk.heap RZ.out (fun e=>by rcases e with e | e | e <;> omega)
    have hrk:=hTk.heap RR.out.1 (fun e=>by rcases e with e | e | e <;> omega)
    have hok:=hTk.own RR.out.2 (fun j hj e=>by have:=HVO.out j hj;rcases e with e | e | e <;> omega)
    have hBk:Below w.heap.size w wr:=HBw0.out.trans (hTk.below (fun j h=>by rcases h with h | h | h <;> omega) (by omega))
    have z0:wr.cell? ⟨q,0,none⟩=some (.map (some M)):=cel rsk
    have z1:wr.cell? ⟨q,1,none⟩=some (.pointer (some ⟨rb',0,none⟩)):=cel rsk
    have y0:wr.cell? ⟨w.heap.size+1,0,none⟩=some (.map none):=cel rzk
    have y1:wr.cell? ⟨w.heap.size+1,1,none⟩=some (.pointer none):=cel rzk
    have f0:wr.frozen? ⟨w.heap.size+1,0,none⟩=false:=frozen_of_row _ _ 0 _ _ rzk
    have f1:wr.frozen? ⟨w.heap.size+1,1,none⟩=false:=frozen_of_row _ _ 1 _ _ rzk
    have hlabs:LabsAt wr (fun g=>w0.heap.size<=g) M us:=⟨Dout,hmo.mono (by omega),hho,fun k seed hk=>by
     obtain ⟨a,c,e1,e2⟩:=hao k seed hk (hl0 _)
     exact ⟨a,c,e1,ownsRow_base e2 (Nat.zero_le _),fun g hg=>(e2.lt g hg).1⟩⟩
    have HF:=Lib.hid (And.intro hlabs (And.intro rzk (And.intro hrk (And.intro hok hBk))))
    clear hlabs rzk hrk hok hBk hmo hho hao hrg hTk rsk
    go_wp2
    have row7:=heap_setCell_same _ (w.heap.size+1) 1 _ _ (.pointer (some ⟨rb',0,none⟩)) (heap_setCell_same wr (w.heap.size+1) 0 _ _ (.map (some M)) HF.out.2.1)
    have hT7:Touch (fun j=>j=w.heap.size+1) wr ((wr.setCell ⟨w.heap.size+1,0,none⟩ (.map (some M))).setCell ⟨w.heap.size+1,1,none⟩ (.pointer (some ⟨rb',0,none⟩))):=(Touch.setCell (S:=fun j=>j=w.heap.size+1) wr ⟨w.heap.size+1,0,none⟩ _ rfl).trans (Touch.setCell (S:=fun j=>j=w.heap.size+1) _ ⟨w.heap.size+1,1,none⟩ _ rfl)
    generalize ((wr.setCell ⟨w.heap.size+1,0,none⟩ (.map (some M))).setCell ⟨w.heap.size+1,1,none⟩ (.pointer (some ⟨rb',0,none⟩)))=V at row7 hT7 |-
    refine bodyPost_ret (results_cell_row rfl _ _ (w.heap.size+1) 151 #[.map (some M),.pointer (some ⟨rb',0,none⟩)] (0,0) _ rfl row7 Tryz.underlying151 rfl (by kernel_rfl)) rfl ?_
    obtain ⟨g1,g2,g3,g4,g5⟩:=HF.out
    have hnw:¬ (rb'=w.heap.size+1):=by omega
    exact ⟨M,rb',v',rfl,hwM,by omega,(g1.touch hT7 (by omega) (fun g hg e=>by omega)).mono (fun g hg=>by omega),hT7.heap g3 hnw,ownsRow_base (hT7.own g4 (fun j hj e=>by have:=HVO.out j hj;omega)) (by omega),g5.trans ((hT7.below (B:=w.heap.size) (fun j h=>by omega) (by have:=g5.size;omega)).mono (Nat.le_refl _))⟩
  · intro x c kl y ys w1 cnt1 hkey hlk hy hatx hrg1 hlt1 hg1 hs1 hen
    obtain ⟨x',e1,rfl,hmax⟩:=keyOf_string_inv Tryz.underlying9 hkey
    cases e1
    obtain ⟨seed,hseed⟩:=HH.out _ (hleft _ hlk)
    have hTk1:=hTk.trans ((Touch.grown hg1).mono (T:=fun j=>j=M\/j=q+1\/w0.heap.size<=j) (fun j h=>.inl (.inr (.inl (Option.some.inj h)))))
    have hBw1:Below w.heap.size w w1:=HBw0.out.trans (hTk1.below (fun j h=>by rcases h with h | h | h <;> omega) (by omega))
    obtain ⟨sa,sc,f1,f2⟩:=HAT.out w1 hBw1 _ _ hseed
    have ec:c=.slice sa 1 sc:=by
     have h1:=f1 (.held (.bool false))
     rw [hatx] at h1
     have h2:=(Prod.ext_iff.1 (Option.some.inj hy)).1
     dsimp only at h2
     rw [<-h2] at h1
     injection h1
    subst ec
    have hcl:=Lib.hid (clone_ents 0 (.slice sa 1 sc) 1 (entRow seed) w1.drew (show w1.drew.ownsRow 0 105 5 (.slice sa 1 sc) 1 (entRow seed) from f2) (by simp [entRow,Value.oneCell']) (by decide))
    have z0:w1.cell? ⟨q,0,none⟩=some (.map (some M)):=by
     rw [cell_of_row _ _ 0 _ _ _ ((Touch.grown hg1).heap rsk (fun e=>by have:=Option.some.inj e;omega))];rfl
    have hmo1:=ownsMap_keep hmo (Touch.grown hg1) (fun e=>by have:=Option.some.inj e;omega)
    have HMO1:=Lib.hid hmo1
    have HZ0:=Lib.hid z0
    have HR1:=Lib.hid hrg1
    have HB:=Lib.hid hBw1
    have HT1:=Lib.hid hTk1
    have HHO:=Lib.hid hho
    have HAO:=Lib.hid hao
    have HLF:=Lib.hid hleft
    have Hhat:=Lib.hid hatx
    have HRG:=Lib.hid hrg
    have hs10:=hTk1.size
    clear hmo1 hrg1 hBw1 hTk1 f1 f2 hho hao hleft hmo hTk rsk hatx hy hrg hkey
    go_wp2_with fail
    go_region_law (first
     | (go_simp;go_at_call 81;refine hcl.out.mono ?_;rintro r w5 ⟨v5,rfl,ho5,hb5⟩;obtain ⟨a5,c5,rfl⟩:=own_slice ho5;have z5:=((below_call hb5).cell (World.block_lt_of_cell? _ _ HZ0.out)).trans HZ0.out;obtain ⟨w9,hrun9,hown9,hgrow9⟩:=(ownsMap_keep HMO1.out (Touch.of_below (below_call hb5) (fun _=>False)) id).update hKs Tryz.underlying148 (key:=.string x) (val:=.slice a5 1 c5) (d:=.held (.slice a5 1 c5)) (ps:=[]) (by unfold maxLen;omega) (WideMaps.keyOf_string_mk Tryz.underlying9 (s:=x) hmax) rfl))
    all_goals
     have hb15:=below_call hb5
     have hg15:w1.grownBy w5 none:=⟨hb15.os,hb15.tape,hb15.output,hb15.size,fun i hi _=>hb15.block i hi⟩
     have hrg9:=(HR1.out.kept hg15 (by simp) (by simp)).kept hgrow9 (fun e=>by have:=Option.some.inj e;omega) (fun e=>by have:=Option.some.inj e;omega)
     have hT9:=HT1.out.trans ((Touch.of_below hb15 _).trans ((Touch.grown hgrow9).mono (T:=fun j=>j=M\/j=q+1\/w0.heap.size<=j) (fun j h=>.inl (.inl (Option.some.inj h)))))
     have hleft9:∀ kl,(left kl&&!kl.sameKey (.string x.data.toList))=true->Maps.has D kl=true:=fun kl h=>HLF.out kl (by
      rw [Bool.and_eq_true] at h;exact h.1)
     have hho9:∀ k,Maps.has (Dout.put (.string x.data.toList) (.held (.slice a5 1 c5))) (.string k)=true->∃ seed,us.lookup k=some seed:=fun k h=>by
      by_cases e:k=x.data.toList
      · subst e;exact ⟨_,hseed⟩
      · rw [Maps.has_put_other (fun e'=>e (by injection e'))] at h
        exact HHO.out k h
     have hs5:=hb15.size
     have hao9:∀ k sd,us.lookup k=some sd->(left (.string k)&&!(Lit.string k).sameKey (.string x.data.toList))=false->∃ a c,(∀ z,(Dout.put (.string x.data.toList) (.held (.slice a5 1 c5))).atKey (.string k) z=.held (.slice a 1 c))/\w9.ownsRow w0.heap.size 105 5 (.slice a 1 c) 1 (entRow sd):=fun k sd hk hl=>by
      by_cases e:k=x.data.toList
      · subst e
        rw [hseed] at hk
        cases hk
        refine ⟨a5,c5,fun z=>Maps.atKey_put_same (k:=.string x.data.toList) HMO1.out.isMap trivial _ z,ownsRow_base ((Touch.grown hgrow9).own ho5 (fun j hj e=>?_)) (by simpa using hs10)⟩
        have h1:=(ho5.lt j hj).1
        have h2:=Option.some.inj e
        simp at h1
        omega
      · have hne:(Lit.string k)≠.string x.data.toList:=fun e'=>e (by injection e')
        rw [Maps.sameKey_ne hne] at hl
        obtain ⟨a,c,e1,e2⟩:=HAO.out k sd hk (by simpa using hl)
        refine ⟨a,c,fun z=>by rw [Maps.atKey_put_other hne,e1],(Touch.grown hgrow9).own ((Touch.of_below hb15 (fun _=>False)).own ((Touch.grown hg1).own e2 (fun j hj e=>?_)) (fun _ _ h=>h)) (fun j hj e=>?_)⟩
        · have h1:=(e2.lt j hj).1
          have h2:=Option.some.inj e
          omega
        · have h1:=(e2.lt j hj).1
          have h2:=Option.some.inj e
          omega
     have HF:=Lib.hid (And.intro hrg9 (And.intro hleft9 (And.intro hown9 (And.intro hho9 (And.intro hao9 hT9)))))
     have hm1:=hrg9.left_eq
     have hm2:=HRG.out.left_eq
     clear hrg9 hleft9 hown9 hho9 hao9 hT9 hg15 hb15 hrun9 hgrow9 hb5 ho5 z5 z0 hcl hg1 hen
     go_wp2
     go_roundw
     case rel=>exact ⟨_,cnt1,_,no+1,HF.out.1,HF.out.2.1,HF.out.2.2.1,by omega,HF.out.2.2.2.1,HF.out.2.2.2.2.1,HF.out.2.2.2.2.2⟩
     case measure=>rw [hm1,hm2];exact hlt1
end Go.Proofs.YtcgkomafaepjnaaGreatDoor
namespace Go.Proofs.YtcgkomafaepjnaaGreatDoor
open Go.RowKit Go.Maps
theorem seat_wide:(match Tryz.prog.underlying 168 with | some (.array _ _) | some (.struct _)=>true | _=>false)=true:=by rw [Tryz.underlying168]
theorem seat_keyed:Keyed Tryz.prog 168:=Keyed.of_law (deep_law (m:=2) (by decide) (by kernel_rfl) (by kernel_rfl) seat_wide)
def seatK (n:Nat):Lit:=.string (keyBytes [.int .i64 0,.int .i64 n])
theorem seat_key (n:Nat) (h:n<=4):keyOf Tryz.prog 168 (.agg #[.int .i64 0,.int .i64 n])=some (seatK n):=by
 rcases n with _ | _ | _ | _ | _ | n
 · kernel_rfl
 · kernel_rfl
 · kernel_rfl
 · kernel_rfl
 · kernel_rfl
 · omega
theorem seatK_ne (n m:Nat) (hn:n<=4) (hm:m<=4) (h:n≠m):seatK n≠seatK m:=by
 intro e
 have h2:=seat_keyed.inj (seat_key n hn) (e ▸ seat_key m hm)
 injection h2 with h2
 have h3:(.int .i64 (n:Int):Value)=.int .i64 (m:Int):=by
  have:=congrArg (fun a:Array Value=>a.getD 1 undef) h2
  exact this
 injection h3 with _ h3
 exact h (by omega)
def SeatsAt (w:World) (b j:Nat) (l:List Nat):Prop:=
 ∃ D:DataW Value,w.ownsMap Tryz.prog 168 (plainElem Tryz.prog 4) b j D/\∀ n,n<=4->Maps.has D (seatK n)=true->n∈l
theorem SeatsAt.look {w:World} {b j:Nat} {l:List Nat} (h:SeatsAt w b j l) (n:Nat) (hn:n<=4) (hl:n ∉ l) :
 (Instr.lookup 166 (.map (some b)) (.agg #[.int .i64 0,.int .i64 n]) false).run Tryz.prog w=.ok (.bool false) w:=by
 obtain ⟨D,⟨es,clock,hb,F,_,rfl⟩,hD⟩:=h
 rcases Maps.fit_look false seat_keyed Tryz.underlying166 (z:=.bool false) (by kernel_rfl) hb F (seat_key n hn) with ⟨hrun,_,_⟩ | ⟨e0,y,_,_,_,_,hat,_⟩
 · exact hrun
 · exact absurd (hD n hn (Maps.has_true_of_atKey hat)) hl
theorem SeatsAt.put {w:World} {b j:Nat} {l:List Nat} (h:SeatsAt w b j l) (n:Nat) (hn:n<=4) (hj:j<=1000) :
 ∃ w',(Instr.mapUpdate 166 (.map (some b)) (.agg #[.int .i64 0,.int .i64 n]) (.bool true)).run Tryz.prog w=.ok () w'/\SeatsAt w' b (j+1) (l++[n])/\w.mapTurned w' b:=by
 obtain ⟨D,hm,hD⟩:=h
 obtain ⟨w',hrun,hm',ht⟩:=hm.store seat_keyed Tryz.underlying166 (by unfold maxLen;omega) (seat_key n hn) (plainElem_bool Tryz.underlying4 true)
 refine ⟨w',hrun,⟨_,hm',fun k hk hh=>?_⟩,ht⟩
 by_cases e:k=n
 · subst e;simp
 · rw [Maps.has_put_other (seatK_ne k n hk hn e)] at hh
   exact List.mem_append_left _ (hD k hk hh)
theorem SeatsAt.touch {S:Nat->Prop} {w w':World} {b j:Nat} {l:List Nat} (h:SeatsAt w b j l) (ht:Touch S w w') (hb:¬ S b):SeatsAt w' b j l:=by
 obtain ⟨D,hm,hD⟩:=h
 exact ⟨D,ownsMap_keep hm ht hb,hD⟩
theorem seats_made (w:World):SeatsAt (w.alloc (.map #[] 0)) w.heap.size 0 []:=
 ⟨.map [],World.ownsMap_made w Tryz.prog 168 (plainElem (H:=Value) Tryz.prog 4),fun n _ h=>by simp [Maps.has_eq] at h⟩
end Go.Proofs.YtcgkomafaepjnaaGreatDoor
