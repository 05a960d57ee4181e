/- Package plumbobtop: TopQuorums. Conditions: the tables as laid. -/
import Derived.Test.YtcgkomafaepjnaaGreatDoorTL28
import Derived.Test.YtcgkomafaepjnaaGreatDoorTQ1
import Derived.Test.YtcgkomafaepjnaaGreatDoorTL16
set_option maxRecDepth 100000
set_option maxHeartbeats 16000000
namespace Go.Proofs.YtcgkomafaepjnaaGreatDoor
open Go.RowKit
attribute [local go_sem ↓] bs_hid
theorem tquorums_any (z0 z1 z2 bo:Nat) (sa:Option Addr) (sn sc:Nat) (sl:List UInt8) (w:World) (h0:z0<256) (h1:z1<256) (h2:z2<256) (_:bo<256) (hsl:Cells w (.slice sa sn sc) (bytesV sl)) (hT:Kons w) :
 Calls Tryz.prog 4 #[.agg #[.int .u8 z0,.int .u8 z1,.int .u8 z2],.slice sa sn sc,.int .u8 bo] w fun e w'=>e=.returned (.bool true)/\Below w.heap.size w w':=by
 have HT:=Lib.hid hT
 obtain ⟨i0,hi,hz0,hz1,hz2⟩:=info_parts (show (Tryz.prog.info? 92).map (fun i=>(i.zero,i.size,i.bytes))=some (some (.agg #[.int .u64 0,.int .i64 0,.string ⟨#[]⟩,.int .i64 0,.int .i64 0,.slice none 0 0,.slice none 0 0,.string ⟨#[]⟩,.string ⟨#[]⟩,.string ⟨#[]⟩,.int .i64 0,.slice none 0 0,.bool false,.string ⟨#[]⟩,.string ⟨#[]⟩]),15,216) by kernel_rfl)
 have HSide:=Lib.hid (show ∀ k,k<sn->∃ b o x,sa=some ⟨b,o,none⟩/\x<256/\w.cell? ⟨b,o+k,none⟩=some (.int .u8 (x:Nat)) from by
  intro k hk
  obtain ⟨a,c,e,hc⟩:=hsl
  injection e with e1 e2 e3
  subst e1
  have hne:bytesV sl≠[]:=by intro e;rw [e] at e2;simp at e2;omega
  obtain ⟨b,o,rfl,_,hc⟩:=hc hne
  refine ⟨b,o,(sl.getD k 0).toNat,rfl,(sl.getD k 0).toNat_lt,?_⟩
  rw [hc k (by omega)]
  have hl:k<sl.length:=by rw [bytesV_length] at e2;omega
  simp [bytesV,List.getD_eq_getElem?_getD,List.getElem?_map,List.getElem?_eq_getElem hl])
 obtain ⟨W0,hW0⟩:∃ W0,W0=w.alloc (.cells #[.int .u8 z0,.int .u8 z1,.int .u8 z2] 57):=⟨_,rfl⟩
 have hb0:Below w.heap.size w W0:=by rw [hW0];exact (Below.refl _ _).alloc (Nat.le_refl _) _
 have hr0:W0.heap[w.heap.size]?=some (.cells #[.int .u8 z0,.int .u8 z1,.int .u8 z2] 57 (0,0)):=by rw [hW0];exact heap_alloc_new _ _
 have hcall:=Lib.hid (serves_any W0 (hT.old hb0))
 have HB0:=Lib.hid (And.intro hb0 hr0)
 obtain ⟨q0,hq0,hq0b⟩:∃ q:Nat,(z0:Int).tmod 4=(q:Int)/\q<=3:=⟨z0%4,by rw [Int.tmod_eq_emod_of_nonneg (by omega)];omega,by omega⟩
 obtain ⟨n,hn⟩:∃ n,n=2+q0:=⟨_,rfl⟩
 obtain ⟨q1,hq1,hq1b⟩:∃ q:Nat,(z1:Int).tmod (n:Int)=(q:Int)/\q<n:=⟨z1%n,by rw [Int.tmod_eq_emod_of_nonneg (by omega)];omega,Nat.mod_lt _ (by omega)⟩
 obtain ⟨s,hs⟩:∃ s,s=1+q1:=⟨_,rfl⟩
 obtain ⟨f,hf,hfb⟩:∃ q:Nat,(z2:Int).tmod (s:Int)=(q:Int)/\q<s:=⟨z2%s,by rw [Int.tmod_eq_emod_of_nonneg (by omega)];omega,Nat.mod_lt _ (by omega)⟩
 have hn2:2<=n:=by omega
 have hn5:n<=5:=by omega
 have hs1:1<=s:=by omega
 have hsn:s<=n:=by omega
 have e1:((n:Int)==0)=false:=by simp;omega
 have e2:((s:Int)==0)=false:=by simp;omega
 have e3:¬ ((n:Int)=0):=by omega
 have e4:¬ ((s:Int)=0):=by omega
 have v1:(2:Int)+(q0:Int)=(n:Int):=by omega
 have v2:(1:Int)+(q1:Int)=(s:Int):=by omega
 have hq1c:q1<=4:=by omega
 clear hT hsl hb0 hr0 hn hs hq1b
 go_enter Tryz.func4,Tryz.ntmps4
 go_wp2_with fail
 rw [<-hW0]
 clear hW0
 refine hcall.out.mono ?_
 rintro e w1 ⟨rfl,hb1⟩
 obtain ⟨hb0,hr0⟩:=HB0.out
 have hr1:=(hb1.block _ (lt_of_heap hr0)).trans hr0
 have x0:w1.cell? ⟨w.heap.size,0,none⟩=some (.int .u8 z0):=cel hr1
 have x1:w1.cell? ⟨w.heap.size,1,none⟩=some (.int .u8 z1):=cel hr1
 have x2:w1.cell? ⟨w.heap.size,2,none⟩=some (.int .u8 z2):=cel hr1
 have HB1:=Lib.hid (hb0.trans (hb1.mono hb0.size))
 obtain ⟨m,hm⟩:∃ m,m=(s+f)/2+1:=⟨_,rfl⟩
 obtain ⟨nd,hnd⟩:∃ nd,nd=min m s:=⟨_,rfl⟩
 have hmin:min (m:Int) (s:Int)=(nd:Int):=by omega
 have hcall:=wneed_any s f w1 (by omega) (by omega)
 rw [<-hm] at hcall
 have Hnd:=Lib.hid (And.intro hm hnd)
 have hnd1:1<=nd:=by omega
 have hnds:nd<=s:=by omega
 clear hb0 hr0 hr1 hb1 HB0 hm hnd
 go_wp2_with fail
 refine hcall.mono ?_
 rintro e w' ⟨rfl,rfl⟩
 clear hcall x0 x1 x2 hq0 hq1 hf v1 v2 hq0b hq1c e1 e2 e3 e4
 have hb2:Below w.heap.size w (w1.alloc (.cells #[.int .i64 s,.int .i64 nd] 61)):=HB1.out.alloc HB1.out.size _
 have hr2:(w1.alloc (.cells #[.int .i64 s,.int .i64 nd] 61)).heap[w1.heap.size]?=some (.cells #[.int .i64 s,.int .i64 nd] 61 (0,0)):=heap_alloc_new _ _
 have HR2:=Lib.hid (And.intro hb2 hr2)
 have hcall:=Lib.hid (keys_any n (w1.alloc (.cells #[.int .i64 s,.int .i64 nd] 61)) hn5 (HT.out.kon.old hb2))
 clear hb2 hr2 HB1
 go_wp2_with fail
 generalize (w1.alloc (.cells #[.int .i64 s,.int .i64 nd] 61))=W2 at HR2 hcall |-
 generalize w1.heap.size=R at HR2 |-
 clear hmin
 refine hcall.out.mono ?_
 rintro e w3 ⟨va,vc,bs,rfl,hks,hb3⟩
 have hB3:=HR2.out.1.trans (hb3.mono HR2.out.1.size)
 have hr3:=(hb3.block _ (lt_of_heap HR2.out.2)).trans HR2.out.2
 have hcall:=Lib.hid (show Calls Tryz.prog 25 #[.slice va n vc,.int .i64 0] w3 fun e w'=>∃ p S,e=.returned (.pointer (some ⟨p,0,none⟩))/\SrvA w' S p 0 (audsN n) []/\(∀ k,S k->w3.heap.size<=k)/\Below w3.heap.size w3 w' from newside_any n 0 W2.heap.size w3.heap.size vc va bs w3 hks hn5 (by decide) (auds_good n hn5) (fun i j h hj=>open_apart i j h (by omega)) (HT.out.old hB3))
 have HK3:=Lib.hid (And.intro hks (And.intro hB3 hr3))
 clear hks hb3 hB3 hr3 HR2
 go_wp2_with fail
 refine hcall.out.mono ?_
 rintro e w4 ⟨pa,Sa,rfl,hsa,hSa,hb4⟩
 have hcall:=Lib.hid (show Calls Tryz.prog 25 #[.slice va n vc,.int .i64 0] w4 fun e w'=>∃ p S,e=.returned (.pointer (some ⟨p,0,none⟩))/\SrvA w' S p 0 (audsN n) []/\(∀ k,S k->w4.heap.size<=k)/\Below w4.heap.size w4 w' from newside_any n 0 W2.heap.size w3.heap.size vc va bs w4 (HK3.out.1.old hb4) hn5 (by decide) (auds_good n hn5) (fun i j h hj=>open_apart i j h (by omega)) (HT.out.old (HK3.out.2.1.trans (hb4.mono HK3.out.2.1.size))))
 have H4:=Lib.hid (And.intro hsa (And.intro hSa hb4))
 clear hsa hSa hb4
 go_wp2_with fail
 refine hcall.out.mono ?_
 rintro e w5 ⟨pb,Sb,rfl,hsb,hSb,hb5⟩
 have h2:=two_made (HT.out.old HK3.out.2.1) H4.out.1 H4.out.2.1 H4.out.2.2 hsb hSb hb5
 have hcall:=Lib.hid (show Calls Tryz.prog 26 #[.pointer (some ⟨pa,0,none⟩),.string ⟨#[97,108,105,99,101]⟩,.string ⟨#[97]⟩] w5 fun e w'=>e=.returned (.bool true)/\TwoA w3 (fun _=>False) w' pa pb 0 n usA []/\∀ k,(fun _=>False) k->w'.heap[k]?=w5.heap[k]? from puta_any w3 _ pa pb 0 n [] [] ⟨#[97,108,105,99,101]⟩ [97] w5 h2 (by decide) (by decide) low_alice (by decide) (by decide) rfl)
 clear h2 hsb hSb hb5 H4
 go_wp2_with fail
 refine hcall.out.mono ?_
 rintro e w6 ⟨rfl,h2,_⟩
 have hcall:=Lib.hid (show Calls Tryz.prog 26 #[.pointer (some ⟨pb,0,none⟩),.string ⟨#[97,108,105,99,101]⟩,.string ⟨#[98]⟩] w6 fun e w'=>e=.returned (.bool true)/\TwoA w3 (fun _=>False) w' pa pb 0 n usA usB/\∀ k,(fun _=>False) k->w'.heap[k]?=w6.heap[k]? from putb_any w3 _ pa pb 0 n usA [] ⟨#[97,108,105,99,101]⟩ [98] w6 h2 (by decide) (by decide) low_alice (by decide) (by decide) rfl)
 clear h2
 go_wp2_with fail
 refine hcall.out.mono ?_
 rintro e w7 ⟨rfl,h2,_⟩
 have hcall:=Lib.hid (show Calls Tryz.prog 27 #[.pointer (some ⟨pa,0,none⟩)] w7 fun e w'=>∃ v na nc,e=.returned (.tuple #[.agg #[.int .u64 1,.string ⟨(dig0 0 (audsN n)).toArray⟩,.int .i64 0,.int .i64 n,.slice na 1 nc],v,.int .i64 0])/\MidA w3 (fun _=>False) w' pa pb 0 n usA usB na nc/\∀ k,(fun _=>False) k->w'.heap[k]?=w7.heap[k]? from puba_any w3 _ pa pb 0 n 1 usA usB w7 h2 (by decide) hn5 (by decide) rfl)
 clear h2
 go_wp2_with fail
 refine hcall.out.mono ?_
 rintro e w8 ⟨pv,na,nc,rfl,hmid,_⟩
 have hbg:Below w8.heap.size w8 (w8.alloc (.cells #[.int .u64 1,.string ⟨(dig0 0 (audsN n)).toArray⟩,.int .i64 0,.int .i64 n,.slice na 1 nc] 69)):=(Below.refl _ _).alloc (Nat.le_refl _) _
 have hrg:(w8.alloc (.cells #[.int .u64 1,.string ⟨(dig0 0 (audsN n)).toArray⟩,.int .i64 0,.int .i64 n,.slice na 1 nc] 69)).heap[w8.heap.size]?=some (.cells #[.int .u64 1,.string ⟨(dig0 0 (audsN n)).toArray⟩,.int .i64 0,.int .i64 n,.slice na 1 nc] 69 (0,0)):=heap_alloc_new _ _
 have hmid:=hmid.guard hbg (Q:=fun k=>k=w8.heap.size) (fun k hk=>by subst hk;exact ⟨Nat.le_refl _,lt_of_heap hrg⟩)
 have hcall:=Lib.hid (show Calls Tryz.prog 27 #[.pointer (some ⟨pb,0,none⟩)] (w8.alloc (.cells #[.int .u64 1,.string ⟨(dig0 0 (audsN n)).toArray⟩,.int .i64 0,.int .i64 n,.slice na 1 nc] 69)) fun e w'=>∃ v nb ne,e=.returned (.tuple #[.agg #[.int .u64 1,.string ⟨(dig0 0 (audsN n)).toArray⟩,.int .i64 0,.int .i64 n,.slice nb 1 ne],v,.int .i64 0])/\TwoB w3 w' pa pb 0 n usA usB na nc nb ne/\(∀ k,(False\/k=w8.heap.size)->w'.heap[k]?=(w8.alloc (.cells #[.int .u64 1,.string ⟨(dig0 0 (audsN n)).toArray⟩,.int .i64 0,.int .i64 n,.slice na 1 nc] 69)).heap[k]?)/\(w8.alloc (.cells #[.int .u64 1,.string ⟨(dig0 0 (audsN n)).toArray⟩,.int .i64 0,.int .i64 n,.slice na 1 nc] 69)).heap.size<=w'.heap.size from pubb_any w3 _ pa pb 0 n 1 usA usB na nc (w8.alloc (.cells #[.int .u64 1,.string ⟨(dig0 0 (audsN n)).toArray⟩,.int .i64 0,.int .i64 n,.slice na 1 nc] 69)) hmid (by decide) hn5 (by decide) rfl)
 have HG:=Lib.hid hrg
 clear hmid hbg hrg
 go_wp2_with fail
 generalize (w8.alloc (.cells #[.int .u64 1,.string ⟨(dig0 0 (audsN n)).toArray⟩,.int .i64 0,.int .i64 n,.slice na 1 nc] 69))=W9 at HG hcall |-
 generalize w8.heap.size=Gb at HG hcall |-
 refine hcall.out.mono ?_
 rintro e w10 ⟨pv2,nb,ne,rfl,h2,hpr,_⟩
 have hrg:=(hpr Gb (.inr rfl)).trans HG.out
 have hB10:=h2.bel
 have hbh:Below w10.heap.size w10 (w10.alloc (.cells #[.int .u64 1,.string ⟨(dig0 0 (audsN n)).toArray⟩,.int .i64 0,.int .i64 n,.slice nb 1 ne] 69)):=(Below.refl _ _).alloc (Nat.le_refl _) _
 have hrh:(w10.alloc (.cells #[.int .u64 1,.string ⟨(dig0 0 (audsN n)).toArray⟩,.int .i64 0,.int .i64 n,.slice nb 1 ne] 69)).heap[w10.heap.size]?=some (.cells #[.int .u64 1,.string ⟨(dig0 0 (audsN n)).toArray⟩,.int .i64 0,.int .i64 n,.slice nb 1 ne] 69 (0,0)):=heap_alloc_new _ _
 have hrg:=(hbh.block _ (lt_of_heap hrg)).trans hrg
 have h2:=h2.old hbh
 have hB11:=hB10.trans (hbh.mono hB10.size)
 have hks:=HK3.out.1.old hB11
 have hrr:=(hB11.block _ (lt_of_heap HK3.out.2.2)).trans HK3.out.2.2
 have hBw:=HK3.out.2.1.trans (hB11.mono HK3.out.2.1.size)
 obtain ⟨g0,g1,g2,g3,g4,_,_,_,_,_⟩:=ten_of_row hrg
 obtain ⟨j0,j1,j2,j3,j4,_,_,_,_,_⟩:=ten_of_row hrh
 obtain ⟨Sa,Sb,hsa,hsb,hca,hcb⟩:=h2.2.2
 have hcall:=Lib.hid (show Calls Tryz.prog 28 #[.agg #[.int .u64 1,.string ⟨(dig0 0 (audsN n)).toArray⟩,.int .i64 0,.int .i64 n,.slice na 1 nc],.agg #[.int .u64 1,.string ⟨(dig0 0 (audsN n)).toArray⟩,.int .i64 0,.int .i64 n,.slice nb 1 ne]] (w10.alloc (.cells #[.int .u64 1,.string ⟨(dig0 0 (audsN n)).toArray⟩,.int .i64 0,.int .i64 n,.slice nb 1 ne] 69)) fun e w'=>e=.returned (.bool false)/\Below (w10.alloc (.cells #[.int .u64 1,.string ⟨(dig0 0 (audsN n)).toArray⟩,.int .i64 0,.int .i64 n,.slice nb 1 ne] 69)).heap.size (w10.alloc (.cells #[.int .u64 1,.string ⟨(dig0 0 (audsN n)).toArray⟩,.int .i64 0,.int .i64 n,.slice nb 1 ne] 69)) w' from hsame_any 1 (dig0 0 (audsN n)) 0 n na 1 nc (nodes1 0 (audsN n) usA) 1 (dig0 0 (audsN n)) 0 n nb 1 ne (nodes1 0 (audsN n) usB) false _ (hdN1 n 0 usA hn5 (by decide)) hca (hdN1 n 0 usB hn5 (by decide)) hcb (rivals n (by omega) hn5))
 have HB:=Lib.hid (And.intro hBw (And.intro hks (And.intro hrr (And.intro hrg (And.intro hrh (And.intro hsa (And.intro hsb (And.intro hca hcb))))))))
 clear hBw hks hrr hrg hrh hsa hsb hca hcb h2 hpr hB10 hB11 hbh HG HK3
 go_wp2_with fail
 generalize (w10.alloc (.cells #[.int .u64 1,.string ⟨(dig0 0 (audsN n)).toArray⟩,.int .i64 0,.int .i64 n,.slice nb 1 ne] 69))=W11 at HB hcall g0 g1 g2 g3 g4 j0 j1 j2 j3 j4 |-
 generalize w10.heap.size=Hb at HB hcall j0 j1 j2 j3 j4 |-
 clear g0 g1 g2 g3 g4 j0 j1 j2 j3 j4
 refine hcall.out.mono ?_
 rintro e w12 ⟨rfl,hb12⟩
 obtain ⟨hBw,hks,hrr,hrg,hrh,hsa,hsb,hca,hcb⟩:=HB.out
 have hcall:=Lib.hid (show Calls Tryz.prog 29 #[.pointer (some ⟨pa,0,none⟩)] w12 fun e w'=>∃ gh ch pna pnc,e=.returned (.slice (some ⟨gh,0,none⟩) 2 ch)/\(w'.cell? ⟨gh,0,none⟩=some (.int .u64 0)/\w'.cell? ⟨gh,1,none⟩=some (.string ⟨nought16.toArray⟩)/\w'.cell? ⟨gh,2,none⟩=some (.int .i64 0)/\w'.cell? ⟨gh,3,none⟩=some (.int .i64 n)/\w'.cell? ⟨gh,4,none⟩=some (.slice pna 1 pnc))/\Cells w' (.slice pna 1 pnc) (txs (nodes0 0 (audsN n)))/\Keyrow w' pna pnc (nodes0 0 (audsN n))/\Below w12.heap.size w12 w' from heads_flat n pa 0 1 usA Sa w12 (hsa.old hb12) (by decide) rfl)
 have HB12:=Lib.hid hb12
 clear hBw hks hrr hrg hrh hsa hsb hca hcb hb12
 go_wp2_with fail
 refine hcall.out.mono ?_
 rintro e w13 ⟨gh,ch,pna,pnc,rfl,⟨y0,y1,y2,y3,y4⟩,hcp,hkp,hb13⟩
 have hB13:=HB12.out.trans (hb13.mono HB12.out.size)
 have hbp:Below w13.heap.size w13 (w13.alloc (.cells #[.int .u64 0,.string ⟨nought16.toArray⟩,.int .i64 0,.int .i64 n,.slice pna 1 pnc] 69)):=(Below.refl _ _).alloc (Nat.le_refl _) _
 have hB14:=hB13.trans (hbp.mono hB13.size)
 have hrp:(w13.alloc (.cells #[.int .u64 0,.string ⟨nought16.toArray⟩,.int .i64 0,.int .i64 n,.slice pna 1 pnc] 69)).heap[w13.heap.size]?=some (.cells #[.int .u64 0,.string ⟨nought16.toArray⟩,.int .i64 0,.int .i64 n,.slice pna 1 pnc] 69 (0,0)):=heap_alloc_new _ _
 have hcp:=hcp.old hbp
 have hkp:=hkp.old hbp
 obtain ⟨hBw,_,hrr,_⟩:=HB.out
 have hrr:=(hB14.block _ (lt_of_heap hrr)).trans hrr
 have r0:(w13.alloc (.cells #[.int .u64 0,.string ⟨nought16.toArray⟩,.int .i64 0,.int .i64 n,.slice pna 1 pnc] 69)).cell? ⟨R,0,none⟩=some (.int .i64 s):=cel hrr
 have r1:(w13.alloc (.cells #[.int .u64 0,.string ⟨nought16.toArray⟩,.int .i64 0,.int .i64 n,.slice pna 1 pnc] 69)).cell? ⟨R,1,none⟩=some (.int .i64 nd):=cel hrr
 have hcall:=Lib.hid (show Calls Tryz.prog 30 #[.agg #[.int .u64 0,.string ⟨nought16.toArray⟩,.int .i64 0,.int .i64 n,.slice pna 1 pnc],.int .i64 n,.agg #[.int .i64 s,.int .i64 nd]] (w13.alloc (.cells #[.int .u64 0,.string ⟨nought16.toArray⟩,.int .i64 0,.int .i64 n,.slice pna 1 pnc] 69)) fun e w'=>∃ G c g,e=.returned (.tuple #[.slice (some ⟨G,0,none⟩) 1 c,.int .i64 0])/\w'.cell? ⟨G,0,none⟩=some (.slice (some ⟨g,0,none⟩) s s)/\w'.heap[g]?=some (.cells (natRow (winL (dig0 0 (audsN n)) n s)) 3 (0,0))/\Below (w13.alloc (.cells #[.int .u64 0,.string ⟨nought16.toArray⟩,.int .i64 0,.int .i64 n,.slice pna 1 pnc] 69)).heap.size (w13.alloc (.cells #[.int .u64 0,.string ⟨nought16.toArray⟩,.int .i64 0,.int .i64 n,.slice pna 1 pnc] 69)) w' from cwindows_any 0 nought16 n pna 1 pnc n s nd (dig0 0 (audsN n)) _ hn5 (by omega) hsn (by omega) hnds (digHd_length _ _ _ _ _) (win_ok n (by omega) hn5) ((HT.out.old (hBw.trans (hB14.mono hBw.size))).kon) (fun W hb=>by
  have:=hdigest_any 0 nought16 0 n pna 1 pnc (nodes0 0 (audsN n)) W (hdN0 n 0 hn5 (by decide)) (hcp.old hb) ((HT.out.old (hBw.trans (hB14.mono hBw.size))).kon.old hb)
  rw [<-dig0_eq] at this
  exact this))
 have HP:=Lib.hid (And.intro hB14 (And.intro hrp (And.intro hcp hkp)))
 clear hB13 hbp hB14 hrp hcp hkp hBw hrr hb13
 go_wp2_with fail
 generalize (w13.alloc (.cells #[.int .u64 0,.string ⟨nought16.toArray⟩,.int .i64 0,.int .i64 n,.slice pna 1 pnc] 69))=W13 at HP hcall r0 r1 |-
 generalize w13.heap.size=Pb at HP |-
 clear r0 r1 y0 y1 y2 y3 y4
 refine hcall.out.mono ?_
 rintro e w14 ⟨G,c,g,rfl,hG,hg,hb14⟩
 have hB14:=HP.out.1.trans (hb14.mono HP.out.1.size)
 have hrp:=(hb14.block _ (lt_of_heap HP.out.2.1)).trans HP.out.2.1
 obtain ⟨Pre,hPre⟩:∃ Pre:World->Prop,Pre=fun A=>Below w14.heap.size w14 A:=⟨_,rfl⟩
 have hp0:Pre w14.drew:=by rw [hPre];exact below_drew w14
 have hcp2:=Lib.hid (fun A (hA:Pre A)=>(show A.cell? ⟨Pb,0,none⟩=some (.int .u64 0)/\A.cell? ⟨Pb,1,none⟩=some (.string ⟨nought16.toArray⟩)/\A.cell? ⟨Pb,2,none⟩=some (.int .i64 0)/\A.cell? ⟨Pb,3,none⟩=some (.int .i64 n)/\A.cell? ⟨Pb,4,none⟩=some (.slice pna 1 pnc) by
  rw [hPre] at hA
  obtain ⟨e0,e1,e2,e3,e4,_⟩:=ten_of_row ((hA.block _ (lt_of_heap hrp)).trans hrp)
  exact ⟨e0,e1,e2,e3,e4⟩))
 have q1:=Lib.hid (fun A (hA:Pre A)=>(show Calls Tryz.prog 29 #[.pointer (some ⟨pb,0,none⟩)] A fun e w'=>∃ gh ch pna pnc,e=.returned (.slice (some ⟨gh,0,none⟩) 2 ch)/\(w'.cell? ⟨gh,0,none⟩=some (.int .u64 0)/\w'.cell? ⟨gh,1,none⟩=some (.string ⟨nought16.toArray⟩)/\w'.cell? ⟨gh,2,none⟩=some (.int .i64 0)/\w'.cell? ⟨gh,3,none⟩=some (.int .i64 n)/\w'.cell? ⟨gh,4,none⟩=some (.slice pna 1 pnc))/\(Cells w' (.slice pna 1 pnc) (txs (nodes0 0 (audsN n))))/\Pre w' from by
  have hA':Below w14.heap.size w14 A:=by rw [hPre] at hA;exact hA
  obtain ⟨_,_,_,_,_,_,hsb,_,_⟩:=HB.out
  refine Calls.mono (heads_flat n pb 0 1 usB Sb A ((hsb.old hB14).old hA') (by decide) rfl) ?_
  rintro e w' ⟨gh,ch,pna,pnc,h1,h2,h3,_,h5⟩
  exact ⟨gh,ch,pna,pnc,h1,h2,h3,by rw [hPre] at hA |-;exact hA.trans (h5.mono hA.size)⟩))
 have q2:=Lib.hid (fun A pnb pnd (hA:Pre A) (hc0:Cells A (.slice pnb 1 pnd) (txs (nodes0 0 (audsN n))))=>(show Calls Tryz.prog 28 #[.agg #[.int .u64 0,.string ⟨nought16.toArray⟩,.int .i64 0,.int .i64 n,.slice pna 1 pnc],.agg #[.int .u64 0,.string ⟨nought16.toArray⟩,.int .i64 0,.int .i64 n,.slice pnb 1 pnd]] A fun e w'=>e=.returned (.bool true)/\Pre w' from by
  have hA':Below w14.heap.size w14 A:=by rw [hPre] at hA;exact hA
  exact (hsame_any 0 nought16 0 n pna 1 pnc (nodes0 0 (audsN n)) 0 nought16 0 n pnb 1 pnd (nodes0 0 (audsN n)) true A (hdN0 n 0 hn5 (by decide)) ((HP.out.2.2.1.old hb14).old hA') (hdN0 n 0 hn5 (by decide)) hc0 (by simp)).mono fun e w' hh=>⟨hh.1,by rw [hPre];exact hA'.trans (hh.2.mono hA'.size)⟩))
 have HPP:=Lib.hid (fun A (hA:Pre A)=>(show Below w14.heap.size w14 A from by rw [hPre] at hA;exact hA))
 have H14:=Lib.hid (And.intro hB14 (And.intro hb14 (And.intro hG hg)))
 clear hPre hB14 hrp hb14 hG hg
 go_wp2_with fail
 refine tn_region (fun A=>A.cell? ⟨Pb,0,none⟩=some (.int .u64 0)/\A.cell? ⟨Pb,1,none⟩=some (.string ⟨nought16.toArray⟩)/\A.cell? ⟨Pb,2,none⟩=some (.int .i64 0)/\A.cell? ⟨Pb,3,none⟩=some (.int .i64 n)/\A.cell? ⟨Pb,4,none⟩=some (.slice pna 1 pnc)) 1000 (hcp2.out _ hp0) (fun hHeld=>?_)
 iterate 5
  (refine tn_on (v:=?_) rfl (fun w hS=>?_) (by assumption) ?_;rotate_left;· (try dsimp only at hS);go_simp;with_reducible rfl)
  simp only [gP,gA,gB,gC,gD,gE,gF]
 refine tn_one rfl (fun K hK=>?_)
 go_simp
 refine (q1.out _ hp0).mono ?_
 rintro e wH ⟨gh,ch,pnb,pnd,rfl,⟨y0,y1,y2,y3,y4⟩,hcr,hpreH⟩
 try go_simp
 refine hK.out _ _ (hcp2.out _ hpreH) (fun hHeld=>?_)
 clear hK K
 try simp only [gP,gA,gB,gC,gD,gE,gF]
 iterate 1
  (refine tn_on (v:=?_) rfl (fun w hS=>?_) (by assumption) ?_;rotate_left;· (try dsimp only at hS);go_simp;with_reducible rfl)
  simp only [gP,gA,gB,gC,gD,gE,gF]
 refine tn_one rfl (fun K hK=>?_)
 go_simp
 refine hK.out _ _ (hcp2.out _ hpreH) (fun hHeld=>?_)
 clear hK K
 try simp only [gP,gA,gB,gC,gD,gE,gF]
 refine tn_one rfl (fun K hK=>?_)
 go_simp
 refine (q2.out _ _ _ hpreH hcr).mono ?_
 rintro e wK ⟨rfl,hpreK⟩
 try go_simp
 refine hK.out _ _ (hcp2.out _ hpreK) (fun hHeld=>?_)
 clear hK K
 try simp only [gP,gA,gB,gC,gD,gE,gF]
 iterate 2
  (refine tn_on (v:=?_) rfl (fun w hS=>?_) (by assumption) ?_;rotate_left;· (try dsimp only at hS);go_simp;with_reducible rfl)
  simp only [gP,gA,gB,gC,gD,gE,gF]
 refine tn_done ?_ (by kernel_rfl) _
 all_goals
  have hBK:=HPP.out wK hpreK
  obtain ⟨hB14,hb14,hG,hg⟩:=H14.out
  have hBM:=hB14.trans (hBK.mono hB14.size)
  obtain ⟨hBw,hks,hrr,hrg,hrh,hsa,hsb,hca,hcb⟩:=HB.out
  have hrg:=(hBM.block _ (lt_of_heap hrg)).trans hrg
  have hrh:=(hBM.block _ (lt_of_heap hrh)).trans hrh
  obtain ⟨g0,g1,g2,g3,g4,_,_,_,_,_⟩:=ten_of_row hrg
  obtain ⟨j0,j1,j2,j3,j4,_,_,_,_,_⟩:=ten_of_row hrh
  have HM:=Lib.hid (And.intro hBM hBK)
  clear hBK hB14 hb14 hG hg hBM hBw hks hrr hrg hrh hsa hsb hca hcb hpreK hpreH hcr HPP q1 q2 hcp2 hp0
  obtain ⟨PK,hPK⟩:∃ PK:World->Prop,PK=fun A=>Below wK.heap.size wK A:=⟨_,rfl⟩
  have hk0:PK wK.drew:=by rw [hPK];exact below_drew wK
  have hka:=Lib.hid (fun A ob (hA:PK A)=>(show PK (A.alloc ob) from by rw [hPK] at hA |-;exact hA.alloc hA.size _))
  have hkad:=Lib.hid (fun ob=>(show PK (wK.alloc ob).drew from by rw [hPK];exact ((Below.refl _ _).alloc (Nat.le_refl _) _).drew))
  have hkad2:=Lib.hid (fun ob ob'=>(show PK ((wK.alloc ob).alloc ob').drew from by rw [hPK];exact (((Below.refl _ _).alloc (Nat.le_refl _) _).alloc (by rw [World.size_alloc];omega) _).drew))
  have hcp3:=Lib.hid (fun A (hA:PK A)=>(show A.cell? ⟨Gb,0,none⟩=some (.int .u64 1)/\A.cell? ⟨Gb,1,none⟩=some (.string ⟨(dig0 0 (audsN n)).toArray⟩)/\A.cell? ⟨Gb,2,none⟩=some (.int .i64 0)/\A.cell? ⟨Gb,3,none⟩=some (.int .i64 n)/\A.cell? ⟨Gb,4,none⟩=some (.slice na 1 nc)/\A.cell? ⟨Hb,0,none⟩=some (.int .u64 1)/\A.cell? ⟨Hb,1,none⟩=some (.string ⟨(dig0 0 (audsN n)).toArray⟩)/\A.cell? ⟨Hb,2,none⟩=some (.int .i64 0)/\A.cell? ⟨Hb,3,none⟩=some (.int .i64 n)/\A.cell? ⟨Hb,4,none⟩=some (.slice nb 1 ne) by
   rw [hPK] at hA
   have k:=fun b i v (hc:wK.cell? ⟨b,i,none⟩=some v)=>(hA.cell (p:=⟨b,i,none⟩) (World.block_lt_of_cell? _ _ hc)).trans hc
   exact ⟨k _ _ _ g0,k _ _ _ g1,k _ _ _ g2,k _ _ _ g3,k _ _ _ g4,k _ _ _ j0,k _ _ _ j1,k _ _ _ j2,k _ _ _ j3,k _ _ _ j4⟩))
  clear g0 g1 g2 g3 g4 j0 j1 j2 j3 j4
  obtain ⟨x0,x1,x2,x3,x4,x5,f0,f1,f2,f3,f4,f5⟩:=six_of_row (heap_alloc2_old wK (.cells #[.int .u64 0,.string ⟨#[]⟩,.int .i64 0,.int .i64 0,.slice none 0 0,.slice none 0 0] 81) (.cells #[.int .u64 0,.string ⟨#[]⟩,.int .i64 0,.int .i64 0,.slice none 0 0,.slice none 0 0] 81))
  go_wp2_with fail
  apply two_ways (F:=fun Wb X Y=>Below wK.heap.size wK Wb/\Wb.heap[X]?=some (.cells #[.int .u64 1,.string ⟨(dig0 0 (audsN n)).toArray⟩,.int .i64 0,.int .i64 n,.slice na 1 nc,.slice none 0 0] 81 (0,0))/\Wb.heap[Y]?=some (.cells #[.int .u64 1,.string ⟨(dig0 0 (audsN n)).toArray⟩,.int .i64 0,.int .i64 n,.slice nb 1 ne,.slice none 0 0] 81 (0,0))/\X≠Y/\wK.heap.size<=X/\wK.heap.size<=Y)
  case main=>
   intro key
   go_region_held3 (fun A=>A.cell? ⟨Gb,0,none⟩=some (.int .u64 1)/\A.cell? ⟨Gb,1,none⟩=some (.string ⟨(dig0 0 (audsN n)).toArray⟩)/\A.cell? ⟨Gb,2,none⟩=some (.int .i64 0)/\A.cell? ⟨Gb,3,none⟩=some (.int .i64 n)/\A.cell? ⟨Gb,4,none⟩=some (.slice na 1 nc)/\A.cell? ⟨Hb,0,none⟩=some (.int .u64 1)/\A.cell? ⟨Hb,1,none⟩=some (.string ⟨(dig0 0 (audsN n)).toArray⟩)/\A.cell? ⟨Hb,2,none⟩=some (.int .i64 0)/\A.cell? ⟨Hb,3,none⟩=some (.int .i64 n)/\A.cell? ⟨Hb,4,none⟩=some (.slice nb 1 ne)) (first | with_reducible exact hcp3.out _ hk0 | with_reducible exact hcp3.out _ (hkad.out _) | with_reducible exact hcp3.out _ (hka.out _ _ hk0) | with_reducible exact hcp3.out _ (hka.out _ _ (hkad.out _)) | with_reducible exact hcp3.out _ (hkad2.out _ _) | with_reducible exact hcp3.out _ (hka.out _ _ (hka.out _ _ hk0)))
    (fail)
   all_goals
    first
     | (obtain ⟨Wb,hWb⟩:∃ Wb,Wb=((wK.alloc (.cells #[.int .u64 1,.string ⟨(dig0 0 (audsN n)).toArray⟩,.int .i64 0,.int .i64 n,.slice na 1 nc,.slice none 0 0] 81)).alloc (.cells #[.int .u64 1,.string ⟨(dig0 0 (audsN n)).toArray⟩,.int .i64 0,.int .i64 n,.slice nb 1 ne,.slice none 0 0] 81)).drew:=⟨_,rfl⟩
        have hX:Wb.heap[wK.heap.size]?=some (.cells #[.int .u64 1,.string ⟨(dig0 0 (audsN n)).toArray⟩,.int .i64 0,.int .i64 n,.slice na 1 nc,.slice none 0 0] 81 (0,0)):=by rw [hWb];exact heap_alloc2_old _ _ _
        have hY:Wb.heap[wK.heap.size+1]?=some (.cells #[.int .u64 1,.string ⟨(dig0 0 (audsN n)).toArray⟩,.int .i64 0,.int .i64 n,.slice nb 1 ne,.slice none 0 0] 81 (0,0)):=by rw [hWb];exact heap_alloc2_new _ _ _
        have hPb:PK Wb:=by rw [hWb];exact hkad2.out _ _
        rw [<-hWb]
        obtain ⟨Y,hYe⟩:∃ Y,Y=wK.heap.size+1:=⟨_,rfl⟩
        rw [<-hYe] at hY |-
        obtain ⟨X,hXe⟩:∃ X,X=wK.heap.size:=⟨_,rfl⟩
        rw [<-hXe] at hX |-
        have hXY:X≠Y/\wK.heap.size<=X/\wK.heap.size<=Y:=by omega
        clear hWb hXe hYe)
     | (obtain ⟨Wb,hWb⟩:∃ Wb,Wb=((wK.alloc (.cells #[.int .u64 1,.string ⟨(dig0 0 (audsN n)).toArray⟩,.int .i64 0,.int .i64 n,.slice nb 1 ne,.slice none 0 0] 81)).alloc (.cells #[.int .u64 1,.string ⟨(dig0 0 (audsN n)).toArray⟩,.int .i64 0,.int .i64 n,.slice na 1 nc,.slice none 0 0] 81)).drew:=⟨_,rfl⟩
        have hX:Wb.heap[wK.heap.size+1]?=some (.cells #[.int .u64 1,.string ⟨(dig0 0 (audsN n)).toArray⟩,.int .i64 0,.int .i64 n,.slice na 1 nc,.slice none 0 0] 81 (0,0)):=by rw [hWb];exact heap_alloc2_new _ _ _
        have hY:Wb.heap[wK.heap.size]?=some (.cells #[.int .u64 1,.string ⟨(dig0 0 (audsN n)).toArray⟩,.int .i64 0,.int .i64 n,.slice nb 1 ne,.slice none 0 0] 81 (0,0)):=by rw [hWb];exact heap_alloc2_old _ _ _
        have hPb:PK Wb:=by rw [hWb];exact hkad2.out _ _
        rw [<-hWb]
        obtain ⟨X,hXe⟩:∃ X,X=wK.heap.size+1:=⟨_,rfl⟩
        rw [<-hXe] at hX |-
        obtain ⟨Y,hYe⟩:∃ Y,Y=wK.heap.size:=⟨_,rfl⟩
        rw [<-hYe] at hY |-
        have hXY:X≠Y/\wK.heap.size<=X/\wK.heap.size<=Y:=by omega
        clear hWb hXe hYe)
    rw [hPK] at hPb
    simp only [Exit.then]
    exact key Wb X Y ⟨hPb,hX,hY,hXY⟩
  case kp=>
   rintro Wb X Y ⟨hPb,hX,hY,hXY,hXg,hYg⟩
   clear hk0 hka hkad hkad2 hcp3 x0 x1 x2 x3 x4 x5 f0 f1 f2 f3 f4 f5 hPK
   have hBM:=HM.out.1
   have hBK:=HM.out.2
   obtain ⟨hBw,hks,hrr,hrg,hrh,hsa,hsb,hca,hcb⟩:=HB.out
   obtain ⟨_,hb14,hG,hg⟩:=H14.out
   have hB13:=hb14.trans (hBK.mono hb14.size)
   have HBw:=Lib.hid (hBw.trans (hBM.mono hBw.size))
   have HKs:=Lib.hid (hks.old hBM)
   have HRr:=Lib.hid ((hBM.block _ (lt_of_heap hrr)).trans hrr)
   have HRg:=Lib.hid ((hBM.block _ (lt_of_heap hrg)).trans hrg)
   have HRh:=Lib.hid ((hBM.block _ (lt_of_heap hrh)).trans hrh)
   have HRp:=Lib.hid ((hB13.block _ (lt_of_heap HP.out.2.1)).trans HP.out.2.1)
   have HSa:=Lib.hid (And.intro (hsa.old hBM) (hca.old hBM))
   have HSb:=Lib.hid (And.intro (hsb.old hBM) (hcb.old hBM))
   have HCp:=Lib.hid (And.intro (HP.out.2.2.1.old hB13) (HP.out.2.2.2.old hB13))
   obtain ⟨gv,rfl,_,_⟩:=HKs.out.ptr 0 (by omega)
   have hXK:=Lib.hid hXg
   have hYK:=Lib.hid hYg
   have HWb:=Lib.hid hPb.size
   have HWn:=Lib.hid (And.intro ((hBK.cell (World.block_lt_of_cell? _ _ hG)).trans hG) ((hBK.block _ (lt_of_heap hg)).trans hg))
   have HPb:=Lib.hid (show ∀ A,Touch (fun j=>j=X\/j=Y) Wb A->Below wK.heap.size wK A from fun A hA=>hPb.trans (hA.below (fun j hj=>by rcases hj with rfl | rfl <;> assumption) hPb.size))
   have hll:(winL (dig0 0 (audsN n)) n s).length=n:=shuf_length _ _ _
   have HLt:=Lib.hid (show ∀ k,k<s->(winL (dig0 0 (audsN n)) n s).getD k 0<n from fun k hk=>by
    rw [List.getD_eq_getElem?_getD,List.getElem?_eq_getElem (by omega),Option.getD_some]
    exact shuf_lt n _ s hsn _ (List.getElem_mem _))
   have HLk:=Lib.hid (show ∀ k,k<s->(winL (dig0 0 (audsN n)) n s).take (k+1)=(winL (dig0 0 (audsN n)) n s).take k++[(winL (dig0 0 (audsN n)) n s).getD k 0] from fun k hk=>by
    rw [List.take_succ_eq_append_getElem (by omega),List.getD_eq_getElem?_getD,List.getElem?_eq_getElem (by omega)]
    rfl)
   have HQ0:=Lib.hid (show QV Wb Wb n X na nc 0 (dig1 n 0 usA) (.slice none 0 0) [] Y nb ne 1 (dig1 n 0 usB) (.slice none 0 0) [] from ⟨Touch.of_below (Below.refl _ _) _,hXY,lt_of_heap hX,lt_of_heap hY,hX,hY,World.ownsRow_nil _ _ _ _,World.ownsRow_nil _ _ _ _,fun j h=>(by cases h),fun v h=>(by cases h),fun v h=>(by cases h)⟩)
   have HL:=Lib.hid (show ∃ l,l=winL (dig0 0 (audsN n)) n s from ⟨_,rfl⟩)
   generalize hlw:winL (dig0 0 (audsN n)) n s=l at HWn HLt HLk hll
   have HLw:=Lib.hid hlw
   clear hlw HL hBM hBK hBw hks hrr hrg hrh hsa hsb hca hcb hb14 hG hg hB13 hPb hX hY hXg hYg HM HB H14 HP HB12
   go_wp2_with fail
   go_loopw [25,26] (fun t i W=>∃ (k tw:Nat) (xa ya:Option Addr) (xn xc yn yc:Nat) (xs ys:List Vt),i=.int .i64 k/\t=.int .i64 tw/\k<=s/\tw<=f/\QV Wb W n X na nc 0 (dig1 n 0 usA) (.slice xa xn xc) xs Y nb ne 1 (dig1 n 0 usB) (.slice ya yn yc) ys/\xn=xs.length/\yn=ys.length/\(xs.map (·.num)).Sublist (l.take k)/\(ys.map (·.num)).Sublist (l.take k)/\xs.length+ys.length=k+tw) (fun _ i _=>s - (intOf i).toNat)
   case atStart=>exact ⟨0,0,none,none,0,0,0,0,[],[],rfl,rfl,Nat.zero_le _,Nat.zero_le _,HQ0.out.old ((Below.refl _ _)),rfl,rfl,List.Sublist.refl _,List.Sublist.refl _,rfl⟩
   case round=>
    obtain ⟨k,tw,xa,ya,xn,xc,yn,yc,xs,ys,rfl,rfl,hk,htw,hqv,hxn,hyn,hsx,hsy,hcnt⟩:=hrel
    subst hxn hyn
    have HQv:=Lib.hid hqv
    have HSub:=Lib.hid (And.intro hsx hsy)
    have hBr:=HPb.out wr hqv.bel
    have HBr:=Lib.hid hBr
    by_cases hlt:k<s
    · have hlt':(k:Int)<(s:Int):=by omega
      obtain ⟨num,hnum⟩:∃ num,num=l.getD k 0:=⟨_,rfl⟩
      have hnn:num<n:=by rw [hnum];exact HLt.out k hlt
      have c0:=(hBr.cell (World.block_lt_of_cell? _ _ HWn.out.1)).trans HWn.out.1
      have c1:wr.cell? ⟨g,k,none⟩=some (.int .i64 num):=by
       rw [cell_of_row _ _ k _ _ _ ((hBr.block _ (lt_of_heap HWn.out.2)).trans HWn.out.2),natRow_at l k (by omega),<-hnum]
      have HNum:=Lib.hid hnum
      have hL:(∃ sb so,∃ x:Nat,sa=some ⟨sb,so,none⟩/\(k<sn/\(k:Int)<(sn:Int))/\wr.cell? ⟨sb,so+k,none⟩=some (.int .u8 (x:Int))/\(bits BinOp.and IntKind.u8 (x:Int) 1==1)=true)\/(∃ sb so,∃ x:Nat,sa=some ⟨sb,so,none⟩/\(k<sn/\(k:Int)<(sn:Int))/\wr.cell? ⟨sb,so+k,none⟩=some (.int .u8 (x:Int))/\(bits BinOp.and IntKind.u8 (x:Int) 1==1)=false)\/¬ (k:Int)<(sn:Int):=by
       by_cases hks:k<sn
       · obtain ⟨sb,so,x,e1,hx,hxc⟩:=HSide.out k hks
         have hxc:=(hBr.cell (World.block_lt_of_cell? _ _ ((HBw.out.cell (World.block_lt_of_cell? _ _ hxc)).trans hxc))).trans ((HBw.out.cell (World.block_lt_of_cell? _ _ hxc)).trans hxc)
         cases hb:(bits BinOp.and IntKind.u8 (x:Int) 1==1) with
         | true=>exact .inl ⟨sb,so,x,e1,⟨hks,by omega⟩,hxc,hb⟩
         | false=>exact .inr (.inl ⟨sb,so,x,e1,⟨hks,by omega⟩,hxc,hb⟩)
       · exact .inr (.inr (by omega))
      have hTw:(((bits BinOp.and IntKind.u8 ((bo:Int)/2^k) 1==1)=true/\(tw:Int)<(f:Int))\/((bits BinOp.and IntKind.u8 ((bo:Int)/2^k) 1==1)=true/\¬ (tw:Int)<(f:Int))\/(bits BinOp.and IntKind.u8 ((bo:Int)/2^k) 1==1)=false):=by
       cases hb:(bits BinOp.and IntKind.u8 ((bo:Int)/2^k) 1==1) with
       | true=>
         by_cases htf:(tw:Int)<(f:Int)
         · exact .inl ⟨rfl,htf⟩
         · exact .inr (.inl ⟨rfl,htf⟩)
       | false=>exact .inr (.inr rfl)
      have hx9:xs.length<=20:=by omega
      have hy9:ys.length<=20:=by omega
      clear hqv hsx hsy hBr hnum
      rcases hTw with ⟨hT1,hT2⟩ | hT
      · have htf:tw<f:=by omega
        rcases hL with ⟨sb,so,x,rfl,⟨hks,hks'⟩,hxc,hb⟩ | ⟨sb,so,x,rfl,⟨hks,hks'⟩,hxc,hb⟩ | hks <;> as_aux_lemma=>
         go_wp2_with fail
         obtain ⟨Pre,hcp,hX5,q0,hpre0,hpa,hpo,hX7,hps⟩:=vote_pack 0 rfl hn5 hnn (by decide) (HT.out.old HBw.out).kon HKs.out HRg.out HSa.out.1 HSa.out.2 HWb.out hXK.out (HPb.out wr HQv.out.bel) HQv.out
         have z4:=(six_of_row HQv.out.cx).2.2.2.2.2.1
         have hnn':(num:Int)<(n:Int):=by omega
         refine tn_region (fun A=>A.cell? ⟨X,5,none⟩=some (.slice xa xs.length xc)/\A.cell? ⟨gv,num,none⟩=some (.pointer (some ⟨bs num,0,none⟩))/\A.cell? ⟨Gb,0,none⟩=some (.int .u64 1)/\A.cell? ⟨Gb,1,none⟩=some (.string ⟨(dig0 0 (audsN n)).toArray⟩)/\A.cell? ⟨Gb,2,none⟩=some (.int .i64 0)/\A.cell? ⟨Gb,3,none⟩=some (.int .i64 n)/\A.cell? ⟨Gb,4,none⟩=some (.slice na 1 nc)) 13 ⟨(hX5.out _ hpre0).1,hcp.out _ hpre0⟩ (fun hHeld=>?_)
         iterate 9
          (refine tn_on (v:=?_) rfl (fun w hS=>?_) (by assumption) ?_;rotate_left;· (try dsimp only at hS);go_simp;with_reducible rfl)
          simp only [gP,gA,gB,gC,gD,gE,gF]
         refine tn_one rfl (fun K hK=>?_)
         go_simp
         refine (q0.out _ hpre0).mono ?_
         rintro e wA ⟨num',ev,s2,i4,a5,n5,c5,a6,n6,c6,s7,s8,s9,i10,a11,n11,c11,t12,s13,s14,rfl,hvr,hpreA,hbA⟩
         try go_simp
         clear hHeld
         refine hK.out _ _ (⟨(hX5.out _ hpreA).1,hcp.out _ hpreA⟩) (fun hHeld=>?_)
         clear hK K
         try simp only [gP,gA,gB,gC,gD,gE,gF]
         have hbs:=vote_row hi hz0 hz1 ev s2 num' i4 a5 n5 c5 a6 n6 c6 s7 s8 s9 i10 a11 n11 c11 t12 s13 s14
         refine tn_one rfl (fun K hK=>?_)
         go_simp
         clear hHeld
         refine hK.out _ _ (⟨(hX5.out _ hpreA).2 _,hcp.out _ (hpa.out _ _ hpreA)⟩) (fun hHeld=>?_)
         clear hK K
         try simp only [gP,gA,gB,gC,gD,gE,gF]
         refine tn_one rfl (fun K hK=>?_)
         refine if_wanted rfl ?_
         refine wp_append_lies _ _ _ _ (by rfl) Wb.heap.size 92 i0 _ 15 216 Tryz.underlying79 hi hz0 hz1 hz2 rfl (by omega) (.slice xa xs.length xc) xs.length (vtCells xs) (by rfl) ((hpo.out _ hpreA).alloc _) ⟨_,0,none⟩ 1 1 [.int .u64 ev,.int .i64 0,.string s2,.int .i64 num',.int .i64 i4,.slice a5 n5 c5,.slice a6 n6 c6,.string s7,.string s8,.string s9,.int .i64 i10,.slice a11 n11 c11,.bool t12,.string s13,.string s14] (by rfl) (by rfl) (World.news_of_block (cs:=#[.int .u64 ev,.int .i64 0,.string s2,.int .i64 num',.int .i64 i4,.slice a5 n5 c5,.slice a6 n6 c6,.string s7,.string s8,.string s9,.int .i64 i10,.slice a11 n11 c11,.bool t12,.string s13,.string s14]) (t:=92) (fr:=(0,0)) (heap_alloc_at _ _ _ (by first | rfl | exact (World.size_alloc _ _).symm))) (by simp [Value.oneCell']) (by omega) (by unfold maxLen;omega) (by omega) (by have:=(hps.out _ hpreA).1;simp only [World.size_alloc];omega) _ rfl ?_
         intro gg0 cap0 w7 ho7 hg7 hat hlt7
         have hw7:=hX7.out _ _ _ hpreA hg7
         have z7:=hw7.1.1.1
         have z7f:=hw7.1.1.2
         clear hHeld
         refine hK.out _ _ (⟨z7,hw7.1.2⟩) (fun hHeld=>?_)
         clear hK K
         try simp only [gP,gA,gB,gC,gD,gE,gF]
         iterate 1
          (refine tn_on (v:=?_) rfl (fun w hS=>?_) (by assumption) ?_;rotate_left;· (try dsimp only at hS);go_simp;with_reducible rfl)
          simp only [gP,gA,gB,gC,gD,gE,gF]
         refine tn_last rfl (fun K hK=>?_)
         go_simp
         clear hHeld
         refine hK.out _ _ ?_
         clear hK K
         try simp only [Act.put,List.getElem_toArray,List.getElem_cons_zero,List.getElem_cons_succ,List.setIfInBounds_toArray,List.set_cons_zero,List.set_cons_succ]
         refine tn_done ?_ (by kernel_rfl) _
         have hq8:=HQv.out.add (hps.out wA hpreA).2 (v:=⟨num',ev,s2,i4,a5,n5,c5,a6,n6,c6,s7,s8,s9,i10,a11,n11,c11,t12,s13,s14⟩) (by have hv2:=hvr;rw [show num=((⟨num',ev,s2,i4,a5,n5,c5,a6,n6,c6,s7,s8,s9,i10,a11,n11,c11,t12,s13,s14⟩:Vt)).num from hvr.num.symm] at hv2;exact hv2) (Nat.le_refl _) _ hg7 ho7 (by omega) (by rw [World.size_alloc] at hat;exact hat)
         have hvn:=hvr.num
         obtain ⟨v0,hv0⟩:∃ v:Vt,v=⟨num',ev,s2,i4,a5,n5,c5,a6,n6,c6,s7,s8,s9,i10,a11,n11,c11,t12,s13,s14⟩:=⟨_,rfl⟩
         rw [<-hv0] at hq8
         replace hv0:v0.num=num:=by rw [hv0];exact hvn
         obtain ⟨W8,hW8⟩:∃ W8,W8=(w7.setCell ⟨X,5,none⟩ (.slice (some ⟨gg0,0,none⟩) (xs.length+1) cap0)):=⟨_,rfl⟩
         rw [<-hW8] at hq8 |-
         clear hW8 hcp hX5 q0 hpre0 hpa hpo hX7 hps z4 hnn' hvr hpreA hbA hbs hw7 z7 z7f ho7 hg7 hat hlt7 hvn
         generalize (Value.agg #[.int .u64 ev,.int .i64 0,.string s2,.int .i64 num',.int .i64 i4,.slice a5 n5 c5,.slice a6 n6 c6,.string s7,.string s8,.string s9,.int .i64 i10,.slice a11 n11 c11,.bool t12,.string s13,.string s14])=j1 at |-
         generalize (Value.slice (some ⟨wA.heap.size,0,none⟩) 1 1)=j2 at |-
         have HQw:=Lib.hid hq8.swap
         clear hq8
         go_wp2_with fail
         obtain ⟨Pre,hcp,hX5,q0,hpre0,hpa,hpo,hX7,hps⟩:=vote_pack 1 rfl hn5 hnn (by decide) (HT.out.old HBw.out).kon HKs.out HRh.out HSb.out.1 HSb.out.2 HWb.out hYK.out (HPb.out W8 HQw.out.swap.bel) HQw.out
         have z4:=(six_of_row HQw.out.cx).2.2.2.2.2.1
         have hnn':(num:Int)<(n:Int):=by omega
         refine tn_region (fun A=>A.cell? ⟨Y,5,none⟩=some (.slice ya ys.length yc)/\A.cell? ⟨gv,num,none⟩=some (.pointer (some ⟨bs num,0,none⟩))/\A.cell? ⟨Hb,0,none⟩=some (.int .u64 1)/\A.cell? ⟨Hb,1,none⟩=some (.string ⟨(dig0 0 (audsN n)).toArray⟩)/\A.cell? ⟨Hb,2,none⟩=some (.int .i64 0)/\A.cell? ⟨Hb,3,none⟩=some (.int .i64 n)/\A.cell? ⟨Hb,4,none⟩=some (.slice nb 1 ne)) 13 ⟨(hX5.out _ hpre0).1,hcp.out _ hpre0⟩ (fun hHeld=>?_)
         iterate 9
          (refine tn_on (v:=?_) rfl (fun w hS=>?_) (by assumption) ?_;rotate_left;· (try dsimp only at hS);go_simp;with_reducible rfl)
          simp only [gP,gA,gB,gC,gD,gE,gF]
         refine tn_one rfl (fun K hK=>?_)
         go_simp
         refine (q0.out _ hpre0).mono ?_
         rintro e wA ⟨num',ev,s2,i4,a5,n5,c5,a6,n6,c6,s7,s8,s9,i10,a11,n11,c11,t12,s13,s14,rfl,hvr,hpreA,hbA⟩
         try go_simp
         clear hHeld
         refine hK.out _ _ (⟨(hX5.out _ hpreA).1,hcp.out _ hpreA⟩) (fun hHeld=>?_)
         clear hK K
         try simp only [gP,gA,gB,gC,gD,gE,gF]
         have hbs:=vote_row hi hz0 hz1 ev s2 num' i4 a5 n5 c5 a6 n6 c6 s7 s8 s9 i10 a11 n11 c11 t12 s13 s14
         refine tn_one rfl (fun K hK=>?_)
         go_simp
         clear hHeld
         refine hK.out _ _ (⟨(hX5.out _ hpreA).2 _,hcp.out _ (hpa.out _ _ hpreA)⟩) (fun hHeld=>?_)
         clear hK K
         try simp only [gP,gA,gB,gC,gD,gE,gF]
         refine tn_one rfl (fun K hK=>?_)
         refine if_wanted rfl ?_
         refine wp_append_lies _ _ _ _ (by rfl) Wb.heap.size 92 i0 _ 15 216 Tryz.underlying79 hi hz0 hz1 hz2 rfl (by omega) (.slice ya ys.length yc) ys.length (vtCells ys) (by rfl) ((hpo.out _ hpreA).alloc _) ⟨_,0,none⟩ 1 1 [.int .u64 ev,.int .i64 0,.string s2,.int .i64 num',.int .i64 i4,.slice a5 n5 c5,.slice a6 n6 c6,.string s7,.string s8,.string s9,.int .i64 i10,.slice a11 n11 c11,.bool t12,.string s13,.string s14] (by rfl) (by rfl) (World.news_of_block (cs:=#[.int .u64 ev,.int .i64 0,.string s2,.int .i64 num',.int .i64 i4,.slice a5 n5 c5,.slice a6 n6 c6,.string s7,.string s8,.string s9,.int .i64 i10,.slice a11 n11 c11,.bool t12,.string s13,.string s14]) (t:=92) (fr:=(0,0)) (heap_alloc_at _ _ _ (by first | rfl | exact (World.size_alloc _ _).symm))) (by simp [Value.oneCell']) (by omega) (by unfold maxLen;omega) (by omega) (by have:=(hps.out _ hpreA).1;simp only [World.size_alloc];omega) _ rfl ?_
         intro gg1 cap1 w7 ho7 hg7 hat hlt7
         have hw7:=hX7.out _ _ _ hpreA hg7
         have z7:=hw7.1.1.1
         have z7f:=hw7.1.1.2
         clear hHeld
         refine hK.out _ _ (⟨z7,hw7.1.2⟩) (fun hHeld=>?_)
         clear hK K
         try simp only [gP,gA,gB,gC,gD,gE,gF]
         iterate 1
          (refine tn_on (v:=?_) rfl (fun w hS=>?_) (by assumption) ?_;rotate_left;· (try dsimp only at hS);go_simp;with_reducible rfl)
          simp only [gP,gA,gB,gC,gD,gE,gF]
         refine tn_last rfl (fun K hK=>?_)
         go_simp
         clear hHeld
         refine hK.out _ _ ?_
         clear hK K
         try simp only [Act.put,List.getElem_toArray,List.getElem_cons_zero,List.getElem_cons_succ,List.setIfInBounds_toArray,List.set_cons_zero,List.set_cons_succ]
         refine tn_done ?_ (by kernel_rfl) _
         have hq8:=HQw.out.add (hps.out wA hpreA).2 (v:=⟨num',ev,s2,i4,a5,n5,c5,a6,n6,c6,s7,s8,s9,i10,a11,n11,c11,t12,s13,s14⟩) (by have hv2:=hvr;rw [show num=((⟨num',ev,s2,i4,a5,n5,c5,a6,n6,c6,s7,s8,s9,i10,a11,n11,c11,t12,s13,s14⟩:Vt)).num from hvr.num.symm] at hv2;exact hv2) (Nat.le_refl _) _ hg7 ho7 (by omega) (by rw [World.size_alloc] at hat;exact hat)
         have hvn:=hvr.num
         obtain ⟨v1,hv1⟩:∃ v:Vt,v=⟨num',ev,s2,i4,a5,n5,c5,a6,n6,c6,s7,s8,s9,i10,a11,n11,c11,t12,s13,s14⟩:=⟨_,rfl⟩
         rw [<-hv1] at hq8
         replace hv1:v1.num=num:=by rw [hv1];exact hvn
         obtain ⟨W9,hW9⟩:∃ W8,W8=(w7.setCell ⟨Y,5,none⟩ (.slice (some ⟨gg1,0,none⟩) (ys.length+1) cap1)):=⟨_,rfl⟩
         rw [<-hW9] at hq8 |-
         clear hW9 hcp hX5 q0 hpre0 hpa hpo hX7 hps z4 hnn' hvr hpreA hbA hbs hw7 z7 z7f ho7 hg7 hat hlt7 hvn
         generalize (Value.agg #[.int .u64 ev,.int .i64 0,.string s2,.int .i64 num',.int .i64 i4,.slice a5 n5 c5,.slice a6 n6 c6,.string s7,.string s8,.string s9,.int .i64 i10,.slice a11 n11 c11,.bool t12,.string s13,.string s14])=j1 at |-
         generalize (Value.slice (some ⟨wA.heap.size,0,none⟩) 1 1)=j2 at |-
         have HQ9:=Lib.hid hq8.swap
         clear hq8
         go_wp2
         go_roundw
         case rel=>exact ⟨k+1,tw+1,_,_,_,_,_,_,(xs++[v0]),(ys++[v1]),by go_num,by go_num,by omega,by omega,HQ9.out,by simp,by simp,(by rw [HLk.out k hlt,List.map_append];exact HSub.out.1.append (by rw [List.map_cons,List.map_nil,hv0,HNum.out];exact List.Sublist.refl _)),(by rw [HLk.out k hlt,List.map_append];exact HSub.out.2.append (by rw [List.map_cons,List.map_nil,hv1,HNum.out];exact List.Sublist.refl _)),by simp only [List.length_append,List.length_cons,List.length_nil];omega⟩
         case measure=>simp [intOf];omega
      · rcases hL with ⟨sb,so,x,rfl,⟨hks,hks'⟩,hxc,hb⟩ | hL
        · rcases hT with ⟨hT1,hT2⟩ | hT1 <;> as_aux_lemma=>
           go_wp2_with fail
           obtain ⟨Pre,hcp,hX5,q0,hpre0,hpa,hpo,hX7,hps⟩:=vote_pack 0 rfl hn5 hnn (by decide) (HT.out.old HBw.out).kon HKs.out HRg.out HSa.out.1 HSa.out.2 HWb.out hXK.out (HPb.out wr HQv.out.bel) HQv.out
           have z4:=(six_of_row HQv.out.cx).2.2.2.2.2.1
           have hnn':(num:Int)<(n:Int):=by omega
           refine tn_region (fun A=>A.cell? ⟨X,5,none⟩=some (.slice xa xs.length xc)/\A.cell? ⟨gv,num,none⟩=some (.pointer (some ⟨bs num,0,none⟩))/\A.cell? ⟨Gb,0,none⟩=some (.int .u64 1)/\A.cell? ⟨Gb,1,none⟩=some (.string ⟨(dig0 0 (audsN n)).toArray⟩)/\A.cell? ⟨Gb,2,none⟩=some (.int .i64 0)/\A.cell? ⟨Gb,3,none⟩=some (.int .i64 n)/\A.cell? ⟨Gb,4,none⟩=some (.slice na 1 nc)) 13 ⟨(hX5.out _ hpre0).1,hcp.out _ hpre0⟩ (fun hHeld=>?_)
           iterate 9
            (refine tn_on (v:=?_) rfl (fun w hS=>?_) (by assumption) ?_;rotate_left;· (try dsimp only at hS);go_simp;with_reducible rfl)
            simp only [gP,gA,gB,gC,gD,gE,gF]
           refine tn_one rfl (fun K hK=>?_)
           go_simp
           refine (q0.out _ hpre0).mono ?_
           rintro e wA ⟨num',ev,s2,i4,a5,n5,c5,a6,n6,c6,s7,s8,s9,i10,a11,n11,c11,t12,s13,s14,rfl,hvr,hpreA,hbA⟩
           try go_simp
           clear hHeld
           refine hK.out _ _ (⟨(hX5.out _ hpreA).1,hcp.out _ hpreA⟩) (fun hHeld=>?_)
           clear hK K
           try simp only [gP,gA,gB,gC,gD,gE,gF]
           have hbs:=vote_row hi hz0 hz1 ev s2 num' i4 a5 n5 c5 a6 n6 c6 s7 s8 s9 i10 a11 n11 c11 t12 s13 s14
           refine tn_one rfl (fun K hK=>?_)
           go_simp
           clear hHeld
           refine hK.out _ _ (⟨(hX5.out _ hpreA).2 _,hcp.out _ (hpa.out _ _ hpreA)⟩) (fun hHeld=>?_)
           clear hK K
           try simp only [gP,gA,gB,gC,gD,gE,gF]
           refine tn_one rfl (fun K hK=>?_)
           refine if_wanted rfl ?_
           refine wp_append_lies _ _ _ _ (by rfl) Wb.heap.size 92 i0 _ 15 216 Tryz.underlying79 hi hz0 hz1 hz2 rfl (by omega) (.slice xa xs.length xc) xs.length (vtCells xs) (by rfl) ((hpo.out _ hpreA).alloc _) ⟨_,0,none⟩ 1 1 [.int .u64 ev,.int .i64 0,.string s2,.int .i64 num',.int .i64 i4,.slice a5 n5 c5,.slice a6 n6 c6,.string s7,.string s8,.string s9,.int .i64 i10,.slice a11 n11 c11,.bool t12,.string s13,.string s14] (by rfl) (by rfl) (World.news_of_block (cs:=#[.int .u64 ev,.int .i64 0,.string s2,.int .i64 num',.int .i64 i4,.slice a5 n5 c5,.slice a6 n6 c6,.string s7,.string s8,.string s9,.int .i64 i10,.slice a11 n11 c11,.bool t12,.string s13,.string s14]) (t:=92) (fr:=(0,0)) (heap_alloc_at _ _ _ (by first | rfl | exact (World.size_alloc _ _).symm))) (by simp [Value.oneCell']) (by omega) (by unfold maxLen;omega) (by omega) (by have:=(hps.out _ hpreA).1;simp only [World.size_alloc];omega) _ rfl ?_
           intro gg0 cap0 w7 ho7 hg7 hat hlt7
           have hw7:=hX7.out _ _ _ hpreA hg7
           have z7:=hw7.1.1.1
           have z7f:=hw7.1.1.2
           clear hHeld
           refine hK.out _ _ (⟨z7,hw7.1.2⟩) (fun hHeld=>?_)
           clear hK K
           try simp only [gP,gA,gB,gC,gD,gE,gF]
           iterate 1
            (refine tn_on (v:=?_) rfl (fun w hS=>?_) (by assumption) ?_;rotate_left;· (try dsimp only at hS);go_simp;with_reducible rfl)
            simp only [gP,gA,gB,gC,gD,gE,gF]
           refine tn_last rfl (fun K hK=>?_)
           go_simp
           clear hHeld
           refine hK.out _ _ ?_
           clear hK K
           try simp only [Act.put,List.getElem_toArray,List.getElem_cons_zero,List.getElem_cons_succ,List.setIfInBounds_toArray,List.set_cons_zero,List.set_cons_succ]
           refine tn_done ?_ (by kernel_rfl) _
           have hq8:=HQv.out.add (hps.out wA hpreA).2 (v:=⟨num',ev,s2,i4,a5,n5,c5,a6,n6,c6,s7,s8,s9,i10,a11,n11,c11,t12,s13,s14⟩) (by have hv2:=hvr;rw [show num=((⟨num',ev,s2,i4,a5,n5,c5,a6,n6,c6,s7,s8,s9,i10,a11,n11,c11,t12,s13,s14⟩:Vt)).num from hvr.num.symm] at hv2;exact hv2) (Nat.le_refl _) _ hg7 ho7 (by omega) (by rw [World.size_alloc] at hat;exact hat)
           have hvn:=hvr.num
           obtain ⟨v0,hv0⟩:∃ v:Vt,v=⟨num',ev,s2,i4,a5,n5,c5,a6,n6,c6,s7,s8,s9,i10,a11,n11,c11,t12,s13,s14⟩:=⟨_,rfl⟩
           rw [<-hv0] at hq8
           replace hv0:v0.num=num:=by rw [hv0];exact hvn
           obtain ⟨W8,hW8⟩:∃ W8,W8=(w7.setCell ⟨X,5,none⟩ (.slice (some ⟨gg0,0,none⟩) (xs.length+1) cap0)):=⟨_,rfl⟩
           rw [<-hW8] at hq8 |-
           clear hW8 hcp hX5 q0 hpre0 hpa hpo hX7 hps z4 hnn' hvr hpreA hbA hbs hw7 z7 z7f ho7 hg7 hat hlt7 hvn
           generalize (Value.agg #[.int .u64 ev,.int .i64 0,.string s2,.int .i64 num',.int .i64 i4,.slice a5 n5 c5,.slice a6 n6 c6,.string s7,.string s8,.string s9,.int .i64 i10,.slice a11 n11 c11,.bool t12,.string s13,.string s14])=j1 at |-
           generalize (Value.slice (some ⟨wA.heap.size,0,none⟩) 1 1)=j2 at |-
           have HQ9:=Lib.hid hq8
           clear hq8
           go_wp2
           go_roundw
           case rel=>exact ⟨k+1,tw,_,_,_,_,_,_,(xs++[v0]),ys,by go_num,by go_num,by omega,by omega,HQ9.out,by simp,rfl,(by rw [HLk.out k hlt,List.map_append];exact HSub.out.1.append (by rw [List.map_cons,List.map_nil,hv0,HNum.out];exact List.Sublist.refl _)),(by rw [HLk.out k hlt];exact HSub.out.2.trans (List.sublist_append_left _ _)),by simp only [List.length_append,List.length_cons,List.length_nil];omega⟩
           case measure=>simp [intOf];omega
        · rcases hL with ⟨sb,so,x,rfl,⟨hks,hks'⟩,hxc,hb⟩ | hks <;> rcases hT with ⟨hT1,hT2⟩ | hT1 <;> as_aux_lemma=>
           go_wp2_with fail
           have HQw:=Lib.hid HQv.out.swap
           obtain ⟨Pre,hcp,hX5,q0,hpre0,hpa,hpo,hX7,hps⟩:=vote_pack 1 rfl hn5 hnn (by decide) (HT.out.old HBw.out).kon HKs.out HRh.out HSb.out.1 HSb.out.2 HWb.out hYK.out (HPb.out wr HQw.out.swap.bel) HQw.out
           have z4:=(six_of_row HQw.out.cx).2.2.2.2.2.1
           have hnn':(num:Int)<(n:Int):=by omega
           refine tn_region (fun A=>A.cell? ⟨Y,5,none⟩=some (.slice ya ys.length yc)/\A.cell? ⟨gv,num,none⟩=some (.pointer (some ⟨bs num,0,none⟩))/\A.cell? ⟨Hb,0,none⟩=some (.int .u64 1)/\A.cell? ⟨Hb,1,none⟩=some (.string ⟨(dig0 0 (audsN n)).toArray⟩)/\A.cell? ⟨Hb,2,none⟩=some (.int .i64 0)/\A.cell? ⟨Hb,3,none⟩=some (.int .i64 n)/\A.cell? ⟨Hb,4,none⟩=some (.slice nb 1 ne)) 13 ⟨(hX5.out _ hpre0).1,hcp.out _ hpre0⟩ (fun hHeld=>?_)
           iterate 9
            (refine tn_on (v:=?_) rfl (fun w hS=>?_) (by assumption) ?_;rotate_left;· (try dsimp only at hS);go_simp;with_reducible rfl)
            simp only [gP,gA,gB,gC,gD,gE,gF]
           refine tn_one rfl (fun K hK=>?_)
           go_simp
           refine (q0.out _ hpre0).mono ?_
           rintro e wA ⟨num',ev,s2,i4,a5,n5,c5,a6,n6,c6,s7,s8,s9,i10,a11,n11,c11,t12,s13,s14,rfl,hvr,hpreA,hbA⟩
           try go_simp
           clear hHeld
           refine hK.out _ _ (⟨(hX5.out _ hpreA).1,hcp.out _ hpreA⟩) (fun hHeld=>?_)
           clear hK K
           try simp only [gP,gA,gB,gC,gD,gE,gF]
           have hbs:=vote_row hi hz0 hz1 ev s2 num' i4 a5 n5 c5 a6 n6 c6 s7 s8 s9 i10 a11 n11 c11 t12 s13 s14
           refine tn_one rfl (fun K hK=>?_)
           go_simp
           clear hHeld
           refine hK.out _ _ (⟨(hX5.out _ hpreA).2 _,hcp.out _ (hpa.out _ _ hpreA)⟩) (fun hHeld=>?_)
           clear hK K
           try simp only [gP,gA,gB,gC,gD,gE,gF]
           refine tn_one rfl (fun K hK=>?_)
           refine if_wanted rfl ?_
           refine wp_append_lies _ _ _ _ (by rfl) Wb.heap.size 92 i0 _ 15 216 Tryz.underlying79 hi hz0 hz1 hz2 rfl (by omega) (.slice ya ys.length yc) ys.length (vtCells ys) (by rfl) ((hpo.out _ hpreA).alloc _) ⟨_,0,none⟩ 1 1 [.int .u64 ev,.int .i64 0,.string s2,.int .i64 num',.int .i64 i4,.slice a5 n5 c5,.slice a6 n6 c6,.string s7,.string s8,.string s9,.int .i64 i10,.slice a11 n11 c11,.bool t12,.string s13,.string s14] (by rfl) (by rfl) (World.news_of_block (cs:=#[.int .u64 ev,.int .i64 0,.string s2,.int .i64 num',.int .i64 i4,.slice a5 n5 c5,.slice a6 n6 c6,.string s7,.string s8,.string s9,.int .i64 i10,.slice a11 n11 c11,.bool t12,.string s13,.string s14]) (t:=92) (fr:=(0,0)) (heap_alloc_at _ _ _ (by first | rfl | exact (World.size_alloc _ _).symm))) (by simp [Value.oneCell']) (by omega) (by unfold maxLen;omega) (by omega) (by have:=(hps.out _ hpreA).1;simp only [World.size_alloc];omega) _ rfl ?_
           intro gg1 cap1 w7 ho7 hg7 hat hlt7
           have hw7:=hX7.out _ _ _ hpreA hg7
           have z7:=hw7.1.1.1
           have z7f:=hw7.1.1.2
           clear hHeld
           refine hK.out _ _ (⟨z7,hw7.1.2⟩) (fun hHeld=>?_)
           clear hK K
           try simp only [gP,gA,gB,gC,gD,gE,gF]
           iterate 1
            (refine tn_on (v:=?_) rfl (fun w hS=>?_) (by assumption) ?_;rotate_left;· (try dsimp only at hS);go_simp;with_reducible rfl)
            simp only [gP,gA,gB,gC,gD,gE,gF]
           refine tn_last rfl (fun K hK=>?_)
           go_simp
           clear hHeld
           refine hK.out _ _ ?_
           clear hK K
           try simp only [Act.put,List.getElem_toArray,List.getElem_cons_zero,List.getElem_cons_succ,List.setIfInBounds_toArray,List.set_cons_zero,List.set_cons_succ]
           refine tn_done ?_ (by kernel_rfl) _
           have hq8:=HQw.out.add (hps.out wA hpreA).2 (v:=⟨num',ev,s2,i4,a5,n5,c5,a6,n6,c6,s7,s8,s9,i10,a11,n11,c11,t12,s13,s14⟩) (by have hv2:=hvr;rw [show num=((⟨num',ev,s2,i4,a5,n5,c5,a6,n6,c6,s7,s8,s9,i10,a11,n11,c11,t12,s13,s14⟩:Vt)).num from hvr.num.symm] at hv2;exact hv2) (Nat.le_refl _) _ hg7 ho7 (by omega) (by rw [World.size_alloc] at hat;exact hat)
           have hvn:=hvr.num
           obtain ⟨v1,hv1⟩:∃ v:Vt,v=⟨num',ev,s2,i4,a5,n5,c5,a6,n6,c6,s7,s8,s9,i10,a11,n11,c11,t12,s13,s14⟩:=⟨_,rfl⟩
           rw [<-hv1] at hq8
           replace hv1:v1.num=num:=by rw [hv1];exact hvn
           obtain ⟨W9,hW9⟩:∃ W8,W8=(w7.setCell ⟨Y,5,none⟩ (.slice (some ⟨gg1,0,none⟩) (ys.length+1) cap1)):=⟨_,rfl⟩
           rw [<-hW9] at hq8 |-
           clear hW9 hcp hX5 q0 hpre0 hpa hpo hX7 hps z4 hnn' hvr hpreA hbA hbs hw7 z7 z7f ho7 hg7 hat hlt7 hvn
           generalize (Value.agg #[.int .u64 ev,.int .i64 0,.string s2,.int .i64 num',.int .i64 i4,.slice a5 n5 c5,.slice a6 n6 c6,.string s7,.string s8,.string s9,.int .i64 i10,.slice a11 n11 c11,.bool t12,.string s13,.string s14])=j1 at |-
           generalize (Value.slice (some ⟨wA.heap.size,0,none⟩) 1 1)=j2 at |-
           have HQ9:=Lib.hid hq8.swap
           clear hq8
           go_wp2
           go_roundw
           case rel=>exact ⟨k+1,tw,_,_,_,_,_,_,xs,(ys++[v1]),by go_num,by go_num,by omega,by omega,HQ9.out,rfl,by simp,(by rw [HLk.out k hlt];exact HSub.out.1.trans (List.sublist_append_left _ _)),(by rw [HLk.out k hlt,List.map_append];exact HSub.out.2.append (by rw [List.map_cons,List.map_nil,hv1,HNum.out];exact List.Sublist.refl _)),by simp only [List.length_append,List.length_cons,List.length_nil];omega⟩
           case measure=>simp [intOf];omega
    · obtain rfl:k=s:=by omega
      have hks':¬ (k:Int)<(k:Int):=by omega
      have hsw:1<=xs.length+ys.length:=by omega
      obtain ⟨ca,hca⟩:∃ ca:Int,(xs.length<nd/\ca=16)\/(nd<=xs.length/\ca=0):=by
       by_cases h:xs.length<nd
       · exact ⟨16,.inl ⟨h,rfl⟩⟩
       · exact ⟨0,.inr ⟨by omega,rfl⟩⟩
      obtain ⟨cb,hcb⟩:∃ cb:Int,(ys.length<nd/\cb=16)\/(nd<=ys.length/\cb=0):=by
       by_cases h:ys.length<nd
       · exact ⟨16,.inl ⟨h,rfl⟩⟩
       · exact ⟨0,.inr ⟨by omega,rfl⟩⟩
      obtain ⟨Pre,hPre⟩:∃ Pre:World->Prop,Pre=fun A=>Below wr.heap.size wr A:=⟨_,rfl⟩
      have hpre0:Pre wr.drew:=by rw [hPre];exact below_drew wr
      have hrr:=(hBr.block _ (lt_of_heap HRr.out)).trans HRr.out
      have hrp:=(hBr.block _ (lt_of_heap HRp.out)).trans HRp.out
      have hBwr:=HBw.out.trans (hBr.mono HBw.out.size)
      have hcp:=Lib.hid (fun A (hA:Pre A)=>(show A.cell? ⟨X,0,none⟩=some (.int .u64 1)/\A.cell? ⟨X,1,none⟩=some (.string ⟨(dig0 0 (audsN n)).toArray⟩)/\A.cell? ⟨X,2,none⟩=some (.int .i64 0)/\A.cell? ⟨X,3,none⟩=some (.int .i64 n)/\A.cell? ⟨X,4,none⟩=some (.slice na 1 nc)/\A.cell? ⟨X,5,none⟩=some (.slice xa xs.length xc)/\A.cell? ⟨Y,0,none⟩=some (.int .u64 1)/\A.cell? ⟨Y,1,none⟩=some (.string ⟨(dig0 0 (audsN n)).toArray⟩)/\A.cell? ⟨Y,2,none⟩=some (.int .i64 0)/\A.cell? ⟨Y,3,none⟩=some (.int .i64 n)/\A.cell? ⟨Y,4,none⟩=some (.slice nb 1 ne)/\A.cell? ⟨Y,5,none⟩=some (.slice ya ys.length yc)/\A.cell? ⟨Pb,0,none⟩=some (.int .u64 0)/\A.cell? ⟨Pb,1,none⟩=some (.string ⟨nought16.toArray⟩)/\A.cell? ⟨Pb,2,none⟩=some (.int .i64 0)/\A.cell? ⟨Pb,3,none⟩=some (.int .i64 n)/\A.cell? ⟨Pb,4,none⟩=some (.slice pna 1 pnc)/\A.cell? ⟨R,0,none⟩=some (.int .i64 k)/\A.cell? ⟨R,1,none⟩=some (.int .i64 nd) by
       rw [hPre] at hA
       obtain ⟨a0,a1,a2,a3,a4,a5,_⟩:=six_of_row ((hA.block _ (lt_of_heap hqv.cx)).trans hqv.cx)
       obtain ⟨b0,b1,b2,b3,b4,b5,_⟩:=six_of_row ((hA.block _ (lt_of_heap hqv.cy)).trans hqv.cy)
       obtain ⟨p0,p1,p2,p3,p4,_⟩:=ten_of_row ((hA.block _ (lt_of_heap hrp)).trans hrp)
       have hr:=(hA.block _ (lt_of_heap hrr)).trans hrr
       exact ⟨a0,a1,a2,a3,a4,a5,b0,b1,b2,b3,b4,b5,p0,p1,p2,p3,p4,cel hr,cel hr⟩))
      have q1:=Lib.hid (fun A (hA:Pre A)=>(show Calls Tryz.prog 32 #[.agg #[.int .u64 1,.string ⟨(dig0 0 (audsN n)).toArray⟩,.int .i64 0,.int .i64 n,.slice na 1 nc,.slice xa xs.length xc],.agg #[.int .u64 0,.string ⟨nought16.toArray⟩,.int .i64 0,.int .i64 n,.slice pna 1 pnc],.int .i64 n,.agg #[.int .i64 k,.int .i64 nd]] A fun e w'=>e=.returned (.int .i64 ca)/\Pre w' from by
       have hA':Below wr.heap.size wr A:=by rw [hPre] at hA;exact hA
       have hAK:=hBr.trans (hA'.mono hBr.size)
       refine Calls.mono (cert_any n k nd 0 usA pna na pnc nc xs xa xs.length xc ca Wb.heap.size A (by omega) hn5 (by omega) hsn (by omega) hnds (by decide) (fun i j h hj=>pos_apart i j h (by omega)) (win_ok n (by omega) hn5) ((HT.out.old hBwr).kon.old hA') (HCp.out.1.old hAK) (HCp.out.2.old hAK) (HSa.out.2.old hAK) ((Touch.of_below hA' (fun _=>False)).own hqv.ox (fun _ _=>id)) rfl (by rw [HLw.out];exact hsx) (fun v hv=>by obtain ⟨lo,hi,h1,_⟩:=hqv.vx v hv;exact ⟨lo,hi,h1.touch (Touch.of_below hA' (fun _=>False)) (fun _ _ _=>id)⟩) (fun h=>by rcases hca with ⟨_,e⟩ | ⟨h2,_⟩;exact e;omega) (fun h=>by rcases hca with ⟨h2,_⟩ | ⟨_,e⟩;omega;exact e)) ?_
       rintro e w' ⟨h1,h2⟩
       exact ⟨h1,by rw [hPre];exact hA'.trans (h2.mono hA'.size)⟩))
      have q2:=Lib.hid (fun A (hA:Pre A)=>(show Calls Tryz.prog 32 #[.agg #[.int .u64 1,.string ⟨(dig0 0 (audsN n)).toArray⟩,.int .i64 0,.int .i64 n,.slice nb 1 ne,.slice ya ys.length yc],.agg #[.int .u64 0,.string ⟨nought16.toArray⟩,.int .i64 0,.int .i64 n,.slice pna 1 pnc],.int .i64 n,.agg #[.int .i64 k,.int .i64 nd]] A fun e w'=>e=.returned (.int .i64 cb)/\Pre w' from by
       have hA':Below wr.heap.size wr A:=by rw [hPre] at hA;exact hA
       have hAK:=hBr.trans (hA'.mono hBr.size)
       refine Calls.mono (cert_any n k nd 1 usB pna nb pnc ne ys ya ys.length yc cb Wb.heap.size A (by omega) hn5 (by omega) hsn (by omega) hnds (by decide) (fun i j h hj=>pos_apart i j h (by omega)) (win_ok n (by omega) hn5) ((HT.out.old hBwr).kon.old hA') (HCp.out.1.old hAK) (HCp.out.2.old hAK) (HSb.out.2.old hAK) ((Touch.of_below hA' (fun _=>False)).own hqv.oy (fun _ _=>id)) rfl (by rw [HLw.out];exact hsy) (fun v hv=>by obtain ⟨lo,hi,h1,_⟩:=hqv.vy v hv;exact ⟨lo,hi,h1.touch (Touch.of_below hA' (fun _=>False)) (fun _ _ _=>id)⟩) (fun h=>by rcases hcb with ⟨_,e⟩ | ⟨h2,_⟩;exact e;omega) (fun h=>by rcases hcb with ⟨h2,_⟩ | ⟨_,e⟩;omega;exact e)) ?_
       rintro e w' ⟨h1,h2⟩
       exact ⟨h1,by rw [hPre];exact hA'.trans (h2.mono hA'.size)⟩))
      have HEnd:=Lib.hid (fun A (hA:Pre A)=>(show Below w.heap.size w A from by rw [hPre] at hA;exact hBwr.trans (hA.mono hBwr.size)))
      clear hPre hrr hrp hBwr hqv hsx hsy hBr
      as_aux_lemma=>
       go_wp2_with fail
       go_region_held3 (fun A=>A.cell? ⟨X,0,none⟩=some (.int .u64 1)/\A.cell? ⟨X,1,none⟩=some (.string ⟨(dig0 0 (audsN n)).toArray⟩)/\A.cell? ⟨X,2,none⟩=some (.int .i64 0)/\A.cell? ⟨X,3,none⟩=some (.int .i64 n)/\A.cell? ⟨X,4,none⟩=some (.slice na 1 nc)/\A.cell? ⟨X,5,none⟩=some (.slice xa xs.length xc)/\A.cell? ⟨Y,0,none⟩=some (.int .u64 1)/\A.cell? ⟨Y,1,none⟩=some (.string ⟨(dig0 0 (audsN n)).toArray⟩)/\A.cell? ⟨Y,2,none⟩=some (.int .i64 0)/\A.cell? ⟨Y,3,none⟩=some (.int .i64 n)/\A.cell? ⟨Y,4,none⟩=some (.slice nb 1 ne)/\A.cell? ⟨Y,5,none⟩=some (.slice ya ys.length yc)/\A.cell? ⟨Pb,0,none⟩=some (.int .u64 0)/\A.cell? ⟨Pb,1,none⟩=some (.string ⟨nought16.toArray⟩)/\A.cell? ⟨Pb,2,none⟩=some (.int .i64 0)/\A.cell? ⟨Pb,3,none⟩=some (.int .i64 n)/\A.cell? ⟨Pb,4,none⟩=some (.slice pna 1 pnc)/\A.cell? ⟨R,0,none⟩=some (.int .i64 k)/\A.cell? ⟨R,1,none⟩=some (.int .i64 nd)) (first | with_reducible exact hcp.out _ (by assumption))
        (first
          | (go_at_call 32;with_reducible refine (q1.out _ (by assumption)).mono ?_;rintro e wA ⟨rfl,hpreA⟩)
          | (go_at_call 32;with_reducible refine (q2.out _ (by assumption)).mono ?_;rintro e wB ⟨rfl,hpreB⟩))
       all_goals
        obtain ⟨_,_,_,_,_,a5,_,_,_,_,_,b5,_,_,_,_,_,_,r1⟩:=hcp.out wB hpreB
        have HE:=Lib.hid (HEnd.out wB hpreB)
        clear hcp q1 q2 HEnd hpre0 hpreA hpreB
        rcases hca with ⟨g1,rfl⟩ | ⟨g1,rfl⟩ <;> rcases hcb with ⟨g2,rfl⟩ | ⟨g2,rfl⟩
       all_goals
        go_wp2
        all_goals
         go_ret
         exact ⟨by first | rfl | (congr 2;simp;omega),HE.out⟩
end Go.Proofs.YtcgkomafaepjnaaGreatDoor
