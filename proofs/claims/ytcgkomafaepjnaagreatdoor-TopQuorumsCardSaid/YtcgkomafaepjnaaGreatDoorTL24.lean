/- Package server: a first update of a label is submitted. Conditions: at most two wait; the label is new; it is signed by its key. -/
import Derived.Test.YtcgkomafaepjnaaGreatDoorTL22
import Derived.Test.YtcgkomafaepjnaaGreatDoorTL23
import Derived.Test.YtcgkomafaepjnaaGreatDoorTL20
import Derived.Test.YtcgkomafaepjnaaGreatDoorTL13
set_option maxRecDepth 100000
set_option maxHeartbeats 16000000
namespace Go.Proofs.YtcgkomafaepjnaaGreatDoor
open Go.RowKit
theorem Tryz.infoEnt:(Tryz.prog.info? 105).map (fun i=>(i.zero,i.size,i.bytes))=some (some (.agg #[.int .u64 0,.string .empty,.string .empty,.int .i64 0,.string .empty]),5,64):=by kernel_rfl
theorem nine_cells {w:World} {b:Nat} {t:TypeId} {x0 x1 x2 x3 x4 x5 x6 x7 x8:Value} (h:w.heap[b]?=some (.cells #[x0,x1,x2,x3,x4,x5,x6,x7,x8] t (0,0))) :
 w.cell? ⟨b,0,none⟩=some x0/\w.cell? ⟨b,1,none⟩=some x1/\w.cell? ⟨b,2,none⟩=some x2/\w.cell? ⟨b,3,none⟩=some x3/\w.cell? ⟨b,4,none⟩=some x4/\w.cell? ⟨b,5,none⟩=some x5/\w.cell? ⟨b,6,none⟩=some x6/\w.cell? ⟨b,7,none⟩=some x7/\w.cell? ⟨b,8,none⟩=some x8:=
 ⟨cel h,cel h,cel h,cel h,cel h,cel h,cel h,cel h,cel h⟩
theorem ten_of_row {w:World} {b:Nat} {t:TypeId} {x0 x1 x2 x3 x4:Value} (h:w.heap[b]?=some (.cells #[x0,x1,x2,x3,x4] t (0,0))) :
 w.cell? ⟨b,0,none⟩=some x0/\w.cell? ⟨b,1,none⟩=some x1/\w.cell? ⟨b,2,none⟩=some x2/\w.cell? ⟨b,3,none⟩=some x3/\w.cell? ⟨b,4,none⟩=some x4/\w.frozen? ⟨b,0,none⟩=false/\w.frozen? ⟨b,1,none⟩=false/\w.frozen? ⟨b,2,none⟩=false/\w.frozen? ⟨b,3,none⟩=false/\w.frozen? ⟨b,4,none⟩=false:=
 ⟨cel h,cel h,cel h,cel h,cel h,frozen_of_row _ _ 0 _ _ h,frozen_of_row _ _ 1 _ _ h,frozen_of_row _ _ 2 _ _ h,frozen_of_row _ _ 3 _ _ h,frozen_of_row _ _ 4 _ _ h⟩
theorem ssubmit_any (p d:Nat) (auds:List Aud) (us:List (List UInt8×List UInt8)) (S:Nat->Prop) (s:ByteArray) (seed:List UInt8) (a:Option Addr) (c:Nat) (w:World) (h:SrvA w S p d auds us) (hus:us.length<=2) (hlow:Low s) (hs0:0<s.size) (hs64:s.size<=64) (hnew:us.lookup s.data.toList=none)
 (hsig:SigAt w (.agg #[.int .i64 0,.slice a 35 c,.slice none 0 0]) seed (msgOf s.data.toList 1 (openOf seed) (pubKey seed 0) 0 nought16)) (hT:Kons w) (hKS:¬ S 0) :
 Calls Tryz.prog 67 #[.pointer (some ⟨p,0,none⟩),upV s 1 (openOf seed) (pubKey seed 0) 0 nought16 a c] w fun e w'=>e=.returned (.int .i64 0)/\SrvA w' (more S w w') p d auds ((s.data.toList,seed) :: us)/\Touch S w w':=by
 obtain ⟨bk,dk,g,xl,xr,t0,tb,cv,nv,tv,hv,x3,x4,v2,na,nc,nts,h⟩:=h
 have hb0:Below w.heap.size w (w.alloc (.cells #[.string s,.int .u64 1,.string ⟨(openOf seed).toArray⟩,.string ⟨(pubKey seed 0).toArray⟩,.int .i64 0,.string ⟨nought16.toArray⟩,.int .i64 0,.slice a 35 c,.slice none 0 0] 143)):=(Below.refl _ _).alloc (Nat.le_refl _) _
 have hr0:(w.alloc (.cells #[.string s,.int .u64 1,.string ⟨(openOf seed).toArray⟩,.string ⟨(pubKey seed 0).toArray⟩,.int .i64 0,.string ⟨nought16.toArray⟩,.int .i64 0,.slice a 35 c,.slice none 0 0] 143)).heap[w.heap.size]?=some (.cells #[.string s,.int .u64 1,.string ⟨(openOf seed).toArray⟩,.string ⟨(pubKey seed 0).toArray⟩,.int .i64 0,.string ⟨nought16.toArray⟩,.int .i64 0,.slice a 35 c,.slice none 0 0] 143 (0,0)):=heap_alloc_new _ _
 have h0:=h.touch (Touch.of_below hb0 (fun _=>False)) (fun _ _ h=>h)
 have hlt:=h.lt
 obtain ⟨i1,_⟩:=h.inS
 have hJ:=Lib.hid (fun (l0 l1 l2 l3 l4:Value) (W:World) (hb:Below w.heap.size w W)=>judge_any seed s a c l0 l1 l2 l3 l4 W hlow hs0 hs64 (by
  obtain ⟨a',c',e,hc⟩:=hsig
  exact ⟨a',c',e,hc.old hb⟩) (hT.old hb))
 have hE_:=Lib.hid (fun (W:World) (hb:Below w.heap.size w W)=>(show Calls Tryz.prog 117 #[upV s 1 (openOf seed) (pubKey seed 0) 0 nought16 a c] W fun e w'=>(∃ t:ByteArray,e=.returned (.tuple #[.string t,.int .i64 0])/\t.size=621+s.size)/\Below W.heap.size W w' from by
  obtain ⟨a',c',e,hc⟩:=hsig
  have e1:a'=a/\c'=c:=by
   injection e with e
   have h1:=congrArg (fun l:Array Value=>l[1]?) e
   simp at h1
   exact ⟨h1.1.symm,h1.2.symm⟩
  obtain ⟨rfl,rfl⟩:=e1
  exact uencode_any s 1 (openOf seed) (pubKey seed 0) 0 nought16 a' c' _ W hs64 (ent_first seed) (hc.old hb) (sigOf_mem _ _ _ _)))
 have hN:=Lib.hid (fun (W:World) (hk:Kon W)=>ename_any s W (by omega) hk)
 have hV:=Lib.hid (fun (W:World) (hk:Kon W)=>(show Calls Tryz.prog 36 #[.agg #[.int .u64 1,.string ⟨(openOf seed).toArray⟩,.string ⟨(pubKey seed 0).toArray⟩,.int .i64 0,.string ⟨nought16.toArray⟩]] W fun e w'=>e=.returned (.string ⟨(fstVal seed).toArray⟩)/\Below W.heap.size W w' from evalue_any 1 (openOf seed) (pubKey seed 0) 0 nought16 W (ent_first seed) hk))
 have HK:=Lib.hid hT
 have H0:=Lib.hid h0
 have HB0:=Lib.hid (And.intro hb0 hr0)
 have HLT:=Lib.hid hlt
 have hpl:=hlt _ i1
 have hl:=Lib.hid (fun (W:World) (hb:Below w.heap.size w W)=>slast_none xl xr us S s W (h.next.old hb) (by unfold maxLen;omega) hnew)
 have HC:=Lib.hid (fun (W:World) (hb:Below w.heap.size w W)=>(show W.cell? ⟨p,5,none⟩=some (.map (some xl))/\W.cell? ⟨p,6,none⟩=some (.pointer (some ⟨xr,0,none⟩))/\W.cell? ⟨p,8,none⟩=some nv from by
  obtain ⟨_,_,_,_,_,c5,c6,_,c8,_,_,_⟩:=h.row.cells
  exact ⟨(hb.cell (World.block_lt_of_cell? _ _ c5)).trans c5,(hb.cell (World.block_lt_of_cell? _ _ c6)).trans c6,(hb.cell (World.block_lt_of_cell? _ _ c8)).trans c8⟩))
 obtain ⟨nva,nvc,rfl⟩:=own_slice h.note
 have HNXT:=Lib.hid (fun (W:World) (hb:Below w.heap.size w W)=>h.next.old hb)
 have hxlp:xl≠p:=by
  obtain ⟨es,cc,hm⟩:=h.next.map
  rintro rfl
  have h1:w.heap[xl]?=_:=h.row
  rw [h1] at hm;cases hm
 have hxll:=h.next.lt
 have HSW:=Lib.hid h
 have HKX:=Lib.hid (fun e:xl=0=>hKS (e ▸ h.inS.2.2.2.2.1))
 clear h h0 hb0 hr0 i1 hlt hsig hT
 unfold upV at hJ hE_ |-
 go_enter Tryz.func67,Tryz.ntmps67
 go_wp2_with fail
 generalize hW0:(w.alloc _)=W0 at H0 HB0 |-
 clear hW0
 obtain ⟨hb0,hr0⟩:=HB0.out
 have s0:=hb0.size
 obtain ⟨H,hH⟩:∃ H,H=w.heap.size:=⟨_,rfl⟩
 rw [<-hH] at hr0
 have hlH:=lt_of_heap hr0
 have HR0:=Lib.hid hr0
 obtain ⟨Pre,hPre⟩:∃ Pre:World->Prop,Pre=fun W=>Below W0.heap.size W0 W:=⟨_,rfl⟩
 have hpw:∀ A,Pre A->Below w.heap.size w A:=by
  intro A hA
  rw [hPre] at hA
  exact hb0.trans (hA.mono s0)
 have hcp:=Lib.hid (fun A (hA:Pre A)=>(show A.cell? ⟨p,5,none⟩=some (.map (some xl))/\A.cell? ⟨p,6,none⟩=some (.pointer (some ⟨xr,0,none⟩))/\A.cell? ⟨H,0,none⟩=some (.string s) by
  have h1:=HC.out A (hpw A hA)
  rw [hPre] at hA
  have h2:=(hA.block _ hlH).trans hr0
  exact ⟨h1.1,h1.2.1,cel h2⟩))
 have hpp:∀ A B,Pre A->Below A.heap.size A B->Pre B:=by
  intro A B hA hb
  rw [hPre] at hA |-
  exact hA.trans (hb.mono hA.size)
 have q0:=Lib.hid (fun A (hA:Pre A)=>(hl.out A (hpw A hA)).mono (R':=fun e w'=>e=.returned (.tuple #[.agg #[.int .u64 0,.string ⟨#[]⟩,.string ⟨#[]⟩,.int .i64 0,.string ⟨#[]⟩],.bool false])/\Pre w'/\Below A.heap.size A w') fun e w' hh=>⟨hh.1,hpp A w' hA hh.2,hh.2⟩)
 have hpa:=Lib.hid (fun A ob (hA:Pre A)=>(show Pre (A.alloc ob) from hpp A _ hA ((Below.refl _ _).alloc (Nat.le_refl _) _)))
 have hpre0:Pre W0.drew:=by rw [hPre];exact below_drew W0
 have hpad:=Lib.hid (fun ob=>(show Pre (W0.alloc ob).drew from by rw [hPre];exact ((Below.refl _ _).alloc (Nat.le_refl _) _).drew))
 have hp5:=Lib.hid (fun A E v0 v1 v2 v3 v4 (hE:W0.heap.size<=E) (hA:Pre A)=>(show Pre (((((A.setCell ⟨E,0,none⟩ v0).setCell ⟨E,1,none⟩ v1).setCell ⟨E,2,none⟩ v2).setCell ⟨E,3,none⟩ v3).setCell ⟨E,4,none⟩ v4) from by rw [hPre] at hA |-;exact five_below v0 v1 v2 v3 v4 hA hE))
 have HPB:=Lib.hid (fun A (hA:Pre A)=>(show Below W0.heap.size W0 A from by rw [hPre] at hA;exact hA))
 have HPW:=Lib.hid hpw
 have HPP:=Lib.hid hpp
 have HH:=Lib.hid hH
 clear hPre hpw hpp hb0 hr0 hH hl
 rw [<-HH.out]
 obtain ⟨z5,z6,y0⟩:=hcp.out _ hpre0
 have z5:W0.cell? ⟨p,5,none⟩=some (.map (some xl)):=z5
 have z6:W0.cell? ⟨p,6,none⟩=some (.pointer (some ⟨xr,0,none⟩)):=z6
 have y0:W0.cell? ⟨H,0,none⟩=some (.string s):=y0
 have z5a:∀ ob,(W0.alloc ob).cell? ⟨p,5,none⟩=some (.map (some xl)):=fun ob=>(hcp.out _ (hpad.out ob)).1
 have z6a:∀ ob,(W0.alloc ob).cell? ⟨p,6,none⟩=some (.pointer (some ⟨xr,0,none⟩)):=fun ob=>(hcp.out _ (hpad.out ob)).2.1
 have y0a:∀ ob,(W0.alloc ob).cell? ⟨H,0,none⟩=some (.string s):=fun ob=>(hcp.out _ (hpad.out ob)).2.2
 have hW0:H<W0.heap.size:=hlH
 go_region_held3 (fun A=>A.cell? ⟨p,5,none⟩=some (.map (some xl))/\A.cell? ⟨p,6,none⟩=some (.pointer (some ⟨xr,0,none⟩))/\A.cell? ⟨H,0,none⟩=some (.string s)) (first | with_reducible exact hcp.out _ (by assumption) | with_reducible exact hcp.out _ (hpad.out _) | with_reducible exact hcp.out _ (hpa.out _ _ (by assumption)) | with_reducible exact hcp.out _ (hp5.out _ _ _ _ _ _ _ (by omega) (by assumption)))
  (first
    | (go_at_call 116;with_reducible refine (q0.out _ (by first | assumption | exact hpad.out _)).mono ?_;rintro e w1 ⟨rfl,hpre1,hb1⟩;obtain ⟨hc1,hf1⟩:=bcell5 hb1;have hz1:=hb1.size))
 all_goals
  first
   | (have hrE:w1.heap[W0.heap.size]?=some (.cells #[.int .u64 0,.string ⟨#[]⟩,.string ⟨#[]⟩,.int .i64 0,.string ⟨#[]⟩] 105 (0,0)):=(hb1.block _ (by simp)).trans (heap_alloc_new W0 _)
      have hrow:=five_store (.int .u64 0) (.string ⟨#[]⟩) (.string ⟨#[]⟩) (.int .i64 0) (.string ⟨#[]⟩) hrE
      have hpreV:=hp5.out w1 W0.heap.size (.int .u64 0) (.string ⟨#[]⟩) (.string ⟨#[]⟩) (.int .i64 0) (.string ⟨#[]⟩) (Nat.le_refl _) hpre1
      generalize (((((w1.setCell ⟨W0.heap.size,0,none⟩ (.int .u64 0)).setCell ⟨W0.heap.size,1,none⟩ (.string ⟨#[]⟩)).setCell ⟨W0.heap.size,2,none⟩ (.string ⟨#[]⟩)).setCell ⟨W0.heap.size,3,none⟩ (.int .i64 0)).setCell ⟨W0.heap.size,4,none⟩ (.string ⟨#[]⟩))=V at hrow hpreV |-
      obtain ⟨E,hEE⟩:∃ E,E=W0.heap.size:=⟨_,rfl⟩
      have hE:W0.heap.size<=E:=Nat.le_of_eq hEE.symm
      rw [<-hEE] at hrow |-
      clear hrE hEE)
   | (have hrow:=heap_alloc_new w1 (.cells #[.int .u64 0,.string ⟨#[]⟩,.string ⟨#[]⟩,.int .i64 0,.string ⟨#[]⟩] 105)
      have hpreV:=hpa.out w1 (.cells #[.int .u64 0,.string ⟨#[]⟩,.string ⟨#[]⟩,.int .i64 0,.string ⟨#[]⟩] 105) hpre1
      have hE':W0.heap.size<=w1.heap.size:=(HPB.out w1 hpre1).size
      generalize (w1.alloc (.cells #[.int .u64 0,.string ⟨#[]⟩,.string ⟨#[]⟩,.int .i64 0,.string ⟨#[]⟩] 105))=V at hrow hpreV |-
      obtain ⟨E,hEE⟩:∃ E,E=w1.heap.size:=⟨_,rfl⟩
      have hE:W0.heap.size<=E:=by omega
      rw [<-hEE] at hrow |-
      clear hE' hEE)
  clear hc1 hf1 hz1 hb1 hpre1 z5 z6 y0 z5a z6a y0a
 all_goals
  have hBV:=HPB.out V hpreV
  have hwV:=HPW.out V hpreV
  have hlH':=lt_of_heap HR0.out
  have hrH:=(hBV.block _ hlH').trans HR0.out
  obtain ⟨e0,e1,e2,e3,e4,_,_,_,_,_⟩:=ten_of_row hrow
  obtain ⟨u0,u1,u2,u3,u4,u5,u6,u7,u8⟩:=nine_cells hrH
  have hRH:=Lib.hid hrH
  have hcall:=Lib.hid (hJ.out (.int .u64 0) (.string ⟨#[]⟩) (.string ⟨#[]⟩) (.int .i64 0) (.string ⟨#[]⟩) V hwV)
  have HWV:=Lib.hid (And.intro hwV hBV)
  have sV:=hwV.size
  clear hwV hBV hrow hrH hJ
  go_wp2_with fail
  refine hcall.out.mono ?_
  rintro e w3 ⟨rfl,hb3⟩
  have hw3:=HWV.out.1.trans (hb3.mono sV)
  have hrH3:=(hb3.block _ (lt_of_heap hRH.out)).trans hRH.out
  obtain ⟨v0,v1,v2',v3,v4,v5,v6,v7,v8⟩:=nine_cells hrH3
  have s3:=hw3.size
  have HR3:=Lib.hid hrH3
  have hcall2:=Lib.hid (hE_.out w3 hw3)
  have HW3:=Lib.hid hw3
  clear hcall e0 e1 e2 e3 e4 u0 u1 u2 u3 u4 u5 u6 u7 u8 hb3 hrH3 hw3
  go_wp2_with fail
  refine hcall2.out.mono ?_
  rintro e w4 ⟨⟨tt,rfl,hts⟩,hb4⟩
  have hw4:=HW3.out.trans (hb4.mono s3)
  have hrH4:=(hb4.block _ (lt_of_heap HR3.out)).trans HR3.out
  obtain ⟨z5,z6,z8⟩:=HC.out w4 hw4
  have ew:IntKind.i64.wrap (1+(tt.size:Int))=((1+tt.size:Nat):Int):=by rw [show 1+(tt.size:Int)=((1+tt.size:Nat):Int) by omega];exact IntWalk.i64_in _ (by omega)
  have ew9:¬ ((900:Int)<((1+tt.size:Nat):Int)):=by omega
  have ew9':¬ ((900:Int)<1+(tt.size:Int)):=by omega
  have hts7:((⟨#[117]⟩:ByteArray)++tt).size<=700:=by
   rw [cat_size]
   have h1:(⟨#[117]⟩:ByteArray).size=1:=rfl
   omega
  have hfit:¬ (9223372036854775807<1+tt.size):=by omega
  have HTS:=Lib.hid hts7
  have hu256:¬ ((256:Int)<=(us.length:Int)):=by omega
  obtain ⟨y0,y1,y2,y3,y4,y5,_,_,_⟩:=nine_cells hrH4
  have HR4:=Lib.hid hrH4
  have HW4:=Lib.hid hw4
  have s4:=hw4.size
  clear hcall2 v0 v1 v2' v3 v4 v5 v6 v7 v8 hb4 hrH4 hw4 hts hts7
  obtain ⟨i1,hi1,hy0,hy1,hy2⟩:=info_parts Tryz.infoEnt
  obtain ⟨D,hm4,hh4,hat4⟩:=HNXT.out w4 HW4.out
  have hmax:s.size<=maxLen:=by unfold maxLen;omega
  have hxlH:xl≠H:=by rw [HH.out];omega
  have hS0:=Lib.hid (show w4.drew.cell? ⟨p,5,none⟩=some (.map (some xl))/\w4.drew.cell? ⟨H,0,none⟩=some (.string s)/\w4.drew.cell? ⟨H,1,none⟩=some (.int .u64 1)/\w4.drew.cell? ⟨H,2,none⟩=some (.string ⟨(openOf seed).toArray⟩)/\w4.drew.cell? ⟨H,3,none⟩=some (.string ⟨(pubKey seed 0).toArray⟩)/\w4.drew.cell? ⟨H,4,none⟩=some (.int .i64 0)/\w4.drew.cell? ⟨H,5,none⟩=some (.string ⟨nought16.toArray⟩) from ⟨z5,y0,y1,y2,y3,y4,y5⟩)
  have hSa:=Lib.hid (fun ob:Obj=>(show (w4.alloc ob).drew.cell? ⟨p,5,none⟩=some (.map (some xl))/\(w4.alloc ob).drew.cell? ⟨H,0,none⟩=some (.string s)/\(w4.alloc ob).drew.cell? ⟨H,1,none⟩=some (.int .u64 1)/\(w4.alloc ob).drew.cell? ⟨H,2,none⟩=some (.string ⟨(openOf seed).toArray⟩)/\(w4.alloc ob).drew.cell? ⟨H,3,none⟩=some (.string ⟨(pubKey seed 0).toArray⟩)/\(w4.alloc ob).drew.cell? ⟨H,4,none⟩=some (.int .i64 0)/\(w4.alloc ob).drew.cell? ⟨H,5,none⟩=some (.string ⟨nought16.toArray⟩) from ⟨((Touch.alloc (S:=fun _=>False) w4 ob).keep_cell z5 id),((Touch.alloc (S:=fun _=>False) w4 ob).keep_cell y0 id),((Touch.alloc (S:=fun _=>False) w4 ob).keep_cell y1 id),((Touch.alloc (S:=fun _=>False) w4 ob).keep_cell y2 id),((Touch.alloc (S:=fun _=>False) w4 ob).keep_cell y3 id),((Touch.alloc (S:=fun _=>False) w4 ob).keep_cell y4 id),((Touch.alloc (S:=fun _=>False) w4 ob).keep_cell y5 id)⟩))
  have hSg:=Lib.hid (fun (ob:Obj) (w6:World) (hg:(w4.alloc ob).drew.grownBy w6 none)=>(show w6.cell? ⟨p,5,none⟩=some (.map (some xl))/\w6.cell? ⟨H,0,none⟩=some (.string s)/\w6.cell? ⟨H,1,none⟩=some (.int .u64 1)/\w6.cell? ⟨H,2,none⟩=some (.string ⟨(openOf seed).toArray⟩)/\w6.cell? ⟨H,3,none⟩=some (.string ⟨(pubKey seed 0).toArray⟩)/\w6.cell? ⟨H,4,none⟩=some (.int .i64 0)/\w6.cell? ⟨H,5,none⟩=some (.string ⟨nought16.toArray⟩) from ⟨((Touch.grown hg).keep_cell (hSa.out ob).1 (fun e=>by cases e)),((Touch.grown hg).keep_cell (hSa.out ob).2.1 (fun e=>by cases e)),((Touch.grown hg).keep_cell (hSa.out ob).2.2.1 (fun e=>by cases e)),((Touch.grown hg).keep_cell (hSa.out ob).2.2.2.1 (fun e=>by cases e)),((Touch.grown hg).keep_cell (hSa.out ob).2.2.2.2.1 (fun e=>by cases e)),((Touch.grown hg).keep_cell (hSa.out ob).2.2.2.2.2.1 (fun e=>by cases e)),((Touch.grown hg).keep_cell (hSa.out ob).2.2.2.2.2.2 (fun e=>by cases e))⟩))
  have hSm:=Lib.hid (fun (w6 w9:World) (h6:w6.cell? ⟨p,5,none⟩=some (.map (some xl))/\w6.cell? ⟨H,0,none⟩=some (.string s)/\w6.cell? ⟨H,1,none⟩=some (.int .u64 1)/\w6.cell? ⟨H,2,none⟩=some (.string ⟨(openOf seed).toArray⟩)/\w6.cell? ⟨H,3,none⟩=some (.string ⟨(pubKey seed 0).toArray⟩)/\w6.cell? ⟨H,4,none⟩=some (.int .i64 0)/\w6.cell? ⟨H,5,none⟩=some (.string ⟨nought16.toArray⟩)) (hg:w6.grownBy w9 (some xl))=>(show w9.cell? ⟨p,5,none⟩=some (.map (some xl))/\w9.cell? ⟨H,0,none⟩=some (.string s)/\w9.cell? ⟨H,1,none⟩=some (.int .u64 1)/\w9.cell? ⟨H,2,none⟩=some (.string ⟨(openOf seed).toArray⟩)/\w9.cell? ⟨H,3,none⟩=some (.string ⟨(pubKey seed 0).toArray⟩)/\w9.cell? ⟨H,4,none⟩=some (.int .i64 0)/\w9.cell? ⟨H,5,none⟩=some (.string ⟨nought16.toArray⟩) from ⟨((Touch.grown hg).keep_cell h6.1 (fun e=>hxlp (Option.some.inj e).symm)),((Touch.grown hg).keep_cell h6.2.1 (fun e=>hxlH (Option.some.inj e).symm)),((Touch.grown hg).keep_cell h6.2.2.1 (fun e=>hxlH (Option.some.inj e).symm)),((Touch.grown hg).keep_cell h6.2.2.2.1 (fun e=>hxlH (Option.some.inj e).symm)),((Touch.grown hg).keep_cell h6.2.2.2.2.1 (fun e=>hxlH (Option.some.inj e).symm)),((Touch.grown hg).keep_cell h6.2.2.2.2.2.1 (fun e=>hxlH (Option.some.inj e).symm)),((Touch.grown hg).keep_cell h6.2.2.2.2.2.2 (fun e=>hxlH (Option.some.inj e).symm))⟩))
  have hlk0:=((HNXT.out w4 HW4.out).look s hmax).1 hnew
  have hlk0:(Instr.lookup 148 (.map (some xl)) (.string s) false).run Tryz.prog w4.drew=.ok (.slice none 0 0) w4.drew:=((HNXT.out w4.drew HW4.out.drew).look s hmax).1 hnew
  have hlka:∀ ob:Obj,(Instr.lookup 148 (.map (some xl)) (.string s) false).run Tryz.prog (w4.alloc ob).drew=.ok (.slice none 0 0) (w4.alloc ob).drew:=fun ob=>((HNXT.out _ ((HW4.out.alloc s4 ob).drew)).look s hmax).1 hnew
  have HM4:=Lib.hid (And.intro hm4 (And.intro hh4 hat4))
  obtain ⟨esx,cx,hmx4⟩:=(HNXT.out w4 HW4.out).map
  have HMX:=Lib.hid hmx4
  clear hmx4
  clear z5 z6 y0 y1 y2 y3 y4 y5 hm4 hh4 hat4
  go_wp2_with fail
  go_region_held3 (fun A=>A.cell? ⟨p,5,none⟩=some (.map (some xl))/\A.cell? ⟨H,0,none⟩=some (.string s)/\A.cell? ⟨H,1,none⟩=some (.int .u64 1)/\A.cell? ⟨H,2,none⟩=some (.string ⟨(openOf seed).toArray⟩)/\A.cell? ⟨H,3,none⟩=some (.string ⟨(pubKey seed 0).toArray⟩)/\A.cell? ⟨H,4,none⟩=some (.int .i64 0)/\A.cell? ⟨H,5,none⟩=some (.string ⟨nought16.toArray⟩)) (first | with_reducible exact hS0.out | with_reducible exact hSa.out _ | with_reducible exact hSg.out _ _ hg6 | with_reducible exact hSm.out _ _ (hSg.out _ _ hg6) hgrow9)
   (first
     | (refine step_append_lies _ (by rfl) _ _ _ (by rfl) w4.heap.size 105 i1 _ 5 64 Tryz.underlying98 hi1 hy0 hy1 hy2 rfl (by omega) (.slice none 0 0) 0 [] (by rfl) (World.ownsRow_nil _ _ _ _) ⟨w4.heap.size,0,none⟩ 1 1 [.int .u64 1,.string ⟨(openOf seed).toArray⟩,.string ⟨(pubKey seed 0).toArray⟩,.int .i64 0,.string ⟨nought16.toArray⟩] (by rfl) (by rfl) (World.news_of_block (cs:=#[.int .u64 1,.string ⟨(openOf seed).toArray⟩,.string ⟨(pubKey seed 0).toArray⟩,.int .i64 0,.string ⟨nought16.toArray⟩]) (t:=105) (fr:=(0,0)) (heap_alloc_new w4.drew _)) (by simp [Value.oneCell']) (by omega) (by unfold maxLen;omega) (by omega) (by simp) (w4.heap.size+1) (by simp) ?_;intro gg cap2 w6 ho6 hg6 hat hlt6;obtain ⟨w9,hrun9,hown9,hgrow9⟩:=(ownsMap_keep HM4.out.1 (((Touch.alloc (S:=fun _=>False) w4 (.cells #[.int .u64 1,.string ⟨(openOf seed).toArray⟩,.string ⟨(pubKey seed 0).toArray⟩,.int .i64 0,.string ⟨nought16.toArray⟩] 105)).trans (Touch.drewN _ 1)).trans ((Touch.grown hg6).mono (fun j h=>by cases h))) id).update (Maps.string_keyed Tryz.underlying9) Tryz.underlying148 (key:=.string s) (val:=.slice (some ⟨gg,0,none⟩) (0+1) cap2) (d:=.held (.slice (some ⟨gg,0,none⟩) (0+1) cap2)) (ps:=[]) (by unfold maxLen;omega) (WideMaps.keyOf_string_mk Tryz.underlying9 (s:=s) hmax) rfl))
  all_goals
   have hT46:Touch (fun _=>False) w4 w6:=((Touch.alloc w4 (.cells #[.int .u64 1,.string ⟨(openOf seed).toArray⟩,.string ⟨(pubKey seed 0).toArray⟩,.int .i64 0,.string ⟨nought16.toArray⟩] 105)).trans (Touch.drewN _ 1)).trans ((Touch.grown hg6).mono (fun j h=>by cases h))
   have hT69:Touch (fun j=>j=xl) w6 w9:=(Touch.grown hgrow9).mono (fun j h=>.inl (Option.some.inj h))
   have hT49:Touch (fun j=>j=xl) w4 w9:=(hT46.mono (fun j h=>h.elim)).trans hT69
   have hgg:w4.heap.size<=gg:=by
    rcases hat with h1 | h1
    · cases h1
    · omega
   have hlab9:LabsAt w9 (fun q=>S q\/w4.heap.size<=q) xl ((s.data.toList,seed) :: us):=by
    obtain ⟨hm4,hh4,hat4⟩:=HM4.out
    refine ⟨_,hown9,fun k hk=>?_,fun k sd hk=>?_⟩
    · by_cases e:k=s.data.toList
      · subst e;exact ⟨seed,by simp⟩
      · rw [Maps.has_put_other (fun e'=>e (by injection e'))] at hk
        obtain ⟨sd,h1⟩:=hh4 k hk
        exact ⟨sd,by rw [List.lookup_cons,beq_eq_false_iff_ne.2 e];exact h1⟩
    · by_cases e:k=s.data.toList
      · subst e
        rw [List.lookup_cons,beq_self_eq_true] at hk
        cases hk
        refine ⟨_,cap2,fun z=>Maps.atKey_put_same (k:=.string s.data.toList) hm4.isMap trivial _ z,ownsRow_base (hT69.own ho6 (fun j hj e=>by have h2:some gg=some j:=hj;injection h2 with h2;omega)) (Nat.zero_le _),fun q hq=>?_⟩
        have h2:some gg=some q:=hq
        injection h2 with h2
        exact .inr (by omega)
      · rw [List.lookup_cons,beq_eq_false_iff_ne.2 e] at hk
        obtain ⟨a',c',e1,e2,e3⟩:=hat4 k sd hk
        refine ⟨a',c',fun z=>by rw [Maps.atKey_put_other (fun e'=>e (by injection e')),e1],hT49.own e2 (fun j hj e4=>own_ne_map e2 HMX.out _ hj e4),fun q hq=>.inl (e3 q hq)⟩
   have hrH9:=hT49.heap HR4.out (fun e=>hxlH e.symm)
   have s49:=hT49.size
   have hK4:=HK.out.kon.old HW4.out
   have hK9:=hK4.touch hT49 (fun e=>HKX.out e.symm)
   have HL9:=Lib.hid (And.intro hlab9 hT49)
   have HR9:=Lib.hid hrH9
   have HK9:=Lib.hid hK9
   clear hT46 hT69 hT49 hlab9 hrH9 hK4 hK9 hrun9 hown9 hgrow9 ho6 hg6 hat hS0 hSa hSg hSm hlk0 hlka HM4
   obtain ⟨Pr9,hPr9⟩:∃ Pr9:World->Prop,Pr9=fun W=>Below w9.heap.size w9 W:=⟨_,rfl⟩
   obtain ⟨Po9,hPo9⟩:∃ Po9:World->Prop,Po9=fun V=>(SrvA V (more S w V) p d auds ((s.data.toList,seed) :: us)/\Touch S w V)/\V.heap[H]?=some (.cells #[.string s,.int .u64 1,.string ⟨(openOf seed).toArray⟩,.string ⟨(pubKey seed 0).toArray⟩,.int .i64 0,.string ⟨nought16.toArray⟩,.int .i64 0,.slice a 35 c,.slice none 0 0] 143 (0,0)):=⟨_,rfl⟩
   have hpp9:∀ A B,Pr9 A->Below A.heap.size A B->Pr9 B:=by
    intro A B hA hb
    rw [hPr9] at hA |-
    exact hA.trans (hb.mono hA.size)
   have hcp9:=Lib.hid (fun A (hA:Pr9 A)=>(show A.cell? ⟨H,0,none⟩=some (.string s)/\A.cell? ⟨H,1,none⟩=some (.int .u64 1)/\A.cell? ⟨H,2,none⟩=some (.string ⟨(openOf seed).toArray⟩)/\A.cell? ⟨H,3,none⟩=some (.string ⟨(pubKey seed 0).toArray⟩)/\A.cell? ⟨H,4,none⟩=some (.int .i64 0)/\A.cell? ⟨H,5,none⟩=some (.string ⟨nought16.toArray⟩) by
    rw [hPr9] at hA
    obtain ⟨y0,y1,y2,y3,y4,y5,_,_,_⟩:=nine_cells ((hA.block _ (lt_of_heap HR9.out)).trans HR9.out)
    exact ⟨y0,y1,y2,y3,y4,y5⟩))
   have hcq9:=Lib.hid (fun A (hA:Po9 A)=>(show A.cell? ⟨H,0,none⟩=some (.string s)/\A.cell? ⟨H,1,none⟩=some (.int .u64 1)/\A.cell? ⟨H,2,none⟩=some (.string ⟨(openOf seed).toArray⟩)/\A.cell? ⟨H,3,none⟩=some (.string ⟨(pubKey seed 0).toArray⟩)/\A.cell? ⟨H,4,none⟩=some (.int .i64 0)/\A.cell? ⟨H,5,none⟩=some (.string ⟨nought16.toArray⟩) by
    rw [hPo9] at hA
    obtain ⟨y0,y1,y2,y3,y4,y5,_,_,_⟩:=nine_cells hA.2
    exact ⟨y0,y1,y2,y3,y4,y5⟩))
   have q1:=Lib.hid (fun A (hA:Pr9 A)=>(hN.out A (HK9.out.old (by rw [hPr9] at hA;exact hA))).mono (R':=fun e w'=>e=.returned (.string ⟨(nameOf s.data.toList).toArray⟩)/\Pr9 w') fun e w' hh=>⟨hh.1,hpp9 A w' hA hh.2⟩)
   have q2:=Lib.hid (fun A (hA:Pr9 A)=>(hV.out A (HK9.out.old (by rw [hPr9] at hA;exact hA))).mono (R':=fun e w'=>e=.returned (.string ⟨(fstVal seed).toArray⟩)/\Pr9 w') fun e w' hh=>⟨hh.1,hpp9 A w' hA hh.2⟩)
   have hR9:w9.heap[w.heap.size]?=_:=HH.out ▸ HR9.out
   have q3:=Lib.hid (fun A (hA:Pr9 A)=>(ssub_wait s.data.toList seed (⟨#[117]⟩++tt) ⟨(nameOf s.data.toList).toArray⟩ ⟨(fstVal seed).toArray⟩ _ HSW.out hus HW4.out HL9.out.2 HL9.out.1 (by rw [hPr9] at hA;exact hA) hR9 HTS.out rfl rfl).mono (R':=fun e w'=>e=.returned (.tuple #[])/\Po9 w') fun e w' hh=>⟨hh.1,by
    rw [hPo9,HH.out]
    exact hh.2⟩)
   clear hR9
   have hpre9:Pr9 w9.drew:=by rw [hPr9];exact below_drew w9
   have HPo9:=Lib.hid hPo9
   clear hPr9 hPo9 hpp9
   go_wp2_with fail
   go_region_held3 (fun A=>A.cell? ⟨H,0,none⟩=some (.string s)/\A.cell? ⟨H,1,none⟩=some (.int .u64 1)/\A.cell? ⟨H,2,none⟩=some (.string ⟨(openOf seed).toArray⟩)/\A.cell? ⟨H,3,none⟩=some (.string ⟨(pubKey seed 0).toArray⟩)/\A.cell? ⟨H,4,none⟩=some (.int .i64 0)/\A.cell? ⟨H,5,none⟩=some (.string ⟨nought16.toArray⟩)) (first | with_reducible exact hcp9.out _ (by assumption) | with_reducible exact hcq9.out _ (by assumption))
    (first
      | (go_at_call 34;with_reducible refine (q1.out _ (by assumption)).mono ?_;rintro r wA ⟨rfl,hpreA⟩)
      | (go_at_call 36;with_reducible refine (q2.out _ (by assumption)).mono ?_;rintro r wB ⟨rfl,hpreB⟩)
      | (go_at_call 118;with_reducible refine (q3.out _ (by assumption)).mono ?_;rintro r wC ⟨rfl,hpostC⟩))
   all_goals
    have HQ:=Lib.hid (HPo9.out ▸ hpostC)
    clear hcp9 hcq9 q1 q2 q3 hpreA hpreB hpostC hpre9
    go_wp2
    go_ret
    exact ⟨rfl,HQ.out.1.1,HQ.out.1.2⟩
structure Vt where
 (num:Nat) (e:Int) (s2:ByteArray) (i4:Int) (a5:Option Addr) (n5 c5:Nat) (a6:Option Addr) (n6 c6:Nat) (s7 s8 s9:ByteArray) (i10:Int) (a11:Option Addr) (n11 c11:Nat) (t12:Bool) (s13 s14:ByteArray)
def Vt.row (v:Vt):List Value:=[.int .u64 v.e,.int .i64 0,.string v.s2,.int .i64 v.num,.int .i64 v.i4,.slice v.a5 v.n5 v.c5,.slice v.a6 v.n6 v.c6,.string v.s7,.string v.s8,.string v.s9,.int .i64 v.i10,.slice v.a11 v.n11 v.c11,.bool v.t12,.string v.s13,.string v.s14]
def vtCells (l:List Vt):List Value:=l.flatMap Vt.row
theorem vtCells_at:∀ (l:List Vt) (k:Nat) (hk:k<l.length) (i:Nat) (_:i<15),(vtCells l)[15*k+i]?=(l[k]).row[i]?
 | x :: l,0,_,i,hi=>by
   unfold vtCells
   rw [List.flatMap_cons,Nat.mul_zero,Nat.zero_add,List.getElem?_append_left (by show i<15;exact hi)]
   rfl
 | x :: l,k+1,hk,i,hi=>by
   have:=vtCells_at l k (by simpa using hk) i hi
   unfold vtCells at *
   rw [List.flatMap_cons,List.getElem?_append_right (by show 15<=_;omega)]
   simp only [List.getElem_cons_succ]
   rw [<-this]
   congr 1
   show 15*(k+1)+i - 15=_
   omega
theorem vt_at {w:World} {B:Nat} {a:Option Addr} {n c:Nat} {l:List Vt} (h:w.ownsRow B 92 15 (.slice a n c) n (vtCells l)) (hn:n=l.length) (k:Nat) (hk:k<l.length) :
 ∃ g,a=some ⟨g,0,none⟩/\g<w.heap.size/\∀ i,i<15->w.cell? ⟨g,k*15+i,none⟩=(l[k]).row[i]?:=by
 obtain ⟨g,cap,e,hb,hg⟩:=h.form (by omega)
 injection e with e1 e2 e3
 subst e1
 have hadd:∀ i,(⟨g,0,none⟩:Addr).add i=⟨g,i,none⟩:=fun i=>by unfold Addr.add;split <;> simp_all
 refine ⟨g,rfl,hg,fun i hi=>?_⟩
 have e:=vtCells_at l k hk i hi
 have e2:(l[k]).row[i]?=some ((l[k]).row.getD i undef):=by
  rw [List.getD_eq_getElem?_getD,List.getElem?_eq_getElem (show i<(l[k]).row.length from hi)];rfl
 rw [e2] at e |-
 have c0:=h.cells (g:=g) rfl _ _ e
 rw [hadd] at c0
 rw [Nat.mul_comm k 15]
 exact c0
theorem ccheck_any (ep:Nat) (hp:List UInt8) (hau:Nat) (hna:Option Addr) (hN hnc:Nat) (pe:Nat) (pp:List UInt8) (pau:Nat) (pna:Option Addr) (pN pnc:Nat) (n slots needed:Nat) (l:List Nat) (vs:List Vt) (va:Option Addr) (nv vc:Nat) (r:Int) (B:Nat) (w:World)
 (hvs:w.ownsRow B 92 15 (.slice va nv vc) nv (vtCells vs)) (hnv:nv=vs.length) (hn5:nv<=5) (hnum:∀ v∈vs,v.num<=4) (hnd:(vs.map (·.num)).Nodup)
 (hr1:nv<needed->r=16) (hr2:needed<=nv->r=0)
 (hNext:∀ W,Below w.heap.size w W->Calls Tryz.prog 78 #[hdV pe pp 0 pau pna pN pnc,hdV ep hp 0 hau hna hN hnc] W fun e w'=>e=.returned (.int .i64 0)/\Below W.heap.size W w')
 (hWin:∀ W,Below w.heap.size w W->Calls Tryz.prog 30 #[hdV pe pp 0 pau pna pN pnc,.int .i64 n,.agg #[.int .i64 slots,.int .i64 needed]] W fun e w'=>∃ G c g,e=.returned (.tuple #[.slice (some ⟨G,0,none⟩) 1 c,.int .i64 0])/\w'.cell? ⟨G,0,none⟩=some (.slice (some ⟨g,0,none⟩) slots slots)/\w'.heap[g]?=some (.cells (natRow l) 3 (0,0))/\Below W.heap.size W w')
 (hChk:∀ v∈vs,∀ W G c g,Below w.heap.size w W->W.cell? ⟨G,0,none⟩=some (.slice (some ⟨g,0,none⟩) slots slots)->W.heap[g]?=some (.cells (natRow l) 3 (0,0))->Calls Tryz.prog 79 #[.agg v.row.toArray,hdV pe pp 0 pau pna pN pnc,hdV ep hp 0 hau hna hN hnc,.slice (some ⟨G,0,none⟩) 1 c] W fun e w'=>e=.returned (.int .i64 0)/\Below W.heap.size W w') :
 Calls Tryz.prog 32 #[.agg #[.int .u64 ep,.string ⟨hp.toArray⟩,.int .i64 0,.int .i64 hau,.slice hna hN hnc,.slice va nv vc],hdV pe pp 0 pau pna pN pnc,.int .i64 n,.agg #[.int .i64 slots,.int .i64 needed]] w fun e w'=>e=.returned (.int .i64 r)/\Below w.heap.size w w':=by
 have HNext:=Lib.hid hNext
 have HWin:=Lib.hid hWin
 have HChk:=Lib.hid hChk
 have HVs:=Lib.hid hvs
 have HN:=Lib.hid hnv
 have HNum:=Lib.hid (And.intro hnum hnd)
 have hmk:∀ W:World,(Instr.makeSlice 82 (.int .i64 1) (.int .i64 1)).run Tryz.prog W=.ok (.slice (some ⟨W.heap.size,0,none⟩) 1 1) (W.alloc (.cells #[.int .i64 0] 3)):=fun W=>by kernel_rfl
 have HMk:=Lib.hid hmk
 have HR:=Lib.hid (And.intro hr1 hr2)
 unfold hdV at HNext HWin HChk |-
 generalize (⟨hp.toArray⟩:ByteArray)=hps at *
 generalize (⟨pp.toArray⟩:ByteArray)=pps at *
 obtain ⟨W1,hW1⟩:∃ W1,W1=((w.alloc (.cells #[.int .u64 ep,.string hps,.int .i64 0,.int .i64 hau,.slice hna hN hnc,.slice va nv vc] 81)).alloc (.cells #[.int .u64 pe,.string pps,.int .i64 0,.int .i64 pau,.slice pna pN pnc] 69)).alloc (.cells #[.int .i64 slots,.int .i64 needed] 61):=⟨_,rfl⟩
 have hb1:Below w.heap.size w W1:=by rw [hW1];exact (((Below.refl _ _).alloc (Nat.le_refl _) _).alloc (by rw [World.size_alloc];omega) _).alloc (by rw [World.size_alloc,World.size_alloc];omega) _
 have q0:W1.heap[w.heap.size]?=some (.cells #[.int .u64 ep,.string hps,.int .i64 0,.int .i64 hau,.slice hna hN hnc,.slice va nv vc] 81 (0,0)):=by rw [hW1];exact (Below.heap_alloc _ _ _ (by rw [World.size_alloc,World.size_alloc];omega)).trans (heap_alloc2_old _ _ _)
 have q1:W1.heap[w.heap.size+1]?=some (.cells #[.int .u64 pe,.string pps,.int .i64 0,.int .i64 pau,.slice pna pN pnc] 69 (0,0)):=by rw [hW1];exact (Below.heap_alloc _ _ _ (by rw [World.size_alloc,World.size_alloc];omega)).trans (heap_alloc2_new _ _ _)
 have q2:W1.heap[w.heap.size+2]?=some (.cells #[.int .i64 slots,.int .i64 needed] 61 (0,0)):=by rw [hW1];exact by have:=heap_alloc_new ((w.alloc (.cells #[.int .u64 ep,.string hps,.int .i64 0,.int .i64 hau,.slice hna hN hnc,.slice va nv vc] 81)).alloc (.cells #[.int .u64 pe,.string pps,.int .i64 0,.int .i64 pau,.slice pna pN pnc] 69)) (.cells #[.int .i64 slots,.int .i64 needed] 61);rw [World.size_alloc,World.size_alloc] at this;exact this
 clear hNext hWin hChk hvs hnv hnum hnd hmk hr1 hr2
 go_enter Tryz.func32,Tryz.ntmps32
 go_wp2_with fail
 rw [<-hW1]
 clear hW1
 refine (HNext.out W1 hb1).mono ?_
 rintro e w2 ⟨rfl,hb2⟩
 have hB2:=hb1.trans (hb2.mono hb1.size)
 have q0:=(hb2.block _ (lt_of_heap q0)).trans q0
 have q1:=(hb2.block _ (lt_of_heap q1)).trans q1
 have q2:=(hb2.block _ (lt_of_heap q2)).trans q2
 obtain ⟨c0,c1,c2,c3,c4,_,_,_,_,_⟩:=ten_of_row q1
 have r0:w2.cell? ⟨w.heap.size+2,0,none⟩=some (.int .i64 slots):=cel q2
 have r1:w2.cell? ⟨w.heap.size+2,1,none⟩=some (.int .i64 needed):=cel q2
 have hcall:=Lib.hid (HWin.out w2 hB2)
 have HQ:=Lib.hid (And.intro q0 (And.intro q1 (And.intro q2 hB2)))
 clear HNext HWin hb1 hb2 hB2 q0 q1 q2
 go_wp2_with fail
 refine hcall.out.mono ?_
 rintro e w3 ⟨G,c,g,rfl,hG,hg,hb3⟩
 obtain ⟨q0,q1,q2,hB2⟩:=HQ.out
 have hB3:=hB2.trans (hb3.mono hB2.size)
 have q0:=(hb3.block _ (lt_of_heap q0)).trans q0
 have q1:=(hb3.block _ (lt_of_heap q1)).trans q1
 have q2:=(hb3.block _ (lt_of_heap q2)).trans q2
 have HQ:=Lib.hid (And.intro q0 (And.intro q1 (And.intro q2 (And.intro hB3 (And.intro hG hg)))))
 have hsm:=seats_made w3
 have hM4:((w3.alloc (.map #[] 0)).alloc (.cells #[.int .i64 0] 3)).heap[w3.heap.size+1]?=some (.cells #[.int .i64 0] 3 (0,0)):=heap_alloc2_new _ _ _
 have hT4:Touch (fun _=>False) w3 ((w3.alloc (.map #[] 0)).alloc (.cells #[.int .i64 0] 3)):=(Touch.alloc _ _).trans (Touch.alloc _ _)
 have hsm4:SeatsAt ((w3.alloc (.map #[] 0)).alloc (.cells #[.int .i64 0] 3)) w3.heap.size 0 []:=hsm.touch (Touch.alloc (S:=fun _=>False) _ _) id
 have hmk:=HMk.out
 have hmm:(Instr.makeMap 166 none).run Tryz.prog w3=.ok (.map (some w3.heap.size)) (w3.alloc (.map #[] 0)):=by kernel_rfl
 obtain ⟨W4,hW4⟩:∃ W4,W4=((w3.alloc (.map #[] 0)).alloc (.cells #[.int .i64 0] 3)):=⟨_,rfl⟩
 rw [<-hW4] at hM4 hT4 hsm4
 have z5:((w3.alloc (.map #[] 0)).alloc (.cells #[.int .i64 0] 3)).cell? ⟨w.heap.size,5,none⟩=some (.slice va nv vc):=by
  rw [<-hW4,cell_of_row _ _ 5 _ _ _ (hT4.heap q0 id)];rfl
 have HB4:=Lib.hid (And.intro hM4 (And.intro hT4 hsm4))
 clear hcall c0 c1 c2 c3 c4 r0 r1 q0 q1 q2 hB2 hB3 hG hg hb3 hsm hM4 hT4 hsm4
 go_wp2_with fail
 rw [<-hW4]
 clear hmk hmm z5 hW4
 obtain ⟨q0,q1,q2,hB3,hG,hg⟩:=HQ.out
 obtain ⟨hM4,hT4,hsm4⟩:=HB4.out
 have s3:=hB3.size
 have l3:=lt_of_heap q2
 have q0:=hT4.heap q0 id
 have q1:=hT4.heap q1 id
 have q2:=hT4.heap q2 id
 have hB4:=hB3.trans (hT4.below (fun _ h=>h.elim) hB3.size)
 have hlg:=lt_of_heap hg
 have hlG:G<w3.heap.size:=World.block_lt_of_cell? _ _ hG
 have hg:=hT4.heap hg id
 have hG:W4.cell? ⟨G,0,none⟩=some (.slice (some ⟨g,0,none⟩) slots slots):=by rw [World.cell?_of_block (w:=w3) (w':=W4) (a:=⟨G,0,none⟩) (hT4.block G hlG id)];exact hG
 obtain ⟨M,hM⟩:∃ M,M=w3.heap.size:=⟨_,rfl⟩
 rw [<-hM] at hM4 hsm4 hlg hlG s3 l3 |-
 clear hM
 have l0:=lt_of_heap q2
 have HBase:=Lib.hid (And.intro q0 (And.intro q1 (And.intro q2 (And.intro hG (And.intro hg hB4)))))
 have HHG:=Lib.hid (And.intro hlg hlG)
 clear q0 q1 q2 hB3 hT4 hB4 hG hg hlg hlG HQ HB4
 go_loopw [44] (fun i W=>∃ j:Nat,j<=nv/\i=.int .i64 j/\Touch (fun k=>k=M\/k=M+1) W4 W/\SeatsAt W M j ((vs.take j).map (·.num))/\W.heap[M+1]?=some (.cells #[.int .i64 j] 3 (0,0))) (fun i _=>nv - (intOf i).toNat)
 case atStart=>exact ⟨0,Nat.zero_le _,rfl,Touch.drewN _ 0,hsm4,hM4⟩
 case round=>
  obtain ⟨j,hj,rfl,hT,hsm,hcnt⟩:=hrel
  obtain ⟨q0,q1,q2,hG,hg,hB4⟩:=HBase.out
  obtain ⟨hlg,hlG⟩:=HHG.out
  have hB:=hB4.trans (hT.below (B:=w.heap.size) (fun i h=>by omega) hB4.size)
  have q0:=hT.heap q0 (by omega)
  have q1:=hT.heap q1 (by omega)
  have q2:=hT.heap q2 (by omega)
  have hg:=hT.heap hg (by omega)
  have hG:wr.cell? ⟨G,0,none⟩=some (.slice (some ⟨g,0,none⟩) slots slots):=by rw [World.cell?_of_block (w:=W4) (w':=wr) (a:=⟨G,0,none⟩) (hT.block G (by have:=World.block_lt_of_cell? _ _ hG;exact this) (by omega))];exact hG
  have l2:=lt_of_heap q2
  have lc:=lt_of_heap hcnt
  have hlG':=World.block_lt_of_cell? _ _ hG
  by_cases hlt:j<nv
  · have hjl:j<vs.length:=by rw [<-HN.out];exact hlt
    have hlt':(j:Int)<(nv:Int):=by omega
    obtain ⟨gv,rfl,hgv,hcs⟩:=vt_at HVs.out HN.out j hjl
    have hchk:=HChk.out _ (List.getElem_mem hjl)
    have hn4:=HNum.out.1 _ (List.getElem_mem hjl)
    have hnew:(vs[j]).num ∉ (vs.take j).map (·.num):=by
     have h2:=HNum.out.2
     have e:vs.map (·.num)=(vs.take j).map (·.num)++(vs.drop j).map (·.num):=by rw [<-List.map_append,List.take_append_drop]
     rw [e] at h2
     intro hin
     have h3:=(List.nodup_append.1 h2).2.2 _ hin ((vs[j]).num) (List.mem_map.2 ⟨vs[j],by rw [List.drop_eq_getElem_cons hjl];exact List.mem_cons_self ..,rfl⟩)
     exact h3 rfl
    have htk:(vs.take (j+1)).map (·.num)=(vs.take j).map (·.num)++[(vs[j]).num]:=by
     rw [List.take_succ_eq_append_getElem hjl,List.map_append];rfl
    have hcs:∀ i,i<15->wr.cell? ⟨gv,j*15+i,none⟩=(vs[j]).row[i]?:=fun i hi=>(hB.cell (p:=⟨gv,j*15+i,none⟩) hgv).trans (hcs i hi)
    generalize vs[j]=v at hchk hn4 hnew htk hcs
    obtain ⟨num,xe,s2,i4,a5,n5,c5,a6,n6,c6,s7,s8,s9,i10,a11,n11,c11,t12,s13,s14⟩:=v
    dsimp only [Vt.row] at hchk hn4 hnew htk hcs
    have k0:wr.cell? ⟨gv,j*15,none⟩=some (.int .u64 xe):=hcs 0 (by decide)
    have k1:wr.cell? ⟨gv,j*15+1,none⟩=some (.int .i64 0):=hcs 1 (by decide)
    have k2:wr.cell? ⟨gv,j*15+2,none⟩=some (.string s2):=hcs 2 (by decide)
    have k3:wr.cell? ⟨gv,j*15+3,none⟩=some (.int .i64 num):=hcs 3 (by decide)
    have k4:wr.cell? ⟨gv,j*15+4,none⟩=some (.int .i64 i4):=hcs 4 (by decide)
    have k5:wr.cell? ⟨gv,j*15+5,none⟩=some (.slice a5 n5 c5):=hcs 5 (by decide)
    have k6:wr.cell? ⟨gv,j*15+6,none⟩=some (.slice a6 n6 c6):=hcs 6 (by decide)
    have k7:wr.cell? ⟨gv,j*15+7,none⟩=some (.string s7):=hcs 7 (by decide)
    have k8:wr.cell? ⟨gv,j*15+8,none⟩=some (.string s8):=hcs 8 (by decide)
    have k9:wr.cell? ⟨gv,j*15+9,none⟩=some (.string s9):=hcs 9 (by decide)
    have k10:wr.cell? ⟨gv,j*15+10,none⟩=some (.int .i64 i10):=hcs 10 (by decide)
    have k11:wr.cell? ⟨gv,j*15+11,none⟩=some (.slice a11 n11 c11):=hcs 11 (by decide)
    have k12:wr.cell? ⟨gv,j*15+12,none⟩=some (.bool t12):=hcs 12 (by decide)
    have k13:wr.cell? ⟨gv,j*15+13,none⟩=some (.string s13):=hcs 13 (by decide)
    have k14:wr.cell? ⟨gv,j*15+14,none⟩=some (.string s14):=hcs 14 (by decide)
    have hTa:Touch (fun _=>False) wr ((wr.alloc (.cells #[.int .u64 xe,.int .i64 0,.string s2,.int .i64 num,.int .i64 i4,.slice a5 n5 c5,.slice a6 n6 c6,.string s7,.string s8,.string s9,.int .i64 i10,.slice a11 n11 c11,.bool t12,.string s13,.string s14] 92)).alloc (.cells #[.int .i64 0,.int .i64 num] 168)):=(Touch.alloc _ _).trans (Touch.alloc _ _)
    have hsm6:=hsm.touch hTa id
    have hlk:=hsm6.look num hn4 hnew
    obtain ⟨W7,hup,hsm7,htn⟩:=hsm6.put num hn4 (by omega)
    have hT7:Touch (fun k=>k=M) ((wr.alloc (.cells #[.int .u64 xe,.int .i64 0,.string s2,.int .i64 num,.int .i64 i4,.slice a5 n5 c5,.slice a6 n6 c6,.string s7,.string s8,.string s9,.int .i64 i10,.slice a11 n11 c11,.bool t12,.string s13,.string s14] 92)).alloc (.cells #[.int .i64 0,.int .i64 num] 168)) W7:=(Touch.grown htn.grown).mono (fun k h=>.inl (Option.some.inj h))
    have hTr7:Touch (fun k=>k=M) wr W7:=(hTa.mono (fun _ h=>h.elim)).trans hT7
    have hv7:W7.heap[wr.heap.size]?=some (.cells #[.int .u64 xe,.int .i64 0,.string s2,.int .i64 num,.int .i64 i4,.slice a5 n5 c5,.slice a6 n6 c6,.string s7,.string s8,.string s9,.int .i64 i10,.slice a11 n11 c11,.bool t12,.string s13,.string s14] 92 (0,0)):=hT7.heap (heap_alloc2_old _ _ _) (by omega)
    have q07:=hTr7.heap q0 (by omega)
    have q17:=hTr7.heap q1 (by omega)
    have hc7:=hTr7.heap hcnt (by omega)
    have hg7:=hTr7.heap hg (by omega)
    have hG7:W7.cell? ⟨G,0,none⟩=some (.slice (some ⟨g,0,none⟩) slots slots):=by rw [World.cell?_of_block (w:=wr) (w':=W7) (a:=⟨G,0,none⟩) (hTr7.block G hlG' (by omega))];exact hG
    have hB7:=hB.trans (hTr7.below (B:=w.heap.size) (fun i h=>by omega) hB.size)
    have hcall:=Lib.hid (hchk W7 G c g hB7 hG7 hg7)
    have v0:W7.cell? ⟨wr.heap.size,0,none⟩=some (.int .u64 xe):=cel hv7
    have v1:W7.cell? ⟨wr.heap.size,1,none⟩=some (.int .i64 0):=cel hv7
    have v2:W7.cell? ⟨wr.heap.size,2,none⟩=some (.string s2):=cel hv7
    have v3:W7.cell? ⟨wr.heap.size,3,none⟩=some (.int .i64 num):=cel hv7
    have v4:W7.cell? ⟨wr.heap.size,4,none⟩=some (.int .i64 i4):=cel hv7
    have v5:W7.cell? ⟨wr.heap.size,5,none⟩=some (.slice a5 n5 c5):=cel hv7
    have v6:W7.cell? ⟨wr.heap.size,6,none⟩=some (.slice a6 n6 c6):=cel hv7
    have v7:W7.cell? ⟨wr.heap.size,7,none⟩=some (.string s7):=cel hv7
    have v8:W7.cell? ⟨wr.heap.size,8,none⟩=some (.string s8):=cel hv7
    have v9:W7.cell? ⟨wr.heap.size,9,none⟩=some (.string s9):=cel hv7
    have v10:W7.cell? ⟨wr.heap.size,10,none⟩=some (.int .i64 i10):=cel hv7
    have v11:W7.cell? ⟨wr.heap.size,11,none⟩=some (.slice a11 n11 c11):=cel hv7
    have v12:W7.cell? ⟨wr.heap.size,12,none⟩=some (.bool t12):=cel hv7
    have v13:W7.cell? ⟨wr.heap.size,13,none⟩=some (.string s13):=cel hv7
    have v14:W7.cell? ⟨wr.heap.size,14,none⟩=some (.string s14):=cel hv7
    have c0:W7.cell? ⟨w.heap.size,0,none⟩=some (.int .u64 ep):=cel q07
    have c1:W7.cell? ⟨w.heap.size,1,none⟩=some (.string hps):=cel q07
    have c2:W7.cell? ⟨w.heap.size,2,none⟩=some (.int .i64 0):=cel q07
    have c3:W7.cell? ⟨w.heap.size,3,none⟩=some (.int .i64 hau):=cel q07
    have c4:W7.cell? ⟨w.heap.size,4,none⟩=some (.slice hna hN hnc):=cel q07
    obtain ⟨p0,p1,p2,p3,p4,_,_,_,_,_⟩:=ten_of_row q17
    have HS:=Lib.hid (And.intro hsm7 (And.intro hc7 (And.intro hv7 (And.intro hTr7 hT))))
    have HTK:=Lib.hid htk
    have lM:M<wr.heap.size:=by omega
    have lv:wr.heap.size<W7.heap.size:=lt_of_heap hv7
    clear hchk hnew hn4 htk hcs hTa hsm6 hsm7 htn hT7 hTr7 hv7 q07 q17 hc7 hg7 hG7 hB7 q0 q1 q2 hG hg hB4 hB hT hsm hcnt hlG' hgv
    go_wp2_with fail
    refine hcall.out.mono ?_
    rintro e w8 ⟨rfl,hb8⟩
    obtain ⟨hsm7,hc7,hv7,hTr7,hT⟩:=HS.out
    have hc8:=(hb8.block _ (lt_of_heap hc7)).trans hc7
    have hv8:=(hb8.block _ lv).trans hv7
    have b8:w8.cell? ⟨wr.heap.size,1,none⟩=some (.int .i64 0):=cel hv8
    have n8:w8.cell? ⟨M+1,0,none⟩=some (.int .i64 j):=cel hc8
    have f8:w8.frozen? ⟨M+1,0,none⟩=false:=frozen_of_row _ _ 0 _ _ hc8
    have e8:IntKind.i64.wrap ((j:Int)+1)=((j+1:Nat):Int):=IntWalk.i64_in _ (by omega)
    have hT8:Touch (fun k=>k=M\/k=M+1) W4 (w8.setCell ⟨M+1,0,none⟩ (.int .i64 ((j+1:Nat):Int))):=
     ((hT.trans (hTr7.mono (fun k h=>.inl (.inl h)))).trans (Touch.of_below hb8 _)).trans (Touch.setCell _ _ _ (.inr rfl))
    have hsm8:SeatsAt (w8.setCell ⟨M+1,0,none⟩ (.int .i64 ((j+1:Nat):Int))) M (j+1) ((vs.take (j+1)).map (·.num)):=by
     rw [HTK.out]
     exact (hsm7.touch (Touch.of_below hb8 (fun _=>False)) id).touch (Touch.setCell (S:=fun k=>k=M+1) _ _ _ rfl) (by omega)
    have hc9:(w8.setCell ⟨M+1,0,none⟩ (.int .i64 ((j+1:Nat):Int))).heap[M+1]?=some (.cells #[.int .i64 ((j+1:Nat):Int)] 3 (0,0)):=heap_setCell_same w8 (M+1) 0 _ _ _ hc8
    have H9:=Lib.hid (And.intro hT8 (And.intro hsm8 hc9))
    clear hcall hsm7 hc7 hv7 hTr7 hT hc8 hv8 hT8 hsm8 hc9 hb8 hup hlk k0 k1 k2 k3 k4 k5 k6 k7 k8 k9 k10 k11 k12 k13 k14 v0 v1 v2 v3 v4 v5 v6 v7 v8 v9 v10 v11 v12 v13 v14 c0 c1 c2 c3 c4 p0 p1 p2 p3 p4 HTK
    go_wp2
    go_roundw
    case rel=>exact ⟨j+1,by omega,by go_num,H9.out.1,H9.out.2.1,H9.out.2.2⟩
    case measure=>simp [intOf];omega
  · obtain rfl:j=nv:=by omega
    have n8:wr.cell? ⟨M+1,0,none⟩=some (.int .i64 j):=cel hcnt
    have r1:wr.cell? ⟨w.heap.size+2,1,none⟩=some (.int .i64 needed):=cel q2
    have HB:=Lib.hid hB
    clear q0 q1 q2 hG hg hB4 hB hT hsm hcnt hlG' hsm4 hM4
    go_wp2_with fail
    go_loopw [80] (fun i W=>(i=.int .i64 0\/(i=.int .i64 1/\r=0))/\W=wr) (fun i _=>1 - (intOf i).toNat)
    case atStart=>exact ⟨.inl rfl,rfl⟩
    case round=>
     obtain ⟨rfl | ⟨rfl,hr0⟩,hW⟩:=hrel
     all_goals subst hW
     · by_cases hlt:j<needed
       · have hr:=HR.out.1 hlt
         have hlt':(j:Int)<(needed:Int):=by omega
         go_wp2
         go_ret
         exact ⟨by rw [hr];rfl,HB.out⟩
       · have hr:=HR.out.2 (by omega)
         have hlt':¬ (j:Int)<(needed:Int):=by omega
         go_wp2
         go_roundw
         case rel=>exact ⟨.inr ⟨by go_num,hr⟩,trivial⟩
         case measure=>simp [intOf]
     · clear n8 r1
       go_wp2
       go_ret
       exact ⟨by rw [hr0];rfl,HB.out⟩
def KeyU (w:World) (b e:Nat) (seed:List UInt8):Prop:=
 e<=w.heap.size/\b<e/\∃ g c,w.heap[b]?=some (.cells #[.string ⟨seed.toArray⟩,.string ⟨(openOf seed).toArray⟩,.string ⟨(rootOf4 seed).toArray⟩,.int .i64 2,.slice (some ⟨g,0,none⟩) 4 c] 195 (0,0))/\Cells w (.slice (some ⟨g,0,none⟩) 4 c) (txs (leavesTo seed 4))/\b<=g/\g<e
theorem KeyU.key {w:World} {b e:Nat} {seed:List UInt8} (h:KeyU w b e seed):Key4 w b seed:=by
 obtain ⟨h0,_,g,c,h1,h2,h3,h4⟩:=h
 exact ⟨g,c,h1,h2,h3,by omega⟩
theorem KeyU.of {w:World} {b:Nat} {seed:List UInt8} (h:Key4 w b seed):KeyU w b w.heap.size seed:=by
 obtain ⟨g,c,h1,h2,h3,h4⟩:=h
 exact ⟨Nat.le_refl _,lt_of_heap h1,g,c,h1,h2,h3,h4⟩
theorem KeyU.touch {S:Nat->Prop} {w w':World} {b e:Nat} {seed:List UInt8} (h:KeyU w b e seed) (ht:Touch S w w') (hs:∀ k,b<=k->k<e->¬ S k):KeyU w' b e seed:=by
 obtain ⟨h0,hb,g,c,h1,h2,h3,h4⟩:=h
 exact ⟨Nat.le_trans h0 ht.size,hb,g,c,ht.heap h1 (hs b (Nat.le_refl _) hb),ht.cells h2 (fun k hk=>by injection hk with hk;subst hk;exact hs g h3 h4),h3,h4⟩
theorem KeyU.mono {w:World} {b e e':Nat} {seed:List UInt8} (h:KeyU w b e seed) (he:e<=e') (h':e'<=w.heap.size):KeyU w b e' seed:=by
 obtain ⟨h0,hb,g,c,h1,h2,h3,h4⟩:=h
 exact ⟨h',by omega,g,c,h1,h2,h3,by omega⟩
def seedA (i:Nat):List UInt8:=[97,117,100,105,116,111,114,UInt8.ofNat (97+i)]
theorem one_byte (W:World) (i:Nat) (hi:i<=4):(convert 58 9 (.slice (some ⟨W.heap.size,0,none⟩) 1 1)).run Tryz.prog (W.alloc (.cells #[.int .u8 ((97+i:Nat):Int)] 5))=.ok (.string ⟨[UInt8.ofNat (97+i)].toArray⟩) (W.alloc (.cells #[.int .u8 ((97+i:Nat):Int)] 5)):=by
 have e:(#[.int .u8 ((97+i:Nat):Int)]:Array Value)=(bytesV [UInt8.ofNat (97+i)]).toArray:=by
  simp only [bytesV,List.map_cons,List.map_nil]
  simp
  omega
 rw [e]
 exact run_string_block Tryz.underlying58 Tryz.underlying5 Tryz.underlying9 (heap_alloc_new W _) rfl
def KeysAt (w:World) (m v n E:Nat) (va:Option Addr) (bs:Nat->Nat):Prop:=
 w.ownsRow m 94 1 (.slice va n v) n ((List.range n).map fun i=>.pointer (some ⟨bs i,0,none⟩))/\∀ i,i<n->m<=bs i/\KeyU w (bs i) E (seedA i)
theorem keys_any (n:Nat) (w:World) (hn:n<=5) (hK:Kon w) :
 Calls Tryz.prog 24 #[.int .i64 n] w fun e w'=>∃ va vc bs,e=.returned (.slice va n vc)/\KeysAt w' w.heap.size vc n w'.heap.size va bs/\Below w.heap.size w w':=by
 have HK:=Lib.hid hK
 have hi0:(Tryz.prog.info? 94).map (fun i=>(i.zero,i.size,i.bytes))=some (some (.pointer none),1,8):=by kernel_rfl
 clear hK
 go_enter Tryz.func24,Tryz.ntmps24
 go_wp2_with fail
 go_loopw [3,4] (fun v i W=>∃ (k:Nat) (bs es:Nat->Nat),k<=n/\i=.int .i64 k/\W.ownsRow w.heap.size 94 1 v k ((List.range k).map fun i=>.pointer (some ⟨bs i,0,none⟩))/\(∀ i,i<k->w.heap.size<=bs i/\KeyU W (bs i) (es i) (seedA i)/\∀ j,bs i<=j->j<es i->v.ownBlock≠some j)/\Below w.heap.size w W) (fun _ i _=>n - (intOf i).toNat)
 case atStart=>exact ⟨0,fun _=>0,fun _=>0,Nat.zero_le _,rfl,World.ownsRow_nil _ _ _ _,fun i h=>absurd h (Nat.not_lt_zero _),Below.refl _ _⟩
 case round=>
  obtain ⟨k,bs,es,hk,rfl,hown,hkeys,hb⟩:=hrel
  by_cases hlt:k<n
  · have hlt':(k:Int)<n:=by omega
    have v1:IntKind.i64.wrap (97+(k:Int))=((97+k:Nat):Int):=by rw [IntWalk.i64_in _ (by omega)];omega
    have v2:IntKind.u8.wrap ((97+k:Nat):Int)=((97+k:Nat):Int):=by rw [IntKind.wrap_u8];omega
    have hst:=one_byte wr k (by omega)
    have hcat:(⟨#[97,117,100,105,116,111,114]⟩:ByteArray)++⟨[UInt8.ofNat (97+k)].toArray⟩=⟨(seedA k).toArray⟩:=rfl
    have hb1:Below w.heap.size w (wr.alloc (.cells #[.int .u8 ((97+k:Nat):Int)] 5)):=hb.alloc hb.size _
    have hcall:=Lib.hid (xnew_two ⟨(seedA k).toArray⟩ (wr.alloc (.cells #[.int .u8 ((97+k:Nat):Int)] 5)) (by show (seedA k).toArray.size<=1000;simp [seedA]) (HK.out.old hb1))
    have HB:=Lib.hid (And.intro hown (And.intro hkeys (And.intro hb hb1)))
    obtain ⟨nk,hnk⟩:∃ nk,nk=97+k:=⟨_,rfl⟩
    rw [<-hnk] at v1 v2 hst hcat hcall HB
    have hwr:=hb.size
    clear hown hkeys hb hb1 hnk
    go_wp2_with fail
    refine hcall.out.mono ?_
    rintro e w2 ⟨b,rfl,hbge,hkey',hb2⟩
    have hkey:Key4 w2 b (seedA k):=hkey'
    obtain ⟨hown,hkeys,hb,hb1⟩:=HB.out
    have hbr:Below wr.heap.size wr w2:=((Below.refl _ _).alloc (Nat.le_refl _) _).trans (hb2.mono (by rw [World.size_alloc];omega))
    have hB2:=hb.trans (hbr.mono hb.size)
    have s2:=hB2.size
    have sr:=hbr.size
    have hge:wr.heap.size<=b:=by rw [World.size_alloc] at hbge;omega
    have hown2:=(Touch.of_below hbr (fun _=>False)).own hown (fun _ _ h=>h)
    have hvlt:∀ j,u3.ownBlock=some j->j<wr.heap.size:=fun j hj=>by
     obtain ⟨_,_,h⟩:=own_heap hown j hj
     exact lt_of_heap h
    have hk2:=fun i (hi:i<k)=>((hkeys i hi).2.1.touch (Touch.of_below hbr (fun _=>False)) (fun _ _ _ h=>h))
    have HC:=Lib.hid (And.intro hkeys (And.intro hvlt (And.intro hk2 (And.intro (KeyU.of hkey) (And.intro hB2 hown2)))))
    clear hcall hst v1 v2 hcat HB hown hkeys hb hb1 hbr hB2 hbge hkey hkey' hb2 hvlt hk2
    go_wp2_with (at_builtin;refine Hid.out ?_)
    unfold Hid
    refine wpList_appW rfl rfl Tryz.underlying62 hi0 rfl 1 hown2 rfl rfl rfl (by intro u hu;simp at hu;subst hu;rfl) (by omega) (by unfold maxLen;omega) s2 ?_
    intro v' w5 hown5 hgr hns
    have hown5:w5.ownsRow w.heap.size 94 1 v' (k+1) (((List.range k).map fun i=>.pointer (some ⟨bs i,0,none⟩))++[.pointer (some ⟨b,0,none⟩)]):=hown5
    have H5:=Lib.hid (And.intro hown5 (And.intro hgr hns))
    clear hown2 hown5 hgr hns
    go_wp2
    go_roundw
    case rel=>
     obtain ⟨hown5,hgr,hns⟩:=H5.out
     obtain ⟨hkeys,hvlt,hk2,hkn,hB2,hown2'⟩:=HC.out
     have hT:=Touch.grown hgr
     refine ⟨k+1,fun i=>if i=k then b else bs i,fun i=>if i=k then w2.heap.size else es i,by omega,by go_num,?_,fun i hi=>?_,?_⟩
     · have e:((List.range (k+1)).map fun i=>(Value.pointer (some ⟨if i=k then b else bs i,0,none⟩)))=((List.range k).map fun i=>.pointer (some ⟨bs i,0,none⟩))++[.pointer (some ⟨b,0,none⟩)]:=by
        rw [List.range_succ,List.map_append]
        congr 1
        · refine List.map_congr_left fun i hi=>?_
          rw [if_neg (by have:=List.mem_range.1 hi;omega)]
        · simp
       rw [e]
       exact hown5
     · by_cases e:i=k
       · subst e
         simp only [if_true]
         refine ⟨Nat.le_trans hwr hge,hkn.touch hT (fun j h1 h2 h3=>by have:=hvlt j h3.symm;omega),fun j h1 h2 h3=>?_⟩
         rcases hns with h4 | h4
         · have:=hvlt j (by rw [<-h4];exact h3)
           omega
         · have:=h4 j h3
           omega
       · have hik:i<k:=by omega
         simp only [if_neg e]
         have he:=(hkeys i hik).2.1.1
         refine ⟨(hkeys i hik).1,(hk2 i hik).touch hT (fun j h1 h2 h3=>(hkeys i hik).2.2 j h1 h2 h3.symm),fun j h1 h2 h3=>?_⟩
         rcases hns with h4 | h4
         · exact (hkeys i hik).2.2 j h1 h2 (by rw [<-h4];exact h3)
         · have:=h4 j h3
           omega
     · exact hB2.trans (hT.below (fun j h=>(hown2'.lt j h.symm).1) s2)
    case measure=>simp [intOf];omega
  · obtain rfl:k=n:=by omega
    have HB:=Lib.hid (And.intro hown (And.intro hkeys hb))
    clear hown hkeys hb
    go_wp2
    go_ret
    obtain ⟨hown,hkeys,hb⟩:=HB.out
    obtain ⟨va,vc,rfl⟩:=own_slice hown
    exact ⟨va,vc,bs,rfl,⟨hown,fun i hi=>⟨(hkeys i hi).1,(hkeys i hi).2.1.mono (hkeys i hi).2.1.1 (Nat.le_refl _)⟩⟩,hb⟩
end Go.Proofs.YtcgkomafaepjnaaGreatDoor
