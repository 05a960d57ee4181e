/- Package server: the headers of a server that has published once; a member by the first epoch. Conditions: the number is of the roster. -/
import Derived.Test.YtcgkomafaepjnaaGreatDoorTL25
import Derived.Test.YtcgkomafaepjnaaGreatDoorTL7
set_option maxRecDepth 100000
set_option maxHeartbeats 16000000
namespace Go.Proofs.YtcgkomafaepjnaaGreatDoor
open Go.RowKit
theorem oneCell_heads (x0 x5:Nat) (p1 p6:ByteArray) (d n:Nat) (v4 v9:Value) (h4:v4.oneCell'=true) (h9:v9.oneCell'=true):∀ u∈([.int .u64 x0,.string p1,.int .i64 d,.int .i64 n,v4,.int .u64 x5,.string p6,.int .i64 d,.int .i64 n,v9]:List Value),u.oneCell'=true:=by
 intro u hu
 simp only [List.mem_cons,List.not_mem_nil,or_false] at hu
 rcases hu with rfl | rfl | rfl | rfl | rfl | rfl | rfl | rfl | rfl | rfl
 all_goals first | rfl | assumption
theorem sheaders_any (p d:Nat) (auds:List Aud) (us:List (List UInt8×List UInt8)) (S:Nat->Prop) (w:World) (h:SrvB w S p d auds us) (hd3:d<=3) :
 Calls Tryz.prog 29 #[.pointer (some ⟨p,0,none⟩)] w fun e w'=>∃ v na nc na1 nc1,e=.returned v/\w'.ownsRow w.heap.size 69 5 v 2 [.int .u64 0,.string ⟨nought16.toArray⟩,.int .i64 d,.int .i64 auds.length,.slice na (2^d) nc,.int .u64 1,.string ⟨(dig0 d auds).toArray⟩,.int .i64 d,.int .i64 auds.length,.slice na1 (2^d) nc1]/\Cells w (.slice na (2^d) nc) (txs (nodes0 d auds))/\Cells w (.slice na1 (2^d) nc1) (txs (nodes1 d auds us))/\Keyrow w na nc (nodes0 d auds)/\Below w.heap.size w w':=by
 obtain ⟨nl,nr,t0,tb,t1,tb1,x1,x5,x6,x7,x8,tv,hv,v2,na,nc,na1,nc1,h⟩:=h
 obtain ⟨_,_,_,_,_,_,_,_,_,_,c10,_⟩:=h.row.cells
 have hcl:=Lib.hid (clone_heads 0 hv 2 _ w h.heads (oneCell_heads _ _ _ _ _ _ _ _ rfl rfl) (by decide))
 have hlv:(nodes0 d auds).length=2^d:=level_length _ _ _
 have hfw:(nodes0 d auds).length<=100000:=by
  rw [hlv]
  exact Nat.le_trans (Nat.pow_le_pow_right (by decide) hd3) (by decide)
 have HC:=Lib.hid (And.intro (cells_of_own h.nodes0) (And.intro (cells_of_own h.nodes1) (keyrow_of_own h.nodes0 hfw hlv.symm).1))
 clear hlv hfw
 clear h
 go_enter Tryz.func29,Tryz.ntmps29
 go_wp2_with fail
 refine hcl.out.mono ?_
 rintro e w1 ⟨v',rfl,ho1,hb1⟩
 have HF:=Lib.hid (And.intro ho1 hb1)
 clear hcl ho1 hb1 c10
 go_wp2
 go_ret
 exact ⟨_,na,nc,na1,nc1,rfl,HF.out.1,HC.out.1,HC.out.2.1,HC.out.2.2,HF.out.2⟩
theorem member_store {w V:World} (xs:ByteArray) (xo xr:List UInt8) (xh:Nat) (a':Option Addr) (c':Nat) (pf:Pf) {y0 y1 y2 y3 z0 z1 z2 z3:Value} {t t':TypeId} (hb:Below w.heap.size w V) (hk:Keyrow V a' c' pf.beside) (hl:∀ q o,a'=some ⟨q,o,none⟩->w.heap.size+2<=q) (hA:V.heap[w.heap.size]?=some (.cells #[y0,y1,y2,y3] t (0,0))) (hP:V.heap[w.heap.size+1]?=some (.cells #[z0,z1,z2,z3] t' (0,0))) :
 ∃ V2,((((((((V.setCell ⟨w.heap.size,0,none⟩ (.string xs)).setCell ⟨w.heap.size,1,none⟩ (.string ⟨xo.toArray⟩)).setCell ⟨w.heap.size,2,none⟩ (.string ⟨xr.toArray⟩)).setCell ⟨w.heap.size,3,none⟩ (.int .i64 xh)).setCell ⟨w.heap.size+1,0,none⟩ (.slice a' pf.beside.length c')).setCell ⟨w.heap.size+1,1,none⟩ (.bool pf.there)).setCell ⟨w.heap.size+1,2,none⟩ (.string ⟨pf.key.toArray⟩)).setCell ⟨w.heap.size+1,3,none⟩ (.string ⟨pf.val.toArray⟩)).drew=V2/\V2.heap[w.heap.size]?=some (.cells #[.string xs,.string ⟨xo.toArray⟩,.string ⟨xr.toArray⟩,.int .i64 xh] t (0,0))/\V2.heap[w.heap.size+1]?=some (.cells #[.slice a' pf.beside.length c',.bool pf.there,.string ⟨pf.key.toArray⟩,.string ⟨pf.val.toArray⟩] t' (0,0))/\Below w.heap.size w V2/\Keyrow V2 a' c' pf.beside:=by
 have hn:w.heap.size≠w.heap.size+1:=by omega
 have ne0:∀ (W:World) (i:Nat) (v:Value),(W.setCell ⟨w.heap.size,i,none⟩ v).heap[w.heap.size+1]?=W.heap[w.heap.size+1]?:=fun W i v=>Below.heap_setCell _ _ _ _ (fun e=>by have e':w.heap.size+1=w.heap.size:=e;omega)
 have ne1:∀ (W:World) (i:Nat) (v:Value),(W.setCell ⟨w.heap.size+1,i,none⟩ v).heap[w.heap.size]?=W.heap[w.heap.size]?:=fun W i v=>Below.heap_setCell _ _ _ _ (fun e=>by have e':w.heap.size=w.heap.size+1:=e;omega)
 have hA4:=four_store (.string xs) (.string ⟨xo.toArray⟩) (.string ⟨xr.toArray⟩) (.int .i64 xh) hA
 have hP4:((((V.setCell ⟨w.heap.size,0,none⟩ (.string xs)).setCell ⟨w.heap.size,1,none⟩ (.string ⟨xo.toArray⟩)).setCell ⟨w.heap.size,2,none⟩ (.string ⟨xr.toArray⟩)).setCell ⟨w.heap.size,3,none⟩ (.int .i64 xh)).heap[w.heap.size+1]?=_:=((ne0 _ _ _).trans ((ne0 _ _ _).trans ((ne0 _ _ _).trans (ne0 _ _ _)))).trans hP
 have hb4:=four_below (.string xs) (.string ⟨xo.toArray⟩) (.string ⟨xr.toArray⟩) (.int .i64 xh) hb (Nat.le_refl _)
 have hk4:Keyrow ((((V.setCell ⟨w.heap.size,0,none⟩ (.string xs)).setCell ⟨w.heap.size,1,none⟩ (.string ⟨xo.toArray⟩)).setCell ⟨w.heap.size,2,none⟩ (.string ⟨xr.toArray⟩)).setCell ⟨w.heap.size,3,none⟩ (.int .i64 xh)) a' c' pf.beside:=by
  exact hk.touch (((Touch.setCell (S:=fun k=>k=w.heap.size) V ⟨w.heap.size,0,none⟩ _ rfl).trans (Touch.setCell (S:=fun k=>k=w.heap.size) _ ⟨w.heap.size,1,none⟩ _ rfl)).trans ((Touch.setCell (S:=fun k=>k=w.heap.size) _ ⟨w.heap.size,2,none⟩ _ rfl).trans (Touch.setCell (S:=fun k=>k=w.heap.size) _ ⟨w.heap.size,3,none⟩ _ rfl))) (fun g o h e=>by have:=hl g o h;omega)
 generalize ((((V.setCell ⟨w.heap.size,0,none⟩ (.string xs)).setCell ⟨w.heap.size,1,none⟩ (.string ⟨xo.toArray⟩)).setCell ⟨w.heap.size,2,none⟩ (.string ⟨xr.toArray⟩)).setCell ⟨w.heap.size,3,none⟩ (.int .i64 xh))=V4 at hA4 hP4 hb4 hk4 |-
 refine ⟨_,rfl,?_,four_store _ _ _ _ hP4,(four_below _ _ _ _ hb4 (by omega)).drew,?_⟩
 · exact ((ne1 _ _ _).trans ((ne1 _ _ _).trans ((ne1 _ _ _).trans (ne1 _ _ _)))).trans hA4
 · have h5:Keyrow ((((V4.setCell ⟨w.heap.size+1,0,none⟩ (.slice a' pf.beside.length c')).setCell ⟨w.heap.size+1,1,none⟩ (.bool pf.there)).setCell ⟨w.heap.size+1,2,none⟩ (.string ⟨pf.key.toArray⟩)).setCell ⟨w.heap.size+1,3,none⟩ (.string ⟨pf.val.toArray⟩)) a' c' pf.beside:=
    hk4.touch (((Touch.setCell (S:=fun k=>k=w.heap.size+1) V4 ⟨w.heap.size+1,0,none⟩ _ rfl).trans (Touch.setCell (S:=fun k=>k=w.heap.size+1) _ ⟨w.heap.size+1,1,none⟩ _ rfl)).trans ((Touch.setCell (S:=fun k=>k=w.heap.size+1) _ ⟨w.heap.size+1,2,none⟩ _ rfl).trans (Touch.setCell (S:=fun k=>k=w.heap.size+1) _ ⟨w.heap.size+1,3,none⟩ _ rfl))) (fun g o h e=>by have:=hl g o h;omega)
   exact h5.touch (Touch.drewN (S:=fun _=>False) _ 1) (fun _ _ _ h=>h)
theorem smember_any (p d:Nat) (auds:List Aud) (us:List (List UInt8×List UInt8)) (S:Nat->Prop) (k:Nat) (hk:k<auds.length) (xs:ByteArray) (xo xr:List UInt8) (xh:Nat) (hx:auds[k]=⟨xs,xo,xr,xh⟩) (w:World) (h:SrvB w S p d auds us) (h64:auds.length<=60) (hK:Kon w) :
 Calls Tryz.prog 77 #[.pointer (some ⟨p,0,none⟩),.int .u64 0,.int .i64 k] w fun e w'=>∃ a c pf n,e=.returned (.tuple #[audV xs xo xr xh,.agg #[.slice a pf.beside.length c,.bool pf.there,.string ⟨pf.key.toArray⟩,.string ⟨pf.val.toArray⟩],.int .i64 0])/\Keyrow w' a c pf.beside/\Made hs (valOf (layP auds [] auds.length)) (keysOf (layP auds [] auds.length)) (posOf k) 0 pf n/\(∀ q o,a=some ⟨q,o,none⟩->w.heap.size<=q)/\Below w.heap.size w w':=by
 obtain ⟨nl,nr,t0,tb,t1,tb1,x1,x5,x6,x7,x8,tv,hv,v2,na,nc,na1,nc1,h⟩:=h
 obtain ⟨ra,rc,rfl⟩:=own_slice h.rosr
 obtain ⟨gh,ch,rfl,_,_⟩:=h.heads.form (by decide)
 obtain ⟨gt,ct,rfl,_,_⟩:=h.trees.form (by decide)
 have hadd:∀ g i,(⟨g,0,none⟩:Addr).add i=⟨g,i,none⟩:=fun g i=>by unfold Addr.add;split <;> simp_all
 have y3:=h.heads.cells (g:=gh) rfl 3 _ rfl
 have z0:=h.trees.cells (g:=gt) rfl 0 _ rfl
 rw [hadd] at y3 z0
 have HCel:=Lib.hid (fun (W:World) (hb:Below w.heap.size w W)=>(show W.cell? ⟨p,4,none⟩=some (.pointer (some ⟨nr,0,none⟩))/\W.cell? ⟨p,9,none⟩=some (.slice (some ⟨gt,0,none⟩) 2 ct)/\W.cell? ⟨p,10,none⟩=some (.slice (some ⟨gh,0,none⟩) 2 ch)/\W.cell? ⟨gh,3,none⟩=some (.int .i64 auds.length)/\W.cell? ⟨gt,0,none⟩=some (.pointer (some ⟨t0,0,none⟩)) from by
  obtain ⟨_,_,_,_,c4,_,_,_,_,c9,c10,_⟩:=h.row.cells
  exact ⟨(hb.cell (World.block_lt_of_cell? _ _ c4)).trans c4,(hb.cell (World.block_lt_of_cell? _ _ c9)).trans c9,(hb.cell (World.block_lt_of_cell? _ _ c10)).trans c10,(hb.cell (World.block_lt_of_cell? _ _ y3)).trans y3,(hb.cell (World.block_lt_of_cell? _ _ z0)).trans z0⟩))
 have hAt:=Lib.hid (fun (W:World) (hb:Below w.heap.size w W)=>rat_any nr 0 ra auds.length rc auds W ((hb.block _ (lt_of_heap h.ros)).trans h.ros) ((Touch.of_below hb (fun _=>False)).own h.rosr (fun _ _ h=>h)) rfl k hk ⟨xs,xo,xr,xh⟩ hx)
 have hPl:=Lib.hid (fun (W:World) (hb:Below w.heap.size w W)=>rplace_any k W (by omega) (hK.old hb))
 have hPr:=Lib.hid (fun (W:World) (hb:Below w.heap.size w W)=>(show Calls Tryz.prog 19 #[.pointer (some ⟨t0,0,none⟩),.string ⟨(posOf k).toArray⟩,.int .i64 0] W fun e w'=>∃ a c pf n,e=.returned (.tuple #[.agg #[.slice a pf.beside.length c,.bool pf.there,.string ⟨pf.key.toArray⟩,.string ⟨pf.val.toArray⟩],.int .i64 0])/\Keyrow w' a c pf.beside/\Made hs (valOf (layP auds [] auds.length)) (keysOf (layP auds [] auds.length)) (posOf k) 0 pf n/\Below W.heap.size W w'/\∀ g o,a=some ⟨g,o,none⟩->W.heap.size<=g from pprove_any t0 tb (layP auds [] auds.length) (posOf k) 0 W (h.tree0.old hb) (hK.old hb) (posOf_length k) (by decide)))
 have e1:¬ ((k:Int)<0):=by omega
 have e2:¬ ((auds.length:Int)<=(k:Int)):=by omega
 generalize posOf k=PO at hPl hPr
 generalize layP auds [] auds.length=m0 at hPr
 clear h y3 z0 hadd hK
 dsimp only at hAt
 have hb0:Below w.heap.size w ((w.alloc (.cells #[.string ⟨#[]⟩,.string ⟨#[]⟩,.string ⟨#[]⟩,.int .i64 0] 90)).alloc (.cells #[.slice none 0 0,.bool false,.string ⟨#[]⟩,.string ⟨#[]⟩] 51)):=((Below.refl _ _).alloc (Nat.le_refl _) _).alloc (by simp) _
 have hrA:((w.alloc (.cells #[.string ⟨#[]⟩,.string ⟨#[]⟩,.string ⟨#[]⟩,.int .i64 0] 90)).alloc (.cells #[.slice none 0 0,.bool false,.string ⟨#[]⟩,.string ⟨#[]⟩] 51)).heap[w.heap.size]?=some (.cells #[.string ⟨#[]⟩,.string ⟨#[]⟩,.string ⟨#[]⟩,.int .i64 0] 90 (0,0)):=heap_alloc2_old _ _ _
 have hrP:((w.alloc (.cells #[.string ⟨#[]⟩,.string ⟨#[]⟩,.string ⟨#[]⟩,.int .i64 0] 90)).alloc (.cells #[.slice none 0 0,.bool false,.string ⟨#[]⟩,.string ⟨#[]⟩] 51)).heap[w.heap.size+1]?=some (.cells #[.slice none 0 0,.bool false,.string ⟨#[]⟩,.string ⟨#[]⟩] 51 (0,0)):=heap_alloc2_new _ _ _
 obtain ⟨c4,c9,c10,y3,z0⟩:=HCel.out ((w.alloc (.cells #[.string ⟨#[]⟩,.string ⟨#[]⟩,.string ⟨#[]⟩,.int .i64 0] 90)).alloc (.cells #[.slice none 0 0,.bool false,.string ⟨#[]⟩,.string ⟨#[]⟩] 51)) hb0
 go_enter Tryz.func77,Tryz.ntmps77
 go_wp2_with fail
 clear c4 c9 c10 y3 z0
 generalize ((w.alloc (.cells #[.string ⟨#[]⟩,.string ⟨#[]⟩,.string ⟨#[]⟩,.int .i64 0] 90)).alloc (.cells #[.slice none 0 0,.bool false,.string ⟨#[]⟩,.string ⟨#[]⟩] 51))=W0 at hb0 hrA hrP |-
 refine (hAt.out W0 hb0).mono ?_
 unfold audV
 rintro e w1 ⟨rfl,hb1⟩
 have hB1:=hb0.trans (hb1.mono hb0.size)
 have s0:=hb0.size
 have s1:=hB1.size
 have hlP:=lt_of_heap hrP
 have hrA:=(hb1.block _ (lt_of_heap hrA)).trans hrA
 have hrP:=(hb1.block _ hlP).trans hrP
 obtain ⟨c4,c9,c10,y3,z0⟩:=HCel.out w1 hB1
 have HB1:=Lib.hid hB1
 have HR1:=Lib.hid (And.intro hrA hrP)
 have hb01:=hb1.size
 clear hAt hb1 hb0 hB1 hrA hrP c4 c10 y3
 go_wp2_with fail
 have hb2:Below w1.heap.size w1 (w1.alloc (.cells #[.string xs,.string ⟨xo.toArray⟩,.string ⟨xr.toArray⟩,.int .i64 xh] 90)):=(Below.refl _ _).alloc (Nat.le_refl _) _
 have hrE:(w1.alloc (.cells #[.string xs,.string ⟨xo.toArray⟩,.string ⟨xr.toArray⟩,.int .i64 xh] 90)).heap[w1.heap.size]?=some (.cells #[.string xs,.string ⟨xo.toArray⟩,.string ⟨xr.toArray⟩,.int .i64 xh] 90 (0,0)):=heap_alloc_new _ _
 have hW2A:=(Below.heap_alloc w1 (.cells #[.string xs,.string ⟨xo.toArray⟩,.string ⟨xr.toArray⟩,.int .i64 xh] 90) w.heap.size (by omega)).trans HR1.out.1
 have hW2P:=(Below.heap_alloc w1 (.cells #[.string xs,.string ⟨xo.toArray⟩,.string ⟨xr.toArray⟩,.int .i64 xh] 90) (w.heap.size+1) (by omega)).trans HR1.out.2
 generalize (w1.alloc (.cells #[.string xs,.string ⟨xo.toArray⟩,.string ⟨xr.toArray⟩,.int .i64 xh] 90))=W2 at hb2 hrE hW2A hW2P |-
 obtain ⟨E,hE⟩:∃ E,E=w1.heap.size:=⟨_,rfl⟩
 rw [<-hE] at hrE |-
 have hlE:=lt_of_heap hrE
 have hwW2:=HB1.out.trans (hb2.mono s1)
 have s12:=hb2.size
 obtain ⟨Pre,hPre⟩:∃ Pre:World->Prop,Pre=fun W=>Below W2.heap.size W2 W:=⟨_,rfl⟩
 have s2:=hwW2.size
 have hpw:∀ A,Pre A->Below w.heap.size w A:=by
  intro A hA
  rw [hPre] at hA
  exact hwW2.trans (hA.mono s2)
 have hpp:∀ A B,Pre A->Below A.heap.size A B->Pre B:=by
  intro A B hA hb
  rw [hPre] at hA |-
  exact hA.trans (hb.mono hA.size)
 have hcp:=Lib.hid (fun A (hA:Pre A)=>(show A.cell? ⟨p,9,none⟩=some (.slice (some ⟨gt,0,none⟩) 2 ct)/\A.cell? ⟨gt,0,none⟩=some (.pointer (some ⟨t0,0,none⟩)) by
  obtain ⟨_,h9,_,_,hz⟩:=HCel.out A (hpw A hA)
  exact ⟨h9,hz⟩))
 have q0:=Lib.hid (fun A (hA:Pre A)=>(hPl.out A (hpw A hA)).mono (R':=fun e w'=>e=.returned (.string ⟨PO.toArray⟩)/\Pre w'/\Below A.heap.size A w') fun e w' hh=>⟨hh.1,hpp A w' hA hh.2,hh.2⟩)
 have q1:=Lib.hid (fun A (hA:Pre A)=>(hPr.out A (hpw A hA)).mono (R':=fun e w'=>∃ a c pf n,e=.returned (.tuple #[.agg #[.slice a pf.beside.length c,.bool pf.there,.string ⟨pf.key.toArray⟩,.string ⟨pf.val.toArray⟩],.int .i64 0])/\(Keyrow w' a c pf.beside/\Made hs (valOf m0) (keysOf m0) PO 0 pf n/\∀ q o,a=some ⟨q,o,none⟩->A.heap.size<=q)/\Pre w'/\Below A.heap.size A w') fun e w' ⟨a,c,pf,n,e1,e2,e3,e4,e5⟩=>⟨a,c,pf,n,e1,⟨e2,e3,e5⟩,hpp A w' hA e4,e4⟩)
 have hpa:=Lib.hid (fun A ob (hA:Pre A)=>(show Pre (A.alloc ob) from hpp A _ hA ((Below.refl _ _).alloc (Nat.le_refl _) _)))
 have hpre0:Pre W2.drew:=by rw [hPre];exact below_drew W2
 have hpad:=Lib.hid (fun ob=>(show Pre (W2.alloc ob).drew from by rw [hPre];exact ((Below.refl _ _).alloc (Nat.le_refl _) _).drew))
 have HPB:=Lib.hid (fun A (hA:Pre A)=>(show Below W2.heap.size W2 A from by rw [hPre] at hA;exact hA))
 have HPW:=Lib.hid hpw
 have HE:=Lib.hid (And.intro hE hrE)
 have hp4:=Lib.hid (fun A F v0 v1 v2 v3 (hF:W2.heap.size<=F) (hA:Pre A)=>(show Pre ((((A.setCell ⟨F,0,none⟩ v0).setCell ⟨F,1,none⟩ v1).setCell ⟨F,2,none⟩ v2).setCell ⟨F,3,none⟩ v3) from by
  rw [hPre] at hA |-
  exact (((hA.setCell (p:=⟨F,0,none⟩) hF v0).setCell (p:=⟨F,1,none⟩) hF v1).setCell (p:=⟨F,2,none⟩) hF v2).setCell (p:=⟨F,3,none⟩) hF v3))
 have hpsz:∀ A,Pre A->W2.heap.size<=A.heap.size:=by
  intro A hA
  rw [hPre] at hA
  exact hA.size
 clear hPre hpw hpp hwW2 hb2 hrE hE hPl hPr c9 z0
 go_region_held3 (fun A=>A.cell? ⟨p,9,none⟩=some (.slice (some ⟨gt,0,none⟩) 2 ct)/\A.cell? ⟨gt,0,none⟩=some (.pointer (some ⟨t0,0,none⟩))) (first | with_reducible exact hcp.out _ (by assumption) | with_reducible exact hcp.out _ (hpad.out _) | with_reducible exact hcp.out _ (hpa.out _ _ (by assumption)) | with_reducible exact hcp.out _ (hp4.out _ _ _ _ _ _ (by have:=hpsz _ hpreA;omega) (by assumption)) | with_reducible exact hcp.out _ (hp4.out _ _ _ _ _ _ (by omega) (by assumption)))
  (first
    | (go_at_call 137;with_reducible refine (q0.out _ (by first | assumption | exact hpad.out _)).mono ?_;rintro e wA ⟨rfl,hpreA,hbA⟩;obtain ⟨hcA,hfA⟩:=bcell5 hbA;have hzA:=hbA.size;try (have hlA:W2.heap.size<wA.heap.size:=by (have hz':=hzA;simp at hz';omega)))
    | (go_at_call 19;with_reducible refine (q1.out _ (by first | assumption | exact hpad.out _ | exact hpa.out _ _ (by assumption))).mono ?_;rintro e wB ⟨a',c',pf,nn,rfl,hpr,hpreB,hbB⟩;obtain ⟨hcB,hfB⟩:=bcell5 hbB;have hzB:=hbB.size))
 all_goals
  have hsB:w.heap.size+2<=wA.heap.size:=Nat.le_trans (by omega) (hpsz wA hpreA)
  first
   | (have hrow:=heap_alloc_new wB (.cells #[.slice a' pf.beside.length c',.bool pf.there,.string ⟨pf.key.toArray⟩,.string ⟨pf.val.toArray⟩] 51)
      have hpreV:=hpa.out wB (.cells #[.slice a' pf.beside.length c',.bool pf.there,.string ⟨pf.key.toArray⟩,.string ⟨pf.val.toArray⟩] 51) hpreB
      have hkr:Keyrow (wB.alloc (.cells #[.slice a' pf.beside.length c',.bool pf.there,.string ⟨pf.key.toArray⟩,.string ⟨pf.val.toArray⟩] 51)) a' c' pf.beside:=hpr.1.touch (Touch.alloc (S:=fun _=>False) _ _) (fun _ _ _ h=>h)
      have hlow:∀ q o,a'=some ⟨q,o,none⟩->w.heap.size+2<=q:=fun q o h=>Nat.le_trans hsB (hpr.2.2 q o h)
      generalize (wB.alloc (.cells #[.slice a' pf.beside.length c',.bool pf.there,.string ⟨pf.key.toArray⟩,.string ⟨pf.val.toArray⟩] 51))=V at hrow hpreV hkr |-
      obtain ⟨F,hFF⟩:∃ F,F=wB.heap.size:=⟨_,rfl⟩
      have hWF:W2.heap.size<=F:=hFF ▸ hpsz wB hpreB
      rw [<-hFF] at hrow |-
      clear hFF)
   | (have hrE:wB.heap[W2.heap.size]?=some (.cells #[.slice none 0 0,.bool false,.string ⟨#[]⟩,.string ⟨#[]⟩] 51 (0,0)):=(hbB.block _ (by assumption)).trans ((hbA.block _ (by simp)).trans (heap_alloc_new W2 _))
      have hrow:=four_store (.slice a' pf.beside.length c') (.bool pf.there) (.string ⟨pf.key.toArray⟩) (.string ⟨pf.val.toArray⟩) hrE
      have hpreV:=hp4.out wB W2.heap.size (.slice a' pf.beside.length c') (.bool pf.there) (.string ⟨pf.key.toArray⟩) (.string ⟨pf.val.toArray⟩) (Nat.le_refl _) hpreB
      have hkr:=hpr.1.touch (((Touch.setCell (S:=fun k=>k=W2.heap.size) wB ⟨W2.heap.size,0,none⟩ (.slice a' pf.beside.length c') rfl).trans (Touch.setCell (S:=fun k=>k=W2.heap.size) _ ⟨W2.heap.size,1,none⟩ (.bool pf.there) rfl)).trans ((Touch.setCell (S:=fun k=>k=W2.heap.size) _ ⟨W2.heap.size,2,none⟩ (.string ⟨pf.key.toArray⟩) rfl).trans (Touch.setCell (S:=fun k=>k=W2.heap.size) _ ⟨W2.heap.size,3,none⟩ (.string ⟨pf.val.toArray⟩) rfl))) (fun g o h e=>by have:=hpr.2.2 g o h;omega)
      have hlow:∀ q o,a'=some ⟨q,o,none⟩->w.heap.size+2<=q:=fun q o h=>Nat.le_trans hsB (hpr.2.2 q o h)
      generalize ((((wB.setCell ⟨W2.heap.size,0,none⟩ (.slice a' pf.beside.length c')).setCell ⟨W2.heap.size,1,none⟩ (.bool pf.there)).setCell ⟨W2.heap.size,2,none⟩ (.string ⟨pf.key.toArray⟩)).setCell ⟨W2.heap.size,3,none⟩ (.string ⟨pf.val.toArray⟩))=V at hrow hpreV hkr |-
      obtain ⟨F,hFF⟩:∃ F,F=W2.heap.size:=⟨_,rfl⟩
      have hWF:W2.heap.size<=F:=hFF ▸ Nat.le_refl _
      rw [<-hFF] at hrow |-
      clear hrE hFF)
   | (have hrE:wB.heap[wA.heap.size]?=some (.cells #[.slice none 0 0,.bool false,.string ⟨#[]⟩,.string ⟨#[]⟩] 51 (0,0)):=(hbB.block _ (by simp)).trans (heap_alloc_new wA _)
      have hrow:=four_store (.slice a' pf.beside.length c') (.bool pf.there) (.string ⟨pf.key.toArray⟩) (.string ⟨pf.val.toArray⟩) hrE
      have hpreV:=hp4.out wB wA.heap.size (.slice a' pf.beside.length c') (.bool pf.there) (.string ⟨pf.key.toArray⟩) (.string ⟨pf.val.toArray⟩) (hpsz wA hpreA) hpreB
      have hkr:=hpr.1.touch (((Touch.setCell (S:=fun k=>k=wA.heap.size) wB ⟨wA.heap.size,0,none⟩ (.slice a' pf.beside.length c') rfl).trans (Touch.setCell (S:=fun k=>k=wA.heap.size) _ ⟨wA.heap.size,1,none⟩ (.bool pf.there) rfl)).trans ((Touch.setCell (S:=fun k=>k=wA.heap.size) _ ⟨wA.heap.size,2,none⟩ (.string ⟨pf.key.toArray⟩) rfl).trans (Touch.setCell (S:=fun k=>k=wA.heap.size) _ ⟨wA.heap.size,3,none⟩ (.string ⟨pf.val.toArray⟩) rfl))) (fun g o h e=>by have h2:=hpr.2.2 g o h;rw [World.size_alloc] at h2;omega)
      have hlow:∀ q o,a'=some ⟨q,o,none⟩->w.heap.size+2<=q:=fun q o h=>by
       have h2:=hpr.2.2 q o h
       rw [World.size_alloc] at h2
       omega
      generalize ((((wB.setCell ⟨wA.heap.size,0,none⟩ (.slice a' pf.beside.length c')).setCell ⟨wA.heap.size,1,none⟩ (.bool pf.there)).setCell ⟨wA.heap.size,2,none⟩ (.string ⟨pf.key.toArray⟩)).setCell ⟨wA.heap.size,3,none⟩ (.string ⟨pf.val.toArray⟩))=V at hrow hpreV hkr |-
      obtain ⟨F,hFF⟩:∃ F,F=wA.heap.size:=⟨_,rfl⟩
      have hWF:W2.heap.size<=F:=hFF ▸ hpsz wA hpreA
      rw [<-hFF] at hrow |-
      clear hrE hFF)
  have hmade:=hpr.2.1
  clear hcA hfA hzA hbA hcB hfB hzB hbB hpreA hpreB hpr hpre0
 all_goals
  have hBV:=HPB.out V hpreV
  have hwV:=HPW.out V hpreV
  obtain ⟨g0,g1,g2,g3,_,_,_,_⟩:=four_of_row hrow
  obtain ⟨hE,hrE⟩:=HE.out
  have hrE':=(hBV.block _ (lt_of_heap hrE)).trans hrE
  obtain ⟨j0,j1,j2,j3,_,_,_,_⟩:=four_of_row hrE'
  have hs12V:w1.heap.size<=V.heap.size:=Nat.le_trans s12 hBV.size
  have hrA':V.heap[w.heap.size]?=_:=(hBV.block _ (by omega)).trans hW2A
  have hrP':V.heap[w.heap.size+1]?=_:=(hBV.block _ (by omega)).trans hW2P
  obtain ⟨_,_,_,_,fa0,fa1,fa2,fa3⟩:=four_of_row hrA'
  obtain ⟨_,_,_,_,fp0,fp1,fp2,fp3⟩:=four_of_row hrP'
  have hFW:W2.heap.size<=F:=hWF
  have n1:E≠w.heap.size:=by omega
  have n2:E≠w.heap.size+1:=by omega
  have n3:F≠w.heap.size:=by omega
  have n4:F≠w.heap.size+1:=by omega
  have n5:w.heap.size≠E:=by omega
  have n6:w.heap.size+1≠E:=by omega
  have n7:w.heap.size≠F:=by omega
  have n8:w.heap.size+1≠F:=by omega
  have HV:=Lib.hid (And.intro hwV (And.intro hkr (And.intro hrA' hrP')))
  have HM:=Lib.hid (And.intro hmade hlow)
  clear hwV hkr hrA' hrP' hmade hlow hrow hE hrE hrE' hBV hpreV hWF hFW hW2A hW2P hlE s12 s2 hs12V hsB hcp q0 q1 hpa hpad HPB HPW HE hp4 hpsz hb01 s0 s1 hlP HB1 HR1 hrA hrP
  go_wp2_with fail
  go_region_law (fail)
  all_goals
   simp only [Act.put,List.getElem_toArray,List.getElem_cons_succ,List.getElem_cons_zero,List.setIfInBounds_toArray,List.set_cons_succ,List.set_cons_zero]
   obtain ⟨V2,hV2,hrA2,hrP2,hwV2,hkr2⟩:=member_store xs xo xr xh a' c' pf HV.out.1 HV.out.2.1 HM.out.2 HV.out.2.2.1 HV.out.2.2.2
   rw [hV2]
   have HX:=Lib.hid (And.intro hwV2 (And.intro hkr2 HM.out))
   obtain ⟨p0,p1,p2,p3,_,_,_,_⟩:=four_of_row hrA2
   obtain ⟨r0,r1,r2,r3,_,_,_,_⟩:=four_of_row hrP2
   clear hV2 hwV2 hkr2 hrA2 hrP2 HM HV
   go_wp2
   refine bodyPost_ret (v:=.tuple #[audV xs xo xr xh,.agg #[.slice a' pf.beside.length c',.bool pf.there,.string ⟨pf.key.toArray⟩,.string ⟨pf.val.toArray⟩],.int .i64 0]) ?_ rfl ⟨a',c',pf,nn,rfl,HX.out.2.1,HX.out.2.2.1,fun q o h=>Nat.le_trans (Nat.le_add_right _ 2) (HX.out.2.2.2 q o h),HX.out.1⟩
   simp [results,Tryz.f77,go_sem,audV,p0,p1,p2,p3,r0,r1,r2,r3]
theorem seven_store {w:World} {b:Nat} {x0 x1 x2 x3 x4 x5 x6:Value} {t:TypeId} (y0 y1 y2 y3 y4 y5 y6:Value) (h:w.heap[b]?=some (.cells #[x0,x1,x2,x3,x4,x5,x6] t (0,0))) :
 (((((((w.setCell ⟨b,0,none⟩ (y0)).setCell ⟨b,1,none⟩ (y1)).setCell ⟨b,2,none⟩ (y2)).setCell ⟨b,3,none⟩ (y3)).setCell ⟨b,4,none⟩ (y4)).setCell ⟨b,5,none⟩ (y5)).setCell ⟨b,6,none⟩ (y6)).heap[b]?=some (.cells #[y0,y1,y2,y3,y4,y5,y6] t (0,0)):=
 heap_setCell_same _ b 6 _ _ _ (heap_setCell_same _ b 5 _ _ _ (heap_setCell_same _ b 4 _ _ _ (heap_setCell_same _ b 3 _ _ _ (heap_setCell_same _ b 2 _ _ _ (heap_setCell_same _ b 1 _ _ _ (heap_setCell_same w b 0 _ _ _ h))))))
theorem vote_store {w:World} {b:Nat} {x0 x1 x2 x3 x4 x5 x6 x7 x8 x9 x10 x11 x12 x13 x14:Value} {t:TypeId} (y0 y1 y2 y3 y4 y5 y6 y7 y8 y9 y10 y11 y12 y13 y14:Value) (h:w.heap[b]?=some (.cells #[x0,x1,x2,x3,x4,x5,x6,x7,x8,x9,x10,x11,x12,x13,x14] t (0,0))) :
 ∃ W,(((((((((((((((w.setCell ⟨b,0,none⟩ (y0)).setCell ⟨b,1,none⟩ (y1)).setCell ⟨b,2,none⟩ (y2)).setCell ⟨b,3,none⟩ (y3)).setCell ⟨b,4,none⟩ (y4)).setCell ⟨b,5,none⟩ (y5)).setCell ⟨b,6,none⟩ (y6)).setCell ⟨b,7,none⟩ (y7)).setCell ⟨b,8,none⟩ (y8)).setCell ⟨b,9,none⟩ (y9)).setCell ⟨b,10,none⟩ (y10)).setCell ⟨b,11,none⟩ (y11)).setCell ⟨b,12,none⟩ (y12)).setCell ⟨b,13,none⟩ (y13)).setCell ⟨b,14,none⟩ (y14))=W/\W.heap[b]?=some (.cells #[y0,y1,y2,y3,y4,y5,y6,y7,y8,y9,y10,y11,y12,y13,y14] t (0,0))/\Touch (fun k=>k=b) w W:=by
 have h0:(w.setCell ⟨b,0,none⟩ y0).heap[b]?=some (.cells #[y0,x1,x2,x3,x4,x5,x6,x7,x8,x9,x10,x11,x12,x13,x14] t (0,0)):=heap_setCell_same w b 0 _ _ _ h
 have t0:Touch (fun k=>k=b) w (w.setCell ⟨b,0,none⟩ y0):=Touch.setCell (S:=fun k=>k=b) _ ⟨b,0,none⟩ _ rfl
 generalize (w.setCell ⟨b,0,none⟩ y0)=w1 at h0 t0 |-
 have h1:(w1.setCell ⟨b,1,none⟩ y1).heap[b]?=some (.cells #[y0,y1,x2,x3,x4,x5,x6,x7,x8,x9,x10,x11,x12,x13,x14] t (0,0)):=heap_setCell_same w1 b 1 _ _ _ h0
 have t1:Touch (fun k=>k=b) w (w1.setCell ⟨b,1,none⟩ y1):=t0.trans (Touch.setCell (S:=fun k=>k=b) _ ⟨b,1,none⟩ _ rfl)
 generalize (w1.setCell ⟨b,1,none⟩ y1)=w2 at h1 t1 |-
 have h2:(w2.setCell ⟨b,2,none⟩ y2).heap[b]?=some (.cells #[y0,y1,y2,x3,x4,x5,x6,x7,x8,x9,x10,x11,x12,x13,x14] t (0,0)):=heap_setCell_same w2 b 2 _ _ _ h1
 have t2:Touch (fun k=>k=b) w (w2.setCell ⟨b,2,none⟩ y2):=t1.trans (Touch.setCell (S:=fun k=>k=b) _ ⟨b,2,none⟩ _ rfl)
 generalize (w2.setCell ⟨b,2,none⟩ y2)=w3 at h2 t2 |-
 have h3:(w3.setCell ⟨b,3,none⟩ y3).heap[b]?=some (.cells #[y0,y1,y2,y3,x4,x5,x6,x7,x8,x9,x10,x11,x12,x13,x14] t (0,0)):=heap_setCell_same w3 b 3 _ _ _ h2
 have t3:Touch (fun k=>k=b) w (w3.setCell ⟨b,3,none⟩ y3):=t2.trans (Touch.setCell (S:=fun k=>k=b) _ ⟨b,3,none⟩ _ rfl)
 generalize (w3.setCell ⟨b,3,none⟩ y3)=w4 at h3 t3 |-
 have h4:(w4.setCell ⟨b,4,none⟩ y4).heap[b]?=some (.cells #[y0,y1,y2,y3,y4,x5,x6,x7,x8,x9,x10,x11,x12,x13,x14] t (0,0)):=heap_setCell_same w4 b 4 _ _ _ h3
 have t4:Touch (fun k=>k=b) w (w4.setCell ⟨b,4,none⟩ y4):=t3.trans (Touch.setCell (S:=fun k=>k=b) _ ⟨b,4,none⟩ _ rfl)
 generalize (w4.setCell ⟨b,4,none⟩ y4)=w5 at h4 t4 |-
 have h5:(w5.setCell ⟨b,5,none⟩ y5).heap[b]?=some (.cells #[y0,y1,y2,y3,y4,y5,x6,x7,x8,x9,x10,x11,x12,x13,x14] t (0,0)):=heap_setCell_same w5 b 5 _ _ _ h4
 have t5:Touch (fun k=>k=b) w (w5.setCell ⟨b,5,none⟩ y5):=t4.trans (Touch.setCell (S:=fun k=>k=b) _ ⟨b,5,none⟩ _ rfl)
 generalize (w5.setCell ⟨b,5,none⟩ y5)=w6 at h5 t5 |-
 have h6:(w6.setCell ⟨b,6,none⟩ y6).heap[b]?=some (.cells #[y0,y1,y2,y3,y4,y5,y6,x7,x8,x9,x10,x11,x12,x13,x14] t (0,0)):=heap_setCell_same w6 b 6 _ _ _ h5
 have t6:Touch (fun k=>k=b) w (w6.setCell ⟨b,6,none⟩ y6):=t5.trans (Touch.setCell (S:=fun k=>k=b) _ ⟨b,6,none⟩ _ rfl)
 generalize (w6.setCell ⟨b,6,none⟩ y6)=w7 at h6 t6 |-
 have h7:(w7.setCell ⟨b,7,none⟩ y7).heap[b]?=some (.cells #[y0,y1,y2,y3,y4,y5,y6,y7,x8,x9,x10,x11,x12,x13,x14] t (0,0)):=heap_setCell_same w7 b 7 _ _ _ h6
 have t7:Touch (fun k=>k=b) w (w7.setCell ⟨b,7,none⟩ y7):=t6.trans (Touch.setCell (S:=fun k=>k=b) _ ⟨b,7,none⟩ _ rfl)
 generalize (w7.setCell ⟨b,7,none⟩ y7)=w8 at h7 t7 |-
 have h8:(w8.setCell ⟨b,8,none⟩ y8).heap[b]?=some (.cells #[y0,y1,y2,y3,y4,y5,y6,y7,y8,x9,x10,x11,x12,x13,x14] t (0,0)):=heap_setCell_same w8 b 8 _ _ _ h7
 have t8:Touch (fun k=>k=b) w (w8.setCell ⟨b,8,none⟩ y8):=t7.trans (Touch.setCell (S:=fun k=>k=b) _ ⟨b,8,none⟩ _ rfl)
 generalize (w8.setCell ⟨b,8,none⟩ y8)=w9 at h8 t8 |-
 have h9:(w9.setCell ⟨b,9,none⟩ y9).heap[b]?=some (.cells #[y0,y1,y2,y3,y4,y5,y6,y7,y8,y9,x10,x11,x12,x13,x14] t (0,0)):=heap_setCell_same w9 b 9 _ _ _ h8
 have t9:Touch (fun k=>k=b) w (w9.setCell ⟨b,9,none⟩ y9):=t8.trans (Touch.setCell (S:=fun k=>k=b) _ ⟨b,9,none⟩ _ rfl)
 generalize (w9.setCell ⟨b,9,none⟩ y9)=w10 at h9 t9 |-
 have h10:(w10.setCell ⟨b,10,none⟩ y10).heap[b]?=some (.cells #[y0,y1,y2,y3,y4,y5,y6,y7,y8,y9,y10,x11,x12,x13,x14] t (0,0)):=heap_setCell_same w10 b 10 _ _ _ h9
 have t10:Touch (fun k=>k=b) w (w10.setCell ⟨b,10,none⟩ y10):=t9.trans (Touch.setCell (S:=fun k=>k=b) _ ⟨b,10,none⟩ _ rfl)
 generalize (w10.setCell ⟨b,10,none⟩ y10)=w11 at h10 t10 |-
 have h11:(w11.setCell ⟨b,11,none⟩ y11).heap[b]?=some (.cells #[y0,y1,y2,y3,y4,y5,y6,y7,y8,y9,y10,y11,x12,x13,x14] t (0,0)):=heap_setCell_same w11 b 11 _ _ _ h10
 have t11:Touch (fun k=>k=b) w (w11.setCell ⟨b,11,none⟩ y11):=t10.trans (Touch.setCell (S:=fun k=>k=b) _ ⟨b,11,none⟩ _ rfl)
 generalize (w11.setCell ⟨b,11,none⟩ y11)=w12 at h11 t11 |-
 have h12:(w12.setCell ⟨b,12,none⟩ y12).heap[b]?=some (.cells #[y0,y1,y2,y3,y4,y5,y6,y7,y8,y9,y10,y11,y12,x13,x14] t (0,0)):=heap_setCell_same w12 b 12 _ _ _ h11
 have t12:Touch (fun k=>k=b) w (w12.setCell ⟨b,12,none⟩ y12):=t11.trans (Touch.setCell (S:=fun k=>k=b) _ ⟨b,12,none⟩ _ rfl)
 generalize (w12.setCell ⟨b,12,none⟩ y12)=w13 at h12 t12 |-
 have h13:(w13.setCell ⟨b,13,none⟩ y13).heap[b]?=some (.cells #[y0,y1,y2,y3,y4,y5,y6,y7,y8,y9,y10,y11,y12,y13,x14] t (0,0)):=heap_setCell_same w13 b 13 _ _ _ h12
 have t13:Touch (fun k=>k=b) w (w13.setCell ⟨b,13,none⟩ y13):=t12.trans (Touch.setCell (S:=fun k=>k=b) _ ⟨b,13,none⟩ _ rfl)
 generalize (w13.setCell ⟨b,13,none⟩ y13)=w14 at h13 t13 |-
 have h14:(w14.setCell ⟨b,14,none⟩ y14).heap[b]?=some (.cells #[y0,y1,y2,y3,y4,y5,y6,y7,y8,y9,y10,y11,y12,y13,y14] t (0,0)):=heap_setCell_same w14 b 14 _ _ _ h13
 have t14:Touch (fun k=>k=b) w (w14.setCell ⟨b,14,none⟩ y14):=t13.trans (Touch.setCell (S:=fun k=>k=b) _ ⟨b,14,none⟩ _ rfl)
 exact ⟨_,rfl,h14,t14⟩
theorem vote_any (kb idx num p hau:Nat) (hp dg:List UInt8) (hna:Option Addr) (hN hnc:Nat) (xs:ByteArray) (xo xr:List UInt8) (xh:Nat) (X1 X2:List Value) (P:Pf->Prop) (w:World) (hi:idx<=1) (hnum:num<64) (hdg:dg.length=16) (hK:Kon w)
 (hDig:∀ W,Below w.heap.size w W->Calls Tryz.prog 73 #[hdV 1 hp 0 hau hna hN hnc] W fun e w'=>e=.returned (.string ⟨dg.toArray⟩)/\Below W.heap.size W w')
 (hSig:∀ W,Below w.heap.size w W->Calls Tryz.prog 75 #[.pointer (some ⟨kb,0,none⟩),.int .i64 idx,.string ⟨(msgAt 1 0 num dg).toArray⟩] W fun e w'=>∃ a c a' c',e=.returned (.tuple #[.agg #[.int .i64 idx,.slice a 35 c,.slice a' 2 c'],.int .i64 0])/\Cells w' (.slice a 35 c) X1/\Cells w' (.slice a' 2 c') X2/\(∀ k,(Value.slice a 35 c).ownBlock=some k->W.heap.size<=k)/\(∀ k,(Value.slice a' 2 c').ownBlock=some k->W.heap.size<=k)/\Below W.heap.size W w')
 (hMem:∀ W,Below w.heap.size w W->Calls Tryz.prog 77 #[.pointer (some ⟨p,0,none⟩),.int .u64 0,.int .i64 num] W fun e w'=>∃ a c pf,e=.returned (.tuple #[.agg #[.string xs,.string ⟨xo.toArray⟩,.string ⟨xr.toArray⟩,.int .i64 xh],.agg #[.slice a pf.beside.length c,.bool pf.there,.string ⟨pf.key.toArray⟩,.string ⟨pf.val.toArray⟩],.int .i64 0])/\Keyrow w' a c pf.beside/\P pf/\(∀ q o,a=some ⟨q,o,none⟩->W.heap.size<=q)/\Below W.heap.size W w') :
 Calls Tryz.prog 31 #[.pointer (some ⟨kb,0,none⟩),.int .i64 idx,.int .i64 num,.int .i64 0,.pointer (some ⟨p,0,none⟩),hdV 1 hp 0 hau hna hN hnc] w fun e w'=>∃ a c a' c' pa pc pf,e=.returned (.agg (voteC 1 0 dg num idx a 35 c a' 2 c' xs xo xr xh pa pf.beside.length pc pf.there pf.key pf.val))/\Cells w' (.slice a 35 c) X1/\Cells w' (.slice a' 2 c') X2/\(∀ k,(Value.slice a 35 c).ownBlock=some k->w.heap.size<=k)/\(∀ k,(Value.slice a' 2 c').ownBlock=some k->w.heap.size<=k)/\Keyrow w' pa pc pf.beside/\P pf/\(∀ q o,pa=some ⟨q,o,none⟩->w.heap.size<=q)/\Below w.heap.size w w':=by
 have HSig:=Lib.hid hSig
 have HMem:=Lib.hid hMem
 have HK:=Lib.hid hK
 have hand:bits BinOp.and IntKind.i64 (idx:Int) 3=(idx:Int):=by
  rcases Nat.le_one_iff_eq_zero_or_eq_one.1 hi with rfl | rfl <;> kernel_rfl
 have hidx:(idx:Int)=0\/(idx:Int)=1:=by omega
 unfold hdV at hDig |-
 obtain ⟨W1,hW1⟩:∃ W1,W1=(w.alloc (.cells #[.int .u64 1,.string ⟨hp.toArray⟩,.int .i64 0,.int .i64 hau,.slice hna hN hnc] 69)).alloc (.cells #[.int .u64 0,.int .i64 0,.string ⟨#[]⟩,.int .i64 0,.int .i64 0,.slice none 0 0,.slice none 0 0,.string ⟨#[]⟩,.string ⟨#[]⟩,.string ⟨#[]⟩,.int .i64 0,.slice none 0 0,.bool false,.string ⟨#[]⟩,.string ⟨#[]⟩] 92):=⟨_,rfl⟩
 have hb1:Below w.heap.size w W1:=by rw [hW1];exact ((Below.refl _ _).alloc (Nat.le_refl _) _).alloc (by rw [World.size_alloc];omega) _
 have q0:W1.heap[w.heap.size]?=some (.cells #[.int .u64 1,.string ⟨hp.toArray⟩,.int .i64 0,.int .i64 hau,.slice hna hN hnc] 69 (0,0)):=by rw [hW1];exact heap_alloc2_old _ _ _
 have q1:W1.heap[w.heap.size+1]?=some (.cells #[.int .u64 0,.int .i64 0,.string ⟨#[]⟩,.int .i64 0,.int .i64 0,.slice none 0 0,.slice none 0 0,.string ⟨#[]⟩,.string ⟨#[]⟩,.string ⟨#[]⟩,.int .i64 0,.slice none 0 0,.bool false,.string ⟨#[]⟩,.string ⟨#[]⟩] 92 (0,0)):=by rw [hW1];exact heap_alloc2_new _ _ _
 have s1:=hb1.size
 have l1:=lt_of_heap q1
 obtain ⟨Pre,hPre⟩:∃ Pre:World->Prop,Pre=fun W=>Below W1.heap.size W1 W:=⟨_,rfl⟩
 have hpw:∀ A,Pre A->Below w.heap.size w A:=by
  intro A hA
  rw [hPre] at hA
  exact hb1.trans (hA.mono s1)
 have hpp:∀ A B,Pre A->Below A.heap.size A B->Pre B:=by
  intro A B hA hb
  rw [hPre] at hA |-
  exact hA.trans (hb.mono hA.size)
 have hcp:=Lib.hid (fun A (hA:Pre A)=>(show A.cell? ⟨w.heap.size,0,none⟩=some (.int .u64 1)/\A.cell? ⟨w.heap.size,1,none⟩=some (.string ⟨hp.toArray⟩)/\A.cell? ⟨w.heap.size,2,none⟩=some (.int .i64 0)/\A.cell? ⟨w.heap.size,3,none⟩=some (.int .i64 hau)/\A.cell? ⟨w.heap.size,4,none⟩=some (.slice hna hN hnc) by
  rw [hPre] at hA
  obtain ⟨c0,c1,c2,c3,c4,_,_,_,_,_⟩:=ten_of_row ((hA.block _ (lt_of_heap q0)).trans q0)
  exact ⟨c0,c1,c2,c3,c4⟩))
 have q2:=Lib.hid (fun A (hA:Pre A)=>(show Calls Tryz.prog 73 #[.agg #[.int .u64 1,.string ⟨hp.toArray⟩,.int .i64 0,.int .i64 hau,.slice hna hN hnc]] A fun e w'=>e=.returned (.string ⟨dg.toArray⟩)/\Pre w'/\Below A.heap.size A w' from (hDig A (hpw A hA)).mono fun e w' hh=>⟨hh.1,hpp A w' hA hh.2,hh.2⟩))
 have hpre0:Pre W1.drew:=by rw [hPre];exact below_drew W1
 have hpa:=Lib.hid (fun A ob (hA:Pre A)=>(show Pre (A.alloc ob) from hpp A _ hA ((Below.refl _ _).alloc (Nat.le_refl _) _)))
 have hpad:=Lib.hid (fun ob=>(show Pre (W1.alloc ob).drew from by rw [hPre];exact ((Below.refl _ _).alloc (Nat.le_refl _) _).drew))
 have hp7:=Lib.hid (fun A F v0 v1 v2 v3 v4 v5 v6 (hF:W1.heap.size<=F) (hA:Pre A)=>(show Pre (((((((A.setCell ⟨F,0,none⟩ (v0)).setCell ⟨F,1,none⟩ (v1)).setCell ⟨F,2,none⟩ (v2)).setCell ⟨F,3,none⟩ (v3)).setCell ⟨F,4,none⟩ (v4)).setCell ⟨F,5,none⟩ (v5)).setCell ⟨F,6,none⟩ (v6)) from by
  rw [hPre] at hA |-
  exact ((((((hA.setCell (p:=⟨F,0,none⟩) hF v0).setCell (p:=⟨F,1,none⟩) hF v1).setCell (p:=⟨F,2,none⟩) hF v2).setCell (p:=⟨F,3,none⟩) hF v3).setCell (p:=⟨F,4,none⟩) hF v4).setCell (p:=⟨F,5,none⟩) hF v5).setCell (p:=⟨F,6,none⟩) hF v6))
 have hpsz:∀ A,Pre A->W1.heap.size<=A.heap.size:=by
  intro A hA
  rw [hPre] at hA
  exact hA.size
 have HQ:=Lib.hid (fun A (hA:Pre A)=>(show A.heap[w.heap.size]?=some (.cells #[.int .u64 1,.string ⟨hp.toArray⟩,.int .i64 0,.int .i64 hau,.slice hna hN hnc] 69 (0,0))/\A.heap[w.heap.size+1]?=some (.cells #[.int .u64 0,.int .i64 0,.string ⟨#[]⟩,.int .i64 0,.int .i64 0,.slice none 0 0,.slice none 0 0,.string ⟨#[]⟩,.string ⟨#[]⟩,.string ⟨#[]⟩,.int .i64 0,.slice none 0 0,.bool false,.string ⟨#[]⟩,.string ⟨#[]⟩] 92 (0,0)) by
  rw [hPre] at hA
  exact ⟨(hA.block _ (lt_of_heap q0)).trans q0,(hA.block _ (lt_of_heap q1)).trans q1⟩))
 have HPW:=Lib.hid hpw
 clear hSig hMem hK hDig hPre hpp hpw q0 q1
 go_enter Tryz.func31,Tryz.ntmps31
 go_wp2_with fail
 rw [<-hW1]
 clear hW1 hb1
 go_region_held3 (fun A=>A.cell? ⟨w.heap.size,0,none⟩=some (.int .u64 1)/\A.cell? ⟨w.heap.size,1,none⟩=some (.string ⟨hp.toArray⟩)/\A.cell? ⟨w.heap.size,2,none⟩=some (.int .i64 0)/\A.cell? ⟨w.heap.size,3,none⟩=some (.int .i64 hau)/\A.cell? ⟨w.heap.size,4,none⟩=some (.slice hna hN hnc)) (first | with_reducible exact hcp.out _ (by assumption) | with_reducible exact hcp.out _ (hpad.out _) | with_reducible exact hcp.out _ (hpa.out _ _ (by assumption)) | with_reducible exact hcp.out _ (hp7.out _ _ _ _ _ _ _ _ _ (by omega) (by assumption)))
  (first
    | (go_at_call 73;with_reducible refine (q2.out _ (by first | assumption | exact hpad.out _ | exact hpa.out _ _ (by assumption))).mono ?_;rintro e wA ⟨rfl,hpreA,hbA⟩;obtain ⟨hcA,hfA⟩:=bcell5 hbA;have hzA:=hbA.size))
 all_goals
  first
   | (have hrow:=heap_alloc_new wA (.cells #[.int .u64 1,.int .i64 0,.string ⟨dg.toArray⟩,.int .i64 num,.int .i64 0,.slice none 0 0,.slice none 0 0] 86)
      have hpreV:=hpa.out wA (.cells #[.int .u64 1,.int .i64 0,.string ⟨dg.toArray⟩,.int .i64 num,.int .i64 0,.slice none 0 0,.slice none 0 0] 86) hpreA
      generalize (wA.alloc (.cells #[.int .u64 1,.int .i64 0,.string ⟨dg.toArray⟩,.int .i64 num,.int .i64 0,.slice none 0 0,.slice none 0 0] 86))=V at hrow hpreV |-
      obtain ⟨F,hFF⟩:∃ F,F=wA.heap.size:=⟨_,rfl⟩
      have hWF:W1.heap.size<=F:=hFF ▸ hpsz wA hpreA
      rw [<-hFF] at hrow |-
      clear hFF)
   | (have hrE:wA.heap[W1.heap.size]?=some (.cells #[.int .u64 0,.int .i64 0,.string ⟨#[]⟩,.int .i64 0,.int .i64 0,.slice none 0 0,.slice none 0 0] 86 (0,0)):=(hbA.block _ (by simp)).trans (heap_alloc_new W1 _)
      have hrow:=seven_store (.int .u64 1) (.int .i64 0) (.string ⟨dg.toArray⟩) (.int .i64 num) (.int .i64 0) (.slice none 0 0) (.slice none 0 0) hrE
      have hpreV:=hp7.out wA W1.heap.size (.int .u64 1) (.int .i64 0) (.string ⟨dg.toArray⟩) (.int .i64 num) (.int .i64 0) (.slice none 0 0) (.slice none 0 0) (Nat.le_refl _) hpreA
      generalize (((((((wA.setCell ⟨W1.heap.size,0,none⟩ (.int .u64 1)).setCell ⟨W1.heap.size,1,none⟩ (.int .i64 0)).setCell ⟨W1.heap.size,2,none⟩ (.string ⟨dg.toArray⟩)).setCell ⟨W1.heap.size,3,none⟩ (.int .i64 num)).setCell ⟨W1.heap.size,4,none⟩ (.int .i64 0)).setCell ⟨W1.heap.size,5,none⟩ (.slice none 0 0)).setCell ⟨W1.heap.size,6,none⟩ (.slice none 0 0))=V at hrow hpreV |-
      obtain ⟨F,hFF⟩:∃ F,F=W1.heap.size:=⟨_,rfl⟩
      have hWF:W1.heap.size<=F:=hFF ▸ Nat.le_refl _
      rw [<-hFF] at hrow |-
      clear hrE hFF)
  clear hcA hfA hzA hbA hpreA hpre0 hcp q2 hpa hpad hp7 hpsz
 all_goals
  obtain ⟨q0,q1⟩:=HQ.out V hpreV
  have hwV:=HPW.out V hpreV
  have hlF:=lt_of_heap hrow
  clear HQ HPW hpreV
  obtain ⟨z0,z1,z2,z3,z4,z5,z6⟩:V.cell? ⟨F,0,none⟩=some (.int .u64 1)/\V.cell? ⟨F,1,none⟩=some (.int .i64 0)/\V.cell? ⟨F,2,none⟩=some (.string ⟨dg.toArray⟩)/\V.cell? ⟨F,3,none⟩=some (.int .i64 num)/\V.cell? ⟨F,4,none⟩=some (.int .i64 0)/\V.cell? ⟨F,5,none⟩=some (.slice none 0 0)/\V.cell? ⟨F,6,none⟩=some (.slice none 0 0):=by
   refine ⟨?_,?_,?_,?_,?_,?_,?_⟩ <;> (rw [cell_of_row _ _ _ _ _ _ hrow];rfl)
  have hmsg:=Lib.hid (amessage_any 1 0 dg num 0 none 0 0 none 0 0 V (by decide) (by decide) hdg hnum (HK.out.old hwV))
  unfold attV at hmsg
  have HV:=Lib.hid (And.intro q0 (And.intro q1 (And.intro hrow hwV)))
  clear q0 q1 hrow hwV
  go_wp2_with fail
  refine hmsg.out.mono ?_
  rintro e w3 ⟨rfl,hb3⟩
  obtain ⟨q0,q1,hrow,hwV⟩:=HV.out
  have hB3:=hwV.trans (hb3.mono hwV.size)
  have q0:=(hb3.block _ (lt_of_heap q0)).trans q0
  have q1:=(hb3.block _ (lt_of_heap q1)).trans q1
  have hrow:=(hb3.block _ (lt_of_heap hrow)).trans hrow
  have hcall:=Lib.hid (HSig.out w3 hB3)
  have HV:=Lib.hid (And.intro q0 (And.intro q1 (And.intro hrow hB3)))
  have lF3:=lt_of_heap hrow
  clear q0 q1 hrow hwV hb3 hB3 hmsg z0 z1 z2 z3 z4 z5 z6 HSig
  go_wp2_with fail
  refine hcall.out.mono ?_
  rintro e w4 ⟨a,c,a',c',rfl,hX1,hX2,hg1,hg2,hb4⟩
  obtain ⟨q0,q1,hrow,hB3⟩:=HV.out
  have hB4:=hB3.trans (hb4.mono hB3.size)
  have q0:=(hb4.block _ (lt_of_heap q0)).trans q0
  have q1:=(hb4.block _ (lt_of_heap q1)).trans q1
  have hrow:=(hb4.block _ (lt_of_heap hrow)).trans hrow
  have f4:w4.frozen? ⟨F,4,none⟩=false:=frozen_of_row _ _ 4 _ _ hrow
  have f5:w4.frozen? ⟨F,5,none⟩=false:=frozen_of_row _ _ 5 _ _ hrow
  have f6:w4.frozen? ⟨F,6,none⟩=false:=frozen_of_row _ _ 6 _ _ hrow
  have z4:w4.cell? ⟨F,4,none⟩=some (.int .i64 0):=cel hrow
  have z5:w4.cell? ⟨F,5,none⟩=some (.slice none 0 0):=cel hrow
  have z6:w4.cell? ⟨F,6,none⟩=some (.slice none 0 0):=cel hrow
  have hr5:=heap_setCell_same _ F 6 _ _ (.slice a' 2 c') (heap_setCell_same _ F 5 _ _ (.slice a 35 c) (heap_setCell_same w4 F 4 _ _ (.int .i64 idx) hrow))
  have hT5:Touch (fun k=>k=F) w4 (((w4.setCell ⟨F,4,none⟩ (.int .i64 idx)).setCell ⟨F,5,none⟩ (.slice a 35 c)).setCell ⟨F,6,none⟩ (.slice a' 2 c')):=
   ((Touch.setCell (S:=fun k=>k=F) w4 ⟨F,4,none⟩ _ rfl).trans (Touch.setCell (S:=fun k=>k=F) _ ⟨F,5,none⟩ _ rfl)).trans (Touch.setCell (S:=fun k=>k=F) _ ⟨F,6,none⟩ _ rfl)
  obtain ⟨W5,hW5⟩:∃ W5,W5=((w4.setCell ⟨F,4,none⟩ (.int .i64 idx)).setCell ⟨F,5,none⟩ (.slice a 35 c)).setCell ⟨F,6,none⟩ (.slice a' 2 c'):=⟨_,rfl⟩
  rw [<-hW5] at hr5 hT5
  have hX15:=hT5.cells hX1 (fun k hk e=>by have:=hg1 k hk;omega)
  have hX25:=hT5.cells hX2 (fun k hk e=>by have:=hg2 k hk;omega)
  have hB5:=hB4.trans (hT5.below (B:=w.heap.size) (fun k e=>by omega) hB4.size)
  have q0:=hT5.heap q0 (by omega)
  have q1:=hT5.heap q1 (by omega)
  have hcall:=Lib.hid (HMem.out W5 hB5)
  have y0:(((w4.setCell ⟨F,4,none⟩ (.int .i64 idx)).setCell ⟨F,5,none⟩ (.slice a 35 c)).setCell ⟨F,6,none⟩ (.slice a' 2 c')).cell? ⟨w.heap.size,0,none⟩=some (.int .u64 1):=by rw [<-hW5,cell_of_row _ _ 0 _ _ _ q0];rfl
  have hs3:=hB3.size
  have HV:=Lib.hid (And.intro q1 (And.intro hr5 (And.intro hB5 (And.intro hX15 (And.intro hX25 (And.intro (show ∀ k,(Value.slice a 35 c).ownBlock=some k->w.heap.size+2<=k from fun k hk=>by have:=hg1 k hk;omega) (show ∀ k,(Value.slice a' 2 c').ownBlock=some k->w.heap.size+2<=k from fun k hk=>by have:=hg2 k hk;omega)))))))
  have hu:IntKind.u64.wrap (1 - 1:Int)=0:=by decide
  clear q0 q1 hrow hB3 hB4 hb4 hX1 hX2 hg1 hg2 hr5 hT5 hX15 hX25 hB5 HMem
  go_wp2_with fail
  rw [<-hW5]
  clear y0 f4 f5 f6 z4 z5 z6
  refine hcall.out.mono ?_
  rintro e w6 ⟨pa,pc,pf,rfl,hkr,hP,hpg,hb6⟩
  clear hcall hu hand hidx
  obtain ⟨q1,hr5,hB5,hX15,hX25,hl1,hl2⟩:=HV.out
  have hlt5:=lt_of_heap q1
  have hB6:=hB5.trans (hb6.mono hB5.size)
  obtain ⟨W7,hW7⟩:∃ W7,W7=((w6.alloc (.cells #[.string xs,.string ⟨xo.toArray⟩,.string ⟨xr.toArray⟩,.int .i64 xh] 90)).alloc (.cells #[.slice pa pf.beside.length pc,.bool pf.there,.string ⟨pf.key.toArray⟩,.string ⟨pf.val.toArray⟩] 51)):=⟨_,rfl⟩
  have hb67:Below w6.heap.size w6 W7:=by rw [hW7];exact ((Below.refl _ _).alloc (Nat.le_refl _) _).alloc (by rw [World.size_alloc];omega) _
  have hb57:=hb6.trans (hb67.mono hb6.size)
  have hB7:=hB6.trans (hb67.mono hB6.size)
  have q1:=(hb57.block _ (lt_of_heap q1)).trans q1
  have hr5:=(hb57.block _ (lt_of_heap hr5)).trans hr5
  rw [hW7] at q1 hr5
  have z0:=cell_of_row _ _ 0 _ _ _ hr5
  have z1:=cell_of_row _ _ 1 _ _ _ hr5
  have z2:=cell_of_row _ _ 2 _ _ _ hr5
  have z3:=cell_of_row _ _ 3 _ _ _ hr5
  have z4:=cell_of_row _ _ 4 _ _ _ hr5
  have z5:=cell_of_row _ _ 5 _ _ _ hr5
  have z6:=cell_of_row _ _ 6 _ _ _ hr5
  change _=some (.int .u64 1:Value) at z0
  change _=some (.int .i64 0:Value) at z1
  change _=some (.string ⟨dg.toArray⟩:Value) at z2
  change _=some (.int .i64 num:Value) at z3
  change _=some (.int .i64 idx:Value) at z4
  change _=some (.slice a 35 c:Value) at z5
  change _=some (.slice a' 2 c':Value) at z6
  have f0:=frozen_of_row _ _ 0 _ _ q1
  have g0:=cell_of_row _ _ 0 _ _ _ q1
  change _=some (.int .u64 0:Value) at g0
  have f1:=frozen_of_row _ _ 1 _ _ q1
  have g1:=cell_of_row _ _ 1 _ _ _ q1
  change _=some (.int .i64 0:Value) at g1
  have f2:=frozen_of_row _ _ 2 _ _ q1
  have g2:=cell_of_row _ _ 2 _ _ _ q1
  change _=some (.string ⟨#[]⟩:Value) at g2
  have f3:=frozen_of_row _ _ 3 _ _ q1
  have g3:=cell_of_row _ _ 3 _ _ _ q1
  change _=some (.int .i64 0:Value) at g3
  have f4:=frozen_of_row _ _ 4 _ _ q1
  have g4:=cell_of_row _ _ 4 _ _ _ q1
  change _=some (.int .i64 0:Value) at g4
  have f5:=frozen_of_row _ _ 5 _ _ q1
  have g5:=cell_of_row _ _ 5 _ _ _ q1
  change _=some (.slice none 0 0:Value) at g5
  have f6:=frozen_of_row _ _ 6 _ _ q1
  have g6:=cell_of_row _ _ 6 _ _ _ q1
  change _=some (.slice none 0 0:Value) at g6
  have f7:=frozen_of_row _ _ 7 _ _ q1
  have g7:=cell_of_row _ _ 7 _ _ _ q1
  change _=some (.string ⟨#[]⟩:Value) at g7
  have f8:=frozen_of_row _ _ 8 _ _ q1
  have g8:=cell_of_row _ _ 8 _ _ _ q1
  change _=some (.string ⟨#[]⟩:Value) at g8
  have f9:=frozen_of_row _ _ 9 _ _ q1
  have g9:=cell_of_row _ _ 9 _ _ _ q1
  change _=some (.string ⟨#[]⟩:Value) at g9
  have f10:=frozen_of_row _ _ 10 _ _ q1
  have g10:=cell_of_row _ _ 10 _ _ _ q1
  change _=some (.int .i64 0:Value) at g10
  have f11:=frozen_of_row _ _ 11 _ _ q1
  have g11:=cell_of_row _ _ 11 _ _ _ q1
  change _=some (.slice none 0 0:Value) at g11
  have f12:=frozen_of_row _ _ 12 _ _ q1
  have g12:=cell_of_row _ _ 12 _ _ _ q1
  change _=some (.bool false:Value) at g12
  have f13:=frozen_of_row _ _ 13 _ _ q1
  have g13:=cell_of_row _ _ 13 _ _ _ q1
  change _=some (.string ⟨#[]⟩:Value) at g13
  have f14:=frozen_of_row _ _ 14 _ _ q1
  have g14:=cell_of_row _ _ 14 _ _ _ q1
  change _=some (.string ⟨#[]⟩:Value) at g14
  obtain ⟨W8,hW8,hr8,hT8⟩:=vote_store (.int .u64 1) (.int .i64 0) (.string ⟨dg.toArray⟩) (.int .i64 num) (.int .i64 idx) (.slice a 35 c) (.slice a' 2 c') (.string xs) (.string ⟨xo.toArray⟩) (.string ⟨xr.toArray⟩) (.int .i64 xh) (.slice pa pf.beside.length pc) (.bool pf.there) (.string ⟨pf.key.toArray⟩) (.string ⟨pf.val.toArray⟩) q1
  rw [<-hW7] at hT8
  have hlp:=hB6.size
  have hX18:=hT8.cells (hX15.old hb57) (fun k hk e=>by have:=hl1 k hk;omega)
  have hX28:=hT8.cells (hX25.old hb57) (fun k hk e=>by have:=hl2 k hk;omega)
  have hk8:=(hkr.old hb67).touch hT8 (fun g o h e=>by have:=hpg g o h;omega)
  have hB8:=hB7.trans (hT8.below (B:=w.heap.size) (fun k e=>by omega) hB7.size)
  have HF:=Lib.hid (And.intro hX18 (And.intro hX28 (And.intro hl1 (And.intro hl2 (And.intro hk8 (And.intro hP (And.intro (show ∀ q o,pa=some ⟨q,o,none⟩->w.heap.size<=q from fun q o h=>Nat.le_trans hB5.size (hpg q o h)) hB8)))))))
  have p0:W8.cell? ⟨w.heap.size+1,0,none⟩=some (.int .u64 1):=cel hr8
  have p1:W8.cell? ⟨w.heap.size+1,1,none⟩=some (.int .i64 0):=cel hr8
  have p2:W8.cell? ⟨w.heap.size+1,2,none⟩=some (.string ⟨dg.toArray⟩):=cel hr8
  have p3:W8.cell? ⟨w.heap.size+1,3,none⟩=some (.int .i64 num):=cel hr8
  have p4:W8.cell? ⟨w.heap.size+1,4,none⟩=some (.int .i64 idx):=cel hr8
  have p5:W8.cell? ⟨w.heap.size+1,5,none⟩=some (.slice a 35 c):=cel hr8
  have p6:W8.cell? ⟨w.heap.size+1,6,none⟩=some (.slice a' 2 c'):=cel hr8
  have p7:W8.cell? ⟨w.heap.size+1,7,none⟩=some (.string xs):=cel hr8
  have p8:W8.cell? ⟨w.heap.size+1,8,none⟩=some (.string ⟨xo.toArray⟩):=cel hr8
  have p9:W8.cell? ⟨w.heap.size+1,9,none⟩=some (.string ⟨xr.toArray⟩):=cel hr8
  have p10:W8.cell? ⟨w.heap.size+1,10,none⟩=some (.int .i64 xh):=cel hr8
  have p11:W8.cell? ⟨w.heap.size+1,11,none⟩=some (.slice pa pf.beside.length pc):=cel hr8
  have p12:W8.cell? ⟨w.heap.size+1,12,none⟩=some (.bool pf.there):=cel hr8
  have p13:W8.cell? ⟨w.heap.size+1,13,none⟩=some (.string ⟨pf.key.toArray⟩):=cel hr8
  have p14:W8.cell? ⟨w.heap.size+1,14,none⟩=some (.string ⟨pf.val.toArray⟩):=cel hr8
  clear hW7 hb67 hb57 hB7 q1 hr5 hT8 hX18 hX28 hk8 hB8 hB6 hB5 hX15 hX25 hl1 hl2 hkr hP hpg hb6 hr8 HV
  go_wp2_with fail
  refine bodyPost_ret (v:=.agg (voteC 1 0 dg num idx a 35 c a' 2 c' xs xo xr xh pa pf.beside.length pc pf.there pf.key pf.val)) ?_ rfl ⟨a,c,a',c',pa,pc,pf,rfl,HF.out.1,HF.out.2.1,fun k hk=>Nat.le_trans (Nat.le_add_right _ 2) (HF.out.2.2.1 k hk),fun k hk=>Nat.le_trans (Nat.le_add_right _ 2) (HF.out.2.2.2.1 k hk),HF.out.2.2.2.2.1,HF.out.2.2.2.2.2.1,HF.out.2.2.2.2.2.2.1,HF.out.2.2.2.2.2.2.2⟩
  simp [results,Tryz.f31,go_sem,voteC,p0,p1,p2,p3,p4,p5,p6,p7,p8,p9,p10,p11,p12,p13,p14]
end Go.Proofs.YtcgkomafaepjnaaGreatDoor
