/- Package header: a header's root, and that one header follows another. Conditions: as its check's; the numbers and digests fit. -/
import Derived.Test.YtcgkomafaepjnaaGreatDoorTL14
import Derived.Laws.StructEq
import Derived.Test.YtcgkomafaepjnaaGreatDoorTL2
import Derived.Lib.OthersKept
import Derived.Test.YtcgkomafaepjnaaGreatDoorTL8
set_option maxRecDepth 100000
set_option maxHeartbeats 16000000
namespace Go.Proofs.YtcgkomafaepjnaaGreatDoor
open Go.RowKit
theorem hroot_any (ep:Nat) (par:List UInt8) (d au:Nat) (a:Option Addr) (N c:Nat) (R:ByteArray) (w:World) (hB:∀ W,Below w.heap.size w W->Calls Tryz.prog 16 #[.slice a N c,.int .i64 d] W fun e w'=>e=.returned (.tuple #[.string R,.int .i64 0])/\Below W.heap.size W w') :
 Calls Tryz.prog 38 #[hdV ep par d au a N c] w fun e w'=>e=.returned (.string R)/\Below w.heap.size w w':=by
 have hE:=Lib.hid hB
 unfold hdV
 clear hB
 go_enter Tryz.func38,Tryz.ntmps38
 go_wp2_with fail
 have hb1:Below w.heap.size w (w.alloc (.cells #[.int .u64 ep,.string ⟨par.toArray⟩,.int .i64 d,.int .i64 au,.slice a N c] 69)):=(Below.refl _ _).alloc (Nat.le_refl _) _
 refine (hE.out _ hb1).mono ?_
 rintro e w2 ⟨rfl,hb2⟩
 have HB2:=Lib.hid (hb1.trans (hb2.mono (by simp)))
 clear hE hb1 hb2
 go_wp2
 go_ret
 exact ⟨rfl,HB2.out⟩
theorem hnext_any (ep:Nat) (par:List UInt8) (d au:Nat) (a:Option Addr) (N c:Nat) (nodes:List (List UInt8)) (au':Nat) (a':Option Addr) (N' c':Nat) (nodes':List (List UInt8)) (w:World) (hok:HdOk ep par d au N nodes) (hc:Cells w (.slice a N c) (txs nodes)) (hok':HdOk (ep+1) (digHd ep par d au nodes) d au' N' nodes') (hc':Cells w (.slice a' N' c') (txs nodes')) (hau:au<=au') (hK:Kon w) :
 Calls Tryz.prog 78 #[hdV ep par d au a N c,hdV (ep+1) (digHd ep par d au nodes) d au' a' N' c'] w fun e w'=>e=.returned (.int .i64 0)/\Below w.heap.size w w':=by
 have hD:=Lib.hid (fun W (hb:Below w.heap.size w W)=>hdigest_any ep par d au a N c nodes W hok (hc.old hb) (hK.old hb))
 have hC:=Lib.hid (fun W (hb:Below w.heap.size w W)=>hcheck_any (ep+1) (digHd ep par d au nodes) d au' a' N' c' nodes' W hok' (hc'.old hb))
 have hDl:=digHd_length ep par d au nodes
 have hep:=hok.hep
 have hep':=hok'.hep
 unfold hdV at hD hC |-
 generalize digHd ep par d au nodes=D at hD hC hDl |-
 have hDe:(D==[])=false:=by cases D with | nil=>simp at hDl | cons _ _=>rfl
 have e0:((ep+1:Nat):Int)≠0:=by omega
 have e1:(((ep+1:Nat):Int)==0)=false:=by simp;omega
 have e2:IntKind.u64.wrap (((ep+1:Nat):Int) - 1)=(ep:Int):=by rw [IntKind.wrap_u64];omega
 have e3:(((ep:Nat):Int) != (ep:Int))=false:=by simp
 have e4:((au':Int)<(au:Int))=False:=by simp;omega
 generalize ep+1=ep1 at hC e0 e1 e2 hep' |-
 clear hok hok' hc hc' hK
 go_enter Tryz.func78,Tryz.ntmps78
 go_wp2_with fail
 have hb1:Below w.heap.size w ((w.alloc (.cells #[.int .u64 ep,.string ⟨par.toArray⟩,.int .i64 d,.int .i64 au,.slice a N c] 69)).alloc (.cells #[.int .u64 ep1,.string ⟨D.toArray⟩,.int .i64 d,.int .i64 au',.slice a' N' c'] 69)):=((Below.refl _ _).alloc (Nat.le_refl _) _).alloc (by simp) _
 have hr0:((w.alloc (.cells #[.int .u64 ep,.string ⟨par.toArray⟩,.int .i64 d,.int .i64 au,.slice a N c] 69)).alloc (.cells #[.int .u64 ep1,.string ⟨D.toArray⟩,.int .i64 d,.int .i64 au',.slice a' N' c'] 69)).heap[w.heap.size]?=some (.cells #[.int .u64 ep,.string ⟨par.toArray⟩,.int .i64 d,.int .i64 au,.slice a N c] 69 (0,0)):=heap_alloc2_old _ _ _
 have hr1:((w.alloc (.cells #[.int .u64 ep,.string ⟨par.toArray⟩,.int .i64 d,.int .i64 au,.slice a N c] 69)).alloc (.cells #[.int .u64 ep1,.string ⟨D.toArray⟩,.int .i64 d,.int .i64 au',.slice a' N' c'] 69)).heap[w.heap.size+1]?=some (.cells #[.int .u64 ep1,.string ⟨D.toArray⟩,.int .i64 d,.int .i64 au',.slice a' N' c'] 69 (0,0)):=heap_alloc2_new _ _ _
 generalize ((w.alloc (.cells #[.int .u64 ep,.string ⟨par.toArray⟩,.int .i64 d,.int .i64 au,.slice a N c] 69)).alloc (.cells #[.int .u64 ep1,.string ⟨D.toArray⟩,.int .i64 d,.int .i64 au',.slice a' N' c'] 69))=W1 at hb1 hr0 hr1 |-
 have hlt0:=lt_of_heap hr1
 have hT:∀ A:World,Below W1.heap.size W1 A->A.cell? ⟨w.heap.size,0,none⟩=some (.int .u64 ep)/\A.cell? ⟨w.heap.size,1,none⟩=some (.string ⟨par.toArray⟩)/\A.cell? ⟨w.heap.size,2,none⟩=some (.int .i64 d)/\A.cell? ⟨w.heap.size,3,none⟩=some (.int .i64 au)/\A.cell? ⟨w.heap.size,4,none⟩=some (.slice a N c)/\A.cell? ⟨w.heap.size+1,0,none⟩=some (.int .u64 ep1)/\A.cell? ⟨w.heap.size+1,1,none⟩=some (.string ⟨D.toArray⟩)/\A.cell? ⟨w.heap.size+1,2,none⟩=some (.int .i64 d)/\A.cell? ⟨w.heap.size+1,3,none⟩=some (.int .i64 au')/\A.cell? ⟨w.heap.size+1,4,none⟩=some (.slice a' N' c')/\Below w.heap.size w A:=by
  intro A hA
  have q0:=(hA.block _ (by omega)).trans hr0
  have q1:=(hA.block _ hlt0).trans hr1
  refine ⟨?_,?_,?_,?_,?_,?_,?_,?_,?_,?_,hb1.trans (hA.mono hb1.size)⟩
  · rw [cell_of_row _ _ 0 _ _ _ q0];rfl
  · rw [cell_of_row _ _ 1 _ _ _ q0];rfl
  · rw [cell_of_row _ _ 2 _ _ _ q0];rfl
  · rw [cell_of_row _ _ 3 _ _ _ q0];rfl
  · rw [cell_of_row _ _ 4 _ _ _ q0];rfl
  · rw [cell_of_row _ _ 0 _ _ _ q1];rfl
  · rw [cell_of_row _ _ 1 _ _ _ q1];rfl
  · rw [cell_of_row _ _ 2 _ _ _ q1];rfl
  · rw [cell_of_row _ _ 3 _ _ _ q1];rfl
  · rw [cell_of_row _ _ 4 _ _ _ q1];rfl
 have hS0:=Lib.hid (hT _ (⟨rfl,rfl,rfl,Nat.le_refl _,fun _ _=>rfl⟩:Below W1.heap.size W1 W1.drew))
 have hS1:Hid (∀ A B:World,(A.cell? ⟨w.heap.size,0,none⟩=some (.int .u64 ep)/\A.cell? ⟨w.heap.size,1,none⟩=some (.string ⟨par.toArray⟩)/\A.cell? ⟨w.heap.size,2,none⟩=some (.int .i64 d)/\A.cell? ⟨w.heap.size,3,none⟩=some (.int .i64 au)/\A.cell? ⟨w.heap.size,4,none⟩=some (.slice a N c)/\A.cell? ⟨w.heap.size+1,0,none⟩=some (.int .u64 ep1)/\A.cell? ⟨w.heap.size+1,1,none⟩=some (.string ⟨D.toArray⟩)/\A.cell? ⟨w.heap.size+1,2,none⟩=some (.int .i64 d)/\A.cell? ⟨w.heap.size+1,3,none⟩=some (.int .i64 au')/\A.cell? ⟨w.heap.size+1,4,none⟩=some (.slice a' N' c')/\Below w.heap.size w A)->Below A.heap.size A B->B.cell? ⟨w.heap.size,0,none⟩=some (.int .u64 ep)/\B.cell? ⟨w.heap.size,1,none⟩=some (.string ⟨par.toArray⟩)/\B.cell? ⟨w.heap.size,2,none⟩=some (.int .i64 d)/\B.cell? ⟨w.heap.size,3,none⟩=some (.int .i64 au)/\B.cell? ⟨w.heap.size,4,none⟩=some (.slice a N c)/\B.cell? ⟨w.heap.size+1,0,none⟩=some (.int .u64 ep1)/\B.cell? ⟨w.heap.size+1,1,none⟩=some (.string ⟨D.toArray⟩)/\B.cell? ⟨w.heap.size+1,2,none⟩=some (.int .i64 d)/\B.cell? ⟨w.heap.size+1,3,none⟩=some (.int .i64 au')/\B.cell? ⟨w.heap.size+1,4,none⟩=some (.slice a' N' c')/\Below w.heap.size w B):=Lib.hid (by
  have hkeep:∀ {A B:World} {p:Addr} {v:Value},A.cell? p=some v->Below A.heap.size A B->B.cell? p=some v:=fun h hb=>(hb.cell (World.block_lt_of_cell? _ _ h)).trans h
  rintro A B ⟨a0,a1,a2,a3,a4,b0,b1,b2,b3,b4,hA⟩ hB
  refine ⟨hkeep a0 hB,hkeep a1 hB,hkeep a2 hB,hkeep a3 hB,hkeep a4 hB,hkeep b0 hB,hkeep b1 hB,hkeep b2 hB,hkeep b3 hB,hkeep b4 hB,hA.trans (hB.mono hA.size)⟩)
 have hD2:Hid (∀ A:World,(A.cell? ⟨w.heap.size,0,none⟩=some (.int .u64 ep)/\A.cell? ⟨w.heap.size,1,none⟩=some (.string ⟨par.toArray⟩)/\A.cell? ⟨w.heap.size,2,none⟩=some (.int .i64 d)/\A.cell? ⟨w.heap.size,3,none⟩=some (.int .i64 au)/\A.cell? ⟨w.heap.size,4,none⟩=some (.slice a N c)/\A.cell? ⟨w.heap.size+1,0,none⟩=some (.int .u64 ep1)/\A.cell? ⟨w.heap.size+1,1,none⟩=some (.string ⟨D.toArray⟩)/\A.cell? ⟨w.heap.size+1,2,none⟩=some (.int .i64 d)/\A.cell? ⟨w.heap.size+1,3,none⟩=some (.int .i64 au')/\A.cell? ⟨w.heap.size+1,4,none⟩=some (.slice a' N' c')/\Below w.heap.size w A)->_):=Lib.hid (fun A h=>hD.out A h.2.2.2.2.2.2.2.2.2.2)
 have hC2:Hid (∀ A:World,(A.cell? ⟨w.heap.size,0,none⟩=some (.int .u64 ep)/\A.cell? ⟨w.heap.size,1,none⟩=some (.string ⟨par.toArray⟩)/\A.cell? ⟨w.heap.size,2,none⟩=some (.int .i64 d)/\A.cell? ⟨w.heap.size,3,none⟩=some (.int .i64 au)/\A.cell? ⟨w.heap.size,4,none⟩=some (.slice a N c)/\A.cell? ⟨w.heap.size+1,0,none⟩=some (.int .u64 ep1)/\A.cell? ⟨w.heap.size+1,1,none⟩=some (.string ⟨D.toArray⟩)/\A.cell? ⟨w.heap.size+1,2,none⟩=some (.int .i64 d)/\A.cell? ⟨w.heap.size+1,3,none⟩=some (.int .i64 au')/\A.cell? ⟨w.heap.size+1,4,none⟩=some (.slice a' N' c')/\Below w.heap.size w A)->_):=Lib.hid (fun A h=>hC.out A h.2.2.2.2.2.2.2.2.2.2)
 clear hT hb1 hr0 hr1 hlt0 hD hC
 go_region_held3 (fun W=>W.cell? ⟨w.heap.size,0,none⟩=some (.int .u64 ep)/\W.cell? ⟨w.heap.size,1,none⟩=some (.string ⟨par.toArray⟩)/\W.cell? ⟨w.heap.size,2,none⟩=some (.int .i64 d)/\W.cell? ⟨w.heap.size,3,none⟩=some (.int .i64 au)/\W.cell? ⟨w.heap.size,4,none⟩=some (.slice a N c)/\W.cell? ⟨w.heap.size+1,0,none⟩=some (.int .u64 ep1)/\W.cell? ⟨w.heap.size+1,1,none⟩=some (.string ⟨D.toArray⟩)/\W.cell? ⟨w.heap.size+1,2,none⟩=some (.int .i64 d)/\W.cell? ⟨w.heap.size+1,3,none⟩=some (.int .i64 au')/\W.cell? ⟨w.heap.size+1,4,none⟩=some (.slice a' N' c')/\Below w.heap.size w W) (first | exact hS0.out | exact hS1.out _ _ (by assumption) hb5 | assumption) (first
  | (go_at_call 125;with_reducible refine (hC2.out _ (by assumption)).mono ?_;rintro r w5 ⟨rfl,hb5⟩)
  | (go_at_call 73;with_reducible refine (hD2.out _ (by assumption)).mono ?_;rintro r w5 ⟨rfl,hb5⟩))
 rename_i hHeld
 obtain ⟨a0,a1,a2,a3,a4,b0,b1,b2,b3,b4,hA⟩:=hHeld
 have HA:=Lib.hid hA
 clear hA hS0 hS1 hD2 hC2
 go_wp2
 go_ret
 exact ⟨rfl,HA.out⟩
theorem addEq_no (H:Nat) (s s':ByteArray) (o r o' r':List UInt8) (h h':Nat) (w:World) (hr:w.heap[H]?=some (.cells #[.string s,.string ⟨o.toArray⟩,.string ⟨r.toArray⟩,.int .i64 h] 90 (0,0))) (hs:s'≠s) (ho:o'≠o) :
 Calls Tryz.prog 171 #[audV s' o' r' h',.pointer (some ⟨H,0,none⟩)] w fun e w'=>e=.returned (.bool false)/\Below w.heap.size w w':=by
 have hl:=lt_of_heap hr
 have hA:∀ ob:Obj,(w.alloc ob).heap[H]?=some (.cells #[.string s,.string ⟨o.toArray⟩,.string ⟨r.toArray⟩,.int .i64 h] 90 (0,0)):=fun ob=>(Below.heap_alloc _ _ _ hl).trans hr
 have y0:∀ ob:Obj,(w.alloc ob).cell? ⟨H,0,none⟩=some (.string s):=fun ob=>cel (hA ob)
 have y1:∀ ob:Obj,(w.alloc ob).cell? ⟨H,1,none⟩=some (.string ⟨o.toArray⟩):=fun ob=>cel (hA ob)
 have y2:∀ ob:Obj,(w.alloc ob).cell? ⟨H,2,none⟩=some (.string ⟨r.toArray⟩):=fun ob=>cel (hA ob)
 have y3:∀ ob:Obj,(w.alloc ob).cell? ⟨H,3,none⟩=some (.int .i64 h):=fun ob=>cel (hA ob)
 have z0:w.cell? ⟨H,0,none⟩=some (.string s):=cel hr
 have z1:w.cell? ⟨H,1,none⟩=some (.string ⟨o.toArray⟩):=cel hr
 have z2:w.cell? ⟨H,2,none⟩=some (.string ⟨r.toArray⟩):=cel hr
 have z3:w.cell? ⟨H,3,none⟩=some (.int .i64 h):=cel hr
 have hne1':¬ s'.toList=s.toList:=by
  rw [ByteArray.toList_eq,ByteArray.toList_eq]
  intro e
  exact hs (ByteArray.ext (Array.toList_inj.1 e))
 have hne1:(s'.toList==s.toList)=false:=beq_eq_false_iff_ne.2 hne1'
 have hne2:(o'==o)=false:=beq_eq_false_iff_ne.2 ho
 have hHl:¬ H=w.heap.size:=by omega
 have hHl':¬ w.heap.size=H:=by omega
 clear hr hA
 unfold audV
 go_enter Tryz.func171,Tryz.ntmps171
 go_wp2
 go_ret
 exact ⟨rfl,(Below.refl _ _).alloc (Nat.le_refl _) _⟩
structure Aud where
 s:ByteArray
 o:List UInt8
 r:List UInt8
 h:Nat
def audRow (x:Aud):List Value:=[.string x.s,.string ⟨x.o.toArray⟩,.string ⟨x.r.toArray⟩,.int .i64 x.h]
def audCells (l:List Aud):List Value:=l.flatMap audRow
theorem audCells_at:∀ (l:List Aud) (k:Nat) (hk:k<l.length),(audCells l)[4*k]?=some (.string (l[k]).s)/\(audCells l)[4*k+1]?=some (.string ⟨(l[k]).o.toArray⟩)/\(audCells l)[4*k+2]?=some (.string ⟨(l[k]).r.toArray⟩)/\(audCells l)[4*k+3]?=some (.int .i64 (l[k]).h)
 | x :: l,0,_=>⟨rfl,rfl,rfl,rfl⟩
 | x :: l,k+1,hk=>by
   have:=audCells_at l k (by simpa using hk)
   unfold audCells at *
   rw [List.flatMap_cons]
   simp only [List.getElem_cons_succ]
   rw [show 4*(k+1)=4*k+1+1+1+1 from by omega]
   exact this
theorem audCells_one (l:List Aud):∀ u∈audCells l,u.oneCell'=true:=by
 intro u hu
 obtain ⟨x,_,hx⟩:=List.mem_flatMap.1 hu
 unfold audRow at hx
 simp at hx
 rcases hx with rfl | rfl | rfl | rfl <;> rfl
theorem aud_at {w:World} {B:Nat} {a:Option Addr} {n c:Nat} {l:List Aud} (h:w.ownsRow B 90 4 (.slice a n c) n (audCells l)) (hn:n=l.length) (k:Nat) (hk:k<l.length) :
 ∃ g,a=some ⟨g,0,none⟩/\g<w.heap.size/\w.cell? ⟨g,k*4,none⟩=some (.string (l[k]).s)/\w.cell? ⟨g,k*4+1,none⟩=some (.string ⟨(l[k]).o.toArray⟩)/\w.cell? ⟨g,k*4+2,none⟩=some (.string ⟨(l[k]).r.toArray⟩)/\w.cell? ⟨g,k*4+3,none⟩=some (.int .i64 (l[k]).h):=by
 obtain ⟨g,cap,e,hb,hg⟩:=h.form (by omega)
 injection e with e1 e2 e3
 subst e1
 have hadd:∀ i,(⟨g,0,none⟩:Addr).add i=⟨g,i,none⟩:=fun i=>by unfold Addr.add;split <;> simp_all
 obtain ⟨h0,h1,h2,h3⟩:=audCells_at l k hk
 have c0:=h.cells (g:=g) rfl _ _ h0
 have c1:=h.cells (g:=g) rfl _ _ h1
 have c2:=h.cells (g:=g) rfl _ _ h2
 have c3:=h.cells (g:=g) rfl _ _ h3
 rw [hadd] at c0 c1 c2 c3
 rw [Nat.mul_comm k 4]
 exact ⟨g,rfl,hg,c0,c1,c2,c3⟩
theorem index_no (H B:Nat) (a:Option Addr) (n c:Nat) (l:List Aud) (s:ByteArray) (o r:List UInt8) (h:Nat) (w:World) (hr:w.heap[H]?=some (.cells #[.string s,.string ⟨o.toArray⟩,.string ⟨r.toArray⟩,.int .i64 h] 90 (0,0))) (hl:w.ownsRow B 90 4 (.slice a n c) n (audCells l)) (hn:n=l.length) (hn64:n<=64) (hd:∀ x∈l,x.s≠s/\x.o≠o) :
 Calls Tryz.prog 204 #[.slice a n c,.func (.func 171) #[] #[.pointer (some ⟨H,0,none⟩)]] w fun e w'=>e=.returned (.int .i64 (-1))/\Below w.heap.size w w':=by
 have HR:=Lib.hid hr
 have HL:=Lib.hid hl
 have HD:=Lib.hid hd
 have HN:=Lib.hid hn
 clear hr hl hd hn
 go_enter Tryz.func204,Tryz.ntmps204
 go_wp2_with fail
 go_loopw [8] (fun i W=>∃ k:Nat,k<=n/\i=.int .i64 (k:Int)/\Below w.heap.size w W) (fun i _=>n - (intOf i).toNat)
 case atStart=>exact ⟨0,Nat.zero_le _,rfl,Below.refl _ _⟩
 case round=>
  obtain ⟨k,hk,rfl,hb⟩:=hrel
  by_cases hlt:k<n
  · have hlt':(k:Int)<(n:Int):=by omega
    have hkl:k<l.length:=by rw [<-HN.out];exact hlt
    obtain ⟨g,rfl,hg,c0,c1,c2,c3⟩:=aud_at HL.out HN.out k hkl
    have c0:=(hb.cell (p:=⟨g,k*4,none⟩) hg).trans c0
    have c1:=(hb.cell (p:=⟨g,k*4+1,none⟩) hg).trans c1
    have c2:=(hb.cell (p:=⟨g,k*4+2,none⟩) hg).trans c2
    have c3:=(hb.cell (p:=⟨g,k*4+3,none⟩) hg).trans c3
    have hdk:=HD.out _ (List.getElem_mem hkl)
    have hrk:=(hb.block H (lt_of_heap HR.out)).trans HR.out
    generalize l[k]=x at c0 c1 c2 c3 hdk
    obtain ⟨xs,xo,xr,xh⟩:=x
    dsimp only at c0 c1 c2 c3 hdk
    have hcall:=Lib.hid (addEq_no H s xs o r xo xr h xh wr hrk hdk.1 hdk.2)
    unfold audV at hcall
    have Hb:=Lib.hid hb
    clear hdk hrk hb
    go_wp2_with fail
    refine hcall.out.mono ?_
    rintro e w2 ⟨rfl,hb2⟩
    have hB2:=Hb.out.trans (hb2.mono Hb.out.size)
    clear hcall c0 c1 c2 c3 hb2
    go_wp2
    go_roundw
    case rel=>exact ⟨k+1,by omega,by go_num,hB2⟩
    case measure=>simp [intOf];omega
  · have hge:¬ (k:Int)<(n:Int):=by omega
    go_wp2
    go_ret
    exact ⟨rfl,hb⟩
theorem contains_no (H B:Nat) (a:Option Addr) (n c:Nat) (l:List Aud) (s:ByteArray) (o r:List UInt8) (h:Nat) (w:World) (hr:w.heap[H]?=some (.cells #[.string s,.string ⟨o.toArray⟩,.string ⟨r.toArray⟩,.int .i64 h] 90 (0,0))) (hl:w.ownsRow B 90 4 (.slice a n c) n (audCells l)) (hn:n=l.length) (hn64:n<=64) (hd:∀ x∈l,x.s≠s/\x.o≠o) :
 Calls Tryz.prog 170 #[.slice a n c,.func (.func 171) #[] #[.pointer (some ⟨H,0,none⟩)]] w fun e w'=>e=.returned (.bool false)/\Below w.heap.size w w':=by
 have hi:=Lib.hid (index_no H B a n c l s o r h w hr hl hn hn64 hd)
 clear hr hl hn hd
 go_enter Tryz.func170,Tryz.ntmps170
 go_wp2_with fail
 refine hi.out.mono ?_
 rintro e w2 ⟨rfl,hb2⟩
 clear hi
 go_wp2
 go_ret
 exact ⟨rfl,hb2⟩
def alpCells:Array Value:=#[.int .i64 1,.int .i32 97,.int .i32 122,.int .i64 2,.int .i32 945,.int .i32 969,.int .i64 4,.int .i32 1072,.int .i32 1103]
def Alp (w:World):Prop:=∀ i v,alpCells[i]?=some v->w.cell? ⟨2,i,none⟩=some v
theorem Tryz.alpName:Tryz.prog.globalNamed "plumbob/label.alphabets" = some 2:=by kernel_rfl
theorem Alp.cell {w:World} (h:Alp w) (i:Nat) (v:Value) (hv:alpCells[i]?=some v):w.cell? ⟨2,i,none⟩=some v:=h i v hv
theorem Alp.old {w w':World} (h:Alp w) (hb:Below w.heap.size w w'):Alp w':=fun i v hv=>(hb.cell (World.block_lt_of_cell? w _ (h i v hv))).trans (h i v hv)
theorem has_in (b f l r:Int) (w:World) (h1:f<=r) (h2:r<=l) :
 Calls Tryz.prog 264 #[.agg #[.int .i64 b,.int .i32 f,.int .i32 l],.int .i32 r] w fun e w'=>e=.returned (.bool true)/\Below w.heap.size w w':=by
 go_enter Tryz.func264,Tryz.ntmps264
 go_wp2
 go_ret
 exact ⟨rfl,(Below.refl _ _).alloc (Nat.le_refl _) _⟩
theorem has_below (b f l r:Int) (w:World) (h1:r<f) :
 Calls Tryz.prog 264 #[.agg #[.int .i64 b,.int .i32 f,.int .i32 l],.int .i32 r] w fun e w'=>e=.returned (.bool false)/\Below w.heap.size w w':=by
 have h1':¬ f<=r:=by omega
 go_enter Tryz.func264,Tryz.ntmps264
 go_wp2
 go_ret
 exact ⟨rfl,(Below.refl _ _).alloc (Nat.le_refl _) _⟩
theorem has_above (b f l r:Int) (w:World) (h1:f<=r) (h2:l<r) :
 Calls Tryz.prog 264 #[.agg #[.int .i64 b,.int .i32 f,.int .i32 l],.int .i32 r] w fun e w'=>e=.returned (.bool false)/\Below w.heap.size w w':=by
 have h2':¬ r<=l:=by omega
 go_enter Tryz.func264,Tryz.ntmps264
 go_wp2
 go_ret
 exact ⟨rfl,(Below.refl _ _).alloc (Nat.le_refl _) _⟩
theorem alp_at0 (w:World):(Instr.index 356 (.agg #[.int .i64 1,.int .i32 97,.int .i32 122,.int .i64 2,.int .i32 945,.int .i32 969,.int .i64 4,.int .i32 1072,.int .i32 1103]) (.int .i64 0)).run Tryz.prog w=.ok (.agg #[.int .i64 1,.int .i32 97,.int .i32 122]) w:=by kernel_rfl
theorem alp_at1 (w:World):(Instr.index 356 (.agg #[.int .i64 1,.int .i32 97,.int .i32 122,.int .i64 2,.int .i32 945,.int .i32 969,.int .i64 4,.int .i32 1072,.int .i32 1103]) (.int .i64 1)).run Tryz.prog w=.ok (.agg #[.int .i64 2,.int .i32 945,.int .i32 969]) w:=by kernel_rfl
theorem alp_at2 (w:World):(Instr.index 356 (.agg #[.int .i64 1,.int .i32 97,.int .i32 122,.int .i64 2,.int .i32 945,.int .i32 969,.int .i64 4,.int .i32 1072,.int .i32 1103]) (.int .i64 2)).run Tryz.prog w=.ok (.agg #[.int .i64 4,.int .i32 1072,.int .i32 1103]) w:=by kernel_rfl
theorem small_any (r:Int) (w:World) (h1:97<=r) (h2:r<=122) (hA:Alp w) :
 Calls Tryz.prog 235 #[.int .i32 r] w fun e w'=>e=.returned (.int .i32 r)/\Below w.heap.size w w':=by
 have c0:w.cell? ⟨2,0,none⟩=some (.int .i64 1):=hA.cell 0 _ rfl
 have c1:w.cell? ⟨2,1,none⟩=some (.int .i32 97):=hA.cell 1 _ rfl
 have c2:w.cell? ⟨2,2,none⟩=some (.int .i32 122):=hA.cell 2 _ rfl
 have c3:w.cell? ⟨2,3,none⟩=some (.int .i64 2):=hA.cell 3 _ rfl
 have c4:w.cell? ⟨2,4,none⟩=some (.int .i32 945):=hA.cell 4 _ rfl
 have c5:w.cell? ⟨2,5,none⟩=some (.int .i32 969):=hA.cell 5 _ rfl
 have c6:w.cell? ⟨2,6,none⟩=some (.int .i64 4):=hA.cell 6 _ rfl
 have c7:w.cell? ⟨2,7,none⟩=some (.int .i32 1072):=hA.cell 7 _ rfl
 have c8:w.cell? ⟨2,8,none⟩=some (.int .i32 1103):=hA.cell 8 _ rfl
 have i0:=alp_at0
 have i1:=alp_at1
 have i2:=alp_at2
 clear hA
 go_enter Tryz.func235,Tryz.ntmps235
 go_wp2_with fail
 clear c0 c1 c2 c3 c4 c5 c6 c7 c8
 refine wp_loop_rounds 4 ?_
 rw [rounds_succ]
 go_wp2_with fail
 refine (has_above 1 97 122 (r+32) _ (by omega) (by omega)).mono ?_
 rintro e w1 ⟨rfl,hb1⟩
 have HB1:=Lib.hid (((Below.refl _ _).alloc (Nat.le_refl _) _).trans (hb1.mono (by simp)))
 clear hb1
 go_wp2_with fail
 rw [rounds_succ]
 go_wp2_with fail
 refine (has_below 2 945 969 (r+32) _ (by omega)).mono ?_
 rintro e w2 ⟨rfl,hb2⟩
 have HB2:=Lib.hid ((HB1.out.alloc HB1.out.size _).trans (hb2.mono (by have:=HB1.out.size;simp;omega)))
 clear hb2
 go_wp2_with fail
 rw [rounds_succ]
 go_wp2_with fail
 refine (has_below 4 1072 1103 (r+32) _ (by omega)).mono ?_
 rintro e w3 ⟨rfl,hb3⟩
 have HB3:=Lib.hid ((HB2.out.alloc HB2.out.size _).trans (hb3.mono (by have:=HB2.out.size;simp;omega)))
 clear hb3
 go_wp2_with fail
 rw [rounds_succ]
 go_wp2
 go_ret
 exact ⟨rfl,HB3.out⟩
theorem letter_any (r:Int) (w:World) (h1:97<=r) (h2:r<=122) (hA:Alp w) :
 Calls Tryz.prog 254 #[.int .i32 r] w fun e w'=>e=.returned (.int .i64 1)/\Below w.heap.size w w':=by
 have HA:=Lib.hid hA
 have hs:=Lib.hid (small_any r w h1 h2 hA)
 have i0:=alp_at0
 clear hA
 go_enter Tryz.func254,Tryz.ntmps254
 go_wp2_with fail
 refine hs.out.mono ?_
 rintro e w1 ⟨rfl,hb1⟩
 have hA1:=HA.out.old hb1
 have c0:w1.cell? ⟨2,0,none⟩=some (.int .i64 1):=hA1.cell 0 _ rfl
 have c1:w1.cell? ⟨2,1,none⟩=some (.int .i32 97):=hA1.cell 1 _ rfl
 have c2:w1.cell? ⟨2,2,none⟩=some (.int .i32 122):=hA1.cell 2 _ rfl
 have c3:w1.cell? ⟨2,3,none⟩=some (.int .i64 2):=hA1.cell 3 _ rfl
 have c4:w1.cell? ⟨2,4,none⟩=some (.int .i32 945):=hA1.cell 4 _ rfl
 have c5:w1.cell? ⟨2,5,none⟩=some (.int .i32 969):=hA1.cell 5 _ rfl
 have c6:w1.cell? ⟨2,6,none⟩=some (.int .i64 4):=hA1.cell 6 _ rfl
 have c7:w1.cell? ⟨2,7,none⟩=some (.int .i32 1072):=hA1.cell 7 _ rfl
 have c8:w1.cell? ⟨2,8,none⟩=some (.int .i32 1103):=hA1.cell 8 _ rfl
 have HB1:=Lib.hid hb1
 clear hA1 hb1
 go_wp2_with fail
 clear c0 c1 c2 c3 c4 c5 c6 c7 c8
 refine wp_loop_rounds 4 ?_
 rw [rounds_succ]
 go_wp2_with fail
 refine (has_in 1 97 122 r _ (by omega) (by omega)).mono ?_
 rintro e w2 ⟨rfl,hb2⟩
 have hlt:w1.heap.size<w2.heap.size:=by have:=hb2.size;simp at this;omega
 have hc:w2.cell? ⟨w1.heap.size,0,none⟩=some (.int .i64 1):=by
  rw [hb2.cell (p:=⟨w1.heap.size,0,none⟩) (by simp),World.cell?_alloc_at _ _ _ _ rfl];rfl
 have HB2:=Lib.hid ((HB1.out.alloc HB1.out.size _).trans (hb2.mono (by have:=HB1.out.size;simp;omega)))
 clear hb2
 go_wp2
 go_ret
 exact ⟨rfl,HB2.out⟩
theorem separator_no (r:Int) (w:World) (h1:97<=r) (h2:r<=122) :
 Calls Tryz.prog 255 #[.int .i32 r] w fun e w'=>e=.returned (.bool false)/\w=w':=by
 have e1:(r==46)=false:=by simp;omega
 have e2:(r==45)=false:=by simp;omega
 have e3:(r==95)=false:=by simp;omega
 have e4:(r==64)=false:=by simp;omega
 go_enter Tryz.func255,Tryz.ntmps255
 go_wp2
 go_ret
 exact ⟨rfl,rfl⟩
theorem lone_one (w:World) :
 Calls Tryz.prog 257 #[.int .i64 1] w fun e w'=>e=.returned (.bool true)/\w=w':=by
 have hb:bits BinOp.and IntKind.i64 1 0=0:=by kernel_rfl
 go_enter Tryz.func257,Tryz.ntmps257
 go_wp2
 go_ret
 exact ⟨rfl,rfl⟩
def Low (s:ByteArray):Prop:=∀ (i:Nat) (h:i<s.size),97<=(s[i]'h).toNat/\(s[i]'h).toNat<=122
def seenB (i:Nat):Int:=if i=0 then 0 else 1
theorem seenB_or (i:Nat):bits BinOp.or IntKind.i64 (seenB i) 1=seenB (i+1):=by
 unfold seenB
 rw [if_neg (Nat.succ_ne_zero i)]
 split <;> kernel_rfl
theorem alphabets_any (s:ByteArray) (w:World) (hlow:Low s) (h0:0<s.size) (h64:s.size<=1000) (hA:Alp w) :
 Calls Tryz.prog 258 #[.string s] w fun e w'=>e=.returned (.int .i64 1)/\Below w.heap.size w w':=by
 have HA:=Lib.hid hA
 have HL:=Lib.hid hlow
 clear hA hlow
 go_enter Tryz.func258,Tryz.ntmps258
 go_wp2_with fail
 have hb1:Below w.heap.size w (w.iter s 0):=(Below.refl _ _).alloc (Nat.le_refl _) _
 have hk1:(w.iter s 0).heap[w.heap.size]?=some (.stringIter s 0):=World.iter_heap _ _ _
 generalize w.iter s 0=W1 at hb1 hk1 |-
 go_loopw [3] (fun b W=>∃ i:Nat,i<=s.size/\b=.int .i64 (seenB i)/\W.heap[w.heap.size]?=some (.stringIter s i)/\Below w.heap.size w W) (fun _ W=>s.size - W.iterPos w.heap.size)
 case atStart=>exact ⟨0,Nat.zero_le _,rfl,hk1,hb1⟩
 case round=>
  obtain ⟨i,hi,rfl,hk,hb⟩:=hrel
  clear hk1 hb1
  by_cases hlt:i<s.size
  · obtain ⟨l1,l2⟩:=HL.out i hlt
    obtain ⟨c,hc⟩:∃ c:Nat,(s[i]'hlt).toNat=c:=⟨_,rfl⟩
    rw [hc] at l1 l2
    have hnx:=fun ty=>Lib.run_next_ascii_at (P:=Tryz.prog) wr w.heap.size s i ty hk hlt (by omega)
    rw [hc] at hnx
    have hbI:=Lib.below_iterAt hb (Nat.le_refl _) s (i+1)
    have hkI:=Lib.iterAt_heap wr w.heap.size s i (i+1) hk
    have hpos:wr.iterPos w.heap.size=i:=by simp [World.iterPos,hk]
    have Hpos:=Lib.hid hpos
    have Hor:=Lib.hid (seenB_or i)
    generalize wr.iterAt w.heap.size s (i+1)=W2 at hnx hbI hkI
    have hlet:=Lib.hid (letter_any (c:Int) W2 (by omega) (by omega) (HA.out.old hbI))
    have HbI:=Lib.hid hbI
    have HkI:=Lib.hid hkI
    have s2:=hbI.size
    have hlt2:w.heap.size<W2.heap.size:=(Array.getElem?_eq_some_iff.1 hkI).1
    clear hc hb hk hbI hkI hpos
    generalize seenB i=x at Hor |-
    go_wp2_with fail
    refine hlet.out.mono ?_
    rintro e w3 ⟨rfl,hb3⟩
    have hk3:=(hb3.block w.heap.size hlt2).trans HkI.out
    have hB3:=HbI.out.trans (hb3.mono s2)
    have hor:=Hor.out
    clear hlet hb3 hnx
    go_wp2
    go_roundw
    case rel=>exact ⟨i+1,by omega,rfl,hk3,hB3⟩
    case measure=>have h3:w3.iterPos w.heap.size=i+1:=by simp [World.iterPos,hk3]
                  rw [h3,Hpos.out];omega
  · have hnx:=fun ty=>Lib.run_next_end_at (P:=Tryz.prog) wr w.heap.size s i ty hk hlt
    have hi1:seenB i=1:=by unfold seenB;rw [if_neg (by omega)]
    rw [hi1]
    go_wp2
    go_ret
    exact ⟨rfl,hb⟩
theorem has_no (b f l r:Int) (w:World) (h:r<f\/l<r) :
 Calls Tryz.prog 264 #[.agg #[.int .i64 b,.int .i32 f,.int .i32 l],.int .i32 r] w fun e w'=>e=.returned (.bool false)/\Below w.heap.size w w':=by
 by_cases h1:r<f
 · exact has_below b f l r w h1
 · exact has_above b f l r w (by omega) (by omega)
def smallF (r:Int):Int:=if 65<=r/\r<=90 then r+32 else if 913<=r/\r<=937/\r≠930 then r+32 else if 1040<=r/\r<=1071 then r+32 else r
theorem small_latin (r:Int) (w:World) (h1:65<=r) (h2:r<=90) (hA:Alp w) :
 Calls Tryz.prog 235 #[.int .i32 r] w fun e w'=>e=.returned (.int .i32 (r+32))/\Below w.heap.size w w':=by
 have c0:w.cell? ⟨2,0,none⟩=some (.int .i64 1):=hA.cell 0 _ rfl
 have c1:w.cell? ⟨2,1,none⟩=some (.int .i32 97):=hA.cell 1 _ rfl
 have c2:w.cell? ⟨2,2,none⟩=some (.int .i32 122):=hA.cell 2 _ rfl
 have c3:w.cell? ⟨2,3,none⟩=some (.int .i64 2):=hA.cell 3 _ rfl
 have c4:w.cell? ⟨2,4,none⟩=some (.int .i32 945):=hA.cell 4 _ rfl
 have c5:w.cell? ⟨2,5,none⟩=some (.int .i32 969):=hA.cell 5 _ rfl
 have c6:w.cell? ⟨2,6,none⟩=some (.int .i64 4):=hA.cell 6 _ rfl
 have c7:w.cell? ⟨2,7,none⟩=some (.int .i32 1072):=hA.cell 7 _ rfl
 have c8:w.cell? ⟨2,8,none⟩=some (.int .i32 1103):=hA.cell 8 _ rfl
 have i0:=alp_at0
 have i1:=alp_at1
 have i2:=alp_at2
 have hne:(r != 930)=true:=by simp;omega
 have hne2:(r==930)=false:=by simp;omega
 clear hA
 go_enter Tryz.func235,Tryz.ntmps235
 go_wp2_with fail
 clear c0 c1 c2 c3 c4 c5 c6 c7 c8
 refine wp_loop_rounds 4 ?_
 have HB:=Lib.hid (Below.refl w.heap.size w)
 rw [rounds_succ]
 go_wp2_with fail
 refine (has_in 1 97 122 (r+32) _ (by omega) (by omega)).mono ?_
 rintro e w0 ⟨rfl,hb⟩
 have d0:w0.cell? ⟨w.heap.size,0,none⟩=some (.int .i64 1):=by
  rw [hb.cell (p:=⟨w.heap.size,0,none⟩) (by simp),World.cell?_alloc_at _ _ _ _ rfl];rfl
 have d1:w0.cell? ⟨w.heap.size,1,none⟩=some (.int .i32 97):=by
  rw [hb.cell (p:=⟨w.heap.size,1,none⟩) (by simp),World.cell?_alloc_at _ _ _ _ rfl];rfl
 have d2:w0.cell? ⟨w.heap.size,2,none⟩=some (.int .i32 122):=by
  rw [hb.cell (p:=⟨w.heap.size,2,none⟩) (by simp),World.cell?_alloc_at _ _ _ _ rfl];rfl
 have HB:=Lib.hid ((HB.out.alloc HB.out.size _).trans (hb.mono (by have:=HB.out.size;simp <;> omega)))
 clear hb
 go_wp2_with fail
 refine (has_no 1 97 122 r _ (by omega)).mono ?_
 rintro e w1 ⟨rfl,hb⟩
 have HB:=Lib.hid (HB.out.trans (hb.mono HB.out.size))
 clear hb d0 d1 d2
 go_wp2
 go_ret
 exact ⟨rfl,HB.out⟩
theorem small_greek (r:Int) (w:World) (h1:913<=r) (h2:r<=937) (h3:r≠930) (hA:Alp w) :
 Calls Tryz.prog 235 #[.int .i32 r] w fun e w'=>e=.returned (.int .i32 (r+32))/\Below w.heap.size w w':=by
 have c0:w.cell? ⟨2,0,none⟩=some (.int .i64 1):=hA.cell 0 _ rfl
 have c1:w.cell? ⟨2,1,none⟩=some (.int .i32 97):=hA.cell 1 _ rfl
 have c2:w.cell? ⟨2,2,none⟩=some (.int .i32 122):=hA.cell 2 _ rfl
 have c3:w.cell? ⟨2,3,none⟩=some (.int .i64 2):=hA.cell 3 _ rfl
 have c4:w.cell? ⟨2,4,none⟩=some (.int .i32 945):=hA.cell 4 _ rfl
 have c5:w.cell? ⟨2,5,none⟩=some (.int .i32 969):=hA.cell 5 _ rfl
 have c6:w.cell? ⟨2,6,none⟩=some (.int .i64 4):=hA.cell 6 _ rfl
 have c7:w.cell? ⟨2,7,none⟩=some (.int .i32 1072):=hA.cell 7 _ rfl
 have c8:w.cell? ⟨2,8,none⟩=some (.int .i32 1103):=hA.cell 8 _ rfl
 have i0:=alp_at0
 have i1:=alp_at1
 have i2:=alp_at2
 have hne:(r != 930)=true:=by simp;omega
 have hne2:(r==930)=false:=by simp;omega
 clear hA
 go_enter Tryz.func235,Tryz.ntmps235
 go_wp2_with fail
 clear c0 c1 c2 c3 c4 c5 c6 c7 c8
 refine wp_loop_rounds 4 ?_
 have HB:=Lib.hid (Below.refl w.heap.size w)
 rw [rounds_succ]
 go_wp2_with fail
 refine (has_no 1 97 122 (r+32) _ (by omega)).mono ?_
 rintro e w0 ⟨rfl,hb⟩
 have HB:=Lib.hid ((HB.out.alloc HB.out.size _).trans (hb.mono (by have:=HB.out.size;simp <;> omega)))
 clear hb
 go_wp2_with fail
 rw [rounds_succ]
 go_wp2_with fail
 refine (has_in 2 945 969 (r+32) _ (by omega) (by omega)).mono ?_
 rintro e w1 ⟨rfl,hb⟩
 have d0:w1.cell? ⟨w0.heap.size,0,none⟩=some (.int .i64 2):=by
  rw [hb.cell (p:=⟨w0.heap.size,0,none⟩) (by simp),World.cell?_alloc_at _ _ _ _ rfl];rfl
 have d1:w1.cell? ⟨w0.heap.size,1,none⟩=some (.int .i32 945):=by
  rw [hb.cell (p:=⟨w0.heap.size,1,none⟩) (by simp),World.cell?_alloc_at _ _ _ _ rfl];rfl
 have d2:w1.cell? ⟨w0.heap.size,2,none⟩=some (.int .i32 969):=by
  rw [hb.cell (p:=⟨w0.heap.size,2,none⟩) (by simp),World.cell?_alloc_at _ _ _ _ rfl];rfl
 have HB:=Lib.hid ((HB.out.alloc HB.out.size _).trans (hb.mono (by have:=HB.out.size;simp <;> omega)))
 clear hb
 go_wp2_with fail
 refine (has_no 2 945 969 r _ (by omega)).mono ?_
 rintro e w2 ⟨rfl,hb⟩
 have HB:=Lib.hid (HB.out.trans (hb.mono HB.out.size))
 clear hb d0 d1 d2
 go_wp2
 go_ret
 exact ⟨rfl,HB.out⟩
theorem small_gap (w:World)  (hA:Alp w) :
 Calls Tryz.prog 235 #[.int .i32 930] w fun e w'=>e=.returned (.int .i32 930)/\Below w.heap.size w w':=by
 have c0:w.cell? ⟨2,0,none⟩=some (.int .i64 1):=hA.cell 0 _ rfl
 have c1:w.cell? ⟨2,1,none⟩=some (.int .i32 97):=hA.cell 1 _ rfl
 have c2:w.cell? ⟨2,2,none⟩=some (.int .i32 122):=hA.cell 2 _ rfl
 have c3:w.cell? ⟨2,3,none⟩=some (.int .i64 2):=hA.cell 3 _ rfl
 have c4:w.cell? ⟨2,4,none⟩=some (.int .i32 945):=hA.cell 4 _ rfl
 have c5:w.cell? ⟨2,5,none⟩=some (.int .i32 969):=hA.cell 5 _ rfl
 have c6:w.cell? ⟨2,6,none⟩=some (.int .i64 4):=hA.cell 6 _ rfl
 have c7:w.cell? ⟨2,7,none⟩=some (.int .i32 1072):=hA.cell 7 _ rfl
 have c8:w.cell? ⟨2,8,none⟩=some (.int .i32 1103):=hA.cell 8 _ rfl
 have i0:=alp_at0
 have i1:=alp_at1
 have i2:=alp_at2
 clear hA
 go_enter Tryz.func235,Tryz.ntmps235
 go_wp2_with fail
 clear c0 c1 c2 c3 c4 c5 c6 c7 c8
 refine wp_loop_rounds 4 ?_
 have HB:=Lib.hid (Below.refl w.heap.size w)
 rw [rounds_succ]
 go_wp2_with fail
 refine (has_no 1 97 122 962 _ (by omega)).mono ?_
 rintro e w0 ⟨rfl,hb⟩
 have HB:=Lib.hid ((HB.out.alloc HB.out.size _).trans (hb.mono (by have:=HB.out.size;simp <;> omega)))
 clear hb
 go_wp2_with fail
 rw [rounds_succ]
 go_wp2_with fail
 refine (has_in 2 945 969 962 _ (by omega) (by omega)).mono ?_
 rintro e w1 ⟨rfl,hb⟩
 have d0:w1.cell? ⟨w0.heap.size,0,none⟩=some (.int .i64 2):=by
  rw [hb.cell (p:=⟨w0.heap.size,0,none⟩) (by simp),World.cell?_alloc_at _ _ _ _ rfl];rfl
 have d1:w1.cell? ⟨w0.heap.size,1,none⟩=some (.int .i32 945):=by
  rw [hb.cell (p:=⟨w0.heap.size,1,none⟩) (by simp),World.cell?_alloc_at _ _ _ _ rfl];rfl
 have d2:w1.cell? ⟨w0.heap.size,2,none⟩=some (.int .i32 969):=by
  rw [hb.cell (p:=⟨w0.heap.size,2,none⟩) (by simp),World.cell?_alloc_at _ _ _ _ rfl];rfl
 have HB:=Lib.hid ((HB.out.alloc HB.out.size _).trans (hb.mono (by have:=HB.out.size;simp <;> omega)))
 clear hb
 go_wp2_with fail
 refine (has_no 2 945 969 930 _ (by omega)).mono ?_
 rintro e w2 ⟨rfl,hb⟩
 have HB:=Lib.hid (HB.out.trans (hb.mono HB.out.size))
 clear hb d0 d1 d2
 go_wp2_with fail
 rw [rounds_succ]
 go_wp2_with fail
 refine (has_no 4 1072 1103 962 _ (by omega)).mono ?_
 rintro e w3 ⟨rfl,hb⟩
 have HB:=Lib.hid ((HB.out.alloc HB.out.size _).trans (hb.mono (by have:=HB.out.size;simp <;> omega)))
 clear hb
 go_wp2_with fail
 rw [rounds_succ]
 go_wp2
 go_ret
 exact ⟨rfl,HB.out⟩
theorem small_cyr (r:Int) (w:World) (h1:1040<=r) (h2:r<=1071) (hA:Alp w) :
 Calls Tryz.prog 235 #[.int .i32 r] w fun e w'=>e=.returned (.int .i32 (r+32))/\Below w.heap.size w w':=by
 have c0:w.cell? ⟨2,0,none⟩=some (.int .i64 1):=hA.cell 0 _ rfl
 have c1:w.cell? ⟨2,1,none⟩=some (.int .i32 97):=hA.cell 1 _ rfl
 have c2:w.cell? ⟨2,2,none⟩=some (.int .i32 122):=hA.cell 2 _ rfl
 have c3:w.cell? ⟨2,3,none⟩=some (.int .i64 2):=hA.cell 3 _ rfl
 have c4:w.cell? ⟨2,4,none⟩=some (.int .i32 945):=hA.cell 4 _ rfl
 have c5:w.cell? ⟨2,5,none⟩=some (.int .i32 969):=hA.cell 5 _ rfl
 have c6:w.cell? ⟨2,6,none⟩=some (.int .i64 4):=hA.cell 6 _ rfl
 have c7:w.cell? ⟨2,7,none⟩=some (.int .i32 1072):=hA.cell 7 _ rfl
 have c8:w.cell? ⟨2,8,none⟩=some (.int .i32 1103):=hA.cell 8 _ rfl
 have i0:=alp_at0
 have i1:=alp_at1
 have i2:=alp_at2
 have hne:(r != 930)=true:=by simp;omega
 have hne2:(r==930)=false:=by simp;omega
 clear hA
 go_enter Tryz.func235,Tryz.ntmps235
 go_wp2_with fail
 clear c0 c1 c2 c3 c4 c5 c6 c7 c8
 refine wp_loop_rounds 4 ?_
 have HB:=Lib.hid (Below.refl w.heap.size w)
 rw [rounds_succ]
 go_wp2_with fail
 refine (has_no 1 97 122 (r+32) _ (by omega)).mono ?_
 rintro e w0 ⟨rfl,hb⟩
 have HB:=Lib.hid ((HB.out.alloc HB.out.size _).trans (hb.mono (by have:=HB.out.size;simp <;> omega)))
 clear hb
 go_wp2_with fail
 rw [rounds_succ]
 go_wp2_with fail
 refine (has_no 2 945 969 (r+32) _ (by omega)).mono ?_
 rintro e w1 ⟨rfl,hb⟩
 have HB:=Lib.hid ((HB.out.alloc HB.out.size _).trans (hb.mono (by have:=HB.out.size;simp <;> omega)))
 clear hb
 go_wp2_with fail
 rw [rounds_succ]
 go_wp2_with fail
 refine (has_in 4 1072 1103 (r+32) _ (by omega) (by omega)).mono ?_
 rintro e w2 ⟨rfl,hb⟩
 have d0:w2.cell? ⟨w1.heap.size,0,none⟩=some (.int .i64 4):=by
  rw [hb.cell (p:=⟨w1.heap.size,0,none⟩) (by simp),World.cell?_alloc_at _ _ _ _ rfl];rfl
 have d1:w2.cell? ⟨w1.heap.size,1,none⟩=some (.int .i32 1072):=by
  rw [hb.cell (p:=⟨w1.heap.size,1,none⟩) (by simp),World.cell?_alloc_at _ _ _ _ rfl];rfl
 have d2:w2.cell? ⟨w1.heap.size,2,none⟩=some (.int .i32 1103):=by
  rw [hb.cell (p:=⟨w1.heap.size,2,none⟩) (by simp),World.cell?_alloc_at _ _ _ _ rfl];rfl
 have HB:=Lib.hid ((HB.out.alloc HB.out.size _).trans (hb.mono (by have:=HB.out.size;simp <;> omega)))
 clear hb
 go_wp2_with fail
 refine (has_no 4 1072 1103 r _ (by omega)).mono ?_
 rintro e w3 ⟨rfl,hb⟩
 have HB:=Lib.hid (HB.out.trans (hb.mono HB.out.size))
 clear hb d0 d1 d2
 go_wp2
 go_ret
 exact ⟨rfl,HB.out⟩
theorem small_none (r:Int) (w:World) (h0:0<=r) (h9:r<=1114111) (h1:r<65\/90<r) (h2:r<913\/937<r) (h3:r<1040\/1071<r) (hA:Alp w) :
 Calls Tryz.prog 235 #[.int .i32 r] w fun e w'=>e=.returned (.int .i32 r)/\Below w.heap.size w w':=by
 have c0:w.cell? ⟨2,0,none⟩=some (.int .i64 1):=hA.cell 0 _ rfl
 have c1:w.cell? ⟨2,1,none⟩=some (.int .i32 97):=hA.cell 1 _ rfl
 have c2:w.cell? ⟨2,2,none⟩=some (.int .i32 122):=hA.cell 2 _ rfl
 have c3:w.cell? ⟨2,3,none⟩=some (.int .i64 2):=hA.cell 3 _ rfl
 have c4:w.cell? ⟨2,4,none⟩=some (.int .i32 945):=hA.cell 4 _ rfl
 have c5:w.cell? ⟨2,5,none⟩=some (.int .i32 969):=hA.cell 5 _ rfl
 have c6:w.cell? ⟨2,6,none⟩=some (.int .i64 4):=hA.cell 6 _ rfl
 have c7:w.cell? ⟨2,7,none⟩=some (.int .i32 1072):=hA.cell 7 _ rfl
 have c8:w.cell? ⟨2,8,none⟩=some (.int .i32 1103):=hA.cell 8 _ rfl
 have i0:=alp_at0
 have i1:=alp_at1
 have i2:=alp_at2
 clear hA
 go_enter Tryz.func235,Tryz.ntmps235
 go_wp2_with fail
 clear c0 c1 c2 c3 c4 c5 c6 c7 c8
 refine wp_loop_rounds 4 ?_
 have HB:=Lib.hid (Below.refl w.heap.size w)
 rw [rounds_succ]
 go_wp2_with fail
 refine (has_no 1 97 122 (r+32) _ (by omega)).mono ?_
 rintro e w0 ⟨rfl,hb⟩
 have HB:=Lib.hid ((HB.out.alloc HB.out.size _).trans (hb.mono (by have:=HB.out.size;simp <;> omega)))
 clear hb
 go_wp2_with fail
 rw [rounds_succ]
 go_wp2_with fail
 refine (has_no 2 945 969 (r+32) _ (by omega)).mono ?_
 rintro e w1 ⟨rfl,hb⟩
 have HB:=Lib.hid ((HB.out.alloc HB.out.size _).trans (hb.mono (by have:=HB.out.size;simp <;> omega)))
 clear hb
 go_wp2_with fail
 rw [rounds_succ]
 go_wp2_with fail
 refine (has_no 4 1072 1103 (r+32) _ (by omega)).mono ?_
 rintro e w2 ⟨rfl,hb⟩
 have HB:=Lib.hid ((HB.out.alloc HB.out.size _).trans (hb.mono (by have:=HB.out.size;simp <;> omega)))
 clear hb
 go_wp2_with fail
 rw [rounds_succ]
 go_wp2
 go_ret
 exact ⟨rfl,HB.out⟩
theorem small_all (r:Int) (w:World) (h0:0<=r) (h9:r<=1114111) (hA:Alp w) :
 Calls Tryz.prog 235 #[.int .i32 r] w fun e w'=>e=.returned (.int .i32 (smallF r))/\Below w.heap.size w w':=by
 unfold smallF
 by_cases h1:65<=r/\r<=90
 · rw [if_pos h1];exact small_latin r w h1.1 h1.2 hA
 · rw [if_neg h1]
   by_cases h2:913<=r/\r<=937/\r≠930
   · rw [if_pos h2];exact small_greek r w h2.1 h2.2.1 h2.2.2 hA
   · rw [if_neg h2]
     by_cases h3:1040<=r/\r<=1071
     · rw [if_pos h3];exact small_cyr r w h3.1 h3.2 hA
     · rw [if_neg h3]
       by_cases h4:r=930
       · subst h4;exact small_gap w hA
       · exact small_none r w h0 h9 (by omega) (by omega) (by omega) hA
def entV (ver:Nat) (o r:List UInt8) (h:Nat) (prev:List UInt8):Value:=.agg #[.int .u64 ver,.string ⟨o.toArray⟩,.string ⟨r.toArray⟩,.int .i64 h,.string ⟨prev.toArray⟩]
def encEnt (ver:Nat) (o r:List UInt8) (h:Nat) (prev:List UInt8):List UInt8:=bytesTo ver 4 4++(encKey o r h++prev)
theorem encEnt_length (ver:Nat) (o r:List UInt8) (h:Nat) (prev:List UInt8) (ho:o.length=16) (hr:r.length=16) (hp:prev.length=16):(encEnt ver o r h prev).length=53:=by
 unfold encEnt
 rw [List.length_append,List.length_append,encKey_length o r h ho hr,bytesTo_le,hp]
structure EntOk (ver:Nat) (o r:List UInt8) (h:Nat) (prev:List UInt8):Prop where
 v1:1<=ver
 v2:ver<4294967296
 o:o.length=16
 r:r.length=16
 h:h<=6
 p:prev.length=16
theorem eencode_any (ver:Nat) (o r:List UInt8) (h:Nat) (prev:List UInt8) (w:World) (hok:EntOk ver o r h prev) :
 Calls Tryz.prog 82 #[entV ver o r h prev] w fun e w'=>e=.returned (.tuple #[.string ⟨(encEnt ver o r h prev).toArray⟩,.int .i64 0])/\Below w.heap.size w w':=by
 have Henc:=Lib.hid (show encEnt ver o r h prev=bytesTo ver 4 4++(encKey o r h++prev) from rfl)
 have hkl:=encKey_length o r h hok.o hok.r
 have hP:=Lib.hid (fun W=>pencode_any o r h W hok.o hok.r hok.h)
 unfold entV
 unfold pubVh at hP
 have hv1:=hok.v1
 have hv2:=hok.v2
 have hpl:=hok.p
 generalize encKey o r h=K at Henc hkl hP
 clear hok
 have c1:¬ ((ver:Int)<1):=by omega
 have c2:¬ ((4294967295:Int)<(ver:Int)):=by omega
 go_enter Tryz.func82,Tryz.ntmps82
 go_wp2_with fail
 have hb1:Below w.heap.size w (w.alloc (.cells #[.int .u64 ver,.string ⟨o.toArray⟩,.string ⟨r.toArray⟩,.int .i64 h,.string ⟨prev.toArray⟩] 105)):=(Below.refl _ _).alloc (Nat.le_refl _) _
 have hr1:(w.alloc (.cells #[.int .u64 ver,.string ⟨o.toArray⟩,.string ⟨r.toArray⟩,.int .i64 h,.string ⟨prev.toArray⟩] 105)).heap[w.heap.size]?=some (.cells #[.int .u64 ver,.string ⟨o.toArray⟩,.string ⟨r.toArray⟩,.int .i64 h,.string ⟨prev.toArray⟩] 105 (0,0)):=heap_alloc_new _ _
 generalize (w.alloc (.cells #[.int .u64 ver,.string ⟨o.toArray⟩,.string ⟨r.toArray⟩,.int .i64 h,.string ⟨prev.toArray⟩] 105))=W1 at hb1 hr1 |-
 refine (hP.out W1).mono ?_
 rintro e w2 ⟨rfl,hb2⟩
 have hlt1:=(Array.getElem?_eq_some_iff.1 hr1).1
 have hr2:=(hb2.block w.heap.size hlt1).trans hr1
 have hB2:=hb1.trans (hb2.mono hb1.size)
 have hlt2:=(Array.getElem?_eq_some_iff.1 hr2).1
 clear hb1 hr1 hb2 hP
 go_wp2_with fail
 have hw3:=(wri_new w2).drew
 have hb3:Below w2.heap.size w2 (w2.alloc (.cells #[.pointer none,.slice none 0 0,.int .i64 0] 215)):=(Below.refl _ _).alloc (Nat.le_refl _) _
 generalize (w2.alloc (.cells #[.pointer none,.slice none 0 0,.int .i64 0] 215))=W3 at hw3 hb3 |-
 have hK:=Lib.hid (fun (W':World) (hb:Below w2.heap.size W3.drew W')=>(⟨((hb3.drew.trans hb).cell (p:=⟨w.heap.size,0,none⟩) hlt2).trans (cel hr2),((hb3.drew.trans hb).cell (p:=⟨w.heap.size,4,none⟩) hlt2).trans (cel hr2)⟩:W'.cell? ⟨w.heap.size,0,none⟩=some (.int .u64 ver)/\W'.cell? ⟨w.heap.size,4,none⟩=some (.string ⟨prev.toArray⟩)))
 have HB:=Lib.hid (hB2.trans ((hb3.drew).mono hB2.size))
 have hb3':=Lib.hid (Below.refl w2.heap.size W3.drew)
 have h256:ver<256^4:=by omega
 have sk:((ByteArray.mk K.toArray).size:Int)=33:=by rw [show (ByteArray.mk K.toArray).size=33 from by show K.toArray.size=33;simpa using hkl];rfl
 have sp:((ByteArray.mk prev.toArray).size:Int)=16:=by rw [show (ByteArray.mk prev.toArray).size=16 from by show prev.toArray.size=16;simpa using hpl];rfl
 have l1:([]:List UInt8).length<=70368744177664:=by decide
 have l2:([]++bytesTo ver 4 4).length+(ByteArray.mk K.toArray).size<=35184372088832:=by rw [List.nil_append,bytesTo_le];omega
 have l3:([]++bytesTo ver 4 4++(ByteArray.mk K.toArray).data.toList).length+(ByteArray.mk prev.toArray).size<=35184372088832:=by rw [List.nil_append,List.length_append,bytesTo_le];simp [hkl];omega
 have s2:=hB2.size
 clear hr2 hB2 hb3 hlt1 hlt2 hv1 hv2
 go_region_held3 (fun W'=>W'.cell? ⟨w.heap.size,0,none⟩=some (.int .u64 ver)/\W'.cell? ⟨w.heap.size,4,none⟩=some (.string ⟨prev.toArray⟩)) (first | exact hK.out _ (by assumption) | exact hK.out _ hb3'.out)
  (first
    | (go_at_call 119;with_reducible refine (wri_num4 w2.heap.size w2.heap.size ver _ _ hw3 h256 l1).mono ?_;rintro e wA ⟨rfl,hwA,hbA⟩)
    | (go_at_call 126;with_reducible refine (wri_fixed w2.heap.size w2.heap.size ⟨K.toArray⟩ 33 _ _ hwA sk l2).mono ?_;rintro e wB ⟨rfl,hwB,hbB'⟩;have hbB:=hbA.trans hbB';clear hbB')
    | (go_at_call 126;with_reducible refine (wri_fixed w2.heap.size w2.heap.size ⟨prev.toArray⟩ 16 _ _ hwB sp l3).mono ?_;rintro e wC ⟨rfl,hwC,hbC'⟩;have hbC:=hbB.trans hbC';clear hbC')
    | (go_at_call 120;with_reducible refine (wri_bytes w2.heap.size w2.heap.size _ _ hwC).mono ?_;rintro e wD ⟨rfl,hbD'⟩;have hbD:=hbC.trans hbD';clear hbD'))
 all_goals
  go_wp2
  go_ret2
  refine ⟨?_,HB.out.trans (hbD.mono s2)⟩
  rw [Henc.out]
  rfl
def valEnt (ver:Nat) (o r:List UInt8) (h:Nat) (prev:List UInt8):List UInt8:=tagOf 12 [encEnt ver o r h prev]
theorem evalue_any (ver:Nat) (o r:List UInt8) (h:Nat) (prev:List UInt8) (w:World) (hok:EntOk ver o r h prev) (hK:Kon w) :
 Calls Tryz.prog 36 #[entV ver o r h prev] w fun e w'=>e=.returned (.string ⟨(valEnt ver o r h prev).toArray⟩)/\Below w.heap.size w w':=by
 have hE:=Lib.hid (fun W=>eencode_any ver o r h prev W hok)
 have hel:=encEnt_length ver o r h prev hok.o hok.r hok.p
 have hT:Hid (∀ W:World,Kon W->Calls Tryz.prog 9 #[.int .u8 12,.slice (some ⟨W.heap.size,0,none⟩) 1 1] (W.alloc (.cells #[.string ⟨(encEnt ver o r h prev).toArray⟩] 9)) fun e w'=>e=.returned (.string ⟨(valEnt ver o r h prev).toArray⟩)/\Below W.heap.size W w'):=
  Lib.hid (fun W hk=>tagged_new 12 [⟨(encEnt ver o r h prev).toArray⟩] 1 rfl W (by decide) (by decide) (by rw [tagIn_len];simp [hel]) hk)
 have HK:=Lib.hid hK
 unfold entV at hE |-
 generalize encEnt ver o r h prev=E at hE hT hel
 generalize valEnt ver o r h prev=V at hT |-
 clear hok hK
 go_enter Tryz.func36,Tryz.ntmps36
 go_wp2_with fail
 refine (hE.out _).mono ?_
 rintro e w2 ⟨rfl,hb2⟩
 have hB2:=((Below.refl w.heap.size w).alloc (Nat.le_refl _) _).trans (hb2.mono (by simp))
 have hTW:=Lib.hid (hT.out w2 (HK.out.old hB2))
 have HB2:=Lib.hid hB2
 clear hE hT hb2 hB2
 go_wp2_with fail
 refine hTW.out.mono ?_
 rintro e w3 ⟨rfl,hb3⟩
 have HB3:=Lib.hid (HB2.out.trans (hb3.mono HB2.out.size))
 clear hTW hb3
 go_wp2
 go_ret
 exact ⟨rfl,HB3.out⟩
def nameOf (l:List UInt8):List UInt8:=tagOf 11 [l]
theorem ename_any (s:ByteArray) (w:World) (hs:s.size<=1000) (hK:Kon w) :
 Calls Tryz.prog 34 #[.string s] w fun e w'=>e=.returned (.string ⟨(nameOf s.data.toList).toArray⟩)/\Below w.heap.size w w':=by
 have hT:=Lib.hid (tagged_new 11 [s] 1 rfl w (by decide) (by decide) (by rw [tagIn_len];simp;omega) hK)
 clear hK
 go_enter Tryz.func34,Tryz.ntmps34
 go_wp2_with fail
 refine hT.out.mono ?_
 rintro e w' ⟨rfl,hb⟩
 go_wp2
 go_ret
 exact ⟨rfl,hb⟩
def msgOf (l:List UInt8) (ver:Nat) (o r:List UInt8) (h:Nat) (prev:List UInt8):List UInt8:=tagOf 13 [l,encEnt ver o r h prev]
theorem pmessage_any (s:ByteArray) (ver:Nat) (o r:List UInt8) (h:Nat) (prev:List UInt8) (w:World) (hs:s.size<=1000) (hok:EntOk ver o r h prev) (hK:Kon w) :
 Calls Tryz.prog 115 #[.string s,entV ver o r h prev] w fun e w'=>e=.returned (.string ⟨(msgOf s.data.toList ver o r h prev).toArray⟩)/\Below w.heap.size w w':=by
 have hE:=Lib.hid (fun W=>eencode_any ver o r h prev W hok)
 have hel:=encEnt_length ver o r h prev hok.o hok.r hok.p
 have hT:Hid (∀ W:World,Kon W->Calls Tryz.prog 9 #[.int .u8 13,.slice (some ⟨W.heap.size,0,none⟩) 2 2] (W.alloc (.cells #[.string s,.string ⟨(encEnt ver o r h prev).toArray⟩] 9)) fun e w'=>e=.returned (.string ⟨(msgOf s.data.toList ver o r h prev).toArray⟩)/\Below W.heap.size W w'):=
  Lib.hid (fun W hk=>tagged_new 13 [s,⟨(encEnt ver o r h prev).toArray⟩] 2 rfl W (by decide) (by decide) (by rw [tagIn_len];simp [hel];omega) hk)
 have HK:=Lib.hid hK
 unfold entV at hE |-
 generalize encEnt ver o r h prev=E at hE hT hel
 generalize msgOf s.data.toList ver o r h prev=V at hT |-
 clear hok hK
 go_enter Tryz.func115,Tryz.ntmps115
 go_wp2_with fail
 refine (hE.out _).mono ?_
 rintro e w2 ⟨rfl,hb2⟩
 have hB2:=((Below.refl w.heap.size w).alloc (Nat.le_refl _) _).trans (hb2.mono (by simp))
 have hTW:=Lib.hid (hT.out w2 (HK.out.old hB2))
 have HB2:=Lib.hid hB2
 clear hE hT hb2 hB2
 go_wp2_with fail
 refine hTW.out.mono ?_
 rintro e w3 ⟨rfl,hb3⟩
 have HB3:=Lib.hid (HB2.out.trans (hb3.mono HB2.out.size))
 clear hTW hb3
 go_wp2
 go_ret
 exact ⟨rfl,HB3.out⟩
def nought16:List UInt8:=List.replicate 16 0
theorem history_one (g:Nat) (w:World) (h0:w.cell? ⟨g,0,none⟩=some (.int .u64 1)) (h4:w.cell? ⟨g,4,none⟩=some (.string ⟨nought16.toArray⟩)) :
 Calls Tryz.prog 159 #[.slice (some ⟨g,0,none⟩) 1 1] w fun e w'=>e=.returned (.int .i64 0)/\Below w.heap.size w w':=by
 have hz:Hid (Calls Tryz.prog 106 #[.string ⟨#[0]⟩,.int .i64 16] w.drew fun e w'=>e=.returned (.string ⟨nought16.toArray⟩)/\Below w.drew.heap.size w.drew w'):=Lib.hid (zeros_n 16 w.drew (by decide))
 have hlt:=World.block_lt_of_cell? w _ h4
 generalize nought16=z at h4 hz
 have hK:=Lib.hid (fun (W':World) (hb:Below w.drew.heap.size w.drew W')=>((hb.cell (p:=⟨g,4,none⟩) hlt).trans h4:W'.cell? ⟨g,4,none⟩=some (.string ⟨z.toArray⟩)))
 have hS0:Hid (w.drew.cell? ⟨g,4,none⟩=some (.string ⟨z.toArray⟩)):=Lib.hid h4
 clear h4
 go_enter Tryz.func159,Tryz.ntmps159
 go_wp2_with fail
 go_region_held3 (fun W'=>W'.cell? ⟨g,4,none⟩=some (.string ⟨z.toArray⟩)) (first | exact hS0.out | exact hK.out _ (by assumption)) ((go_at_call 106;with_reducible refine hz.out.mono ?_;rintro e w2 ⟨rfl,hb2⟩))
 all_goals
  have HB:=Lib.hid (below_call hb2)
  clear h0 hS0 hK hz hb2
  go_wp2_with fail
  refine wp_loop_rounds 1 ?_
  rw [rounds_succ]
  go_wp2
  go_ret
  exact ⟨rfl,HB.out⟩
theorem stail_tree (g n k c tp:Nat) (w:World) (hk:k<1000) (hn:n=k+1) (h0:w.cell? ⟨g,k,none⟩=some (.pointer (some ⟨tp,0,none⟩))) :
 Calls Tryz.prog 80 #[.slice (some ⟨g,0,none⟩) n c] w fun e w'=>e=.returned (.pointer (some ⟨tp,0,none⟩))/\w=w':=by
 have e1:IntKind.i64.wrap ((n:Int) - 1)=(k:Int):=by rw [show (n:Int) - 1=(k:Int) by omega];exact IntWalk.i64_in _ (by omega)
 have e2:¬ ((k:Int)<0):=by omega
 have e3:¬ ((n:Int)<=(k:Int)):=by omega
 have e4:¬ (n<=k):=by omega
 clear hn hk
 go_enter Tryz.func80,Tryz.ntmps80
 go_wp2
 go_ret
 exact ⟨rfl,rfl⟩
theorem stail_head (g n k c ep:Nat) (par:List UInt8) (d au:Nat) (a:Option Addr) (N nc:Nat) (w:World) (hk:k<1000) (hn:n=k+1)
 (h0:w.cell? ⟨g,k*5,none⟩=some (.int .u64 ep)) (h1:w.cell? ⟨g,k*5+1,none⟩=some (.string ⟨par.toArray⟩)) (h2:w.cell? ⟨g,k*5+2,none⟩=some (.int .i64 d)) (h3:w.cell? ⟨g,k*5+3,none⟩=some (.int .i64 au)) (h4:w.cell? ⟨g,k*5+4,none⟩=some (.slice a N nc)) :
 Calls Tryz.prog 124 #[.slice (some ⟨g,0,none⟩) n c] w fun e w'=>e=.returned (hdV ep par d au a N nc)/\Below w.heap.size w w':=by
 have e1:IntKind.i64.wrap ((n:Int) - 1)=(k:Int):=by rw [show (n:Int) - 1=(k:Int) by omega];exact IntWalk.i64_in _ (by omega)
 have e2:¬ ((k:Int)<0):=by omega
 have e3:¬ ((n:Int)<=(k:Int)):=by omega
 have e4:¬ (n<=k):=by omega
 have hb0:Below w.heap.size w (w.alloc (.cells #[.int .u64 0,.string ⟨#[]⟩,.int .i64 0,.int .i64 0,.slice none 0 0] 69)):=(Below.refl _ _).alloc (Nat.le_refl _) _
 have hg:=World.block_lt_of_cell? _ _ h0
 have hne:g≠w.heap.size:=by have:g<w.heap.size:=hg;omega
 have d0:=(hb0.cell (World.block_lt_of_cell? _ _ h0)).trans h0
 have d1:=(hb0.cell (World.block_lt_of_cell? _ _ h1)).trans h1
 have d2:=(hb0.cell (World.block_lt_of_cell? _ _ h2)).trans h2
 have d3:=(hb0.cell (World.block_lt_of_cell? _ _ h3)).trans h3
 have d4:=(hb0.cell (World.block_lt_of_cell? _ _ h4)).trans h4
 clear hn hk h0 h1 h2 h3 h4 hb0 hg
 unfold hdV
 go_enter Tryz.func124,Tryz.ntmps124
 go_wp2
 clear d0 d1 d2 d3 d4
 refine bodyPost_ret (v:=.agg #[.int .u64 ep,.string ⟨par.toArray⟩,.int .i64 d,.int .i64 au,.slice a N nc]) ?_ rfl ⟨rfl,(Below.refl _ _).alloc (Nat.le_refl _) _⟩
 simp [results,Tryz.f124,go_sem]
def SrvAt (w:World) (p:Nat) (x0 x1 x2 x3 x4 x5 x6 x7 x8 x9 x10:Value):Prop:=w.heap[p]?=some (.cells #[x0,x1,x2,x3,x4,x5,x6,x7,x8,x9,x10] 154 (0,0))
theorem SrvAt.cells {w:World} {p:Nat} {x0 x1 x2 x3 x4 x5 x6 x7 x8 x9 x10:Value} (h:SrvAt w p x0 x1 x2 x3 x4 x5 x6 x7 x8 x9 x10) :
 w.cell? ⟨p,0,none⟩=some x0/\w.cell? ⟨p,1,none⟩=some x1/\w.cell? ⟨p,2,none⟩=some x2/\w.cell? ⟨p,3,none⟩=some x3/\w.cell? ⟨p,4,none⟩=some x4/\w.cell? ⟨p,5,none⟩=some x5/\w.cell? ⟨p,6,none⟩=some x6/\w.cell? ⟨p,7,none⟩=some x7/\w.cell? ⟨p,8,none⟩=some x8/\w.cell? ⟨p,9,none⟩=some x9/\w.cell? ⟨p,10,none⟩=some x10/\∀ i,w.frozen? ⟨p,i,none⟩=false:=
 ⟨cel h,cel h,cel h,cel h,cel h,cel h,cel h,cel h,cel h,cel h,cel h,fun i=>frozen_of_row _ _ i _ _ h⟩
theorem five_store {W:World} {b:Nat} {t:TypeId} {x0 x1 x2 x3 x4:Value} (y0 y1 y2 y3 y4:Value) (h:W.heap[b]?=some (.cells #[x0,x1,x2,x3,x4] t (0,0))) :
 (((((W.setCell ⟨b,0,none⟩ y0).setCell ⟨b,1,none⟩ y1).setCell ⟨b,2,none⟩ y2).setCell ⟨b,3,none⟩ y3).setCell ⟨b,4,none⟩ y4).heap[b]?=some (.cells #[y0,y1,y2,y3,y4] t (0,0)):=
 heap_setCell_same _ b 4 _ _ y4 (heap_setCell_same _ b 3 _ _ y3 (heap_setCell_same _ b 2 _ _ y2 (heap_setCell_same _ b 1 _ _ y1 (heap_setCell_same W b 0 _ _ y0 h))))
theorem five_below {w W:World} {B b:Nat} (y0 y1 y2 y3 y4:Value) (h:Below B w W) (hb:B<=b) :
 Below B w (((((W.setCell ⟨b,0,none⟩ y0).setCell ⟨b,1,none⟩ y1).setCell ⟨b,2,none⟩ y2).setCell ⟨b,3,none⟩ y3).setCell ⟨b,4,none⟩ y4):=
 ((((h.setCell (p:=⟨b,0,none⟩) hb y0).setCell (p:=⟨b,1,none⟩) hb y1).setCell (p:=⟨b,2,none⟩) hb y2).setCell (p:=⟨b,3,none⟩) hb y3).setCell (p:=⟨b,4,none⟩) hb y4
theorem slast_head (p g n k c ep:Nat) (par:List UInt8) (d au:Nat) (a:Option Addr) (N nc:Nat) (x0 x1 x2 x3 x4 x5 x6 x7 x8 x9:Value) (w:World) (hs:SrvAt w p x0 x1 x2 x3 x4 x5 x6 x7 x8 x9 (.slice (some ⟨g,0,none⟩) n c)) (hk:k<1000) (hn:n=k+1)
 (h0:w.cell? ⟨g,k*5,none⟩=some (.int .u64 ep)) (h1:w.cell? ⟨g,k*5+1,none⟩=some (.string ⟨par.toArray⟩)) (h2:w.cell? ⟨g,k*5+2,none⟩=some (.int .i64 d)) (h3:w.cell? ⟨g,k*5+3,none⟩=some (.int .i64 au)) (h4:w.cell? ⟨g,k*5+4,none⟩=some (.slice a N nc)) :
 Calls Tryz.prog 70 #[.pointer (some ⟨p,0,none⟩)] w fun e w'=>e=.returned (hdV ep par d au a N nc)/\Below w.heap.size w w':=by
 obtain ⟨_,_,_,_,_,_,_,_,_,_,s10,_⟩:=hs.cells
 have hb0:Below w.heap.size w (w.alloc (.cells #[.int .u64 0,.string ⟨#[]⟩,.int .i64 0,.int .i64 0,.slice none 0 0] 69)):=(Below.refl _ _).alloc (Nat.le_refl _) _
 have z:=(hb0.cell (World.block_lt_of_cell? _ _ s10)).trans s10
 have row:(w.alloc (.cells #[.int .u64 0,.string ⟨#[]⟩,.int .i64 0,.int .i64 0,.slice none 0 0] 69)).heap[w.heap.size]?=some (.cells #[.int .u64 0,.string ⟨#[]⟩,.int .i64 0,.int .i64 0,.slice none 0 0] 69 (0,0)):=heap_alloc_new _ _
 have hcall:=Lib.hid (stail_head g n k c ep par d au a N nc _ hk hn ((hb0.cell (World.block_lt_of_cell? _ _ h0)).trans h0) ((hb0.cell (World.block_lt_of_cell? _ _ h1)).trans h1) ((hb0.cell (World.block_lt_of_cell? _ _ h2)).trans h2) ((hb0.cell (World.block_lt_of_cell? _ _ h3)).trans h3) ((hb0.cell (World.block_lt_of_cell? _ _ h4)).trans h4))
 have Row:=Lib.hid row
 have HB0:=Lib.hid hb0
 clear hs hk hn h0 h1 h2 h3 h4 s10 row hb0
 unfold hdV at hcall |-
 go_enter Tryz.func70,Tryz.ntmps70
 go_wp2_with fail
 refine hcall.out.mono ?_
 rintro e w2 ⟨rfl,hb2⟩
 have row2:=(hb2.block _ (lt_of_heap Row.out)).trans Row.out
 have hB2:=HB0.out.trans (hb2.mono HB0.out.size)
 clear hcall z hb2
 have f0:∀ i,w2.frozen? ⟨w.heap.size,i,none⟩=false:=fun i=>frozen_of_row _ _ i _ _ row2
 have c0:w2.cell? ⟨w.heap.size,0,none⟩=some (.int .u64 0):=cel row2
 have c1:w2.cell? ⟨w.heap.size,1,none⟩=some (.string ⟨#[]⟩):=cel row2
 have c2:w2.cell? ⟨w.heap.size,2,none⟩=some (.int .i64 0):=cel row2
 have c3:w2.cell? ⟨w.heap.size,3,none⟩=some (.int .i64 0):=cel row2
 have c4:w2.cell? ⟨w.heap.size,4,none⟩=some (.slice none 0 0):=cel row2
 have f1:=f0 0
 have f2:=f0 1
 have f3:=f0 2
 have f4:=f0 3
 have f5:=f0 4
 have HB2:=Lib.hid hB2
 have Row2:=Lib.hid row2
 clear f0 row2 hB2
 go_wp2
 have row7:=five_store (.int .u64 ep) (.string ⟨par.toArray⟩) (.int .i64 d) (.int .i64 au) (.slice a N nc) Row2.out
 have hb7:=five_below (b:=w.heap.size) (.int .u64 ep) (.string ⟨par.toArray⟩) (.int .i64 d) (.int .i64 au) (.slice a N nc) HB2.out (Nat.le_refl _)
 generalize (((((w2.setCell ⟨w.heap.size,0,none⟩ (.int .u64 ep)).setCell ⟨w.heap.size,1,none⟩ (.string ⟨par.toArray⟩)).setCell ⟨w.heap.size,2,none⟩ (.int .i64 d)).setCell ⟨w.heap.size,3,none⟩ (.int .i64 au)).setCell ⟨w.heap.size,4,none⟩ (.slice a N nc))=V at row7 hb7 |-
 refine bodyPost_ret (results_cell_row rfl _ _ w.heap.size 69 #[.int .u64 ep,.string ⟨par.toArray⟩,.int .i64 d,.int .i64 au,.slice a N nc] (0,0) _ rfl row7 Tryz.underlying69 rfl (by kernel_rfl)) rfl ?_
 exact ⟨rfl,hb7⟩
end Go.Proofs.YtcgkomafaepjnaaGreatDoor
