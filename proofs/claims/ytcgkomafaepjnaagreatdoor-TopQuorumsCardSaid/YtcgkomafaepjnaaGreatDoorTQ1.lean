/- Package plumbobtop: what the appending of a vote in TopQuorums' loop needs. Conditions: five auditors at the most. -/
import Derived.Test.YtcgkomafaepjnaaGreatDoorTL27
import Derived.Test.YtcgkomafaepjnaaGreatDoorTL19
import Derived.Great.BuildSlice
set_option maxRecDepth 100000
set_option maxHeartbeats 16000000
namespace Go.Proofs.YtcgkomafaepjnaaGreatDoor
open Go.RowKit
theorem two_ways {P:Program} {x:Code} {K:Act->World->Prop} {Q:Exit->Act->World->Prop} {a:Act} {w:World} {F:World->Nat->Nat->Prop} {fr:Nat->Nat->Act} (main:(∀ Wb X Y,F Wb X Y->K (fr X Y) Wb)->x.wp P (Exit.then K Q) a w) (kp:∀ Wb X Y,F Wb X Y->K (fr X Y) Wb):x.wp P (Exit.then K Q) a w:=main kp
theorem if_wanted {P:Program} {o:Oper} {a:Act} {w:World} {K:Act->World->Prop} {Q:Exit->Act->World->Prop} {E:Prop} {ys} (hgd:o.guard=none) (h:Oper.wp P o a w K Q):if Region.wanted o ys=true then Oper.wp P o a w K Q else E:=by
 rw [if_pos (by simp [Region.wanted,hgd])]
 exact h
theorem vote_pack {wK Wb W:World} {n X Y m vc E gv num pa Gb nc nd xc idx iy:Nat} {bs:Nat->Nat} {us:List (List UInt8×List UInt8)} {S:Nat->Prop} {na nb xa:Option Addr} {xs ys:List Vt} {yv:Value} {dy:List UInt8} (ix:Int) (hix:ix=(idx:Int)) (hn5:n<=5) (hnn:num<n) (hidx:idx<=1) (hK:Kon wK) (hks:KeysAt wK m vc n E (some ⟨gv,0,none⟩) bs)
 (hrg:wK.heap[Gb]?=some (.cells #[.int .u64 1,.string ⟨(dig0 0 (audsN n)).toArray⟩,.int .i64 0,.int .i64 n,.slice na 1 nc] 69 (0,0))) (hsrv:SrvB wK S pa 0 (audsN n) us) (hca:Cells wK (.slice na 1 nc) (txs (nodes1 0 (audsN n) us))) (hWb:wK.heap.size<=Wb.heap.size) (hXK:wK.heap.size<=X) (hBW:Below wK.heap.size wK W) (hqv:QV Wb W n X na nc idx (dig1 n 0 us) (.slice xa xs.length xc) xs Y nb nd iy dy yv ys) :
 ∃ Pre:World->Prop,Hid (∀ A,Pre A->(A.cell? ⟨gv,num,none⟩=some (.pointer (some ⟨bs num,0,none⟩))/\A.cell? ⟨Gb,0,none⟩=some (.int .u64 1)/\A.cell? ⟨Gb,1,none⟩=some (.string ⟨(dig0 0 (audsN n)).toArray⟩)/\A.cell? ⟨Gb,2,none⟩=some (.int .i64 0)/\A.cell? ⟨Gb,3,none⟩=some (.int .i64 n)/\A.cell? ⟨Gb,4,none⟩=some (.slice na 1 nc)))
  /\ Hid (∀ A,Pre A->(A.cell? ⟨X,5,none⟩=some (.slice xa xs.length xc)/\∀ o,(A.alloc o).cell? ⟨X,5,none⟩=some (.slice xa xs.length xc)))
  /\ Hid (∀ A,Pre A->Calls Tryz.prog 31 #[.pointer (some ⟨bs num,0,none⟩),.int .i64 ix,.int .i64 num,.int .i64 0,.pointer (some ⟨pa,0,none⟩),.agg #[.int .u64 1,.string ⟨(dig0 0 (audsN n)).toArray⟩,.int .i64 0,.int .i64 n,.slice na 1 nc]] A fun e w'=>∃ (num':Nat) (ev:Int) (s2:ByteArray) (i4:Int) (a5:Option Addr) (n5 c5:Nat) (a6:Option Addr) (n6 c6:Nat) (s7 s8 s9:ByteArray) (i10:Int) (a11:Option Addr) (n11 c11:Nat) (t12:Bool) (s13 s14:ByteArray),e=.returned (.agg #[.int .u64 ev,.int .i64 0,.string s2,.int .i64 num',.int .i64 i4,.slice a5 n5 c5,.slice a6 n6 c6,.string s7,.string s8,.string s9,.int .i64 i10,.slice a11 n11 c11,.bool t12,.string s13,.string s14])/\VtR w' A.heap.size w'.heap.size n num idx (dig1 n 0 us) ⟨num',ev,s2,i4,a5,n5,c5,a6,n6,c6,s7,s8,s9,i10,a11,n11,c11,t12,s13,s14⟩/\Pre w'/\Below A.heap.size A w')
  /\ Pre W.drew
  /\ Hid (∀ A ob,Pre A->Pre (A.alloc ob))
  /\ Hid (∀ A,Pre A->A.ownsRow Wb.heap.size 92 15 (.slice xa xs.length xc) xs.length (vtCells xs))
  /\ Hid (∀ A o V7,Pre A->(A.alloc o).grownBy V7 (Value.slice xa xs.length xc).ownBlock->((V7.cell? ⟨X,5,none⟩=some (.slice xa xs.length xc)/\V7.frozen? ⟨X,5,none⟩=false)/\(V7.cell? ⟨gv,num,none⟩=some (.pointer (some ⟨bs num,0,none⟩))/\V7.cell? ⟨Gb,0,none⟩=some (.int .u64 1)/\V7.cell? ⟨Gb,1,none⟩=some (.string ⟨(dig0 0 (audsN n)).toArray⟩)/\V7.cell? ⟨Gb,2,none⟩=some (.int .i64 0)/\V7.cell? ⟨Gb,3,none⟩=some (.int .i64 n)/\V7.cell? ⟨Gb,4,none⟩=some (.slice na 1 nc)))/\∀ v,(fun A:World=>A.cell? ⟨gv,num,none⟩=some (.pointer (some ⟨bs num,0,none⟩))/\A.cell? ⟨Gb,0,none⟩=some (.int .u64 1)/\A.cell? ⟨Gb,1,none⟩=some (.string ⟨(dig0 0 (audsN n)).toArray⟩)/\A.cell? ⟨Gb,2,none⟩=some (.int .i64 0)/\A.cell? ⟨Gb,3,none⟩=some (.int .i64 n)/\A.cell? ⟨Gb,4,none⟩=some (.slice na 1 nc)) (V7.setCell ⟨X,5,none⟩ v))
  /\ Hid (∀ A,Pre A->Wb.heap.size<=A.heap.size/\Below W.heap.size W A):=by
 subst hix
 obtain ⟨gq,hgq,hgl,hgc⟩:=hks.ptr num hnn
 obtain rfl:gv=gq:=by injection hgq with hgq;injection hgq
 obtain ⟨_,_,_,_,_,z4,_,_,_,_,_,z4f⟩:=six_of_row hqv.cx
 have hxlt:=hqv.lx
 have hsW:=hqv.bel.size
 have hcp:∀ A,Below W.heap.size W A->(A.cell? ⟨gv,num,none⟩=some (.pointer (some ⟨bs num,0,none⟩))/\A.cell? ⟨Gb,0,none⟩=some (.int .u64 1)/\A.cell? ⟨Gb,1,none⟩=some (.string ⟨(dig0 0 (audsN n)).toArray⟩)/\A.cell? ⟨Gb,2,none⟩=some (.int .i64 0)/\A.cell? ⟨Gb,3,none⟩=some (.int .i64 n)/\A.cell? ⟨Gb,4,none⟩=some (.slice na 1 nc)):=fun A hA=>by
  obtain ⟨e0,e1,e2,e3,e4,_⟩:=ten_of_row ((hA.block _ (lt_of_heap ((hBW.block _ (lt_of_heap hrg)).trans hrg))).trans ((hBW.block _ (lt_of_heap hrg)).trans hrg))
  exact ⟨(hA.cell (World.block_lt_of_cell? _ _ ((hBW.cell hgl).trans hgc))).trans ((hBW.cell (p:=⟨gv,num,none⟩) hgl).trans hgc),e0,e1,e2,e3,e4⟩
 refine ⟨fun A=>Below W.heap.size W A,Lib.hid hcp,Lib.hid (fun A hA=>?_),Lib.hid (fun A hA=>?_),below_drew W,Lib.hid (fun A ob hA=>hA.alloc hA.size _),Lib.hid (fun A hA=>?_),Lib.hid (fun A o V7 hA hg=>?_),Lib.hid (fun A hA=>⟨Nat.le_trans hsW hA.size,hA⟩)⟩
 · have h1:=(hA.cell (p:=⟨X,5,none⟩) (lt_of_heap hqv.cx)).trans z4
   exact ⟨h1,fun o=>(((Below.refl A.heap.size A).alloc (Nat.le_refl _) o).cell (p:=⟨X,5,none⟩) (World.block_lt_of_cell? _ _ h1)).trans h1⟩
 · have hAK:=hBW.trans (hA.mono hBW.size)
   refine Calls.mono (vote_flat n pa num idx (bs num) E us _ na nc A hn5 hnn hidx (hsrv.old hAK) ((hks.2 num hnn).2.touch (Touch.of_below hAK (fun _=>False)) (fun _ _ _=>id)) (hca.old hAK) (hK.old hAK)) ?_
   rintro e w' ⟨num',ev,s2,i4,a5,n5,c5,a6,n6,c6,s7,s8,s9,i10,a11,n11,c11,t12,s13,s14,k1,k2,k3⟩
   exact ⟨num',ev,s2,i4,a5,n5,c5,a6,n6,c6,s7,s8,s9,i10,a11,n11,c11,t12,s13,s14,k1,k2,hA.trans (k3.mono hA.size),k3⟩
 · exact (Touch.of_below hA (fun _=>False)).own hqv.ox (fun _ _=>id)
 · have hS:=hcp _ (hA.alloc hA.size o)
   have hA2:Below W.heap.size W (A.alloc o):=hA.alloc hA.size o
   have hlow:∀ b,b<Wb.heap.size->some b≠(Value.slice xa xs.length xc).ownBlock:=fun b hb e=>by have:=(hqv.ox.lt b e.symm).1;omega
   have hblk:∀ b,b<Wb.heap.size->V7.heap[b]?=(A.alloc o).heap[b]?:=fun b hb=>hg.block b (Nat.lt_of_lt_of_le (Nat.lt_of_lt_of_le hb hsW) hA2.size) (hlow b hb)
   have hr:=(hblk X hxlt).trans ((hA2.block _ (lt_of_heap hqv.cx)).trans hqv.cx)
   obtain ⟨_,_,_,_,_,k4,_,_,_,_,_,k4f⟩:=six_of_row hr
   have hc:∀ b i v,b<Wb.heap.size->(A.alloc o).cell? ⟨b,i,none⟩=some v->V7.cell? ⟨b,i,none⟩=some v:=fun b i v hb e=>(World.cell?_of_block (w:=A.alloc o) (w':=V7) (a:=⟨b,i,none⟩) (hblk b hb)).trans e
   have hgW:gv<Wb.heap.size:=Nat.lt_of_lt_of_le hgl hWb
   have hGK:=lt_of_heap hrg
   have hGW:Gb<Wb.heap.size:=Nat.lt_of_lt_of_le hGK hWb
   have d0:=hc _ _ _ hgW hS.1
   have d1:=hc _ _ _ hGW hS.2.1
   have d2:=hc _ _ _ hGW hS.2.2.1
   have d3:=hc _ _ _ hGW hS.2.2.2.1
   have d4:=hc _ _ _ hGW hS.2.2.2.2.1
   have d5:=hc _ _ _ hGW hS.2.2.2.2.2
   have hgX:gv≠X:=by omega
   have hGX:Gb≠X:=by omega
   refine ⟨⟨⟨k4,k4f⟩,d0,d1,d2,d3,d4,d5⟩,fun v=>?_⟩
   have hs:∀ b i u,b≠X->V7.cell? ⟨b,i,none⟩=some u->(V7.setCell ⟨X,5,none⟩ v).cell? ⟨b,i,none⟩=some u:=fun b i u hb e=>(World.cell?_of_block (w:=V7) (w':=V7.setCell ⟨X,5,none⟩ v) (a:=⟨b,i,none⟩) ((Touch.setCell (S:=fun k=>k=X) V7 ⟨X,5,none⟩ v rfl).block b (World.block_lt_of_cell? _ _ e) hb)).trans e
   exact ⟨hs _ _ _ hgX d0,hs _ _ _ hGX d1,hs _ _ _ hGX d2,hs _ _ _ hGX d3,hs _ _ _ hGX d4,hs _ _ _ hGX d5⟩
def bsHid (t:TypeId) (len:Nat) (parts:Array (Nat×Value)):Sem Value:=Instr.buildSlice t len parts
theorem bs_hid (t:TypeId) (len:Nat) (parts:Array (Nat×Value)):Instr.buildSlice t len parts=bsHid t len parts:=rfl
theorem vote_row {i0:TypeInfo} (hi:Tryz.prog.info? 92=some i0) (hz0:i0.zero=some (.agg #[.int .u64 0,.int .i64 0,.string ⟨#[]⟩,.int .i64 0,.int .i64 0,.slice none 0 0,.slice none 0 0,.string ⟨#[]⟩,.string ⟨#[]⟩,.string ⟨#[]⟩,.int .i64 0,.slice none 0 0,.bool false,.string ⟨#[]⟩,.string ⟨#[]⟩])) (hz1:i0.size=15)
 (ev:Int) (s2:ByteArray) (num':Nat) (i4:Int) (a5:Option Addr) (n5 c5:Nat) (a6:Option Addr) (n6 c6:Nat) (s7 s8 s9:ByteArray) (i10:Int) (a11:Option Addr) (n11 c11:Nat) (t12:Bool) (s13 s14:ByteArray) (W:World) :
 (bsHid 79 1 #[(0,.agg #[.int .u64 ev,.int .i64 0,.string s2,.int .i64 num',.int .i64 i4,.slice a5 n5 c5,.slice a6 n6 c6,.string s7,.string s8,.string s9,.int .i64 i10,.slice a11 n11 c11,.bool t12,.string s13,.string s14])]).run Tryz.prog W
   = .ok (.slice (some ⟨W.heap.size,0,none⟩) 1 1) (W.alloc (.cells #[.int .u64 ev,.int .i64 0,.string s2,.int .i64 num',.int .i64 i4,.slice a5 n5 c5,.slice a6 n6 c6,.string s7,.string s8,.string s9,.int .i64 i10,.slice a11 n11 c11,.bool t12,.string s13,.string s14] 92)):=by
 unfold bsHid
 refine run_buildSlice W 79 92 1 _ _ i0 _ Tryz.underlying79 hi hz0 (by rw [hz1];decide) (by rw [hz1];decide) ?_
 rw [hz1]
 kernel_rfl
end Go.Proofs.YtcgkomafaepjnaaGreatDoor
