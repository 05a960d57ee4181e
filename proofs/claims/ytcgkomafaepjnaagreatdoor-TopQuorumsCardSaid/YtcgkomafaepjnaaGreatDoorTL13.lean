/- Package xmss at four leaves: the path from the first two and its climb; the public key. Conditions: seeds and messages of at most a thousand bytes; the first two indexes; the round's constants hold what their initialiser lays. -/
import Derived.Test.YtcgkomafaepjnaaGreatDoorTL12
import Derived.Test.YtcgkomafaepjnaaGreatDoorTL8
import Derived.Test.YtcgkomafaepjnaaGreatDoorTL4
set_option maxRecDepth 100000
set_option maxHeartbeats 16000000
namespace Go.Proofs.YtcgkomafaepjnaaGreatDoor
open Go.RowKit
theorem mpath_four0 (a:Option Addr) (c:Nat) (p0 p1 p2 p3:List UInt8) (w:World) (hv:Cells w (.slice a 4 c) (txs [p0,p1,p2,p3])) (h0:p0.length=16) (h1:p1.length=16) (h2:p2.length=16) (h3:p3.length=16) (hK:Kon w) :
 Calls Tryz.prog 133 #[.slice a 4 c,.int .i64 0] w fun e w'=>∃ a' c',e=.returned (.tuple #[.slice a' 2 c',.int .i64 0])/\w'.ownsRow w.heap.size 9 1 (.slice a' 2 c') 2 (txs [p1,nodeOf p2 p3])/\Below w.heap.size w w':=by
 have HK:=Lib.hid hK
 have hx0:bits BinOp.xor IntKind.i64 0 1=1:=by kernel_rfl
 have hA1:=Lib.hid (fun (W:World) (hb:Below w.heap.size w W)=>above_any (.slice a 4 c) [p0,p1,p2,p3] 2 W (hv.old hb) rfl (by decide) (by simp [h0,h1,h2,h3]) (hK.old hb))
 have hA2:Hid (∀ (a':Option Addr) (c':Nat) (W:World),Cells W (.slice a' 2 c') (txs [nodeOf p0 p1,nodeOf p2 p3])->Kon W->Calls Tryz.prog 165 #[.slice a' 2 c'] W fun e w'=>∃ v',e=.returned v'/\w'.ownsRow W.heap.size 9 1 v' 1 (txs (up [nodeOf p0 p1,nodeOf p2 p3]))/\Below W.heap.size W w'):=
  Lib.hid (fun a' c' W hc hk=>above_any (.slice a' 2 c') [nodeOf p0 p1,nodeOf p2 p3] 1 W hc rfl (by decide) (by simp [nodeOf_length]) hk)
 rw [up4] at hA1
 rw [up2] at hA2
 generalize nodeOf p0 p1=q0 at hA1 hA2
 generalize nodeOf p2 p3=q1 at hA1 hA2 |-
 generalize nodeOf q0 q1=r at hA2
 obtain ⟨g,off,rfl,hgl,hc⟩:=hv.tx_at 1 (by decide)
 have hc:w.cell? ⟨g,off+1,none⟩=some (.string ⟨p1.toArray⟩):=hc
 clear hv hK h0 h1 h2 h3
 go_enter Tryz.func133,Tryz.ntmps133
 go_wp2_with fail
 refine (mright_four _).mono ?_
 rintro e w' ⟨rfl,rfl⟩
 go_wp2_with fail
 refine wp_loop_rounds 3 ?_
 rw [rounds_succ]
 go_wp2_with (at_builtin;refine Hid.out ?_)
 unfold Hid
 refine wpList_app1 rfl rfl Tryz.underlying31 Tryz.infoStr rfl (show w.ownsRow w.heap.size 9 1 (.slice none 0 0) 0 [] from World.ownsRow_nil _ _ _ _) rfl rfl rfl (by decide) (by decide) (Nat.le_refl _) ?_
 intro v1 w1 ho1 hg1
 have hB1:Below w.heap.size w w1:=(Below.refl _ _).grown hg1 (Nat.le_refl _) (fun j hj=>by cases hj)
 have s1:=hB1.size
 obtain ⟨a1,c1,rfl⟩:=own_slice ho1
 clear hg1
 go_wp2_with fail
 refine (hA1.out w1 hB1).mono ?_
 rintro e w2 ⟨v2,rfl,ho2,hb2⟩
 obtain ⟨a2,c2,rfl⟩:=own_slice ho2
 have hB2:=hB1.trans (hb2.mono s1)
 have ho12:=(Touch.of_below hb2 (fun _=>False)).own ho1 (fun _ _ h=>h)
 have hc2:=cells_of_own ho2
 have hA3:=Lib.hid (fun (W:World) (hc:Cells W (.slice a2 2 c2) (txs [q0,q1])) (hk:Kon W)=>hA2.out a2 c2 W hc hk)
 have hno2:=Lib.hid (fun k (hk:(Value.slice a2 2 c2).ownBlock=some k)=>(ho2.lt k hk).1)
 have hno1:=Lib.hid (fun k (hk:(Value.slice a1 1 c1).ownBlock=some k)=>(ho1.lt k hk).2)
 have hap:Hid (∀ k,(Value.slice a2 2 c2).ownBlock=some k->(Value.slice a1 1 c1).ownBlock≠some k):=Lib.hid (fun k hk e=>by have h1:=hno2.out k hk;have h2:=hno1.out k e;omega)
 have hC2:=Lib.hid hc2
 obtain ⟨g2,off2,e2,hgl2,hcc2⟩:=hc2.tx_at 1 (by decide)
 subst e2
 have hcc2:w2.cell? ⟨g2,off2+1,none⟩=some (.string ⟨q1.toArray⟩):=hcc2
 have s2:=hB2.size
 clear hA1 hA2 ho1 ho2 hc2 hb2 hc
 go_wp2_with fail
 rw [rounds_succ]
 go_wp2_with (at_builtin;refine Hid.out ?_)
 unfold Hid
 refine wpList_app1 rfl rfl Tryz.underlying31 Tryz.infoStr rfl ho12 rfl rfl rfl (by decide) (by decide) s2 ?_
 intro v3 w3 ho3 hg3
 have hB3:Below w.heap.size w w3:=hB2.grown hg3 s2 (fun j hj=>(ho12.lt j hj).1)
 obtain ⟨a3,c3,rfl⟩:=own_slice ho3
 have hT3:=Touch.grown hg3
 have s3:=hB3.size
 have hc3:Cells w3 (.slice (some ⟨g2,off2,none⟩) 2 c2) (txs [q0,q1]):=hT3.cells hC2.out (fun k hk e=>hap.out k hk e.symm)
 have hA4:=Lib.hid (hA3.out w3 hc3 (HK.out.old hB3))
 clear hA3 hc3 hT3 hcc2 hg3 ho12
 go_wp2_with fail
 refine hA4.out.mono ?_
 rintro e w4 ⟨v4,rfl,ho4,hb4⟩
 have hB4:=hB3.trans (hb4.mono s3)
 have ho34:=(Touch.of_below hb4 (fun _=>False)).own ho3 (fun _ _ h=>h)
 obtain ⟨a4,c4,rfl⟩:=own_slice ho4
 clear hA4 ho3 ho4
 go_wp2_with fail
 rw [rounds_succ]
 go_wp2
 go_ret2
 exact ⟨_,_,rfl,ho34,hB4⟩
theorem mpath_four1 (a:Option Addr) (c:Nat) (p0 p1 p2 p3:List UInt8) (w:World) (hv:Cells w (.slice a 4 c) (txs [p0,p1,p2,p3])) (h0:p0.length=16) (h1:p1.length=16) (h2:p2.length=16) (h3:p3.length=16) (hK:Kon w) :
 Calls Tryz.prog 133 #[.slice a 4 c,.int .i64 1] w fun e w'=>∃ a' c',e=.returned (.tuple #[.slice a' 2 c',.int .i64 0])/\w'.ownsRow w.heap.size 9 1 (.slice a' 2 c') 2 (txs [p0,nodeOf p2 p3])/\Below w.heap.size w w':=by
 have HK:=Lib.hid hK
 have hx1:bits BinOp.xor IntKind.i64 1 1=0:=by kernel_rfl
 have hx0:bits BinOp.xor IntKind.i64 0 1=1:=by kernel_rfl
 have hA1:=Lib.hid (fun (W:World) (hb:Below w.heap.size w W)=>above_any (.slice a 4 c) [p0,p1,p2,p3] 2 W (hv.old hb) rfl (by decide) (by simp [h0,h1,h2,h3]) (hK.old hb))
 have hA2:Hid (∀ (a':Option Addr) (c':Nat) (W:World),Cells W (.slice a' 2 c') (txs [nodeOf p0 p1,nodeOf p2 p3])->Kon W->Calls Tryz.prog 165 #[.slice a' 2 c'] W fun e w'=>∃ v',e=.returned v'/\w'.ownsRow W.heap.size 9 1 v' 1 (txs (up [nodeOf p0 p1,nodeOf p2 p3]))/\Below W.heap.size W w'):=
  Lib.hid (fun a' c' W hc hk=>above_any (.slice a' 2 c') [nodeOf p0 p1,nodeOf p2 p3] 1 W hc rfl (by decide) (by simp [nodeOf_length]) hk)
 rw [up4] at hA1
 rw [up2] at hA2
 generalize nodeOf p0 p1=q0 at hA1 hA2
 generalize nodeOf p2 p3=q1 at hA1 hA2 |-
 generalize nodeOf q0 q1=r at hA2
 obtain ⟨g,off,rfl,hgl,hc⟩:=hv.tx_at 0 (by decide)
 have hc:w.cell? ⟨g,off,none⟩=some (.string ⟨p0.toArray⟩):=hc
 clear hv hK h0 h1 h2 h3
 go_enter Tryz.func133,Tryz.ntmps133
 go_wp2_with fail
 refine (mright_four _).mono ?_
 rintro e w' ⟨rfl,rfl⟩
 go_wp2_with fail
 refine wp_loop_rounds 3 ?_
 rw [rounds_succ]
 go_wp2_with (at_builtin;refine Hid.out ?_)
 unfold Hid
 refine wpList_app1 rfl rfl Tryz.underlying31 Tryz.infoStr rfl (show w.ownsRow w.heap.size 9 1 (.slice none 0 0) 0 [] from World.ownsRow_nil _ _ _ _) rfl rfl rfl (by decide) (by decide) (Nat.le_refl _) ?_
 intro v1 w1 ho1 hg1
 have hB1:Below w.heap.size w w1:=(Below.refl _ _).grown hg1 (Nat.le_refl _) (fun j hj=>by cases hj)
 have s1:=hB1.size
 obtain ⟨a1,c1,rfl⟩:=own_slice ho1
 clear hg1
 go_wp2_with fail
 refine (hA1.out w1 hB1).mono ?_
 rintro e w2 ⟨v2,rfl,ho2,hb2⟩
 obtain ⟨a2,c2,rfl⟩:=own_slice ho2
 have hB2:=hB1.trans (hb2.mono s1)
 have ho12:=(Touch.of_below hb2 (fun _=>False)).own ho1 (fun _ _ h=>h)
 have hc2:=cells_of_own ho2
 have hA3:=Lib.hid (fun (W:World) (hc:Cells W (.slice a2 2 c2) (txs [q0,q1])) (hk:Kon W)=>hA2.out a2 c2 W hc hk)
 have hno2:=Lib.hid (fun k (hk:(Value.slice a2 2 c2).ownBlock=some k)=>(ho2.lt k hk).1)
 have hno1:=Lib.hid (fun k (hk:(Value.slice a1 1 c1).ownBlock=some k)=>(ho1.lt k hk).2)
 have hap:Hid (∀ k,(Value.slice a2 2 c2).ownBlock=some k->(Value.slice a1 1 c1).ownBlock≠some k):=Lib.hid (fun k hk e=>by have h1:=hno2.out k hk;have h2:=hno1.out k e;omega)
 have hC2:=Lib.hid hc2
 obtain ⟨g2,off2,e2,hgl2,hcc2⟩:=hc2.tx_at 1 (by decide)
 subst e2
 have hcc2:w2.cell? ⟨g2,off2+1,none⟩=some (.string ⟨q1.toArray⟩):=hcc2
 have s2:=hB2.size
 clear hA1 hA2 ho1 ho2 hc2 hb2 hc
 go_wp2_with fail
 rw [rounds_succ]
 go_wp2_with (at_builtin;refine Hid.out ?_)
 unfold Hid
 refine wpList_app1 rfl rfl Tryz.underlying31 Tryz.infoStr rfl ho12 rfl rfl rfl (by decide) (by decide) s2 ?_
 intro v3 w3 ho3 hg3
 have hB3:Below w.heap.size w w3:=hB2.grown hg3 s2 (fun j hj=>(ho12.lt j hj).1)
 obtain ⟨a3,c3,rfl⟩:=own_slice ho3
 have hT3:=Touch.grown hg3
 have s3:=hB3.size
 have hc3:Cells w3 (.slice (some ⟨g2,off2,none⟩) 2 c2) (txs [q0,q1]):=hT3.cells hC2.out (fun k hk e=>hap.out k hk e.symm)
 have hA4:=Lib.hid (hA3.out w3 hc3 (HK.out.old hB3))
 clear hA3 hc3 hT3 hcc2 hg3 ho12
 go_wp2_with fail
 refine hA4.out.mono ?_
 rintro e w4 ⟨v4,rfl,ho4,hb4⟩
 have hB4:=hB3.trans (hb4.mono s3)
 have ho34:=(Touch.of_below hb4 (fun _=>False)).own ho3 (fun _ _ h=>h)
 obtain ⟨a4,c4,rfl⟩:=own_slice ho4
 clear hA4 ho3 ho4
 go_wp2_with fail
 rw [rounds_succ]
 go_wp2
 go_ret2
 exact ⟨_,_,rfl,ho34,hB4⟩
def pubVh (o r:List UInt8) (h:Int):Value:=.agg #[.string ⟨o.toArray⟩,.string ⟨r.toArray⟩,.int .i64 h]
theorem xpublic_two (b:Nat) (seed:List UInt8) (w:World) (hk:Key4 w b seed) :
 Calls Tryz.prog 63 #[.pointer (some ⟨b,0,none⟩)] w fun e w'=>e=.returned (pubVh (openOf seed) (rootOf4 seed) 2)/\Below w.heap.size w w':=by
 obtain ⟨g,c,hk,_,_,_⟩:=hk
 have hlt:b<w.heap.size:=(Array.getElem?_eq_some_iff.1 hk).1
 have x1:∀ o,(w.alloc o).cell? ⟨b,1,none⟩=some (.string ⟨(openOf seed).toArray⟩):=fun o=>by
  rw [((Below.refl w.heap.size w).alloc (Nat.le_refl _) o).cell (p:=⟨b,1,none⟩) hlt,cell_of_row _ _ 1 _ _ _ hk];rfl
 have x2:∀ o,(w.alloc o).cell? ⟨b,2,none⟩=some (.string ⟨(rootOf4 seed).toArray⟩):=fun o=>by
  rw [((Below.refl w.heap.size w).alloc (Nat.le_refl _) o).cell (p:=⟨b,2,none⟩) hlt,cell_of_row _ _ 2 _ _ _ hk];rfl
 have x3:∀ o,(w.alloc o).cell? ⟨b,3,none⟩=some (.int .i64 2):=fun o=>by
  rw [((Below.refl w.heap.size w).alloc (Nat.le_refl _) o).cell (p:=⟨b,3,none⟩) hlt,cell_of_row _ _ 3 _ _ _ hk];rfl
 clear hk
 unfold pubVh
 generalize openOf seed=o at x1 |-
 generalize rootOf4 seed=r at x2 |-
 go_enter Tryz.func63,Tryz.ntmps63
 go_wp2
 refine bodyPost_ret (results_cell_row rfl _ _ w.heap.size 88 #[.string ⟨o.toArray⟩,.string ⟨r.toArray⟩,.int .i64 2] (0,0) _ rfl (heap_alloc_new _ _) Tryz.underlying88 rfl (by kernel_rfl)) rfl ?_
 exact ⟨rfl,(Below.refl _ _).alloc (Nat.le_refl _) _⟩
theorem xcount_two (b:Nat) (seed:List UInt8) (w:World) (hk:Key4 w b seed) :
 Calls Tryz.prog 130 #[.pointer (some ⟨b,0,none⟩)] w fun e w'=>e=.returned (.int .i64 4)/\w=w':=by
 obtain ⟨g,c,hk,_,_,_⟩:=hk
 have x4:w.cell? ⟨b,4,none⟩=some (.slice (some ⟨g,0,none⟩) 4 c):=cel hk
 clear hk
 go_enter Tryz.func130,Tryz.ntmps130
 go_wp2
 go_ret
 exact ⟨rfl,rfl⟩
def digestAt0 (o:List UInt8) (m:List UInt8):List UInt8:=tagOf 6 [o,[0,0,0,0],m]
theorem digest_at0 (o m:ByteArray) (w:World) (ho:o.size<=1000) (hm:m.size<=1000) (hK:Kon w) :
 Calls Tryz.prog 132 #[.string o,.int .i64 0,.string m] w fun e w'=>e=.returned (.string ⟨(digestAt0 o.data.toList m.data.toList).toArray⟩)/\Below w.heap.size w w':=by
 have HK:=Lib.hid hK
 have hst:∀ W:World,(convert 58 9 (.slice (some ⟨W.heap.size,0,none⟩) 4 4)).run Tryz.prog (W.alloc (.cells #[.int .u8 0,.int .u8 0,.int .u8 0,.int .u8 0] 5))=.ok (.string ⟨#[0,0,0,0]⟩) (W.alloc (.cells #[.int .u8 0,.int .u8 0,.int .u8 0,.int .u8 0] 5)):=by
  intro W
  have e:(#[.int .u8 0,.int .u8 0,.int .u8 0,.int .u8 0]:Array Value)=(bytesV [0,0,0,0]).toArray:=rfl
  rw [e]
  exact run_string_block Tryz.underlying58 Tryz.underlying5 Tryz.underlying9 (heap_alloc_new W _) rfl
 have hb1:Below w.heap.size w (w.alloc (.cells #[.int .u8 0,.int .u8 0,.int .u8 0,.int .u8 0] 5)):=(Below.refl _ _).alloc (Nat.le_refl _) _
 have hT0:=tagged_new 6 [o,⟨#[0,0,0,0]⟩,m] 3 rfl (w.alloc (.cells #[.int .u8 0,.int .u8 0,.int .u8 0,.int .u8 0] 5)) (by decide) (by decide) (by rw [tagIn_len];simp;omega) (HK.out.old hb1)
 rw [show ([o,⟨#[0,0,0,0]⟩,m].map (·.data.toList))=[o.data.toList,[0,0,0,0],m.data.toList] from rfl,show (w.alloc (.cells #[.int .u8 0,.int .u8 0,.int .u8 0,.int .u8 0] 5)).heap.size=w.heap.size+1 from by simp] at hT0
 have hT:=Lib.hid hT0
 have hD:digestAt0 o.data.toList m.data.toList=tagOf 6 [o.data.toList,[0,0,0,0],m.data.toList]:=rfl
 rw [<-hD] at hT
 clear hT0 hD
 generalize digestAt0 o.data.toList m.data.toList=D at hT |-
 clear hK
 go_enter Tryz.func132,Tryz.ntmps132
 go_wp2_with fail
 refine hT.out.mono ?_
 rintro e w' ⟨rfl,hb⟩
 go_wp2
 go_ret
 exact ⟨rfl,hb1.trans (hb.mono (Nat.le_succ _))⟩
def Sig40 (w:World) (v:Value) (seed m:List UInt8):Prop:=
 ∃ a c a' c',v=.agg #[.int .i64 0,.slice a 35 c,.slice a' 2 c']/\Cells w (.slice a 35 c) (txs (sigOf seed 0 (digs (digestAt0 (openOf seed) m)) 35))/\Cells w (.slice a' 2 c') (txs [pubKey seed 1,nodeOf (pubKey seed 2) (pubKey seed 3)])
theorem xsign_two0 (b:Nat) (seed:List UInt8) (m:ByteArray) (w:World) (hk:Key4 w b seed) (hs:seed.length<=1000) (hm:m.size<=1000) (hK:Kon w) :
 Calls Tryz.prog 75 #[.pointer (some ⟨b,0,none⟩),.int .i64 0,.string m] w fun e w'=>∃ a c a' c',e=.returned (.tuple #[.agg #[.int .i64 0,.slice a 35 c,.slice a' 2 c'],.int .i64 0])/\Sig40 w' (.agg #[.int .i64 0,.slice a 35 c,.slice a' 2 c']) seed m.data.toList/\(∀ k,(Value.slice a 35 c).ownBlock=some k->w.heap.size<=k)/\(∀ k,(Value.slice a' 2 c').ownBlock=some k->w.heap.size<=k)/\Below w.heap.size w w':=by
 have HK:=Lib.hid hK
 have HKey:=Lib.hid hk
 clear hK hk
 go_enter Tryz.func75,Tryz.ntmps75
 go_wp2_with fail
 have hb1:Below w.heap.size w (w.alloc (.cells #[.int .i64 0,.slice none 0 0,.slice none 0 0] 84)):=(Below.refl _ _).alloc (Nat.le_refl _) _
 have hr1:(w.alloc (.cells #[.int .i64 0,.slice none 0 0,.slice none 0 0] 84)).heap[w.heap.size]?=some (.cells #[.int .i64 0,.slice none 0 0,.slice none 0 0] 84 (0,0)):=heap_alloc_new _ _
 generalize (w.alloc (.cells #[.int .i64 0,.slice none 0 0,.slice none 0 0] 84))=W1 at hb1 hr1 |-
 have hKey1:Key4 W1 b seed:=HKey.out.old hb1
 obtain ⟨g,c,hk,hcl,hbg,hg⟩:=HKey.out
 have hlt:b<w.heap.size:=(Array.getElem?_eq_some_iff.1 hk).1
 have hk1:=(hb1.block b hlt).trans hk
 refine (xcount_two b seed W1 hKey1).mono ?_
 rintro e w' ⟨rfl,rfl⟩
 have x0:W1.cell? ⟨b,0,none⟩=some (.string ⟨seed.toArray⟩):=cel hk1
 have x1:W1.cell? ⟨b,1,none⟩=some (.string ⟨(openOf seed).toArray⟩):=cel hk1
 have x4:W1.cell? ⟨b,4,none⟩=some (.slice (some ⟨g,0,none⟩) 4 c):=cel hk1
 have hol:=openOf_length seed
 have hK1:=HK.out.old hb1
 have Hcl:=Lib.hid hcl
 clear hcl hk hKey1 hk1
 go_wp2_with fail
 have hlt1:b<W1.heap.size:=Nat.lt_of_lt_of_le hlt hb1.size
 have sw1:=hb1.size
 have hdig:=digest_at0 ⟨(openOf seed).toArray⟩ m W1.drew (by show (openOf seed).toArray.size<=1000;simp [hol]) hm (hK1.old (below_drew W1))
 have hdl:(ByteArray.mk (digestAt0 (openOf seed) m.data.toList).toArray).size=16:=by show (digestAt0 (openOf seed) m.data.toList).toArray.size=16;simp [digestAt0,tagOf_length]
 have hsig:=Lib.hid (fun (w5:World) (hb5:Below W1.drew.heap.size W1.drew w5)=>wsign_any ⟨seed.toArray⟩ ⟨(digestAt0 (openOf seed) m.data.toList).toArray⟩ 0 w5 (by show seed.toArray.size<=1000;simpa using hs) hdl (by decide) (hK1.old (below_call hb5)))
 have hS0:=Lib.hid (keepG x0 x1 (below_drew W1) hlt1)
 have hS1:=Lib.hid (fun w5 (hb5:Below W1.drew.heap.size W1.drew w5)=>keepG x0 x1 (below_call hb5) hlt1)
 have hS2:=Lib.hid (fun w5 w6 (hb5:Below W1.drew.heap.size W1.drew w5) (hb6:Below w5.heap.size w5 w6)=>keepG (W':=w6) x0 x1 ((below_call hb5).trans (hb6.mono (below_call hb5).size)) hlt1)
 clear hdl
 go_region_held3 (fun W=>W.cell? ⟨b,0,none⟩=some (.string ⟨seed.toArray⟩)/\W.cell? ⟨b,1,none⟩=some (.string ⟨(openOf seed).toArray⟩)/\Below W1.heap.size W1 W) (first | exact hS0.out | exact hS2.out _ _ (by assumption) (by assumption) | exact hS1.out _ (by assumption)) (first | (go_at_call 132;refine hdig.mono ?_;rintro r w5 ⟨rfl,hb5⟩) | (go_at_call 131;refine (hsig.out _ (by assumption)).mono ?_;rintro r w6 ⟨vs,rfl,ho6,hb6⟩))
 have hb6s:=hb6.size
 have hb6':=(below_call hb5).trans (hb6.mono (below_call hb5).size)
 have hr6:=(hb6'.block w.heap.size (Array.getElem?_eq_some_iff.1 hr1).1).trans hr1
 have y4:w6.cell? ⟨b,4,none⟩=some (.slice (some ⟨g,0,none⟩) 4 c):=(hb6'.cell (p:=⟨b,4,none⟩) hlt1).trans x4
 have HC:=Lib.hid (cells_of_own ho6)
 have hbs:∀ j,(Value.ownBlock vs)=some j->w5.heap.size<=j:=fun j hj=>(ho6.lt j hj).1
 obtain ⟨av,cv,rfl⟩:=own_slice ho6
 have hB6:=hb1.trans (hb6'.mono hb1.size)
 have hw5:w.heap.size<w5.heap.size:=Nat.lt_of_lt_of_le (Array.getElem?_eq_some_iff.1 hr1).1 (below_call hb5).size
 have hpath:=Lib.hid (mpath_four0 (some ⟨g,0,none⟩) c (pubKey seed 0) (pubKey seed 1) (pubKey seed 2) (pubKey seed 3) w6 (Hcl.out.old hB6) (pubKey_length _ _) (pubKey_length _ _) (pubKey_length _ _) (pubKey_length _ _) (HK.out.old hB6))
 have HB6:=Lib.hid hB6
 have s6:=hB6.size
 have hlt6:w.heap.size<w6.heap.size:=(Array.getElem?_eq_some_iff.1 hr6).1
 have Hr6:=Lib.hid hr6
 clear hdig hsig hS0 hS1 hS2 hb6 hb5 x0 x1 x4 ho6 hb6' hB6 hr6
 go_wp2_with fail
 refine hpath.out.mono ?_
 rintro e w7 ⟨a7,c7,rfl,ho7,hb7⟩
 have hr7:=(hb7.block w.heap.size hlt6).trans Hr6.out
 have q0:w7.cell? ⟨w.heap.size,0,none⟩=some (.int .i64 0):=cel hr7
 have q1:w7.cell? ⟨w.heap.size,1,none⟩=some (.slice none 0 0):=cel hr7
 have q2:w7.cell? ⟨w.heap.size,2,none⟩=some (.slice none 0 0):=cel hr7
 have f0:w7.frozen? ⟨w.heap.size,0,none⟩=false:=frozen_of_row _ _ 0 _ _ hr7
 have f1:w7.frozen? ⟨w.heap.size,1,none⟩=false:=frozen_of_row _ _ 1 _ _ hr7
 have f2:w7.frozen? ⟨w.heap.size,2,none⟩=false:=frozen_of_row _ _ 2 _ _ hr7
 have hr8:=heap_setCell_same _ w.heap.size 2 _ _ (.slice a7 2 c7) (heap_setCell_same _ w.heap.size 1 _ _ (.slice av 35 cv) (heap_setCell_same w7 w.heap.size 0 _ _ (.int .i64 0) hr7))
 have HC7:=Lib.hid (HC.out.old hb7)
 have HO7:=Lib.hid ho7
 have HB7:=Lib.hid (HB6.out.trans (hb7.mono s6))
 have s7:=hb7.size
 clear hpath hr7 ho7 hb7 HC Hr6
 go_wp2_with fail
 have hT:Touch (·=w.heap.size) w7 (((w7.setCell ⟨w.heap.size,0,none⟩ (.int .i64 0)).setCell ⟨w.heap.size,1,none⟩ (.slice av 35 cv)).setCell ⟨w.heap.size,2,none⟩ (.slice a7 2 c7)):=
  ((Touch.setCell (S:=(·=w.heap.size)) w7 ⟨w.heap.size,0,none⟩ _ rfl).trans (Touch.setCell (S:=(·=w.heap.size)) _ ⟨w.heap.size,1,none⟩ _ rfl)).trans (Touch.setCell (S:=(·=w.heap.size)) _ ⟨w.heap.size,2,none⟩ _ rfl)
 generalize (((w7.setCell ⟨w.heap.size,0,none⟩ (.int .i64 0)).setCell ⟨w.heap.size,1,none⟩ (.slice av 35 cv)).setCell ⟨w.heap.size,2,none⟩ (.slice a7 2 c7))=W8 at hT hr8 |-
 refine bodyPost_ret (results_pair_row rfl _ _ w.heap.size #[.int .i64 0,.slice av 35 cv,.slice a7 2 c7] rfl (run_loadVar_row W8 w.heap.size 84 84 _ (0,0) _ hr8 Tryz.underlying84 rfl (by kernel_rfl))) rfl ?_
 refine ⟨av,cv,a7,c7,rfl,⟨av,cv,a7,c7,rfl,?_,?_⟩,fun k hk=>by have:=hbs k hk;omega,fun k hk=>by have:=(HO7.out.lt k hk).1;omega,HB7.out.trans (hT.below (B:=w.heap.size) (fun k e=>Nat.le_of_eq e.symm) HB7.out.size)⟩
 · exact hT.cells HC7.out (fun k hk e=>by have:=hbs k hk;omega)
 · exact hT.cells (cells_of_own HO7.out) (fun k hk e=>by have:=(HO7.out.lt k hk).1;omega)
theorem mclimb_two0 (x s0 s1:List UInt8) (a:Option Addr) (c:Nat) (w:World) (hv:Cells w (.slice a 2 c) (txs [s0,s1])) (hx:x.length=16) (h0:s0.length=16) (h1:s1.length=16) (hK:Kon w) :
 Calls Tryz.prog 147 #[.string ⟨x.toArray⟩,.int .i64 0,.slice a 2 c] w fun e w'=>e=.returned (.string ⟨(nodeOf (nodeOf x s0) s1).toArray⟩)/\Below w.heap.size w w':=by
 have HK:=Lib.hid hK
 have hx0:bits BinOp.and IntKind.i64 0 1=0:=by kernel_rfl
 obtain ⟨g,off,rfl,hgl,hc0⟩:=hv.tx_at 0 (by decide)
 obtain ⟨g',off',e1,_,hc1⟩:=hv.tx_at 1 (by decide)
 injection e1 with e1
 injection e1 with e1 e2 _
 subst e1 e2
 have hc0:w.cell? ⟨g,off,none⟩=some (.string ⟨s0.toArray⟩):=hc0
 have hc1:w.cell? ⟨g,off+1,none⟩=some (.string ⟨s1.toArray⟩):=hc1
 have hn1:=Lib.hid (mnode_any ⟨(x).toArray⟩ ⟨(s0).toArray⟩ w (by show (x).toArray.size<=1000;simp [hx]) (by show (s0).toArray.size<=1000;simp [h0]) hK)
 have hn2:=Lib.hid (fun (W:World) (hb:Below w.heap.size w W)=>mnode_any ⟨(nodeOf x s0).toArray⟩ ⟨s1.toArray⟩ W (by show (nodeOf x s0).toArray.size<=1000;simp [nodeOf_length]) (by show s1.toArray.size<=1000;simp [h1]) (hK.old hb))
 have hn1:Hid (Calls Tryz.prog 191 #[.string ⟨(x).toArray⟩,.string ⟨(s0).toArray⟩] w fun e w'=>e=.returned (.string ⟨(nodeOf x s0).toArray⟩)/\Below w.heap.size w w'):=hn1
 have hn2:Hid (∀ W,Below w.heap.size w W->Calls Tryz.prog 191 #[.string ⟨(nodeOf x s0).toArray⟩,.string ⟨s1.toArray⟩] W fun e w'=>e=.returned (.string ⟨(nodeOf (nodeOf x s0) s1).toArray⟩)/\Below W.heap.size W w'):=hn2
 generalize nodeOf x s0=q at hn1 hn2 |-
 generalize nodeOf q s1=r at hn2 |-
 clear hv hK hx h0 h1
 go_enter Tryz.func147,Tryz.ntmps147
 go_wp2_with fail
 refine wp_loop_rounds 3 ?_
 rw [rounds_succ]
 go_wp2_with fail
 refine hn1.out.mono ?_
 rintro e w1 ⟨rfl,hb1⟩
 have hc1:=(hb1.cell (p:=⟨g,off+1,none⟩) hgl).trans hc1
 have hn2:=Lib.hid (hn2.out w1 hb1)
 have Hb1:=Lib.hid hb1
 clear hn1 hc0 hb1
 go_wp2_with fail
 rw [rounds_succ]
 go_wp2_with fail
 refine hn2.out.mono ?_
 rintro e w2 ⟨rfl,hb2⟩
 have Hb2:=Lib.hid (Hb1.out.trans (hb2.mono Hb1.out.size))
 clear hn2 hc1 hb2
 go_wp2_with fail
 rw [rounds_succ]
 go_wp2
 go_ret
 exact ⟨rfl,Hb2.out⟩
def digestAt1 (o:List UInt8) (m:List UInt8):List UInt8:=tagOf 6 [o,[0,0,0,1],m]
theorem digest_at1 (o m:ByteArray) (w:World) (ho:o.size<=1000) (hm:m.size<=1000) (hK:Kon w) :
 Calls Tryz.prog 132 #[.string o,.int .i64 1,.string m] w fun e w'=>e=.returned (.string ⟨(digestAt1 o.data.toList m.data.toList).toArray⟩)/\Below w.heap.size w w':=by
 have HK:=Lib.hid hK
 have hst:∀ W:World,(convert 58 9 (.slice (some ⟨W.heap.size,0,none⟩) 4 4)).run Tryz.prog (W.alloc (.cells #[.int .u8 0,.int .u8 0,.int .u8 0,.int .u8 1] 5))=.ok (.string ⟨#[0,0,0,1]⟩) (W.alloc (.cells #[.int .u8 0,.int .u8 0,.int .u8 0,.int .u8 1] 5)):=by
  intro W
  have e:(#[.int .u8 0,.int .u8 0,.int .u8 0,.int .u8 1]:Array Value)=(bytesV [0,0,0,1]).toArray:=rfl
  rw [e]
  exact run_string_block Tryz.underlying58 Tryz.underlying5 Tryz.underlying9 (heap_alloc_new W _) rfl
 have hb1:Below w.heap.size w (w.alloc (.cells #[.int .u8 0,.int .u8 0,.int .u8 0,.int .u8 1] 5)):=(Below.refl _ _).alloc (Nat.le_refl _) _
 have hT0:=tagged_new 6 [o,⟨#[0,0,0,1]⟩,m] 3 rfl (w.alloc (.cells #[.int .u8 0,.int .u8 0,.int .u8 0,.int .u8 1] 5)) (by decide) (by decide) (by rw [tagIn_len];simp;omega) (HK.out.old hb1)
 rw [show ([o,⟨#[0,0,0,1]⟩,m].map (·.data.toList))=[o.data.toList,[0,0,0,1],m.data.toList] from rfl,show (w.alloc (.cells #[.int .u8 0,.int .u8 0,.int .u8 0,.int .u8 1] 5)).heap.size=w.heap.size+1 from by simp] at hT0
 have hT:=Lib.hid hT0
 have hD:digestAt1 o.data.toList m.data.toList=tagOf 6 [o.data.toList,[0,0,0,1],m.data.toList]:=rfl
 rw [<-hD] at hT
 clear hT0 hD
 generalize digestAt1 o.data.toList m.data.toList=D at hT |-
 clear hK
 go_enter Tryz.func132,Tryz.ntmps132
 go_wp2_with fail
 refine hT.out.mono ?_
 rintro e w' ⟨rfl,hb⟩
 go_wp2
 go_ret
 exact ⟨rfl,hb1.trans (hb.mono (Nat.le_succ _))⟩
def Sig41 (w:World) (v:Value) (seed m:List UInt8):Prop:=
 ∃ a c a' c',v=.agg #[.int .i64 1,.slice a 35 c,.slice a' 2 c']/\Cells w (.slice a 35 c) (txs (sigOf seed 1 (digs (digestAt1 (openOf seed) m)) 35))/\Cells w (.slice a' 2 c') (txs [pubKey seed 0,nodeOf (pubKey seed 2) (pubKey seed 3)])
theorem xsign_two1 (b:Nat) (seed:List UInt8) (m:ByteArray) (w:World) (hk:Key4 w b seed) (hs:seed.length<=1000) (hm:m.size<=1000) (hK:Kon w) :
 Calls Tryz.prog 75 #[.pointer (some ⟨b,0,none⟩),.int .i64 1,.string m] w fun e w'=>∃ a c a' c',e=.returned (.tuple #[.agg #[.int .i64 1,.slice a 35 c,.slice a' 2 c'],.int .i64 0])/\Sig41 w' (.agg #[.int .i64 1,.slice a 35 c,.slice a' 2 c']) seed m.data.toList/\(∀ k,(Value.slice a 35 c).ownBlock=some k->w.heap.size<=k)/\(∀ k,(Value.slice a' 2 c').ownBlock=some k->w.heap.size<=k)/\Below w.heap.size w w':=by
 have HK:=Lib.hid hK
 have HKey:=Lib.hid hk
 clear hK hk
 go_enter Tryz.func75,Tryz.ntmps75
 go_wp2_with fail
 have hb1:Below w.heap.size w (w.alloc (.cells #[.int .i64 0,.slice none 0 0,.slice none 0 0] 84)):=(Below.refl _ _).alloc (Nat.le_refl _) _
 have hr1:(w.alloc (.cells #[.int .i64 0,.slice none 0 0,.slice none 0 0] 84)).heap[w.heap.size]?=some (.cells #[.int .i64 0,.slice none 0 0,.slice none 0 0] 84 (0,0)):=heap_alloc_new _ _
 generalize (w.alloc (.cells #[.int .i64 0,.slice none 0 0,.slice none 0 0] 84))=W1 at hb1 hr1 |-
 have hKey1:Key4 W1 b seed:=HKey.out.old hb1
 obtain ⟨g,c,hk,hcl,hbg,hg⟩:=HKey.out
 have hlt:b<w.heap.size:=(Array.getElem?_eq_some_iff.1 hk).1
 have hk1:=(hb1.block b hlt).trans hk
 refine (xcount_two b seed W1 hKey1).mono ?_
 rintro e w' ⟨rfl,rfl⟩
 have x0:W1.cell? ⟨b,0,none⟩=some (.string ⟨seed.toArray⟩):=cel hk1
 have x1:W1.cell? ⟨b,1,none⟩=some (.string ⟨(openOf seed).toArray⟩):=cel hk1
 have x4:W1.cell? ⟨b,4,none⟩=some (.slice (some ⟨g,0,none⟩) 4 c):=cel hk1
 have hol:=openOf_length seed
 have hK1:=HK.out.old hb1
 have Hcl:=Lib.hid hcl
 clear hcl hk hKey1 hk1
 go_wp2_with fail
 have hlt1:b<W1.heap.size:=Nat.lt_of_lt_of_le hlt hb1.size
 have sw1:=hb1.size
 have hdig:=digest_at1 ⟨(openOf seed).toArray⟩ m W1.drew (by show (openOf seed).toArray.size<=1000;simp [hol]) hm (hK1.old (below_drew W1))
 have hdl:(ByteArray.mk (digestAt1 (openOf seed) m.data.toList).toArray).size=16:=by show (digestAt1 (openOf seed) m.data.toList).toArray.size=16;simp [digestAt1,tagOf_length]
 have hsig:=Lib.hid (fun (w5:World) (hb5:Below W1.drew.heap.size W1.drew w5)=>wsign_any ⟨seed.toArray⟩ ⟨(digestAt1 (openOf seed) m.data.toList).toArray⟩ 1 w5 (by show seed.toArray.size<=1000;simpa using hs) hdl (by decide) (hK1.old (below_call hb5)))
 have hS0:=Lib.hid (keepG x0 x1 (below_drew W1) hlt1)
 have hS1:=Lib.hid (fun w5 (hb5:Below W1.drew.heap.size W1.drew w5)=>keepG x0 x1 (below_call hb5) hlt1)
 have hS2:=Lib.hid (fun w5 w6 (hb5:Below W1.drew.heap.size W1.drew w5) (hb6:Below w5.heap.size w5 w6)=>keepG (W':=w6) x0 x1 ((below_call hb5).trans (hb6.mono (below_call hb5).size)) hlt1)
 clear hdl
 go_region_held3 (fun W=>W.cell? ⟨b,0,none⟩=some (.string ⟨seed.toArray⟩)/\W.cell? ⟨b,1,none⟩=some (.string ⟨(openOf seed).toArray⟩)/\Below W1.heap.size W1 W) (first | exact hS0.out | exact hS2.out _ _ (by assumption) (by assumption) | exact hS1.out _ (by assumption)) (first | (go_at_call 132;refine hdig.mono ?_;rintro r w5 ⟨rfl,hb5⟩) | (go_at_call 131;refine (hsig.out _ (by assumption)).mono ?_;rintro r w6 ⟨vs,rfl,ho6,hb6⟩))
 have hb6s:=hb6.size
 have hb6':=(below_call hb5).trans (hb6.mono (below_call hb5).size)
 have hr6:=(hb6'.block w.heap.size (Array.getElem?_eq_some_iff.1 hr1).1).trans hr1
 have y4:w6.cell? ⟨b,4,none⟩=some (.slice (some ⟨g,0,none⟩) 4 c):=(hb6'.cell (p:=⟨b,4,none⟩) hlt1).trans x4
 have HC:=Lib.hid (cells_of_own ho6)
 have hbs:∀ j,(Value.ownBlock vs)=some j->w5.heap.size<=j:=fun j hj=>(ho6.lt j hj).1
 obtain ⟨av,cv,rfl⟩:=own_slice ho6
 have hB6:=hb1.trans (hb6'.mono hb1.size)
 have hw5:w.heap.size<w5.heap.size:=Nat.lt_of_lt_of_le (Array.getElem?_eq_some_iff.1 hr1).1 (below_call hb5).size
 have hpath:=Lib.hid (mpath_four1 (some ⟨g,0,none⟩) c (pubKey seed 0) (pubKey seed 1) (pubKey seed 2) (pubKey seed 3) w6 (Hcl.out.old hB6) (pubKey_length _ _) (pubKey_length _ _) (pubKey_length _ _) (pubKey_length _ _) (HK.out.old hB6))
 have HB6:=Lib.hid hB6
 have s6:=hB6.size
 have hlt6:w.heap.size<w6.heap.size:=(Array.getElem?_eq_some_iff.1 hr6).1
 have Hr6:=Lib.hid hr6
 clear hdig hsig hS0 hS1 hS2 hb6 hb5 x0 x1 x4 ho6 hb6' hB6 hr6
 go_wp2_with fail
 refine hpath.out.mono ?_
 rintro e w7 ⟨a7,c7,rfl,ho7,hb7⟩
 have hr7:=(hb7.block w.heap.size hlt6).trans Hr6.out
 have q0:w7.cell? ⟨w.heap.size,0,none⟩=some (.int .i64 0):=cel hr7
 have q1:w7.cell? ⟨w.heap.size,1,none⟩=some (.slice none 0 0):=cel hr7
 have q2:w7.cell? ⟨w.heap.size,2,none⟩=some (.slice none 0 0):=cel hr7
 have f0:w7.frozen? ⟨w.heap.size,0,none⟩=false:=frozen_of_row _ _ 0 _ _ hr7
 have f1:w7.frozen? ⟨w.heap.size,1,none⟩=false:=frozen_of_row _ _ 1 _ _ hr7
 have f2:w7.frozen? ⟨w.heap.size,2,none⟩=false:=frozen_of_row _ _ 2 _ _ hr7
 have hr8:=heap_setCell_same _ w.heap.size 2 _ _ (.slice a7 2 c7) (heap_setCell_same _ w.heap.size 1 _ _ (.slice av 35 cv) (heap_setCell_same w7 w.heap.size 0 _ _ (.int .i64 1) hr7))
 have HC7:=Lib.hid (HC.out.old hb7)
 have HO7:=Lib.hid ho7
 have HB7:=Lib.hid (HB6.out.trans (hb7.mono s6))
 have s7:=hb7.size
 clear hpath hr7 ho7 hb7 HC Hr6
 go_wp2_with fail
 have hT:Touch (·=w.heap.size) w7 (((w7.setCell ⟨w.heap.size,0,none⟩ (.int .i64 1)).setCell ⟨w.heap.size,1,none⟩ (.slice av 35 cv)).setCell ⟨w.heap.size,2,none⟩ (.slice a7 2 c7)):=
  ((Touch.setCell (S:=(·=w.heap.size)) w7 ⟨w.heap.size,0,none⟩ _ rfl).trans (Touch.setCell (S:=(·=w.heap.size)) _ ⟨w.heap.size,1,none⟩ _ rfl)).trans (Touch.setCell (S:=(·=w.heap.size)) _ ⟨w.heap.size,2,none⟩ _ rfl)
 generalize (((w7.setCell ⟨w.heap.size,0,none⟩ (.int .i64 1)).setCell ⟨w.heap.size,1,none⟩ (.slice av 35 cv)).setCell ⟨w.heap.size,2,none⟩ (.slice a7 2 c7))=W8 at hT hr8 |-
 refine bodyPost_ret (results_pair_row rfl _ _ w.heap.size #[.int .i64 1,.slice av 35 cv,.slice a7 2 c7] rfl (run_loadVar_row W8 w.heap.size 84 84 _ (0,0) _ hr8 Tryz.underlying84 rfl (by kernel_rfl))) rfl ?_
 refine ⟨av,cv,a7,c7,rfl,⟨av,cv,a7,c7,rfl,?_,?_⟩,fun k hk=>by have:=hbs k hk;omega,fun k hk=>by have:=(HO7.out.lt k hk).1;omega,HB7.out.trans (hT.below (B:=w.heap.size) (fun k e=>Nat.le_of_eq e.symm) HB7.out.size)⟩
 · exact hT.cells HC7.out (fun k hk e=>by have:=hbs k hk;omega)
 · exact hT.cells (cells_of_own HO7.out) (fun k hk e=>by have:=(HO7.out.lt k hk).1;omega)
theorem mclimb_two1 (x s0 s1:List UInt8) (a:Option Addr) (c:Nat) (w:World) (hv:Cells w (.slice a 2 c) (txs [s0,s1])) (hx:x.length=16) (h0:s0.length=16) (h1:s1.length=16) (hK:Kon w) :
 Calls Tryz.prog 147 #[.string ⟨x.toArray⟩,.int .i64 1,.slice a 2 c] w fun e w'=>e=.returned (.string ⟨(nodeOf (nodeOf s0 x) s1).toArray⟩)/\Below w.heap.size w w':=by
 have HK:=Lib.hid hK
 have hx1:bits BinOp.and IntKind.i64 1 1=1:=by kernel_rfl
 have hx0:bits BinOp.and IntKind.i64 0 1=0:=by kernel_rfl
 obtain ⟨g,off,rfl,hgl,hc0⟩:=hv.tx_at 0 (by decide)
 obtain ⟨g',off',e1,_,hc1⟩:=hv.tx_at 1 (by decide)
 injection e1 with e1
 injection e1 with e1 e2 _
 subst e1 e2
 have hc0:w.cell? ⟨g,off,none⟩=some (.string ⟨s0.toArray⟩):=hc0
 have hc1:w.cell? ⟨g,off+1,none⟩=some (.string ⟨s1.toArray⟩):=hc1
 have hn1:=Lib.hid (mnode_any ⟨(s0).toArray⟩ ⟨(x).toArray⟩ w (by show (s0).toArray.size<=1000;simp [h0]) (by show (x).toArray.size<=1000;simp [hx]) hK)
 have hn2:=Lib.hid (fun (W:World) (hb:Below w.heap.size w W)=>mnode_any ⟨(nodeOf s0 x).toArray⟩ ⟨s1.toArray⟩ W (by show (nodeOf s0 x).toArray.size<=1000;simp [nodeOf_length]) (by show s1.toArray.size<=1000;simp [h1]) (hK.old hb))
 have hn1:Hid (Calls Tryz.prog 191 #[.string ⟨(s0).toArray⟩,.string ⟨(x).toArray⟩] w fun e w'=>e=.returned (.string ⟨(nodeOf s0 x).toArray⟩)/\Below w.heap.size w w'):=hn1
 have hn2:Hid (∀ W,Below w.heap.size w W->Calls Tryz.prog 191 #[.string ⟨(nodeOf s0 x).toArray⟩,.string ⟨s1.toArray⟩] W fun e w'=>e=.returned (.string ⟨(nodeOf (nodeOf s0 x) s1).toArray⟩)/\Below W.heap.size W w'):=hn2
 generalize nodeOf s0 x=q at hn1 hn2 |-
 generalize nodeOf q s1=r at hn2 |-
 clear hv hK hx h0 h1
 go_enter Tryz.func147,Tryz.ntmps147
 go_wp2_with fail
 refine wp_loop_rounds 3 ?_
 rw [rounds_succ]
 go_wp2_with fail
 refine hn1.out.mono ?_
 rintro e w1 ⟨rfl,hb1⟩
 have hc1:=(hb1.cell (p:=⟨g,off+1,none⟩) hgl).trans hc1
 have hn2:=Lib.hid (hn2.out w1 hb1)
 have Hb1:=Lib.hid hb1
 clear hn1 hc0 hb1
 go_wp2_with fail
 rw [rounds_succ]
 go_wp2_with fail
 refine hn2.out.mono ?_
 rintro e w2 ⟨rfl,hb2⟩
 have Hb2:=Lib.hid (Hb1.out.trans (hb2.mono Hb1.out.size))
 clear hn2 hc1 hb2
 go_wp2_with fail
 rw [rounds_succ]
 go_wp2
 go_ret
 exact ⟨rfl,Hb2.out⟩
theorem xverify_two0 (seed:List UInt8) (m:ByteArray) (v:Value) (w:World) (hv:Sig40 w v seed m.data.toList) (hm:m.size<=1000) (hK:Kon w) :
 Calls Tryz.prog 86 #[pubVh (openOf seed) (rootOf4 seed) 2,.string m,v] w fun e w'=>e=.returned (.bool true)/\Below w.heap.size w w':=by
 have HK:=Lib.hid hK
 obtain ⟨a,c,a2,c2,rfl,hc,hpc⟩:=hv
 have hol:=openOf_length seed
 have Hrec:=Lib.hid (rec_sig seed 0 (digs (digestAt0 (openOf seed) m.data.toList)) (digs_range ⟨(digestAt0 (openOf seed) m.data.toList).toArray⟩) (digs_length ⟨(digestAt0 (openOf seed) m.data.toList).toArray⟩ (by show (digestAt0 (openOf seed) m.data.toList).toArray.size=16;simp [digestAt0,tagOf_length])))
 have Hrecall:Hid (∀ W:World,Below w.heap.size w W->Calls Tryz.prog 146 #[.string ⟨(openOf seed).toArray⟩,.int .i64 0,.string ⟨(digestAt0 (openOf seed) m.data.toList).toArray⟩,.slice a 35 c] W fun e w'=>e=.returned (.tuple #[.string ⟨(pubKey seed 0).toArray⟩,.int .i64 0])/\Below W.heap.size W w'):=Lib.hid (fun W hb=>by
  have:=recover_any ⟨(openOf seed).toArray⟩ ⟨(digestAt0 (openOf seed) m.data.toList).toArray⟩ 0 (.slice a 35 c) (sigOf seed 0 (digs (digestAt0 (openOf seed) m.data.toList)) 35) W (by show (openOf seed).toArray.size<=1000;simp [hol]) (by show (digestAt0 (openOf seed) m.data.toList).toArray.size=16;simp [digestAt0,tagOf_length]) (by decide) (hc.old hb) (sigOf_length _ _ _ _) (sigOf_mem _ _ _ _) (HK.out.old hb)
  rw [show (ByteArray.mk (digestAt0 (openOf seed) m.data.toList).toArray).data.toList=digestAt0 (openOf seed) m.data.toList from List.toList_toArray,show (ByteArray.mk (openOf seed).toArray).data.toList=openOf seed from List.toList_toArray,Hrec.out] at this
  exact this)
 have Hdig:Hid (∀ W:World,Below w.heap.size w W->Calls Tryz.prog 132 #[.string ⟨(openOf seed).toArray⟩,.int .i64 0,.string m] W fun e w'=>e=.returned (.string ⟨(digestAt0 (openOf seed) m.data.toList).toArray⟩)/\Below W.heap.size W w'):=Lib.hid (fun W hb=>by
  have:=digest_at0 ⟨(openOf seed).toArray⟩ m W (by show (openOf seed).toArray.size<=1000;simp [hol]) hm (HK.out.old hb)
  rwa [show (ByteArray.mk (openOf seed).toArray).data.toList=openOf seed from List.toList_toArray] at this)
 have Hclimb:Hid (∀ W:World,Below w.heap.size w W->Calls Tryz.prog 147 #[.string ⟨(pubKey seed 0).toArray⟩,.int .i64 0,.slice a2 2 c2] W fun e w'=>e=.returned (.string ⟨(rootOf4 seed).toArray⟩)/\Below W.heap.size W w'):=Lib.hid (fun W hb=>mclimb_two0 (pubKey seed 0) (pubKey seed 1) (nodeOf (pubKey seed 2) (pubKey seed 3)) a2 c2 W (hpc.old hb) (pubKey_length _ _) (pubKey_length _ _) (nodeOf_length _ _) (HK.out.old hb))
 clear hc hpc hK Hrec
 unfold pubVh
 generalize digestAt0 (openOf seed) m.data.toList=D at Hrecall Hdig
 generalize openOf seed=o at Hrecall Hdig hol |-
 generalize pubKey seed 0=pk at Hrecall Hclimb
 generalize rootOf4 seed=r at Hclimb |-
 go_enter Tryz.func86,Tryz.ntmps86
 go_wp2_with fail
 have hb1:Below w.heap.size w ((w.alloc (.cells #[.string ⟨o.toArray⟩,.string ⟨r.toArray⟩,.int .i64 2] 88)).alloc (.cells #[.int .i64 0,.slice a 35 c,.slice a2 2 c2] 84)):=((Below.refl _ _).alloc (Nat.le_refl _) _).alloc (by simp) _
 have h1:((w.alloc (.cells #[.string ⟨o.toArray⟩,.string ⟨r.toArray⟩,.int .i64 2] 88)).alloc (.cells #[.int .i64 0,.slice a 35 c,.slice a2 2 c2] 84)).heap[w.heap.size]?=some (.cells #[.string ⟨o.toArray⟩,.string ⟨r.toArray⟩,.int .i64 2] 88 (0,0)):=by
  rw [Below.heap_alloc _ _ _ (by simp)];exact heap_alloc_new _ _
 have h2:((w.alloc (.cells #[.string ⟨o.toArray⟩,.string ⟨r.toArray⟩,.int .i64 2] 88)).alloc (.cells #[.int .i64 0,.slice a 35 c,.slice a2 2 c2] 84)).heap[w.heap.size+1]?=some (.cells #[.int .i64 0,.slice a 35 c,.slice a2 2 c2] 84 (0,0)):=heap_alloc2_new _ _ _
 generalize ((w.alloc (.cells #[.string ⟨o.toArray⟩,.string ⟨r.toArray⟩,.int .i64 2] 88)).alloc (.cells #[.int .i64 0,.slice a 35 c,.slice a2 2 c2] 84))=W at hb1 h1 h2 |-
 have p0:=cell_of_row W _ 0 _ _ _ h1
 have p1:=cell_of_row W _ 1 _ _ _ h1
 have p2:=cell_of_row W _ 2 _ _ _ h1
 have s0:=cell_of_row W _ 0 _ _ _ h2
 have s1:=cell_of_row W _ 1 _ _ _ h2
 have s2:=cell_of_row W _ 2 _ _ _ h2
 change _=some (Value.string ⟨o.toArray⟩) at p0
 change _=some (Value.string ⟨r.toArray⟩) at p1
 change _=some (Value.int .i64 2) at p2
 change _=some (Value.int .i64 0) at s0
 change _=some (Value.slice a 35 c) at s1
 change _=some (Value.slice a2 2 c2) at s2
 have hl1:=(Array.getElem?_eq_some_iff.1 h1).1
 have hl2:=(Array.getElem?_eq_some_iff.1 h2).1
 clear h1 h2
 go_quiet (fail)
 go_wp2_with fail
 have hb2:Below w.heap.size w (W.drewN nq):=hb1.trans (below_drewN W nq)
 have hKeep:∀ W',Below (W.drewN nq).heap.size (W.drewN nq) W'->W'.cell? ⟨w.heap.size,0,none⟩=some (.string ⟨o.toArray⟩)/\W'.cell? ⟨w.heap.size,1,none⟩=some (.string ⟨r.toArray⟩)/\W'.cell? ⟨w.heap.size+1,0,none⟩=some (.int .i64 0)/\W'.cell? ⟨w.heap.size+1,1,none⟩=some (.slice a 35 c)/\W'.cell? ⟨w.heap.size+1,2,none⟩=some (.slice a2 2 c2)/\Below (W.drewN nq).heap.size (W.drewN nq) W':=fun W' hb=>
  ⟨(hb.cell (p:=⟨w.heap.size,0,none⟩) hl1).trans p0,(hb.cell (p:=⟨w.heap.size,1,none⟩) hl1).trans p1,(hb.cell (p:=⟨w.heap.size+1,0,none⟩) hl2).trans s0,(hb.cell (p:=⟨w.heap.size+1,1,none⟩) hl2).trans s1,(hb.cell (p:=⟨w.heap.size+1,2,none⟩) hl2).trans s2,hb⟩
 have sW:=hb2.size
 clear p0 p1 p2 s0 s1 s2 hb1 hl1 hl2
 generalize W.drewN nq=W2 at hKeep hb2 sW |-
 have HKeep:=Lib.hid hKeep
 clear hKeep
 have hb2d:=hb2.trans ((below_drew W2).mono sW)
 have hdig:=Hdig.out W2.drew hb2d
 have hrec:=Lib.hid (fun (w5:World) (hb5:Below W2.drew.heap.size W2.drew w5)=>Hrecall.out w5 (hb2d.trans (hb5.mono sW)))
 have hS0:=Lib.hid (HKeep.out _ (below_drew W2))
 have hS1:=Lib.hid (fun w5 (hb5:Below W2.drew.heap.size W2.drew w5)=>HKeep.out w5 (below_call hb5))
 have hS2:=Lib.hid (fun w5 w6 (hb5:Below W2.drew.heap.size W2.drew w5) (hb6:Below w5.heap.size w5 w6)=>HKeep.out w6 ((below_call hb5).trans (hb6.mono (below_call hb5).size)))
 go_region_held3 (fun W'=>W'.cell? ⟨w.heap.size,0,none⟩=some (.string ⟨o.toArray⟩)/\W'.cell? ⟨w.heap.size,1,none⟩=some (.string ⟨r.toArray⟩)/\W'.cell? ⟨w.heap.size+1,0,none⟩=some (.int .i64 0)/\W'.cell? ⟨w.heap.size+1,1,none⟩=some (.slice a 35 c)/\W'.cell? ⟨w.heap.size+1,2,none⟩=some (.slice a2 2 c2)/\Below W2.heap.size W2 W') (first | exact hS0.out | exact hS2.out _ _ (by assumption) (by assumption) | exact hS1.out _ (by assumption)) (first | (go_at_call 132;refine hdig.mono ?_;rintro r w5 ⟨rfl,hb5⟩) | (go_at_call 146;refine (hrec.out _ (by assumption)).mono ?_;rintro r w6 ⟨rfl,hb6⟩))
 obtain ⟨q0,q1,q2,q3,q4,hb7⟩:=hS2.out _ _ hb5 hb6
 have hb8:=Lib.hid (hb2.trans (hb7.mono sW))
 have hb7':=Lib.hid hb7
 have hcl:=Lib.hid (Hclimb.out w6.drew (hb8.out.trans ((below_drew w6).mono hb8.out.size)))
 have hT0:Hid (w6.drew.cell? ⟨w.heap.size,1,none⟩=some (.string ⟨r.toArray⟩)/\w6.drew.cell? ⟨w.heap.size+1,0,none⟩=some (.int .i64 0)/\w6.drew.cell? ⟨w.heap.size+1,2,none⟩=some (.slice a2 2 c2)):=Lib.hid ⟨q1,q2,q4⟩
 have hT1:Hid (∀ w8,Below w6.drew.heap.size w6.drew w8->w8.cell? ⟨w.heap.size,1,none⟩=some (.string ⟨r.toArray⟩)/\w8.cell? ⟨w.heap.size+1,0,none⟩=some (.int .i64 0)/\w8.cell? ⟨w.heap.size+1,2,none⟩=some (.slice a2 2 c2)):=Lib.hid (fun w8 hb=>by
  obtain ⟨_,t1,t2,_,t4,_⟩:=HKeep.out w8 (hb7'.out.trans ((below_call hb).mono hb7'.out.size))
  exact ⟨t1,t2,t4⟩)
 clear hdig hrec hS0 hS1 hS2 HKeep Hdig Hrecall hb7 hb6 hb5 hb2d Hclimb q0 q1 q2 q3 q4 hb7'
 go_wp2_with fail
 go_region_held3 (fun W'=>W'.cell? ⟨w.heap.size,1,none⟩=some (.string ⟨r.toArray⟩)/\W'.cell? ⟨w.heap.size+1,0,none⟩=some (.int .i64 0)/\W'.cell? ⟨w.heap.size+1,2,none⟩=some (.slice a2 2 c2)) (first | exact hT0.out | exact hT1.out _ (by assumption)) ((go_at_call 147;refine hcl.out.mono ?_;rintro r w9 ⟨rfl,hb9⟩))
 all_goals
  go_wp2
  go_ret
  exact ⟨by simp,hb8.out.trans ((below_call hb9).mono hb8.out.size)⟩
theorem xverify_two1 (seed:List UInt8) (m:ByteArray) (v:Value) (w:World) (hv:Sig41 w v seed m.data.toList) (hm:m.size<=1000) (hK:Kon w) :
 Calls Tryz.prog 86 #[pubVh (openOf seed) (rootOf4 seed) 2,.string m,v] w fun e w'=>e=.returned (.bool true)/\Below w.heap.size w w':=by
 have HK:=Lib.hid hK
 obtain ⟨a,c,a2,c2,rfl,hc,hpc⟩:=hv
 have hol:=openOf_length seed
 have Hrec:=Lib.hid (rec_sig seed 1 (digs (digestAt1 (openOf seed) m.data.toList)) (digs_range ⟨(digestAt1 (openOf seed) m.data.toList).toArray⟩) (digs_length ⟨(digestAt1 (openOf seed) m.data.toList).toArray⟩ (by show (digestAt1 (openOf seed) m.data.toList).toArray.size=16;simp [digestAt1,tagOf_length])))
 have Hrecall:Hid (∀ W:World,Below w.heap.size w W->Calls Tryz.prog 146 #[.string ⟨(openOf seed).toArray⟩,.int .i64 1,.string ⟨(digestAt1 (openOf seed) m.data.toList).toArray⟩,.slice a 35 c] W fun e w'=>e=.returned (.tuple #[.string ⟨(pubKey seed 1).toArray⟩,.int .i64 0])/\Below W.heap.size W w'):=Lib.hid (fun W hb=>by
  have:=recover_any ⟨(openOf seed).toArray⟩ ⟨(digestAt1 (openOf seed) m.data.toList).toArray⟩ 1 (.slice a 35 c) (sigOf seed 1 (digs (digestAt1 (openOf seed) m.data.toList)) 35) W (by show (openOf seed).toArray.size<=1000;simp [hol]) (by show (digestAt1 (openOf seed) m.data.toList).toArray.size=16;simp [digestAt1,tagOf_length]) (by decide) (hc.old hb) (sigOf_length _ _ _ _) (sigOf_mem _ _ _ _) (HK.out.old hb)
  rw [show (ByteArray.mk (digestAt1 (openOf seed) m.data.toList).toArray).data.toList=digestAt1 (openOf seed) m.data.toList from List.toList_toArray,show (ByteArray.mk (openOf seed).toArray).data.toList=openOf seed from List.toList_toArray,Hrec.out] at this
  exact this)
 have Hdig:Hid (∀ W:World,Below w.heap.size w W->Calls Tryz.prog 132 #[.string ⟨(openOf seed).toArray⟩,.int .i64 1,.string m] W fun e w'=>e=.returned (.string ⟨(digestAt1 (openOf seed) m.data.toList).toArray⟩)/\Below W.heap.size W w'):=Lib.hid (fun W hb=>by
  have:=digest_at1 ⟨(openOf seed).toArray⟩ m W (by show (openOf seed).toArray.size<=1000;simp [hol]) hm (HK.out.old hb)
  rwa [show (ByteArray.mk (openOf seed).toArray).data.toList=openOf seed from List.toList_toArray] at this)
 have Hclimb:Hid (∀ W:World,Below w.heap.size w W->Calls Tryz.prog 147 #[.string ⟨(pubKey seed 1).toArray⟩,.int .i64 1,.slice a2 2 c2] W fun e w'=>e=.returned (.string ⟨(rootOf4 seed).toArray⟩)/\Below W.heap.size W w'):=Lib.hid (fun W hb=>mclimb_two1 (pubKey seed 1) (pubKey seed 0) (nodeOf (pubKey seed 2) (pubKey seed 3)) a2 c2 W (hpc.old hb) (pubKey_length _ _) (pubKey_length _ _) (nodeOf_length _ _) (HK.out.old hb))
 clear hc hpc hK Hrec
 unfold pubVh
 generalize digestAt1 (openOf seed) m.data.toList=D at Hrecall Hdig
 generalize openOf seed=o at Hrecall Hdig hol |-
 generalize pubKey seed 1=pk at Hrecall Hclimb
 generalize rootOf4 seed=r at Hclimb |-
 go_enter Tryz.func86,Tryz.ntmps86
 go_wp2_with fail
 have hb1:Below w.heap.size w ((w.alloc (.cells #[.string ⟨o.toArray⟩,.string ⟨r.toArray⟩,.int .i64 2] 88)).alloc (.cells #[.int .i64 1,.slice a 35 c,.slice a2 2 c2] 84)):=((Below.refl _ _).alloc (Nat.le_refl _) _).alloc (by simp) _
 have h1:((w.alloc (.cells #[.string ⟨o.toArray⟩,.string ⟨r.toArray⟩,.int .i64 2] 88)).alloc (.cells #[.int .i64 1,.slice a 35 c,.slice a2 2 c2] 84)).heap[w.heap.size]?=some (.cells #[.string ⟨o.toArray⟩,.string ⟨r.toArray⟩,.int .i64 2] 88 (0,0)):=by
  rw [Below.heap_alloc _ _ _ (by simp)];exact heap_alloc_new _ _
 have h2:((w.alloc (.cells #[.string ⟨o.toArray⟩,.string ⟨r.toArray⟩,.int .i64 2] 88)).alloc (.cells #[.int .i64 1,.slice a 35 c,.slice a2 2 c2] 84)).heap[w.heap.size+1]?=some (.cells #[.int .i64 1,.slice a 35 c,.slice a2 2 c2] 84 (0,0)):=heap_alloc2_new _ _ _
 generalize ((w.alloc (.cells #[.string ⟨o.toArray⟩,.string ⟨r.toArray⟩,.int .i64 2] 88)).alloc (.cells #[.int .i64 1,.slice a 35 c,.slice a2 2 c2] 84))=W at hb1 h1 h2 |-
 have p0:=cell_of_row W _ 0 _ _ _ h1
 have p1:=cell_of_row W _ 1 _ _ _ h1
 have p2:=cell_of_row W _ 2 _ _ _ h1
 have s0:=cell_of_row W _ 0 _ _ _ h2
 have s1:=cell_of_row W _ 1 _ _ _ h2
 have s2:=cell_of_row W _ 2 _ _ _ h2
 change _=some (Value.string ⟨o.toArray⟩) at p0
 change _=some (Value.string ⟨r.toArray⟩) at p1
 change _=some (Value.int .i64 2) at p2
 change _=some (Value.int .i64 1) at s0
 change _=some (Value.slice a 35 c) at s1
 change _=some (Value.slice a2 2 c2) at s2
 have hl1:=(Array.getElem?_eq_some_iff.1 h1).1
 have hl2:=(Array.getElem?_eq_some_iff.1 h2).1
 clear h1 h2
 go_quiet (fail)
 go_wp2_with fail
 have hb2:Below w.heap.size w (W.drewN nq):=hb1.trans (below_drewN W nq)
 have hKeep:∀ W',Below (W.drewN nq).heap.size (W.drewN nq) W'->W'.cell? ⟨w.heap.size,0,none⟩=some (.string ⟨o.toArray⟩)/\W'.cell? ⟨w.heap.size,1,none⟩=some (.string ⟨r.toArray⟩)/\W'.cell? ⟨w.heap.size+1,0,none⟩=some (.int .i64 1)/\W'.cell? ⟨w.heap.size+1,1,none⟩=some (.slice a 35 c)/\W'.cell? ⟨w.heap.size+1,2,none⟩=some (.slice a2 2 c2)/\Below (W.drewN nq).heap.size (W.drewN nq) W':=fun W' hb=>
  ⟨(hb.cell (p:=⟨w.heap.size,0,none⟩) hl1).trans p0,(hb.cell (p:=⟨w.heap.size,1,none⟩) hl1).trans p1,(hb.cell (p:=⟨w.heap.size+1,0,none⟩) hl2).trans s0,(hb.cell (p:=⟨w.heap.size+1,1,none⟩) hl2).trans s1,(hb.cell (p:=⟨w.heap.size+1,2,none⟩) hl2).trans s2,hb⟩
 have sW:=hb2.size
 clear p0 p1 p2 s0 s1 s2 hb1 hl1 hl2
 generalize W.drewN nq=W2 at hKeep hb2 sW |-
 have HKeep:=Lib.hid hKeep
 clear hKeep
 have hb2d:=hb2.trans ((below_drew W2).mono sW)
 have hdig:=Hdig.out W2.drew hb2d
 have hrec:=Lib.hid (fun (w5:World) (hb5:Below W2.drew.heap.size W2.drew w5)=>Hrecall.out w5 (hb2d.trans (hb5.mono sW)))
 have hS0:=Lib.hid (HKeep.out _ (below_drew W2))
 have hS1:=Lib.hid (fun w5 (hb5:Below W2.drew.heap.size W2.drew w5)=>HKeep.out w5 (below_call hb5))
 have hS2:=Lib.hid (fun w5 w6 (hb5:Below W2.drew.heap.size W2.drew w5) (hb6:Below w5.heap.size w5 w6)=>HKeep.out w6 ((below_call hb5).trans (hb6.mono (below_call hb5).size)))
 go_region_held3 (fun W'=>W'.cell? ⟨w.heap.size,0,none⟩=some (.string ⟨o.toArray⟩)/\W'.cell? ⟨w.heap.size,1,none⟩=some (.string ⟨r.toArray⟩)/\W'.cell? ⟨w.heap.size+1,0,none⟩=some (.int .i64 1)/\W'.cell? ⟨w.heap.size+1,1,none⟩=some (.slice a 35 c)/\W'.cell? ⟨w.heap.size+1,2,none⟩=some (.slice a2 2 c2)/\Below W2.heap.size W2 W') (first | exact hS0.out | exact hS2.out _ _ (by assumption) (by assumption) | exact hS1.out _ (by assumption)) (first | (go_at_call 132;refine hdig.mono ?_;rintro r w5 ⟨rfl,hb5⟩) | (go_at_call 146;refine (hrec.out _ (by assumption)).mono ?_;rintro r w6 ⟨rfl,hb6⟩))
 obtain ⟨q0,q1,q2,q3,q4,hb7⟩:=hS2.out _ _ hb5 hb6
 have hb8:=Lib.hid (hb2.trans (hb7.mono sW))
 have hb7':=Lib.hid hb7
 have hcl:=Lib.hid (Hclimb.out w6.drew (hb8.out.trans ((below_drew w6).mono hb8.out.size)))
 have hT0:Hid (w6.drew.cell? ⟨w.heap.size,1,none⟩=some (.string ⟨r.toArray⟩)/\w6.drew.cell? ⟨w.heap.size+1,0,none⟩=some (.int .i64 1)/\w6.drew.cell? ⟨w.heap.size+1,2,none⟩=some (.slice a2 2 c2)):=Lib.hid ⟨q1,q2,q4⟩
 have hT1:Hid (∀ w8,Below w6.drew.heap.size w6.drew w8->w8.cell? ⟨w.heap.size,1,none⟩=some (.string ⟨r.toArray⟩)/\w8.cell? ⟨w.heap.size+1,0,none⟩=some (.int .i64 1)/\w8.cell? ⟨w.heap.size+1,2,none⟩=some (.slice a2 2 c2)):=Lib.hid (fun w8 hb=>by
  obtain ⟨_,t1,t2,_,t4,_⟩:=HKeep.out w8 (hb7'.out.trans ((below_call hb).mono hb7'.out.size))
  exact ⟨t1,t2,t4⟩)
 clear hdig hrec hS0 hS1 hS2 HKeep Hdig Hrecall hb7 hb6 hb5 hb2d Hclimb q0 q1 q2 q3 q4 hb7'
 go_wp2_with fail
 go_region_held3 (fun W'=>W'.cell? ⟨w.heap.size,1,none⟩=some (.string ⟨r.toArray⟩)/\W'.cell? ⟨w.heap.size+1,0,none⟩=some (.int .i64 1)/\W'.cell? ⟨w.heap.size+1,2,none⟩=some (.slice a2 2 c2)) (first | exact hT0.out | exact hT1.out _ (by assumption)) ((go_at_call 147;refine hcl.out.mono ?_;rintro r w9 ⟨rfl,hb9⟩))
 all_goals
  go_wp2
  go_ret
  exact ⟨by simp,hb8.out.trans ((below_call hb9).mono hb8.out.size)⟩
def StrAt (w:World) (b:Nat) (seed:ByteArray) (cnt:Nat) (left:ByteArray):Prop:=w.heap[b]?=some (.cells #[.string seed,.int .u64 cnt,.string left] 278 (0,0))
theorem strnew_any (s:ByteArray) (w:World) :
 Calls Tryz.prog 128 #[.string s] w fun e w'=>e=.returned (.pointer (some ⟨w.heap.size,0,none⟩))/\StrAt w' w.heap.size s 0 ⟨#[]⟩/\Below w.heap.size w w':=by
 go_enter Tryz.func128,Tryz.ntmps128
 go_wp2
 go_ret
 exact ⟨rfl,heap_alloc_new _ _,(Below.refl _ _).alloc (Nat.le_refl _) _⟩
theorem strnext_left (b cnt:Nat) (s t:ByteArray) (w:World) (h:StrAt w b s cnt t) (ht:8<=t.size) (hts:t.size<=32) :
 Calls Tryz.prog 184 #[.pointer (some ⟨b,0,none⟩)] w fun e w'=>e=.returned (.int .u64 (numTo t 8))/\StrAt w' b s cnt (t.extract 8 t.size)/\Touch (·=b) w w':=by
 have c2:w.cell? ⟨b,2,none⟩=some (.string t):=cel h
 have f2:w.frozen? ⟨b,2,none⟩=false:=frozen_of_row _ _ 2 _ _ h
 have Hset:=Lib.hid (show StrAt (w.setCell ⟨b,2,none⟩ (.string (t.extract 8 t.size))) b s cnt (t.extract 8 t.size) from heap_setCell_same w b 2 _ _ _ h)
 have hne:t.toList≠[]:=by
  intro e
  obtain ⟨⟨l⟩⟩:=t
  have e2:l=[]:=(ByteArray.toList_mk l).symm.trans e
  subst e2
  simp [ByteArray.size] at ht
 have ht0:(t.toList==[])=false:=beq_eq_false_iff_ne.2 hne
 clear h
 go_enter Tryz.func184,Tryz.ntmps184
 go_wp2_with fail
 go_loop [3,32] (fun n i=>∃ k:Nat,k<=8/\i=.int .i64 k/\n=.int .u64 (numTo t k)) (fun _ i=>8 - (intOf i).toNat)
 case atStart=>exact ⟨0,Nat.zero_le _,rfl,rfl⟩
 case round=>
  obtain ⟨k,hk,rfl,rfl⟩:=hrel
  by_cases hlt:k<8
  · have hb:=numTo_bd t k
    have hp:256^k<=256^7:=Nat.pow_le_pow_right (by decide) (by omega)
    have hn:numTo t k<72057594037927936:=by have e:256^7=72057594037927936:=by decide
                                            omega
    clear hb hp
    have hkt:k<t.size:=by omega
    have hB:=u64_shiftIn (numTo t k) (t[k]).toNat hn (t[k]).toNat_lt
    have e3:t.data.toList.getD k 0=t[k]:=by
     rw [List.getD_eq_getElem?_getD,List.getElem?_eq_getElem (by simpa using hkt)];rfl
    have Hs:=Lib.hid (show numTo t (k+1)=256*numTo t k+(t[k]).toNat by rw [numTo,e3])
    clear e3 hn
    have HB:=Lib.hid hB
    clear hB
    go_wp2
    go_round
    case rel=>exact ⟨k+1,by omega,by go_num,by rw [HB.out,Hs.out]⟩
    case measure=>simp [intOf];omega
  · obtain rfl:k=8:=by omega
    go_wp2
    go_ret
    exact ⟨rfl,Hset.out,Touch.setCell _ _ _ rfl⟩
theorem strnext_new (b cnt:Nat) (s:ByteArray) (w:World) (h:StrAt w b s cnt ⟨#[]⟩) (hs:s.size<=1000) (hcnt:cnt<1000) (hK:Kon w) (t nb:ByteArray) (hnb:nb=⟨(bytesTo cnt 4 4).toArray⟩) (ht:t=⟨(shaOf (Lib.join ([s,nb].map (·.data.toList)) [])).toArray⟩) :
 Calls Tryz.prog 184 #[.pointer (some ⟨b,0,none⟩)] w fun e w'=>e=.returned (.int .u64 (numTo t 8))/\StrAt w' b s (cnt+1) (t.extract 8 t.size)/\Touch (·=b) w w':=by
 have hN:=Lib.hid (fun W=>number_any cnt 4 W (by omega))
 have hS:Hid (∀ W:World,Kon W->Calls Tryz.prog 42 #[.slice (some ⟨W.heap.size,0,none⟩) 2 2] (W.alloc (.cells #[.string s,.string nb] 9)) fun e w'=>e=.returned (.string t)/\Below W.heap.size W w'):=Lib.hid (by
  intro W hk
  have hb:Below W.heap.size W (W.alloc (.cells #[.string s,.string nb] 9)):=(Below.refl _ _).alloc (Nat.le_refl _) _
  have hnl:nb.size=4:=by rw [hnb];exact bytesTo_le cnt 4 4
  subst ht
  have hrow:(W.alloc (.cells #[.string s,.string nb] 9)).heap[W.heap.size]?=some (.cells #[.string s,.string nb] 9 (0,0)):=heap_alloc_new _ _
  have hjl:(Lib.join ([s,nb].map (·.data.toList)) []).length<=1099511627776:=by
   have e0:∀ a b:List UInt8,Lib.join [a,b] []=a++b:=by
    intro a b
    rw [Lib.join,List.intercalate]
    simp
   have e:(Lib.join ([s,nb].map (·.data.toList)) []).length=s.size+nb.size:=by
    rw [List.map_cons,List.map_cons,List.map_nil,e0,List.length_append,Array.length_toList,Array.length_toList];rfl
   omega
  refine (sum_any W.heap.size 0 2 [s,nb] _ ?_ (by simp) (by simp) (by simp) hjl (hk.old hb)).mono ?_
  · rintro (_ | _ | j) x hx
    · injection hx with hx;subst hx;rw [cell_of_row _ _ _ _ _ _ hrow];rfl
    · injection hx with hx;subst hx;rw [cell_of_row _ _ _ _ _ _ hrow];rfl
    · simp at hx
  rintro e w' ⟨he,hb'⟩
  exact ⟨he,hb.trans (hb'.mono hb.size)⟩    )
 have hconv:Hid (∀ (W:World) (k:Nat),W.heap[k]?=some (.cells (bytesV (bytesTo cnt 4 4)).toArray 5 (0,0))->(convert 58 9 (.slice (some ⟨k,0,none⟩) 4 4)).run Tryz.prog W=.ok (.string nb) W):=Lib.hid (by
  intro W k hk
  rw [hnb]
  exact run_string_block Tryz.underlying58 Tryz.underlying5 Tryz.underlying9 hk (bytesTo_le cnt 4 4))
 have c0:w.drew.cell? ⟨b,0,none⟩=some (.string s):=by show w.cell? _=_;rw [cell_of_row _ _ 0 _ _ _ h];rfl
 have c1:w.drew.cell? ⟨b,1,none⟩=some (.int .u64 cnt):=by show w.cell? _=_;rw [cell_of_row _ _ 1 _ _ _ h];rfl
 have c2:w.cell? ⟨b,2,none⟩=some (.string ⟨#[]⟩):=cel h
 have H:=Lib.hid h
 have HK:=Lib.hid hK
 have hblt:=lt_of_heap h
 have hrow:Hid (∀ W:World,Below w.heap.size w W->W.cell? ⟨b,0,none⟩=some (.string s)/\W.cell? ⟨b,1,none⟩=some (.int .u64 cnt)/\W.cell? ⟨b,2,none⟩=some (.string ⟨#[]⟩)/\W.frozen? ⟨b,2,none⟩=false):=Lib.hid (by
  intro W hW
  have r:=(hW.block _ hblt).trans h
  exact ⟨cel r,cel r,cel r,frozen_of_row _ _ 2 _ _ r⟩)
 have htl:t.size=32:=by rw [ht];exact shaOf_length _
 clear h hK ht hnb
 go_enter Tryz.func184,Tryz.ntmps184
 go_wp2_with fail
 go_region_law (first
  | (go_simp;go_at_call 41;refine (hN.out _).mono ?_;rintro r w5 ⟨rfl,hk5,hb5⟩;have hcv5:=hconv.out w5 w.heap.size hk5;have hB5:Below w.heap.size w w5:=(⟨rfl,rfl,rfl,Nat.le_refl _,fun _ _=>rfl⟩:Below w.heap.size w w.drew).trans hb5;obtain ⟨q0,q1,q2,q3⟩:=hrow.out _ hB5)
  | (go_simp;go_at_call 42;refine (hS.out _ (HK.out.old hB5)).mono ?_;rintro r w6 ⟨rfl,hb6⟩;have hB6:Below w.heap.size w w6:=hB5.trans (hb6.mono hB5.size);obtain ⟨p0,p1,p2,p3⟩:=hrow.out _ hB6))
 all_goals
  have r7:StrAt (w6.setCell ⟨b,2,none⟩ (.string t)) b s cnt t:=heap_setCell_same w6 b 2 _ _ _ ((hB6.block _ hblt).trans H.out)
  have hT7:Touch (·=b) w (w6.setCell ⟨b,2,none⟩ (.string t)):=(Touch.of_below hB6 _).trans (Touch.setCell _ _ _ rfl)
  clear hN hS hconv c0 c1 c2 hrow hcv5 q0 q1 q2 q3 p0 p1 p2 p3 H HK hk5 hb5 hB5 hb6 hB6
  generalize (w6.setCell ⟨b,2,none⟩ (.string t))=W7 at r7 hT7 |-
  have d1:W7.cell? ⟨b,1,none⟩=some (.int .u64 cnt):=cel r7
  have f1:W7.frozen? ⟨b,1,none⟩=false:=frozen_of_row _ _ 1 _ _ r7
  have r8:StrAt (W7.setCell ⟨b,1,none⟩ (.int .u64 ((cnt:Int)+1))) b s (cnt+1) t:=heap_setCell_same W7 b 1 _ _ _ r7
  have hT8:=hT7.trans (Touch.setCell (S:=(·=b)) W7 ⟨b,1,none⟩ (.int .u64 ((cnt:Int)+1)) rfl)
  have hw:IntKind.u64.wrap ((cnt:Int)+1)=(cnt:Int)+1:=wrap_u64 _ (by omega) (by omega)
  have HT8:=Lib.hid hT8
  have HR8:=Lib.hid r8
  clear r7 hT7 hT8 r8
  go_wp2_with fail
  have r9:=HR8.out
  have hT9:=HT8.out
  clear HR8 HT8 d1 f1 hw
  generalize (W7.setCell ⟨b,1,none⟩ (.int .u64 ((cnt:Int)+1)))=W8 at r9 hT9 |-
  have c2:W8.cell? ⟨b,2,none⟩=some (.string t):=cel r9
  have f2:W8.frozen? ⟨b,2,none⟩=false:=frozen_of_row _ _ 2 _ _ r9
  have Hset:=Lib.hid (show StrAt (W8.setCell ⟨b,2,none⟩ (.string (t.extract 8 t.size))) b s (cnt+1) (t.extract 8 t.size) from heap_setCell_same W8 b 2 _ _ _ r9)
  have HT9:=Lib.hid (hT9.trans (Touch.setCell (S:=(·=b)) W8 ⟨b,2,none⟩ (.string (t.extract 8 t.size)) rfl))
  clear r9 hT9
  have htl8:8<=t.size:=by omega
  clear htl
  go_loop [3,32] (fun n i=>∃ k:Nat,k<=8/\i=.int .i64 k/\n=.int .u64 (numTo t k)) (fun _ i=>8 - (intOf i).toNat)
  case atStart=>exact ⟨0,Nat.zero_le _,rfl,rfl⟩
  case round=>
   obtain ⟨k,hk,rfl,rfl⟩:=hrel
   by_cases hlt:k<8
   · have hb:=numTo_bd t k
     have hp:256^k<=256^7:=Nat.pow_le_pow_right (by decide) (by omega)
     have hn:numTo t k<72057594037927936:=by have e:256^7=72057594037927936:=by decide
                                             omega
     clear hb hp
     have hkt:k<t.size:=by omega
     have hB:=u64_shiftIn (numTo t k) (t[k]).toNat hn (t[k]).toNat_lt
     have e3:t.data.toList.getD k 0=t[k]:=by
      rw [List.getD_eq_getElem?_getD,List.getElem?_eq_getElem (by simpa using hkt)];rfl
     have Hs:=Lib.hid (show numTo t (k+1)=256*numTo t k+(t[k]).toNat by rw [numTo,e3])
     clear e3 hn
     have HB:=Lib.hid hB
     clear hB
     go_wp2
     go_round
     case rel=>exact ⟨k+1,by omega,by go_num,by rw [HB.out,Hs.out]⟩
     case measure=>simp [intOf];omega
   · obtain rfl:k=8:=by omega
     go_wp2
     go_ret
     exact ⟨rfl,Hset.out,HT9.out⟩
end Go.Proofs.YtcgkomafaepjnaaGreatDoor
