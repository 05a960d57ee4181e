/- Package xmss at one leaf: what signs is verified. Conditions: seeds and messages of at most a thousand bytes; the round's constants hold what their initialiser lays. -/
import Derived.Test.YtcgkomafaepjnaaGreatDoorTL7
import Derived.RangeFuncNested
import Derived.RangeFuncBound
import Derived.RangeFuncCalls
import Derived.RangeFuncLeaves
import Derived.Shelf.Abstract
import Derived.OwnWalkIn
import Derived.TacticsInMore
import Derived.LoopNIn
import Derived.LoopIn
import Derived.Test.YtcgkomafaepjnaaGreatDoorRows
import Derived.Test.YtcgkomafaepjnaaGreatDoorTL1
import Derived.WalkLawsBesides
import Derived.Lib.Strings
set_option maxRecDepth 100000
set_option maxHeartbeats 16000000
namespace Go.Proofs.YtcgkomafaepjnaaGreatDoor
open Go.RowKit
theorem mclimb_same (x:ByteArray) (w:World):Calls Tryz.prog 147 #[.string x,.int .i64 0,.slice none 0 0] w fun e w'=>e=.returned (.string x)/\w'=w:=
 (mclimb_one x w).mono fun _ _ h=>⟨h.1,h.2.symm⟩
theorem xverify_any (seed:List UInt8) (m:ByteArray) (v:Value) (w:World) (hv:SigAt w v seed m.data.toList) (hm:m.size<=1000) (hK:Kon w) :
 Calls Tryz.prog 86 #[pubV (openOf seed) (pubKey seed 0),.string m,v] w fun e w'=>e=.returned (.bool true)/\Below w.heap.size w w':=by
 have HK:=Lib.hid hK
 obtain ⟨a,c,rfl,hc⟩:=hv
 have hol:=openOf_length seed
 have hD:=tagOf_length 6 [openOf seed,[0,0,0,0],m.data.toList]
 have Hrec:=Lib.hid (rec_sig seed 0 (digs (digestOf (openOf seed) m.data.toList)) (digs_range ⟨(digestOf (openOf seed) m.data.toList).toArray⟩) (digs_length ⟨(digestOf (openOf seed) m.data.toList).toArray⟩ (by show (digestOf (openOf seed) m.data.toList).toArray.size=16;simp [digestOf,tagOf_length])))
 have Hrecall:Hid (∀ W:World,Below w.heap.size w W->Calls Tryz.prog 146 #[.string ⟨(openOf seed).toArray⟩,.int .i64 0,.string ⟨(digestOf (openOf seed) m.data.toList).toArray⟩,.slice a 35 c] W fun e w'=>e=.returned (.tuple #[.string ⟨(pubKey seed 0).toArray⟩,.int .i64 0])/\Below W.heap.size W w'):=Lib.hid (fun W hb=>by
  have:=recover_any ⟨(openOf seed).toArray⟩ ⟨(digestOf (openOf seed) m.data.toList).toArray⟩ 0 (.slice a 35 c) (sigOf seed 0 (digs (digestOf (openOf seed) m.data.toList)) 35) W (by show (openOf seed).toArray.size<=1000;simp [hol]) (by show (digestOf (openOf seed) m.data.toList).toArray.size=16;simp [digestOf,tagOf_length]) (by decide) (hc.old hb) (sigOf_length _ _ _ _) (sigOf_mem _ _ _ _) (HK.out.old hb)
  rw [show (ByteArray.mk (digestOf (openOf seed) m.data.toList).toArray).data.toList=digestOf (openOf seed) m.data.toList from List.toList_toArray,show (ByteArray.mk (openOf seed).toArray).data.toList=openOf seed from List.toList_toArray,Hrec.out] at this
  exact this)
 have Hdig:Hid (∀ W:World,Below w.heap.size w W->Calls Tryz.prog 132 #[.string ⟨(openOf seed).toArray⟩,.int .i64 0,.string m] W fun e w'=>e=.returned (.string ⟨(digestOf (openOf seed) m.data.toList).toArray⟩)/\Below W.heap.size W w'):=Lib.hid (fun W hb=>by
  have:=digest_any ⟨(openOf seed).toArray⟩ m W (by show (openOf seed).toArray.size<=1000;simp [hol]) hm (HK.out.old hb)
  rwa [show (ByteArray.mk (openOf seed).toArray).data.toList=openOf seed from List.toList_toArray] at this)
 clear hc hK hD Hrec
 unfold pubV
 generalize digestOf (openOf seed) m.data.toList=D at Hrecall Hdig
 generalize openOf seed=o at Hrecall Hdig hol |-
 generalize pubKey seed 0=r at Hrecall |-
 go_enter Tryz.func86,Tryz.ntmps86
 go_wp2_with fail
 have hb1:Below w.heap.size w ((w.alloc (.cells #[.string ⟨o.toArray⟩,.string ⟨r.toArray⟩,.int .i64 0] 88)).alloc (.cells #[.int .i64 0,.slice a 35 c,.slice none 0 0] 84)):=((Below.refl _ _).alloc (Nat.le_refl _) _).alloc (by simp) _
 have h1:((w.alloc (.cells #[.string ⟨o.toArray⟩,.string ⟨r.toArray⟩,.int .i64 0] 88)).alloc (.cells #[.int .i64 0,.slice a 35 c,.slice none 0 0] 84)).heap[w.heap.size]?=some (.cells #[.string ⟨o.toArray⟩,.string ⟨r.toArray⟩,.int .i64 0] 88 (0,0)):=by
  rw [Below.heap_alloc _ _ _ (by simp)];exact heap_alloc_new _ _
 have h2:((w.alloc (.cells #[.string ⟨o.toArray⟩,.string ⟨r.toArray⟩,.int .i64 0] 88)).alloc (.cells #[.int .i64 0,.slice a 35 c,.slice none 0 0] 84)).heap[w.heap.size+1]?=some (.cells #[.int .i64 0,.slice a 35 c,.slice none 0 0] 84 (0,0)):=heap_alloc2_new _ _ _
 generalize ((w.alloc (.cells #[.string ⟨o.toArray⟩,.string ⟨r.toArray⟩,.int .i64 0] 88)).alloc (.cells #[.int .i64 0,.slice a 35 c,.slice none 0 0] 84))=W at hb1 h1 h2 |-
 have p0:=cell_of_row W _ 0 _ _ _ h1
 have p1:=cell_of_row W _ 1 _ _ _ h1
 have p2:=cell_of_row W _ 2 _ _ _ h1
 have s0:=cell_of_row W _ 0 _ _ _ h2
 have s1:=cell_of_row W _ 1 _ _ _ h2
 have s2:=cell_of_row W _ 2 _ _ _ h2
 change _=some (Value.string ⟨o.toArray⟩) at p0
 change _=some (Value.string ⟨r.toArray⟩) at p1
 change _=some (Value.int .i64 0) at p2
 change _=some (Value.int .i64 0) at s0
 change _=some (Value.slice a 35 c) at s1
 change _=some (Value.slice none 0 0) at s2
 have hl1:=(Array.getElem?_eq_some_iff.1 h1).1
 have hl2:=(Array.getElem?_eq_some_iff.1 h2).1
 clear h1 h2
 go_quiet (fail)
 go_wp2_with fail
 have hb2:Below w.heap.size w (W.drewN nq):=hb1.trans (below_drewN W nq)
 have hKeep:∀ W',Below (W.drewN nq).heap.size (W.drewN nq) W'->W'.cell? ⟨w.heap.size,0,none⟩=some (.string ⟨o.toArray⟩)/\W'.cell? ⟨w.heap.size,1,none⟩=some (.string ⟨r.toArray⟩)/\W'.cell? ⟨w.heap.size+1,0,none⟩=some (.int .i64 0)/\W'.cell? ⟨w.heap.size+1,1,none⟩=some (.slice a 35 c)/\W'.cell? ⟨w.heap.size+1,2,none⟩=some (.slice none 0 0)/\Below (W.drewN nq).heap.size (W.drewN nq) W':=fun W' hb=>
  ⟨(hb.cell (p:=⟨w.heap.size,0,none⟩) hl1).trans p0,(hb.cell (p:=⟨w.heap.size,1,none⟩) hl1).trans p1,(hb.cell (p:=⟨w.heap.size+1,0,none⟩) hl2).trans s0,(hb.cell (p:=⟨w.heap.size+1,1,none⟩) hl2).trans s1,(hb.cell (p:=⟨w.heap.size+1,2,none⟩) hl2).trans s2,hb⟩
 have sW:=hb2.size
 clear p0 p1 p2 s0 s1 s2 hb1 hl1 hl2
 generalize W.drewN nq=W2 at hKeep hb2 sW |-
 have HKeep:=Lib.hid hKeep
 clear hKeep
 have hb2d:=hb2.trans ((below_drew W2).mono sW)
 have hdig:=Hdig.out W2.drew hb2d
 have hrec:=Lib.hid (fun (w5:World) (hb5:Below W2.drew.heap.size W2.drew w5)=>Hrecall.out w5 (hb2d.trans (hb5.mono sW)))
 have hS0:=Lib.hid (HKeep.out _ (below_drew W2))
 have hS1:=Lib.hid (fun w5 (hb5:Below W2.drew.heap.size W2.drew w5)=>HKeep.out w5 (below_call hb5))
 have hS2:=Lib.hid (fun w5 w6 (hb5:Below W2.drew.heap.size W2.drew w5) (hb6:Below w5.heap.size w5 w6)=>HKeep.out w6 ((below_call hb5).trans (hb6.mono (below_call hb5).size)))
 go_region_held3 (fun W'=>W'.cell? ⟨w.heap.size,0,none⟩=some (.string ⟨o.toArray⟩)/\W'.cell? ⟨w.heap.size,1,none⟩=some (.string ⟨r.toArray⟩)/\W'.cell? ⟨w.heap.size+1,0,none⟩=some (.int .i64 0)/\W'.cell? ⟨w.heap.size+1,1,none⟩=some (.slice a 35 c)/\W'.cell? ⟨w.heap.size+1,2,none⟩=some (.slice none 0 0)/\Below W2.heap.size W2 W') (first | exact hS0.out | exact hS2.out _ _ (by assumption) (by assumption) | exact hS1.out _ (by assumption)) (first | (go_at_call 132;refine hdig.mono ?_;rintro r w5 ⟨rfl,hb5⟩) | (go_at_call 146;refine (hrec.out _ (by assumption)).mono ?_;rintro r w6 ⟨rfl,hb6⟩))
 obtain ⟨q0,q1,q2,q3,q4,hb7⟩:=hS2.out _ _ hb5 hb6
 have hb8:=hb2.trans (hb7.mono sW)
 clear hdig hrec hS0 hS1 hS2 HKeep Hdig Hrecall hb7 hb6 hb5 hb2d
 go_wp2_with fail
 go_quiet ((go_at_call 147;refine Calls.quiet_of_same (mclimb_same _ _)))
 go_wp2
 go_ret
 exact ⟨by simp,hb8.trans (below_drewN _ _)⟩
def zsec:ByteArray:=⟨(List.replicate 64 (0:UInt8)).toArray⟩
def zsn (n:Nat):ByteArray:=⟨(List.replicate n (0:UInt8)).toArray⟩
theorem repeatL_one:∀ n,Lib.repeatL [0] n=List.replicate n 0
 | 0=>rfl
 | n+1=>by rw [Lib.repeatL,repeatL_one n,List.replicate_succ];rfl
theorem zeros_n (n:Nat) (w:World) (hn:n<=1000):Calls Tryz.prog 106 #[.string ⟨#[0]⟩,.int .i64 n] w fun e w'=>e=.returned (.string (zsn n))/\Below w.heap.size w w':=by
 have h:=Tryz.strings_Repeat ⟨#[0]⟩ n w (by omega) (by show (#[(0:UInt8)]).size*n<=_;simp;omega)
 rw [show (⟨#[0]⟩:ByteArray).data.toList=[0] from rfl,repeatL_one] at h
 exact h
theorem zeros_any (w:World):Calls Tryz.prog 106 #[.string ⟨#[0]⟩,.int .i64 64] w fun e w'=>e=.returned (.string zsec)/\Below w.heap.size w w':=zeros_n 64 w (by decide)
structure DiskAt (w:World) (d g:Nat) (xs:List ByteArray) (waits:Value):Prop where
 blk:∃ c,w.heap[d]?=some (.cells #[.slice (some ⟨g,0,none⟩) xs.length c,waits,.bool false,.bool false,.int .i64 0,.slice none 0 0] 199 (0,0))
 row:w.heap[g]?=some (.cells (strs xs).toArray 9 (0,0))
 ne:d≠g
def secL (k:Nat):List ByteArray:=List.replicate k zsec++List.replicate (8 - k) ⟨#[]⟩
theorem secRow_set (k:Nat) (hk:k<8):(strs (secL k)).toArray.setIfInBounds k (.string zsec)=(strs (secL (k+1))).toArray:=by
 match k,hk with
 | 0,_=>rfl | 1,_=>rfl | 2,_=>rfl | 3,_=>rfl | 4,_=>rfl | 5,_=>rfl | 6,_=>rfl | 7,_=>rfl
theorem secRow_at (k:Nat) (hk:k<8):(strs (secL k)).toArray[k]?=some (.string ⟨#[]⟩):=by
 match k,hk with
 | 0,_=>rfl | 1,_=>rfl | 2,_=>rfl | 3,_=>rfl | 4,_=>rfl | 5,_=>rfl | 6,_=>rfl | 7,_=>rfl
theorem make8 (w:World):(Instr.makeSlice 31 (.int .i64 8) (.int .i64 8)).run Tryz.prog w=.ok (.slice (some ⟨w.heap.size,0,none⟩) 8 8) (w.alloc (.cells (strs (secL 0)).toArray 9)):=by kernel_rfl
theorem snew_any (w:World) :
 Calls Tryz.prog 64 #[.int .i64 8] w fun e w'=>∃ d,e=.returned (.tuple #[.pointer (some ⟨d,0,none⟩),.int .i64 0])/\w.heap.size<=d/\∃ g,w.heap.size<=g/\DiskAt w' d g (secL 8) (.slice none 0 0)/\Below w.heap.size w w':=by
 have hmk:=make8
 go_enter Tryz.func64,Tryz.ntmps64
 go_wp2_with fail
 have h1:((w.alloc (.cells (strs (secL 0)).toArray 9)).alloc (.cells #[.slice (some ⟨w.heap.size,0,none⟩) 8 8,.slice none 0 0,.bool false,.bool false,.int .i64 0,.slice none 0 0] 199)).heap[w.heap.size]?=some (.cells (strs (secL 0)).toArray 9 (0,0)):=by
  rw [Below.heap_alloc _ _ _ (by simp)];exact heap_alloc_new _ _
 have h2:((w.alloc (.cells (strs (secL 0)).toArray 9)).alloc (.cells #[.slice (some ⟨w.heap.size,0,none⟩) 8 8,.slice none 0 0,.bool false,.bool false,.int .i64 0,.slice none 0 0] 199)).heap[w.heap.size+1]?=some (.cells #[.slice (some ⟨w.heap.size,0,none⟩) 8 8,.slice none 0 0,.bool false,.bool false,.int .i64 0,.slice none 0 0] 199 (0,0)):=heap_alloc2_new _ _ _
 have hb1:Below w.heap.size w ((w.alloc (.cells (strs (secL 0)).toArray 9)).alloc (.cells #[.slice (some ⟨w.heap.size,0,none⟩) 8 8,.slice none 0 0,.bool false,.bool false,.int .i64 0,.slice none 0 0] 199)):=((Below.refl _ _).alloc (Nat.le_refl _) _).alloc (by simp) _
 generalize ((w.alloc (.cells (strs (secL 0)).toArray 9)).alloc (.cells #[.slice (some ⟨w.heap.size,0,none⟩) 8 8,.slice none 0 0,.bool false,.bool false,.int .i64 0,.slice none 0 0] 199))=W1 at h1 h2 hb1 |-
 clear hmk
 go_loopw [21] (fun i W=>∃ k:Nat,k<=8/\i=.int .i64 k/\W.heap[w.heap.size]?=some (.cells (strs (secL k)).toArray 9 (0,0))/\W.heap[w.heap.size+1]?=some (.cells #[.slice (some ⟨w.heap.size,0,none⟩) 8 8,.slice none 0 0,.bool false,.bool false,.int .i64 0,.slice none 0 0] 199 (0,0))/\Below w.heap.size w W) (fun i _=>8 - (intOf i).toNat)
 case atStart=>exact ⟨0,Nat.zero_le _,rfl,h1,h2,hb1⟩
 case round=>
  obtain ⟨k,hk,rfl,hg,hd,hb⟩:=hrel
  by_cases hlt:k<8
  · have z0:wr.cell? ⟨w.heap.size+1,0,none⟩=some (.slice (some ⟨w.heap.size,0,none⟩) 8 8):=cel hd
    have zk:wr.cell? ⟨w.heap.size,k,none⟩=some (.string ⟨#[]⟩):=by rw [cell_of_row _ _ k _ _ _ hg];exact secRow_at k hlt
    have fk:wr.frozen? ⟨w.heap.size,k,none⟩=false:=frozen_of_row _ _ k _ _ hg
    have lg:=(Array.getElem?_eq_some_iff.1 hg).1
    have ld:=(Array.getElem?_eq_some_iff.1 hd).1
    have hcall:=zeros_any wr.drew
    have hk8:(k:Int)<8:=by omega
    have Hset:=Lib.hid (secRow_set k hlt)
    have HG:=Lib.hid hg
    have HD:=Lib.hid hd
    have sw:=hb.size
    clear hg hd
    go_wp2_with fail
    go_region_law (first | (go_simp;go_at_call 106;refine hcall.mono ?_;rintro r w5 ⟨rfl,hb5⟩;obtain ⟨y0,_,_⟩:=keepC z0 (frozen_of_row _ _ 0 _ _ HD.out) (below_call hb5) ld;obtain ⟨yk,yf,hbc⟩:=keepC zk fk (below_call hb5) lg))
    all_goals
     have hg5:=(hbc.block w.heap.size lg).trans HG.out
     have hd5:=(hbc.block (w.heap.size+1) ld).trans HD.out
     have hb6:=hb.trans (hbc.mono sw)
     clear hcall y0 z0 zk fk hb5
     go_wp2
     go_roundw
     case rel=>exact ⟨k+1,by omega,by go_num,by rw [<-Hset.out];exact heap_setCell_same w5 w.heap.size k _ _ _ hg5,by rw [heap_setCell_other _ _ _ _ (by show w.heap.size+1≠w.heap.size;omega)];exact hd5,hb6.setCell (Nat.le_refl _) _⟩
     case measure=>simp [intOf];omega
  · have h8:k=8:=by omega
    have hge:¬ (k:Int)<8:=by omega
    have HG:Hid (wr.heap[w.heap.size]?=some (.cells (strs (secL 8)).toArray 9 (0,0))):=Lib.hid (h8 ▸ hg)
    have HD:=Lib.hid hd
    clear hg hd h8 hlt
    go_wp2
    go_ret2
    exact ⟨_,rfl,Nat.le_succ _,w.heap.size,Nat.le_refl _,⟨⟨8,HD.out⟩,HG.out,Nat.succ_ne_self _⟩,hb⟩
end Go.Proofs.YtcgkomafaepjnaaGreatDoor
namespace Go.Proofs.YtcgkomafaepjnaaGreatDoor
open Go.RowKit Go.Shelf
theorem DiskAt.cells {w:World} {d g:Nat} {xs:List ByteArray} {waits:Value} (h:DiskAt w d g xs waits):∃ c,w.cell? ⟨d,0,none⟩=some (.slice (some ⟨g,0,none⟩) xs.length c)/\w.cell? ⟨d,1,none⟩=some waits/\w.cell? ⟨d,2,none⟩=some (.bool false)/\w.cell? ⟨d,3,none⟩=some (.bool false):=by
 obtain ⟨c,hb⟩:=h.blk
 exact ⟨c,cel hb,cel hb,cel hb,cel hb⟩
theorem DiskAt.lt {w:World} {d g:Nat} {xs:List ByteArray} {waits:Value} (h:DiskAt w d g xs waits):d<w.heap.size/\g<w.heap.size:=by
 obtain ⟨c,hb⟩:=h.blk
 exact ⟨(Array.getElem?_eq_some_iff.1 hb).1,(Array.getElem?_eq_some_iff.1 h.row).1⟩
theorem DiskAt.sector {w:World} {d g:Nat} {xs:List ByteArray} {waits:Value} (h:DiskAt w d g xs waits) (k:Nat) (hk:k<xs.length):w.cell? ⟨g,k,none⟩=some (.string (xs.getD k ⟨#[]⟩)):=by
 rw [cell_of_row _ _ k _ _ _ h.row]
 simp [strs,hk]
theorem DiskAt.below {w w':World} {d g n:Nat} {xs:List ByteArray} {waits:Value} (h:DiskAt w d g xs waits) (hb:Below n w w') (hd:d<n) (hg:g<n):DiskAt w' d g xs waits:=by
 obtain ⟨c,hbl⟩:=h.blk
 exact ⟨⟨c,(hb.block d hd).trans hbl⟩,(hb.block g hg).trans h.row,h.ne⟩
theorem scount_any (d g:Nat) (xs:List ByteArray) (waits:Value) (w:World) (hd:DiskAt w d g xs waits) :
 Calls Tryz.prog 174 #[.pointer (some ⟨d,0,none⟩)] w fun e w'=>e=.returned (.int .i64 xs.length)/\w'=w:=by
 obtain ⟨c,h0,h1,h2,h3⟩:=hd.cells
 clear hd
 go_enter Tryz.func174,Tryz.ntmps174
 go_wp2
 go_ret
 exact ⟨rfl,rfl⟩
theorem sready_any (d g:Nat) (xs:List ByteArray) (waits:Value) (i:Nat) (hi:i<xs.length) (w:World) (hd:DiskAt w d g xs waits) :
 Calls Tryz.prog 236 #[.pointer (some ⟨d,0,none⟩),.int .i64 i] w fun e w'=>e=.returned (.int .i64 0)/\w'=w:=by
 obtain ⟨c,h0,h1,h2,h3⟩:=hd.cells
 have hge:¬ ((i:Int)<0):=by omega
 have hlt:¬ ((xs.length:Int)<=(i:Int)):=by omega
 clear hd
 go_enter Tryz.func236,Tryz.ntmps236
 go_wp2
 go_ret
 exact ⟨rfl,rfl⟩
theorem sburn_any (d g:Nat) (xs:List ByteArray) (waits:Value) (w:World) (hd:DiskAt w d g xs waits) :
 Calls Tryz.prog 242 #[.pointer (some ⟨d,0,none⟩)] w fun e w'=>e=.returned (.bool false)/\w'=w:=by
 obtain ⟨c,h0,h1,h2,h3⟩:=hd.cells
 clear hd
 go_enter Tryz.func242,Tryz.ntmps242
 go_wp2
 go_ret
 exact ⟨rfl,rfl⟩
attribute [local go_sem] Oper.semAt_some
theorem backw_nil_in (F:Fence) (n:Nat) (h7:F.fn 265) (hro:F.round=none) (l Bs:Nat) (J:List Empty->World->Prop) (W:World) (hBs:W.cell? ⟨Bs,0,none⟩=some (.slice none 0 0)) (h0:J [] W) :
 CallsIn F n Tryz.prog 265 #[.func (.yield l) #[] #[],.pointer (some ⟨Bs,0,none⟩)] W fun e W'=>(∃ v,e=.returned v)/\J [] W':=by
 refine callsIn_of_wp Tryz.func265 rfl h7 ?_ hro
 simp only [Tryz.ntmps265,List.size_toArray,List.length_cons,List.length_nil,Nat.reduceAdd,Nat.reduceSub,Array.replicate_succ,Array.replicate_zero,List.push_toArray,List.append_toArray,List.nil_append,List.cons_append]
 gi_wp2
 gi_loopw [3] (fun i wr=>i=.int .i64 (-1)/\J [] wr) (fun _ _=>0)
 case atStart=>exact ⟨rfl,h0⟩
 case round=>
  obtain ⟨rfl,hJs⟩:=hrel
  gi_wp2
  go_end0
  exact ⟨⟨_,rfl⟩,hJs⟩
theorem backwW_in (F:Fence) (n:Nat) (h5:F.fn 237) (hro:F.round=none) (a:Option Addr) (len cap:Nat) (w:World) :
 CallsIn F n Tryz.prog 237 #[.slice a len cap] w fun e w'=>e=.returned (.func (.func 265) #[] #[.pointer (some ⟨w.heap.size,0,none⟩)])/\w'=w.alloc (.cells #[.slice a len cap] 197):=by
 refine callsIn_of_wp Tryz.func237 rfl h5 ?_ hro
 simp only [Tryz.ntmps237,List.size_toArray,List.length_cons,List.length_nil,Nat.reduceAdd,Nat.reduceSub,Array.replicate_succ,Array.replicate_zero,List.push_toArray,List.append_toArray,List.nil_append,List.cons_append]
 gi_wp2
 go_ret
 exact ⟨rfl,rfl⟩
theorem backwW_stops (F:Fence) (n:Nat) (h7:F.fn 265) (hro:F.round=none) (Bs n₀:Nat) (w:World) (hBs:Bs<w.heap.size)
 (hc:w.cell? ⟨Bs,0,none⟩=some (.slice none 0 0)) :
 SeqStopsK F n Tryz.prog 265 #[.pointer (some ⟨Bs,0,none⟩)] (fun x:Empty=>x.elim) (Below n₀) (fun ys=>ys=[]) (fun _=>False) 0 w:=fun l J Jx W hW _ _ _ h0=>by
 have hc':=(hW.cell (p:=⟨Bs,0,none⟩) hBs).trans hc
 exact (backw_nil_in F n h7 hro l Bs J W hc' h0).mono fun e W' ⟨he,hj⟩=>⟨he,.inl ⟨_,rfl,hj⟩⟩
theorem sread_any (d g:Nat) (xs:List ByteArray) (i:Nat) (hi:i<xs.length) (w:World) (hd:DiskAt w d g xs (.slice none 0 0)) :
 Calls Tryz.prog 206 #[.pointer (some ⟨d,0,none⟩),.int .i64 i] w fun e w'=>e=.returned (.tuple #[.string (xs.getD i ⟨#[]⟩),.int .i64 0])/\Below w.heap.size w w':=by
 have hcount:=sready_any d g xs (.slice none 0 0) i hi
 refine (callsIn_wide (n:=5)).1 ?_
 have h1:1<=5:=by decide
 refine callsIn_of_wp_marks Tryz.func206 rfl trivial ?_ rfl
 simp only [Tryz.ntmps206,List.size_toArray,List.length_cons,List.length_nil,Nat.reduceAdd,Nat.reduceSub,Array.replicate_succ,Array.replicate_zero,List.push_toArray,List.append_toArray,List.nil_append,List.cons_append]
 gi_wp2_with fail
 have bI:=Boxed.new w 3 (.int .i64 i)
 have bS:=Boxed.new (w.alloc (.cells #[.int .i64 i] 3)) 9 (.string ⟨#[]⟩)
 have bE:=Boxed.new ((w.alloc (.cells #[.int .i64 i] 3)).alloc (.cells #[.string ⟨#[]⟩] 9)) 26 (.int .i64 0)
 have bS':=bS.alloc (.cells #[.int .i64 0] 26)
 have bI':=(bI.alloc (.cells #[.string ⟨#[]⟩] 9)).alloc (.cells #[.int .i64 0] 26)
 have hB0:Below w.heap.size w (((w.alloc (.cells #[.int .i64 i] 3)).alloc (.cells #[.string ⟨#[]⟩] 9)).alloc (.cells #[.int .i64 0] 26)):=(((Below.refl _ w).alloc (Nat.le_refl _) _).alloc (by simp) _).alloc (by simp;omega) _
 have hsz:(((w.alloc (.cells #[.int .i64 i] 3)).alloc (.cells #[.string ⟨#[]⟩] 9)).alloc (.cells #[.int .i64 0] 26)).heap.size=w.heap.size+3:=by simp
 simp only [World.size_alloc] at bS' bE bI'
 clear bS bI
 generalize (((w.alloc (.cells #[.int .i64 i] 3)).alloc (.cells #[.string ⟨#[]⟩] 9)).alloc (.cells #[.int .i64 0] 26))=W at bS' bE bI' hB0 hsz |-
 have hd':=hd.below hB0 hd.lt.1 hd.lt.2
 refine ⟨trivial,?_⟩
 refine (callsIn_wide.2 (hcount W hd')).mono ?_
 rintro e w1 ⟨rfl,rfl⟩
 obtain ⟨c,z0,z1,z2,z3⟩:=hd'.cells
 have zk:=hd'.sector i hi
 have cI:=bI'.cell
 gi_wp2_with fail
 refine ⟨trivial,(backwW_in Fence.wide 4 trivial rfl none 0 0 w1).mono ?_⟩
 rintro e w2 ⟨rfl,rfl⟩
 have bN:=Boxed.new w1 197 (.slice none 0 0)
 have hB1:=hB0.trans ((Below.refl _ w1).alloc (by omega) (.cells #[.slice none 0 0] 197))
 have hsz1:(w1.alloc (.cells #[.slice none 0 0] 197)).heap.size=w.heap.size+4:=by simp;omega
 have hd1:=hd'.below ((Below.refl w1.heap.size w1).alloc (Nat.le_refl _) (.cells #[.slice none 0 0] 197)) hd'.lt.1 hd'.lt.2
 have bS1:=bS'.alloc (.cells #[.slice none 0 0] 197)
 have bE1:=bE.alloc (.cells #[.slice none 0 0] 197)
 have bI1:=bI'.alloc (.cells #[.slice none 0 0] 197)
 rw [hsz] at bN
 have hlt1:w.heap.size+3<(w1.alloc (.cells #[.slice none 0 0] 197)).heap.size:=by simp;omega
 generalize hW1:w1.alloc (.cells #[.slice none 0 0] 197)=W1 at bN hB1 hsz1 hd1 bS1 bE1 bI1 hlt1 |-
 obtain ⟨c1,y0,_,_,_⟩:=hd1.cells
 have yk:=hd1.sector i hi
 gi_wp2_with fail
 refine wpIn_rangeFunc_ownF rfl h1 (gf:=265) (lb:=#[.pointer (some ⟨w.heap.size+3,0,none⟩)]) rfl trivial (enters_of Tryz.func265 (by kernel_rfl) rfl)
  (backwW_stops Fence.wide 4 trivial rfl (w.heap.size+3) w.heap.size W1 hlt1 bN.cell) belowK_t (belowK_b (by omega)) (Below.refl _ _) (fun x=>x.elim)
  (fun _ W=>(W.cell? ⟨d,0,none⟩=some (.slice (some ⟨g,0,none⟩) xs.length c1)/\W.cell? ⟨g,i,none⟩=some (.string (xs.getD i ⟨#[]⟩))/\W.cell? ⟨w.heap.size,0,none⟩=some (.int .i64 i)/\(W.cell? ⟨w.heap.size+1,0,none⟩=some (.string ⟨#[]⟩)/\W.frozen? ⟨w.heap.size+1,0,none⟩=false)/\(W.cell? ⟨w.heap.size+1+1,0,none⟩=some (.int .i64 0)/\W.frozen? ⟨w.heap.size+1+1,0,none⟩=false))/\Below w.heap.size w W)
  (fun _ _ _=>False)
  (OwnFrom.and (Own.from (fun s A B row hs hg hr=>⟨cell_kept hs.1 hg hr,cell_kept hs.2.1 hg hr,cell_kept hs.2.2.1 hg hr,⟨cell_kept hs.2.2.2.1.1 hg hr,(frozen_kept hs.2.2.2.1.1 hg hr).trans hs.2.2.2.1.2⟩,⟨cell_kept hs.2.2.2.2.1 hg hr,(frozen_kept hs.2.2.2.2.1 hg hr).trans hs.2.2.2.2.2⟩⟩) _) (ownFrom_below (Nat.le_refl _) (by omega)))
  (fun _ _ _ _ _ hs _ _=>hs)
  ⟨⟨y0,yk,bI1.cell,⟨bS1.cell,bS1.frozen⟩,⟨bE1.cell,bE1.frozen⟩⟩,hB1⟩
  (fun x=>x.elim) ?assign ?body ?done ?stop
 case assign=>intro l x;exact x.elim
 case body=>intro l pre x;exact x.elim
 case stop=>rintro D c pre W _ h;exact h.elim
 case done=>
  rintro D ys W hD rfl ⟨⟨y0,yk,yI,⟨yS,fS⟩,⟨yE,fE⟩⟩,hB⟩ hK
  gi_wp2_with fail
  have fdS:D≠w.heap.size+1:=by omega
  have hi0:(0:Int)<=(i:Int):=by omega
  have hi1:(i:Int)<(xs.length:Int):=by omega
  refine wpIn_wide.2 ?_
  go_still_tail 7,(by kernel_rfl)
  change wpList _ _ _ _ _ W.drew
  have yS':W.drew.cell? ⟨w.heap.size+1,0,none⟩=some (.string ⟨#[]⟩):=yS
  have fS':W.drew.frozen? ⟨w.heap.size+1,0,none⟩=false:=fS
  have yE':W.drew.cell? ⟨w.heap.size+1+1,0,none⟩=some (.int .i64 0):=yE
  have fE':W.drew.frozen? ⟨w.heap.size+1+1,0,none⟩=false:=fE
  have hK':W.drew.heap[D]?=some (.deferred (some [])):=hK
  have hB':Below w.heap.size w W.drew:=hB.trans (Below.refl _ _).drew
  generalize W.drew=V at yS' fS' yE' fE' hK' hB' |-
  go_wp2
  have hK2:=(KeepsOthers.setCell (V.setCell ⟨w.heap.size+1,0,none⟩ (.string (xs[i]))) ⟨w.heap.size+1+1,0,none⟩ (.int .i64 0)).same D _ ((KeepsOthers.setCell V ⟨w.heap.size+1,0,none⟩ (.string (xs[i]))).same D _ hK' rfl) rfl
  gi_wp2
  refine ⟨by simp,.inl ⟨_,_,rfl,run_takeDeferred hK2,?_⟩⟩
  have q1:=cell_kept (World.cell?_setCell_same' (V.setCell ⟨w.heap.size+1,0,none⟩ (.string (xs[i]))) ⟨w.heap.size+1+1,0,none⟩ (.int .i64 0) (by rw [World.cell?_setCell_other _ _ _ _ (by simp),yE'];rfl)) (grownBy_putObj' _ D (.deferred none)) (fun r e=>by cases e;exact ⟨_,hK2,rfl⟩)
  have q0:=cell_kept (show ((V.setCell ⟨w.heap.size+1,0,none⟩ (.string (xs[i]))).setCell ⟨w.heap.size+1+1,0,none⟩ (.int .i64 0)).cell? ⟨w.heap.size+1,0,none⟩=some (.string (xs[i])) by rw [World.cell?_setCell_other _ _ _ _ (by simp)];exact World.cell?_setCell_same' _ _ _ (by rw [yS'];rfl)) (grownBy_putObj' _ D (.deferred none)) (fun r e=>by cases e;exact ⟨_,hK2,rfl⟩)
  refine ⟨.tuple #[.string (xs.getD i ⟨#[]⟩),.int .i64 0],?_,rfl,((hB'.setCell (p:=⟨w.heap.size+1,0,none⟩) (by simp) _).setCell (p:=⟨w.heap.size+1+1,0,none⟩) (by simp;omega) _).trans (belowK_b (w:=w) (Nat.le_refl _) _ D _ _ (by omega) hK2 rfl rfl)⟩
  simp [results,Tryz.f206,go_sem,q1,q0,hi]
end Go.Proofs.YtcgkomafaepjnaaGreatDoor
namespace Go.Proofs.YtcgkomafaepjnaaGreatDoor
open Go.RowKit
theorem Tryz.infoWrt:(Tryz.prog.info? 333).map (fun i=>(i.zero,i.size,i.bytes))=some (some (.agg #[.int .i64 0,.string .empty]),2,24):=by kernel_rfl
theorem swrite_any (d g:Nat) (xs:List ByteArray) (i:Nat) (hi:i<xs.length) (s:ByteArray) (hs:s.size<=64) (w:World) (hd:DiskAt w d g xs (.slice none 0 0)) :
 Calls Tryz.prog 214 #[.pointer (some ⟨d,0,none⟩),.int .i64 i,.string s] w fun e w'=>e=.returned (.int .i64 0)/\∃ gg c,DiskAt w' d g xs (.slice (some ⟨gg,0,none⟩) 1 c)/\w'.ownsRow w.heap.size 333 2 (.slice (some ⟨gg,0,none⟩) 1 c) 1 [.int .i64 i,.string (s++zsn (64 - s.size))]/\Touch (·=d) w w':=by
 obtain ⟨i0,hinf,hz0,hz1,hz2⟩:=info_parts Tryz.infoWrt
 have hready:=sready_any d g xs (.slice none 0 0) i hi w hd
 have hburn:=sburn_any d g xs (.slice none 0 0) w hd
 obtain ⟨c,z0,z1,z2,z3⟩:=hd.cells
 have hlt:=hd.lt.1
 have hlg:=hd.lt.2
 obtain ⟨cc,hblk⟩:=hd.blk
 have HB:=Lib.hid hblk
 have HG:=Lib.hid hd.row
 have z1f:w.frozen? ⟨d,1,none⟩=false:=frozen_of_row _ _ 1 _ _ hblk
 have hne:=hd.ne
 clear hblk hd z0 z2 z3
 obtain ⟨m,hm⟩:∃ m,m=64 - s.size:=⟨_,rfl⟩
 have hm0:(64:Int) - (s.size:Int)=(m:Int):=by omega
 have hm1:IntKind.i64.wrap (m:Int)=(m:Int):=IntWalk.i64_in _ (by omega)
 have hs64:¬ ((64:Int)<(s.size:Int)):=by omega
 rw [<-hm]
 have hfit:¬ (9223372036854775807<s.size+(zsn m).size):=by
  have:(zsn m).size=m:=by simp [zsn,ByteArray.size]
  omega
 have hcall:=zeros_n m w.drew (by omega)
 clear hm
 go_enter Tryz.func214,Tryz.ntmps214
 go_wp2_with fail
 refine hready.mono ?_
 rintro e w1 ⟨rfl,rfl⟩
 go_wp2_with fail
 refine hburn.mono ?_
 rintro e w2 ⟨rfl,rfl⟩
 go_wp2_with fail
 have hS0:=Lib.hid (keepC z1 z1f (below_drew w2) hlt)
 go_region_law (first
  | (go_simp;go_at_call 106;refine hcall.mono ?_;rintro r w5 ⟨rfl,hb5⟩;obtain ⟨z5,z5f,hb5'⟩:=keepC z1 z1f (below_call hb5) hlt;have z5a:=keepE z1 z1f (below_call hb5) hlt)
  | (refine step_append_lies _ (by rfl) _ _ _ (by rfl) w2.heap.size 333 i0 _ 2 24 Tryz.underlying197 hinf hz0 hz1 hz2 rfl (by omega) (.slice none 0 0) 0 [] (by rfl) (World.ownsRow_nil _ _ _ _) ⟨w5.heap.size,0,none⟩ 1 1 [.int .i64 i,.string (s++zsn m)] (by rfl) (by rfl) (World.news_of_block (cs:=#[.int .i64 i,.string (s++zsn m)]) (t:=333) (fr:=(0,0)) (heap_alloc_new w5 _)) (by simp [Value.oneCell']) (by omega) (by unfold maxLen;omega) (by omega) (by have:=hb5'.size;simp;omega) (w5.heap.size+1) (by simp) ?_;intro gg cap2 w6 ho6 hg6 hat hlt6;obtain ⟨z6,z6f,hb6⟩:=keepD z5 z5f hb5' hg6 hlt))
 all_goals
  clear hcall z5 z5f z5a z6 z6f hready hburn z1 z1f
  have hat:gg=w5.heap.size+1:=by
   rcases hat with h | h
   · cases h
   · exact h
  have hgd:gg≠d:=by have:=hb5'.size;omega
  have hd6:=(hb6.block d hlt).trans HB.out
  have hg6':=(hb6.block g hlg).trans HG.out
  have hd7:=heap_setCell_same w6 d 1 _ _ (.slice (some ⟨gg,0,none⟩) 1 cap2) hd6
  have hg7:=(heap_setCell_other w6 ⟨d,1,none⟩ g (.slice (some ⟨gg,0,none⟩) 1 cap2) (by exact hne.symm)).trans hg6'
  have hT7:Touch (·=d) w2 (w6.setCell ⟨d,1,none⟩ (.slice (some ⟨gg,0,none⟩) 1 cap2)):=(Touch.of_below hb6 _).trans (Touch.setCell (S:=(·=d)) w6 ⟨d,1,none⟩ _ rfl)
  have ho7:=(Touch.setCell (S:=(·=d)) w6 ⟨d,1,none⟩ (.slice (some ⟨gg,0,none⟩) 1 cap2) rfl).own ho6 (fun k hk e=>by simp [Value.ownBlock] at hk;omega)
  generalize (w6.setCell ⟨d,1,none⟩ (.slice (some ⟨gg,0,none⟩) 1 cap2))=W7 at hd7 hg7 hT7 ho7 |-
  go_wp2
  go_ret
  exact ⟨rfl,gg,cap2,⟨⟨cc,hd7⟩,hg7,hne⟩,ho7,hT7⟩
theorem cat_size (a b:ByteArray):(a++b).size=a.size+b.size:=by simp
theorem strs_set (xs:List ByteArray) (i:Nat) (s:ByteArray):(strs xs).toArray.setIfInBounds i (.string s)=(strs (xs.set i s)).toArray:=by simp [strs]
theorem slast_any (d g:Nat) (xs:List ByteArray) (waits:Value) (i:Nat) (hi:i<xs.length) (h64:∀ x∈xs,x.size=64) (t:ByteArray) (ht:t.size=64) (w:World) (hd:DiskAt w d g xs waits) :
 Calls Tryz.prog 245 #[.pointer (some ⟨d,0,none⟩),.agg #[.int .i64 i,.string t],.int .i64 64] w fun e w'=>e=.returned (.tuple #[])/\∃ ys,ys.length=xs.length/\(∀ x∈ys,x.size=64)/\DiskAt w' d g ys waits/\Touch (·=g) w w':=by
 obtain ⟨c,z0,z1,z2,z3⟩:=hd.cells
 have hlt:=hd.lt.1
 have hlg:=hd.lt.2
 obtain ⟨cc,hblk⟩:=hd.blk
 have HB:=Lib.hid hblk
 have HG:=Lib.hid hd.row
 have zk:=hd.sector i hi
 have zkf:w.frozen? ⟨g,i,none⟩=false:=frozen_of_row _ _ i _ _ hd.row
 have hne:=hd.ne
 have hx64:(xs.getD i ⟨#[]⟩).size=64:=h64 _ (by simp [hi])
 clear hblk hd z1 z2 z3
 generalize hxd:xs.getD i ⟨#[]⟩=x at zk hx64
 have hi0:(0:Int)<=(i:Int):=by omega
 have hi1:(i:Int)<(xs.length:Int):=by omega
 have ht1:¬ ((t.size:Int)<64):=by omega
 have hx1:¬ ((x.size:Int)<64):=by omega
 go_enter Tryz.func245,Tryz.ntmps245
 go_wp2_with fail
 have v0:(w.alloc (.cells #[.int .i64 i,.string t] 333)).cell? ⟨w.heap.size,0,none⟩=some (.int .i64 i):=by rw [World.cell?_alloc_at _ _ _ _ rfl];rfl
 have v1:(w.alloc (.cells #[.int .i64 i,.string t] 333)).cell? ⟨w.heap.size,1,none⟩=some (.string t):=by rw [World.cell?_alloc_at _ _ _ _ rfl];rfl
 have hB:Below w.heap.size w (w.alloc (.cells #[.int .i64 i,.string t] 333)):=(Below.refl _ w).alloc (Nat.le_refl _) _
 generalize w.alloc (.cells #[.int .i64 i,.string t] 333)=W1 at v0 v1 hB |-
 have y0:=(hB.cell (p:=⟨d,0,none⟩) hlt).trans z0
 obtain ⟨yk,ykf,_⟩:=keepC zk zkf hB hlg
 clear z0 zk zkf
 go_still_tail 22,(by kernel_rfl)
 change wpList _ _ _ _ _ W1.drew
 have yk':W1.drew.cell? ⟨g,i,none⟩=some (.string x):=yk
 have ykf':W1.drew.frozen? ⟨g,i,none⟩=false:=ykf
 have hB':Below w.heap.size w W1.drew:=hB.trans (Below.refl _ _).drew
 generalize W1.drew=V at yk' ykf' hB' |-
 go_wp2
 go_end0
 refine ⟨rfl,xs.set i (t.extract 0 64),by simp,?_,⟨⟨cc,?_⟩,?_,hne⟩,(Touch.of_below hB' _).trans (Touch.setCell (S:=(·=g)) V ⟨g,i,none⟩ _ rfl)⟩
 · intro y hy
   rcases List.mem_or_eq_of_mem_set hy with h | rfl
   · exact h64 _ h
   · simp;omega
 · rw [heap_setCell_other _ _ _ _ (by exact hne),hB'.block d hlt,HB.out];simp
 · have:=heap_setCell_same V g i _ _ (.string (t.extract 0 64)) ((hB'.block g hlg).trans HG.out)
   rw [this,strs_set]
theorem ssync_any (d g gg c:Nat) (xs:List ByteArray) (i:Nat) (hi:i<xs.length) (h64:∀ x∈xs,x.size=64) (t:ByteArray) (ht:t.size=64) (w:World) (hd:DiskAt w d g xs (.slice (some ⟨gg,0,none⟩) 1 c)) (B:Nat) (ho:w.ownsRow B 333 2 (.slice (some ⟨gg,0,none⟩) 1 c) 1 [.int .i64 i,.string t]) :
 Calls Tryz.prog 216 #[.pointer (some ⟨d,0,none⟩)] w fun e w'=>e=.returned (.int .i64 0)/\∃ ys,ys.length=xs.length/\(∀ x∈ys,x.size=64)/\DiskAt w' d g ys (.slice none 0 0)/\Touch (fun k=>k=g\/k=d) w w':=by
 have hready:=sready_any d g xs (.slice (some ⟨gg,0,none⟩) 1 c) 0 (by omega) w hd
 have hburn:=sburn_any d g xs (.slice (some ⟨gg,0,none⟩) 1 c) w hd
 obtain ⟨_,z0,z1,z2,z3⟩:=hd.cells
 have hcell:=fun j u (h:[Value.int .i64 i,.string t][j]?=some u)=>ho.cells (g:=gg) rfl j u h
 have y0:w.cell? ⟨gg,0,none⟩=some (.int .i64 i):=by have:=hcell 0 _ rfl;simpa [Addr.add] using this
 have y1:w.cell? ⟨gg,1,none⟩=some (.string t):=by have:=hcell 1 _ rfl;simpa [Addr.add] using this
 have hlast:=fun w' hd'=>slast_any d g xs (.slice (some ⟨gg,0,none⟩) 1 c) i hi h64 t ht w' hd'
 clear hcell ho
 have HD:=Lib.hid hd
 clear hd z0 z2 z3
 go_enter Tryz.func216,Tryz.ntmps216
 go_wp2_with fail
 refine hready.mono ?_
 rintro e w1 ⟨rfl,rfl⟩
 go_wp2_with fail
 refine hburn.mono ?_
 rintro e w2 ⟨rfl,rfl⟩
 go_wp2_with fail
 refine wp_loop_rounds 2 ?_
 rw [rounds_succ]
 go_wp2_with fail
 have hB:Below w2.heap.size w2 (w2.alloc (.cells #[.int .i64 i,.string t] 333)):=(Below.refl w2.heap.size w2).alloc (Nat.le_refl _) _
 refine (hlast _ (HD.out.below hB HD.out.lt.1 HD.out.lt.2)).mono ?_
 clear hlast hready hburn z1 y0 y1
 rintro e w4 ⟨rfl,ys,hyl,hy64,hd4,ht4⟩
 obtain ⟨cc,hb4⟩:=hd4.blk
 have f1:w4.frozen? ⟨d,1,none⟩=false:=frozen_of_row _ _ 1 _ _ hb4
 have u1:w4.cell? ⟨d,1,none⟩=some (.slice (some ⟨gg,0,none⟩) 1 c):=cel hb4
 have hd5:=heap_setCell_same w4 d 1 _ _ (.slice none 0 0) hb4
 have hg5:=(heap_setCell_other w4 ⟨d,1,none⟩ g (.slice none 0 0) (by exact hd4.ne.symm)).trans hd4.row
 have hT:Touch (fun k=>k=g\/k=d) w2 (w4.setCell ⟨d,1,none⟩ (.slice none 0 0)):=((Touch.of_below hB _).trans (ht4.mono (fun k h=>.inl (.inl h)))).trans (Touch.setCell (S:=fun k=>k=g\/k=d) w4 ⟨d,1,none⟩ _ (.inr rfl))
 have hne:=hd4.ne
 clear hb4 ht4 hd4 hB
 go_wp2_with fail
 rw [rounds_succ]
 go_wp2
 go_ret
 exact ⟨rfl,ys,hyl,hy64,⟨⟨cc,hd5⟩,hg5,hne⟩,hT⟩
def partsOf (n:Nat):Nat:=(n - 1)/39+1
theorem lparts_any (n:Nat) (hn:n<65536) (w:World) :
 Calls Tryz.prog 121 #[.int .i64 n] w fun e w'=>e=.returned (.int .i64 (partsOf n))/\w'=w:=by
 by_cases h0:n=0
 · subst h0
   have hlt:(((0:Nat):Int)<1):=by decide
   go_enter Tryz.func121,Tryz.ntmps121
   go_wp2
   go_ret
   exact ⟨rfl,rfl⟩
 · have hge:¬ ((n:Int)<1):=by omega
   obtain ⟨m,rfl⟩:∃ m,n=m+1:=⟨n - 1,by omega⟩
   have e1:IntKind.i64.wrap (((m+1:Nat):Int) - 1)=(m:Int):=by rw [show ((m+1:Nat):Int) - 1=(m:Int) by omega];exact IntWalk.i64_in _ (by omega)
   have e2:(m:Int).tdiv 39=((m/39:Nat):Int):=by rw [Int.tdiv_eq_ediv_of_nonneg (by omega)];omega
   have e3:IntKind.i64.wrap ((m/39:Nat):Int)=((m/39:Nat):Int):=IntWalk.i64_in _ (by omega)
   have e4:IntKind.i64.wrap (((m/39:Nat):Int)+1)=((partsOf (m+1):Nat):Int):=by rw [show ((m/39:Nat):Int)+1=((partsOf (m+1):Nat):Int) by unfold partsOf;omega];exact IntWalk.i64_in _ (by unfold partsOf;omega)
   go_enter Tryz.func121,Tryz.ntmps121
   go_wp2
   go_ret
   exact ⟨by go_num,rfl⟩
theorem bu_zero (w:World) (T:TypeId):Bu (w.alloc (.cells #[.pointer none,.slice none 0 0,.int .i64 0] T)) T w.heap.size 0 #[.pointer none,.slice none 0 0,.int .i64 0] (.slice none 0 0) []:=
 ⟨heap_alloc_new _ _,.inl rfl,rfl,World.ownsRow_nil _ _ _ _,by simp [Value.ownBlock]⟩
theorem wr_zero (w:World):Wr (w.alloc (.cells #[.pointer none,.slice none 0 0,.int .i64 0] 215)) w.heap.size (.slice none 0 0) [] 0:=⟨_,bu_zero w _⟩
theorem bytesTo_size (n k:Nat):(⟨(bytesTo n k k).toArray⟩:ByteArray).size=k:=by
 show (bytesTo n k k).toArray.size=k
 rw [List.size_toArray,bytesTo_le]
theorem lbytes_any (n size:Nat) (h1:1<=size) (h8:size<=7) (hn:n<256^size) (w:World) :
 Calls Tryz.prog 243 #[.int .u64 n,.int .i64 size] w fun e w'=>e=.returned (.string ⟨(bytesTo n size size).toArray⟩)/\Below w.heap.size w w':=by
 have hn64:n<18446744073709551616:=Nat.lt_of_lt_of_le hn (by
  calc 256^size<=256^7:=Nat.pow_le_pow_right (by decide) h8
   _<=_:=by decide)
 have hok:okNum n size=true:=by rw [okNum,decide_eq_true_eq];exact ⟨by omega,by omega,by rw [Int.toNat_natCast];exact hn⟩
 have hwn:wnL [] 0 n size=bytesTo n size size:=by unfold wnL;rw [if_pos ⟨hok,rfl⟩,Int.toNat_natCast];rfl
 have hcall:=wrNum_any w.heap.size n size _ _ _ _ (wr_zero w) hn64 (by simp)
 rw [hwn,hok,flBad_ok] at hcall
 clear hn hok hwn hn64
 have hb0:Below w.heap.size w (w.alloc (.cells #[.pointer none,.slice none 0 0,.int .i64 0] 215)):=(Below.refl _ _).alloc (Nat.le_refl _) _
 go_enter Tryz.func243,Tryz.ntmps243
 go_wp2_with fail
 refine hcall.mono ?_
 rintro r w2 ⟨rfl,v2,hw2,ht2,hn2⟩
 clear hcall
 have hb2:=hb0.trans (ht2.below (B:=w.heap.size) (fun k hk=>by rcases hk with rfl | hk;exact Nat.le_refl _;cases hk) (by simp))
 have ho2:∀ k,v2.ownBlock=some k->w.heap.size<=k:=fun k hk=>by
  rcases hn2 with h | hn2
  · rw [h] at hk;cases hk
  · have:=hn2 k hk;simp at this;omega
 go_wp2_with fail
 refine (wrBytes_any _ _ _ _ _ hw2).mono ?_
 rintro r w3 ⟨rfl,ht3⟩
 have hb3:=hb2.trans (ht3.below (B:=w.heap.size) (fun k hk=>by rcases hk with rfl | hk;exact Nat.le_refl _;exact ho2 k hk) hb2.size)
 have e1:wbT (bytesTo n size size) 0=⟨(bytesTo n size size).toArray⟩:=if_pos rfl
 rw [e1]
 go_wp2
 go_ret
 exact ⟨rfl,hb3⟩
theorem tag_size (tag:Nat) (xs:List (List UInt8)):(⟨(tagOf tag xs).toArray⟩:ByteArray).size=16:=by
 show (tagOf tag xs).toArray.size=16
 rw [List.size_toArray,tagOf_length]
theorem tag_half (tag:Nat) (xs:List (List UInt8)):(⟨((tagOf tag xs).take 8).toArray⟩:ByteArray).size=8:=by
 show ((tagOf tag xs).take 8).toArray.size=8
 rw [List.size_toArray,List.length_take,tagOf_length];rfl
theorem lsum_any (s:ByteArray) (hs:s.size<=1000) (w:World) (hK:Kon w) :
 Calls Tryz.prog 244 #[.string s] w fun e w'=>e=.returned (.string ⟨((tagOf 8 [s.data.toList]).take 8).toArray⟩)/\Below w.heap.size w w':=by
 have hcall:=tagged_new 8 [s] 1 rfl w (by decide) (by decide) (by have h:=tagIn_le 8 [s.data.toList] 1 (by simp) (by simpa using hs);simp only [List.map_cons,List.map_nil];omega) hK
 have hz:=tag_size 8 [s.data.toList]
 have hx:=extract_take (tagOf 8 [s.data.toList]) 8
 simp only [List.map_cons,List.map_nil] at hcall
 generalize (⟨(tagOf 8 [s.data.toList]).toArray⟩:ByteArray)=Z at hcall hz hx
 rw [<-hx]
 clear hx
 have hz1:¬ ((Z.size:Int)<8):=by omega
 go_enter Tryz.func244,Tryz.ntmps244
 go_wp2_with fail
 refine hcall.mono ?_
 rintro e w2 ⟨rfl,hb2⟩
 go_wp2
 go_ret
 exact ⟨rfl,hb2⟩
theorem lname_any (turn num:Nat) (ht:turn<4294967296) (hn:num<65536) (s:ByteArray) (hs:s.size<=1000) (w:World) (hK:Kon w) :
 Calls Tryz.prog 239 #[.int .u64 turn,.int .u64 num,.string s] w fun e w'=>(∃ t:ByteArray,e=.returned (.string t)/\t.size=8)/\Below w.heap.size w w':=by
 have h4:=lbytes_any turn 4 (by decide) (by decide) (by omega)
 have h2:=lbytes_any num 2 (by decide) (by decide) (by omega)
 have s4:=bytesTo_size turn 4
 have s2:=bytesTo_size num 2
 generalize (⟨(bytesTo turn 4 4).toArray⟩:ByteArray)=T4 at h4 s4
 generalize (⟨(bytesTo num 2 2).toArray⟩:ByteArray)=T2 at h2 s2
 go_enter Tryz.func239,Tryz.ntmps239
 go_wp2_with fail
 refine (h4 w).mono ?_
 rintro e w2 ⟨rfl,hb2⟩
 go_wp2_with fail
 refine (h2 w2).mono ?_
 rintro e w3 ⟨rfl,hb3⟩
 have hb3':=hb2.trans (hb3.mono hb2.size)
 have hin:(tagIn 7 [T4.data.toList,T2.data.toList,s.data.toList]).length<=1+1004*3:=by
  refine tagIn_le 7 _ 3 (by simp) (fun x hx=>?_)
  have s4':T4.data.toList.length=4:=by simpa using s4
  have s2':T2.data.toList.length=2:=by simpa using s2
  have s':s.data.toList.length<=1000:=by simpa using hs
  simp only [List.mem_cons,List.not_mem_nil,or_false] at hx
  rcases hx with rfl | rfl | rfl <;> omega
 have hcall:=tagged_new 7 [T4,T2,s] 3 rfl w3 (by decide) (by decide) (by simp only [List.map_cons,List.map_nil];omega) (hK.old hb3')
 clear hin
 have hz:=tag_size 7 [T4.data.toList,T2.data.toList,s.data.toList]
 have hz8:((⟨(tagOf 7 [T4.data.toList,T2.data.toList,s.data.toList]).toArray⟩:ByteArray).extract 0 8).size=8:=by rw [extract_take];exact tag_half _ _
 simp only [List.map_cons,List.map_nil] at hcall
 generalize (⟨(tagOf 7 [T4.data.toList,T2.data.toList,s.data.toList]).toArray⟩:ByteArray)=Z at hcall hz hz8
 have hz1:¬ ((Z.size:Int)<8):=by omega
 have HZ:=Lib.hid hz8
 clear hz8
 go_wp2_with fail
 refine hcall.mono ?_
 rintro e w4 ⟨rfl,hb4⟩
 have s3:=hb3'.size
 go_wp2
 go_ret
 exact ⟨⟨_,rfl,HZ.out⟩,hb3'.trans (hb4.mono s3)⟩
theorem lb4_any (n:Nat) (hn:n<4294967296) (w:World):Calls Tryz.prog 243 #[.int .u64 n,.int .i64 4] w fun e w'=>e=.returned (.string ⟨(bytesTo n 4 4).toArray⟩)/\Below w.heap.size w w':=lbytes_any n 4 (by decide) (by decide) (by omega) w
theorem lb2_any (n:Nat) (hn:n<65536) (w:World):Calls Tryz.prog 243 #[.int .u64 n,.int .i64 2] w fun e w'=>e=.returned (.string ⟨(bytesTo n 2 2).toArray⟩)/\Below w.heap.size w w':=lbytes_any n 2 (by decide) (by decide) (by omega) w
theorem lb1_any (n:Nat) (hn:n<256) (w:World):Calls Tryz.prog 243 #[.int .u64 n,.int .i64 1] w fun e w'=>e=.returned (.string ⟨(bytesTo n 1 1).toArray⟩)/\Below w.heap.size w w':=lbytes_any n 1 (by decide) (by decide) (by omega) w
theorem keepF {W w4 w5:World} {b:Nat} {x0 x1 x2 x3 x4 x5:Value} (hlt:b<W.heap.size) (hb:Below w4.heap.size w4 w5)
 (h:w4.cell? ⟨b,0,none⟩=some x0/\w4.cell? ⟨b,1,none⟩=some x1/\w4.cell? ⟨b,2,none⟩=some x2/\w4.cell? ⟨b,3,none⟩=some x3/\w4.cell? ⟨b,4,none⟩=some x4/\w4.cell? ⟨b,5,none⟩=some x5/\Below W.heap.size W w4) :
 w5.cell? ⟨b,0,none⟩=some x0/\w5.cell? ⟨b,1,none⟩=some x1/\w5.cell? ⟨b,2,none⟩=some x2/\w5.cell? ⟨b,3,none⟩=some x3/\w5.cell? ⟨b,4,none⟩=some x4/\w5.cell? ⟨b,5,none⟩=some x5/\Below W.heap.size W w5:=by
 have hl:b<w4.heap.size:=Nat.lt_of_lt_of_le hlt h.2.2.2.2.2.2.size
 exact ⟨(hb.cell (p:=⟨b,0,none⟩) hl).trans h.1,(hb.cell (p:=⟨b,1,none⟩) hl).trans h.2.1,(hb.cell (p:=⟨b,2,none⟩) hl).trans h.2.2.1,(hb.cell (p:=⟨b,3,none⟩) hl).trans h.2.2.2.1,(hb.cell (p:=⟨b,4,none⟩) hl).trans h.2.2.2.2.1,(hb.cell (p:=⟨b,5,none⟩) hl).trans h.2.2.2.2.2.1,h.2.2.2.2.2.2.trans (hb.mono h.2.2.2.2.2.2.size)⟩
theorem ltext_any (turn num at' all:Nat) (nm ct:ByteArray) (ht:turn<4294967296) (hn:num<65536) (ha:at'<256) (hl:all<256) (hnm:nm.size=8) (hct:ct.size<=39) (w:World) (hK:Kon w) :
 Calls Tryz.prog 215 #[.agg #[.int .u64 turn,.int .u64 num,.int .i64 at',.int .i64 all,.string nm,.string ct]] w fun e w'=>(∃ t:ByteArray,e=.returned (.string t)/\t.size=64)/\Below w.heap.size w w':=by
 have h4:=Lib.hid (lb4_any turn ht)
 have h2:=Lib.hid (lb2_any num hn)
 have h1:=Lib.hid (lb1_any at' ha)
 have h1':=Lib.hid (lb1_any all hl)
 have h1'':=Lib.hid (lb1_any ct.size (by omega))
 have s4:=bytesTo_size turn 4
 have s2:=bytesTo_size num 2
 have s1:=bytesTo_size at' 1
 have s1':=bytesTo_size all 1
 have s1'':=bytesTo_size ct.size 1
 generalize (⟨(bytesTo turn 4 4).toArray⟩:ByteArray)=T4 at h4 s4
 generalize (⟨(bytesTo num 2 2).toArray⟩:ByteArray)=T2 at h2 s2
 generalize (⟨(bytesTo at' 1 1).toArray⟩:ByteArray)=T1 at h1 s1
 generalize (⟨(bytesTo all 1 1).toArray⟩:ByteArray)=TA at h1' s1'
 generalize (⟨(bytesTo ct.size 1 1).toArray⟩:ByteArray)=TC at h1'' s1''
 have w1:IntKind.u64.wrap (at':Int)=(at':Int):=wrap_u64 _ (by omega) (by omega)
 have w2:IntKind.u64.wrap (all:Int)=(all:Int):=wrap_u64 _ (by omega) (by omega)
 have w3:IntKind.u64.wrap (ct.size:Int)=(ct.size:Int):=wrap_u64 _ (by omega) (by omega)
 have hfit:¬ (9223372036854775807<17+ct.size):=by omega
 have HK:=Lib.hid hK
 clear hK
 go_enter Tryz.func215,Tryz.ntmps215
 go_wp2_with fail
 have hb1:Below w.heap.size w (w.alloc (.cells #[.int .u64 turn,.int .u64 num,.int .i64 at',.int .i64 all,.string nm,.string ct] 310)):=(Below.refl _ _).alloc (Nat.le_refl _) _
 have hk1:(w.alloc (.cells #[.int .u64 turn,.int .u64 num,.int .i64 at',.int .i64 all,.string nm,.string ct] 310)).heap[w.heap.size]?=some (.cells #[.int .u64 turn,.int .u64 num,.int .i64 at',.int .i64 all,.string nm,.string ct] 310 (0,0)):=heap_alloc_new _ _
 generalize (w.alloc (.cells #[.int .u64 turn,.int .u64 num,.int .i64 at',.int .i64 all,.string nm,.string ct] 310))=W1 at hb1 hk1 |-
 have hlt:w.heap.size<W1.heap.size:=(Array.getElem?_eq_some_iff.1 hk1).1
 generalize hpb:w.heap.size=pb at hk1 hlt |-
 have x0:W1.cell? ⟨pb,0,none⟩=some (.int .u64 turn):=cel hk1
 have x1:W1.cell? ⟨pb,1,none⟩=some (.int .u64 num):=cel hk1
 have x2:W1.cell? ⟨pb,2,none⟩=some (.int .i64 at'):=cel hk1
 have x3:W1.cell? ⟨pb,3,none⟩=some (.int .i64 all):=cel hk1
 have x4:W1.cell? ⟨pb,4,none⟩=some (.string nm):=cel hk1
 have x5:W1.cell? ⟨pb,5,none⟩=some (.string ct):=cel hk1
 have hS0:=Lib.hid (keepF hlt (below_drew W1) ⟨x0,x1,x2,x3,x4,x5,Below.refl _ _⟩)
 have hS1:=Lib.hid (fun w4 w5 (hb:Below w4.heap.size w4 w5)=>keepF (x0:=.int .u64 turn) (x1:=.int .u64 num) (x2:=.int .i64 at') (x3:=.int .i64 all) (x4:=.string nm) (x5:=.string ct) hlt hb)
 have HB1:=Lib.hid hb1
 have Hpb:=Lib.hid hpb
 clear x0 x1 x2 x3 x4 x5 hk1 hb1 hpb
 go_region_held3 (fun W=>W.cell? ⟨pb,0,none⟩=some (.int .u64 turn)/\W.cell? ⟨pb,1,none⟩=some (.int .u64 num)/\W.cell? ⟨pb,2,none⟩=some (.int .i64 at')/\W.cell? ⟨pb,3,none⟩=some (.int .i64 all)/\W.cell? ⟨pb,4,none⟩=some (.string nm)/\W.cell? ⟨pb,5,none⟩=some (.string ct)/\Below W1.heap.size W1 W) (first | exact hS0.out | exact hS1.out _ _ hb4 (by assumption) | assumption) (first
  | (go_at_call 243;with_reducible refine (h4.out _).mono ?_;rintro r w4 ⟨rfl,hb4⟩)
  | (go_at_call 243;with_reducible refine (h2.out _).mono ?_;rintro r w4 ⟨rfl,hb4⟩)
  | (go_at_call 243;with_reducible refine (h1.out _).mono ?_;rintro r w4 ⟨rfl,hb4⟩)
  | (go_at_call 243;with_reducible refine (h1'.out _).mono ?_;rintro r w4 ⟨rfl,hb4⟩)
  | (go_at_call 243;with_reducible refine (h1''.out _).mono ?_;rintro r w4 ⟨rfl,hb4⟩))
 rename_i hHeld
 have hbW:=HB1.out.trans (hHeld.2.2.2.2.2.2.mono (by rw [Hpb.out];omega))
 have hSz:(T4++T2++T1++TA++TC++nm++ct).size=17+ct.size:=by simp only [ByteArray.size_append];omega
 generalize T4++T2++T1++TA++TC++nm++ct=S at hSz |-
 obtain ⟨m,hm⟩:∃ m,m=56 - S.size:=⟨_,rfl⟩
 have hm0:(56:Int) - (S.size:Int)=(m:Int):=by omega
 have hm1:IntKind.i64.wrap (m:Int)=(m:Int):=IntWalk.i64_in _ (by omega)
 have hzm:(zsn m).size=m:=by simp [zsn,ByteArray.size]
 have hSm:(S++zsn m).size=56:=by simp only [ByteArray.size_append];omega
 have hfit2:¬ (9223372036854775807<S.size+(zsn m).size):=by omega
 have hrep:=zeros_n m w4 (by omega)
 have HZ:=Lib.hid hSm
 clear hHeld h4 h2 h1 h1' h1'' s4 s2 s1 s1' s1'' w1 w2 w3 hfit hS0 hS1 hSz hm hzm hlt hSm
 go_wp2_with fail
 refine hrep.mono ?_
 rintro e w5 ⟨rfl,hb5⟩
 have hSm:=HZ.out
 have hb5':=hbW.trans (hb5.mono hbW.size)
 go_wp2_with fail
 clear hfit2 hm0 hm1 hrep
 generalize S++zsn m=U at hSm |-
 refine (lsum_any U (by omega) w5 (HK.out.old hb5')).mono ?_
 rintro e w6 ⟨rfl,hb6⟩
 have hT8:=tag_half 8 [U.data.toList]
 generalize (⟨((tagOf 8 [U.data.toList]).take 8).toArray⟩:ByteArray)=T8 at hT8 |-
 have hUT:(U++T8).size=64:=by simp only [ByteArray.size_append];omega
 have HUT:=Lib.hid hUT
 clear hUT
 go_wp2
 go_ret
 exact ⟨⟨_,rfl,HUT.out⟩,hb5'.trans (hb6.mono hb5'.size)⟩
def Rd (w:World) (b:Nat) (s:ByteArray) (bad:Int):Prop:=w.heap[b]?=some (.cells #[.string s,.int .i64 bad] 284)
theorem Rd.s {w:World} {b:Nat} {s:ByteArray} {bad:Int} (h:Rd w b s bad):w.cell? ⟨b,0,none⟩=some (.string s):=by rw [cell_of_row w b 0 _ _ _ h];rfl
theorem Rd.e {w:World} {b:Nat} {s:ByteArray} {bad:Int} (h:Rd w b s bad):w.cell? ⟨b,1,none⟩=some (.int .i64 bad):=by rw [cell_of_row w b 1 _ _ _ h];rfl
theorem Rd.fr {w:World} {b:Nat} {s:ByteArray} {bad:Int} (h:Rd w b s bad) (i:Nat):w.frozen? ⟨b,i,none⟩=false:=frozen_of_row w b i _ _ h
theorem Rd.set_e {w:World} {b:Nat} {s:ByteArray} {bad:Int} (h:Rd w b s bad) (z:Int):Rd (w.setCell ⟨b,1,none⟩ (.int .i64 z)) b s z:=heap_setCell_same w b 1 _ _ _ h
theorem Rd.set_s {w:World} {b:Nat} {s:ByteArray} {bad:Int} (h:Rd w b s bad) (t:ByteArray):Rd (w.setCell ⟨b,0,none⟩ (.string t)) b t bad:=heap_setCell_same w b 0 _ _ _ h
theorem Rd.touch {w w':World} {b:Nat} {s:ByteArray} {bad:Int} {S:Nat->Prop} (h:Rd w b s bad) (ht:Touch S w w') (hs:¬ S b):Rd w' b s bad:=ht.heap h hs
def rdForm (bad:Int):Int:=if bad=0 then 4 else bad
theorem beq_false_of {a b:Int} (h:a≠b):(a==b)=false:=beq_eq_false_iff_ne.2 h
theorem form_any (b:Nat) (s:ByteArray) (bad:Int) (w:World) (h:Rd w b s bad) :
 Calls Tryz.prog 187 #[.pointer (some ⟨b,0,none⟩)] w fun e w'=>e=.returned (.tuple #[])/\Rd w' b s (rdForm bad)/\Touch (·=b) w w':=by
 have he:=h.e
 have hf:=h.fr 1
 by_cases hb:bad=0
 · subst hb
   go_enter Tryz.func187,Tryz.ntmps187
   go_wp2
   go_end0
   exact ⟨rfl,h.set_e 4,Touch.setCell _ _ _ rfl⟩
 · have hb':=beq_false_of hb
   have H:=Lib.hid (show rdForm bad=bad from if_neg hb)
   clear hb
   go_enter Tryz.func187,Tryz.ntmps187
   go_wp2
   go_end0
   exact ⟨rfl,by rw [H.out];exact h,Touch.refl _ _⟩
def tkT (s:ByteArray) (bad:Int) (n:Nat):ByteArray:=if bad=0/\n<=s.size then s.extract 0 n else ⟨#[]⟩
def tkOk (s:ByteArray) (bad:Int) (n:Nat):Bool:=decide (bad=0/\n<=s.size)
def tkS (s:ByteArray) (bad:Int) (n:Nat):ByteArray:=if bad=0/\n<=s.size then s.extract n s.size else s
def tkE (s:ByteArray) (bad:Int) (n:Nat):Int:=if bad=0 then if n<=s.size then 0 else 3 else bad
theorem take_any (b:Nat) (s:ByteArray) (bad:Int) (n:Nat) (w:World) (h:Rd w b s bad) :
 Calls Tryz.prog 188 #[.pointer (some ⟨b,0,none⟩),.int .i64 n] w fun e w'=>e=.returned (.tuple #[.string (tkT s bad n),.bool (tkOk s bad n)])/\Rd w' b (tkS s bad n) (tkE s bad n)/\Touch (·=b) w w':=by
 have hc:=h.s
 have he:=h.e
 have hf0:=h.fr 0
 have hf1:=h.fr 1
 by_cases hb:bad=0
 · by_cases hn:n<=s.size
   · have H1:=Lib.hid (show tkT s bad n=s.extract 0 n from if_pos ⟨hb,hn⟩)
     have H2:=Lib.hid (show tkOk s bad n=true from decide_eq_true ⟨hb,hn⟩)
     have H3:=Lib.hid (show tkS s bad n=s.extract n s.size from if_pos ⟨hb,hn⟩)
     have H4:=Lib.hid (show tkE s bad n=0 by unfold tkE;rw [if_pos hb,if_pos hn])
     subst hb
     go_enter Tryz.func188,Tryz.ntmps188
     go_wp2
     go_ret2
     exact ⟨by rw [H1.out,H2.out];rfl,by rw [H3.out,H4.out];exact h.set_s _,Touch.setCell _ _ _ rfl⟩
   · have H1:=Lib.hid (show tkT s bad n=⟨#[]⟩ from if_neg (fun h=>hn h.2))
     have H2:=Lib.hid (show tkOk s bad n=false from decide_eq_false (fun h=>hn h.2))
     have H3:=Lib.hid (show tkS s bad n=s from if_neg (fun h=>hn h.2))
     have H4:=Lib.hid (show tkE s bad n=3 by unfold tkE;rw [if_pos hb,if_neg hn])
     subst hb
     go_enter Tryz.func188,Tryz.ntmps188
     go_wp2
     go_ret2
     exact ⟨by rw [H1.out,H2.out];rfl,by rw [H3.out,H4.out];exact h.set_e _,Touch.setCell _ _ _ rfl⟩
 · have H1:=Lib.hid (show tkT s bad n=⟨#[]⟩ from if_neg (fun h=>hb h.1))
   have H2:=Lib.hid (show tkOk s bad n=false from decide_eq_false (fun h=>hb h.1))
   have H3:=Lib.hid (show tkS s bad n=s from if_neg (fun h=>hb h.1))
   have H4:=Lib.hid (show tkE s bad n=bad from if_neg hb)
   have hb':(bad != 0)=true:=bne_iff_ne.2 hb
   clear hb
   go_enter Tryz.func188,Tryz.ntmps188
   go_wp2
   go_ret2
   exact ⟨by rw [H1.out,H2.out];rfl,by rw [H3.out,H4.out];exact h,Touch.refl _ _⟩
def numTo (s:ByteArray):Nat->Nat
 | 0=>0
 | k+1=>256*numTo s k+(s.data.toList.getD k 0).toNat
theorem numTo_bd (s:ByteArray) (k:Nat):numTo s k<256^k:=by
 induction k with
 | zero=>simp [numTo]
 | succ k ih=>
   have:=(s.data.toList.getD k 0).toNat_lt
   simp only [numTo,Nat.pow_succ];omega
def nmN (s:ByteArray) (bad:Int) (z:Int):Nat:=if 1<=z/\z<=8 then numTo (tkT s bad z.toNat) (tkT s bad z.toNat).size else 0
def nmS (s:ByteArray) (bad:Int) (z:Int):ByteArray:=if 1<=z/\z<=8 then tkS s bad z.toNat else s
def nmE (s:ByteArray) (bad:Int) (z:Int):Int:=if 1<=z/\z<=8 then tkE s bad z.toNat else rdForm bad
theorem tkT_size (s:ByteArray) (bad:Int) (n:Nat):(tkT s bad n).size<=n:=by
 unfold tkT
 by_cases h:bad=0/\n<=s.size
 · rw [if_pos h];simp;omega
 · rw [if_neg h];exact Nat.zero_le _
theorem rdNum_in (b:Nat) (s:ByteArray) (bad:Int) (z:Nat) (w:World) (h:Rd w b s bad) (h1:1<=z) (h8:z<=8) :
 Calls Tryz.prog 143 #[.pointer (some ⟨b,0,none⟩),.int .i64 z] w fun e w'=>e=.returned (.int .u64 (numTo (tkT s bad z) (tkT s bad z).size))/\Rd w' b (tkS s bad z) (tkE s bad z)/\Touch (·=b) w w':=by
 have hts:=tkT_size s bad z
 go_enter Tryz.func143,Tryz.ntmps143
 go_wp2_with fail
 refine (take_any b s bad z _ h).mono ?_
 rintro e w1 ⟨rfl,hr,ht⟩
 obtain ⟨t,ht0⟩:∃ t,t=tkT s bad z:=⟨_,rfl⟩
 rw [<-ht0] at hts |-
 have HT:=Lib.hid ht0
 clear ht0
 go_wp2_with fail
 go_loop [7,25] (fun n i=>∃ k:Nat,k<=t.size/\i=.int .i64 k/\n=.int .u64 (numTo t k)) (fun _ i=>t.size - (intOf i).toNat)
 case atStart=>exact ⟨0,Nat.zero_le _,rfl,rfl⟩
 case round=>
  obtain ⟨k,hk,rfl,rfl⟩:=hrel
  by_cases hlt:k<t.size
  · have hb:=numTo_bd t k
    have hp:256^k<=256^7:=Nat.pow_le_pow_right (by decide) (by omega)
    have hn:numTo t k<72057594037927936:=by have e:256^7=72057594037927936:=by decide
                                            omega
    clear hb hp
    have hB:=u64_shiftIn (numTo t k) (t[k]).toNat hn (t[k]).toNat_lt
    have e3:t.data.toList.getD k 0=t[k]:=by
     rw [List.getD_eq_getElem?_getD,List.getElem?_eq_getElem (by simpa using hlt)];rfl
    have Hs:=Lib.hid (show numTo t (k+1)=256*numTo t k+(t[k]).toNat by rw [numTo,e3])
    clear e3 hn
    have HB:=Lib.hid hB
    clear hB
    go_wp2
    go_round
    case rel=>exact ⟨k+1,by omega,by go_num,by rw [HB.out,Hs.out]⟩
    case measure=>simp [intOf];omega
  · obtain rfl:k=t.size:=by omega
    go_wp2
    go_ret
    exact ⟨by rw [<-HT.out];rfl,hr,ht⟩
theorem rdNum_out (b:Nat) (s:ByteArray) (bad:Int) (z:Int) (w:World) (h:Rd w b s bad) (hz:z<1\/8<z) :
 Calls Tryz.prog 143 #[.pointer (some ⟨b,0,none⟩),.int .i64 z] w fun e w'=>e=.returned (.int .u64 0)/\Rd w' b s (rdForm bad)/\Touch (·=b) w w':=by
 have hcases:z<1\/(1<=z/\8<z):=by omega
 clear hz
 rcases hcases with hz | ⟨h1,hz⟩
 all_goals
  go_enter Tryz.func143,Tryz.ntmps143
  go_wp2_with fail
  refine (form_any b s bad _ h).mono ?_
  rintro e w1 ⟨rfl,hr,ht⟩
  go_wp2
  go_ret
  exact ⟨rfl,hr,ht⟩
theorem rdNum_any (b:Nat) (s:ByteArray) (bad:Int) (z:Int) (w:World) (h:Rd w b s bad) :
 Calls Tryz.prog 143 #[.pointer (some ⟨b,0,none⟩),.int .i64 z] w fun e w'=>e=.returned (.int .u64 (nmN s bad z))/\Rd w' b (nmS s bad z) (nmE s bad z)/\Touch (·=b) w w':=by
 unfold nmN nmS nmE
 by_cases hz:1<=z/\z<=8
 · rw [if_pos hz,if_pos hz,if_pos hz]
   obtain ⟨k,rfl⟩:=Int.eq_ofNat_of_zero_le (show 0<=z by omega)
   exact rdNum_in b s bad k w h (by omega) (by omega)
 · rw [if_neg hz,if_neg hz,if_neg hz]
   exact rdNum_out b s bad z w h (by omega)
def fxT (s:ByteArray) (bad:Int) (z:Int):ByteArray:=if 0<=z then tkT s bad z.toNat else ⟨#[]⟩
def fxS (s:ByteArray) (bad:Int) (z:Int):ByteArray:=if 0<=z then tkS s bad z.toNat else s
def fxE (s:ByteArray) (bad:Int) (z:Int):Int:=if 0<=z then tkE s bad z.toNat else rdForm bad
theorem fixed_any (b:Nat) (s:ByteArray) (bad:Int) (z:Int) (w:World) (h:Rd w b s bad) :
 Calls Tryz.prog 210 #[.pointer (some ⟨b,0,none⟩),.int .i64 z] w fun e w'=>e=.returned (.string (fxT s bad z))/\Rd w' b (fxS s bad z) (fxE s bad z)/\Touch (·=b) w w':=by
 unfold fxT fxS fxE
 by_cases hz:0<=z
 · rw [if_pos hz,if_pos hz,if_pos hz]
   obtain ⟨k,rfl⟩:=Int.eq_ofNat_of_zero_le hz
   go_enter Tryz.func210,Tryz.ntmps210
   go_wp2_with fail
   refine (take_any b s bad k _ h).mono ?_
   rintro e w1 ⟨rfl,hr,ht⟩
   go_wp2
   go_ret
   exact ⟨rfl,hr,ht⟩
 · rw [if_neg hz,if_neg hz,if_neg hz]
   go_enter Tryz.func210,Tryz.ntmps210
   go_wp2_with fail
   refine (form_any b s bad _ h).mono ?_
   rintro e w1 ⟨rfl,hr,ht⟩
   go_wp2
   go_ret
   exact ⟨rfl,hr,ht⟩
theorem read_any (s:ByteArray) (w:World) :
 Calls Tryz.prog 142 #[.string s] w fun e w'=>e=.returned (.pointer (some ⟨w.heap.size,0,none⟩))/\Rd w' w.heap.size s 0/\Touch (fun _=>False) w w':=by
 go_enter Tryz.func142,Tryz.ntmps142
 go_wp2
 go_ret
 exact ⟨rfl,heap_alloc_new _ _,Touch.alloc _ _⟩
end Go.Proofs.YtcgkomafaepjnaaGreatDoor
