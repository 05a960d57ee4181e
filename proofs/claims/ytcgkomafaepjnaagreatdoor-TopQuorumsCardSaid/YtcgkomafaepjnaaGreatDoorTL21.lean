/- Package server: what waits. Conditions: less than a hundred of it. -/
import Derived.Test.YtcgkomafaepjnaaGreatDoorTL20
import Derived.Test.YtcgkomafaepjnaaGreatDoorTL12
import Derived.Test.YtcgkomafaepjnaaGreatDoorTL16
import Derived.Test.YtcgkomafaepjnaaGreatDoorTL17
import Derived.Test.YtcgkomafaepjnaaGreatDoorTL15
import Derived.Test.YtcgkomafaepjnaaGreatDoorTL11
import Derived.Test.YtcgkomafaepjnaaGreatDoorTL14
set_option maxRecDepth 100000
set_option maxHeartbeats 16000000
namespace Go.Proofs.YtcgkomafaepjnaaGreatDoor
open Go.RowKit
theorem own_ne {w:World} {j B:Nat} {e t:TypeId} {size n:Nat} {v:Value} {xs:List Value} {cs:Array Value} {f:Nat×Nat} (h:w.ownsRow B e size v n xs) (hj:w.heap[j]?=some (.cells cs t f)) (ht:e≠t):∀ k,v.ownBlock=some k->k≠j:=by
 rintro k hk rfl
 rcases h.2 with ⟨rfl,_⟩ | ⟨g,cap,cur,rfl,hB,hg,_⟩
 · cases hk
 · have e1:g=k:=by simpa [Value.ownBlock] using hk
   subst e1
   exact row_ne hg hj ht rfl
theorem Tryz.infoChg:(Tryz.prog.info? 38).map (fun i=>(i.zero,i.size,i.bytes))=some (some (.agg #[.string .empty,.string .empty]),2,32):=by kernel_rfl
theorem Tryz.infoHdr:(Tryz.prog.info? 69).map (fun i=>(i.zero,i.size,i.bytes))=some (some (.agg #[.int .u64 0,.string .empty,.int .i64 0,.int .i64 0,.slice none 0 0]),5,64):=by kernel_rfl
theorem Tryz.infoTreeP:(Tryz.prog.info? 24).map (fun i=>(i.zero,i.size,i.bytes))=some (some (.pointer none),1,8):=by kernel_rfl
theorem swait_any (p:Nat) (x0 x1 x2 x3 x4 x5 x6 cv nv x9 x10:Value) (n B:Nat) (cl nl:List Value) (note kk vv:ByteArray) (w:World) (hS:SrvAt w p x0 x1 x2 x3 x4 x5 x6 cv nv x9 x10) (hoc:w.ownsRow B 38 2 cv n cl) (hon:w.ownsRow B 9 1 nv n nl) (hn:n<100) (hB:B<=w.heap.size) :
 Calls Tryz.prog 118 #[.pointer (some ⟨p,0,none⟩),.string note,.agg #[.string kk,.string vv]] w fun e w'=>e=.returned (.tuple #[])/\∃ cv' nv',SrvAt w' p x0 x1 x2 x3 x4 x5 x6 cv' nv' x9 x10/\w'.ownsRow B 38 2 cv' (n+1) (cl++[.string kk,.string vv])/\w'.ownsRow B 9 1 nv' (n+1) (nl++[.string note])/\(∀ j,cv'.ownBlock=some j->cv.ownBlock=some j\/w.heap.size<=j)/\(∀ j,nv'.ownBlock=some j->nv.ownBlock=some j\/w.heap.size<=j)/\Touch (fun j=>j=p\/cv.ownBlock=some j\/nv.ownBlock=some j) w w':=by
 obtain ⟨i0,hi0,hz0,hz1,hz2⟩:=info_parts Tryz.infoStr
 obtain ⟨i1,hi1,hy0,hy1,hy2⟩:=info_parts Tryz.infoChg
 obtain ⟨ca,cc,rfl⟩:=own_slice hoc
 obtain ⟨na,nc,rfl⟩:=own_slice hon
 have hneC:=own_ne hoc hS (by decide)
 have hneN:=own_ne hon hS (by decide)
 have hneCN:∀ k,(Value.slice ca n cc).ownBlock=some k->¬ (Value.slice na n nc).ownBlock=some k:=by
  intro k hk hk'
  rcases hon.2 with ⟨h,_⟩ | ⟨g,cap,cur,h,_,hg,_⟩
  · rw [h] at hk';cases hk'
  · have e1:g=k:=by rw [h] at hk';simpa [Value.ownBlock] using hk'
    subst e1
    exact own_ne hoc hg (by decide) g hk rfl
 have hlt:=lt_of_heap hS
 have hb1:Below w.heap.size w (w.alloc (.cells #[.string kk,.string vv] 38)):=(Below.refl _ _).alloc (Nat.le_refl _) _
 have hrow1:(w.alloc (.cells #[.string kk,.string vv] 38)).heap[w.heap.size]?=some (.cells #[.string kk,.string vv] 38 (0,0)):=heap_alloc_new _ _
 have d8:(w.alloc (.cells #[.string kk,.string vv] 38)).cell? ⟨p,8,none⟩=some (.slice na n nc):=(hb1.cell (p:=⟨p,8,none⟩) hlt).trans (cel hS)
 have HS:=Lib.hid hS
 have HOC:=Lib.hid hoc
 have HON:=Lib.hid hon
 have HB1:=Lib.hid hb1
 have HR1:=Lib.hid hrow1
 have HNE:=Lib.hid (And.intro hneC (And.intro hneN hneCN))
 clear hS hoc hon hb1 hrow1 hneC hneN hneCN
 go_enter Tryz.func118,Tryz.ntmps118
 go_wp2_with (at_builtin;refine Hid.out ?_)
 unfold Hid
 refine wpList_append_lies _ rfl _ _ _ rfl B 9 i0 _ 1 16 Tryz.underlying31 hi0 hz0 hz1 hz2 rfl (by decide) (.slice na n nc) n nl rfl ((HON.out.alloc _).alloc _) ⟨w.heap.size+1,0,none⟩ 1 1 [.string note] rfl rfl (World.news_of_block (cs:=#[.string note]) (t:=9) (fr:=(0,0)) (heap_alloc2_new _ _ _)) (by simp [Value.oneCell']) (by decide) (by unfold maxLen;omega) (by omega) (by simp;omega) (w.heap.size+2) (by simp) ?_
 intro gn capn w3 ho3 hg3 hat3 hlt3
 have hT3:Touch (fun k=>some k=(Value.slice na n nc).ownBlock) w w3:=(Touch.alloc w _).trans ((Touch.alloc _ _).trans (Touch.grown hg3))
 have hk3:=hT3.heap HS.out (fun e=>HNE.out.2.1 p e.symm rfl)
 have hr3:w3.heap[w.heap.size]?=some (.cells #[.string kk,.string vv] 38 (0,0)):=by
  refine (Touch.grown hg3).heap ((Below.heap_alloc _ _ _ (lt_of_heap HR1.out)).trans HR1.out) (fun e=>?_)
  have:=(HON.out.lt _ e.symm).2;omega
 have hgnp:gn≠p:=by
  rcases hat3 with h1 | h1
  · exact HNE.out.2.1 gn h1
  · omega
 have hgnw:gn≠w.heap.size:=by
  rcases hat3 with h1 | h1
  · have:=(HON.out.lt _ h1).2;omega
  · omega
 have z8:w3.cell? ⟨p,8,none⟩=some (.slice na n nc):=cel hk3
 have z8f:w3.frozen? ⟨p,8,none⟩=false:=frozen_of_row _ _ 8 _ _ hk3
 have HK3:=Lib.hid (And.intro hk3 (And.intro hr3 (And.intro hT3 ho3)))
 clear hk3 hr3 hT3 ho3 hg3 d8
 go_wp2_with fail
 clear z8 z8f
 obtain ⟨hk3,hr3,hT3,ho3⟩:=HK3.out
 have hT4:Touch (fun j=>j=p) w3 (w3.setCell ⟨p,8,none⟩ (.slice (some ⟨gn,0,none⟩) (n+1) capn)):=Touch.setCell (S:=fun j=>j=p) w3 ⟨p,8,none⟩ _ rfl
 have hk4:=heap_setCell_same w3 p 8 _ _ (.slice (some ⟨gn,0,none⟩) (n+1) capn) hk3
 have hr4:=hT4.heap hr3 (fun e=>by omega)
 have ho4:=hT4.own ho3 (fun j hj e=>by have h2:some gn=some j:=hj;injection h2 with h2;omega)
 have hTw4:Touch (fun j=>j=p\/some j=(Value.slice na n nc).ownBlock) w (w3.setCell ⟨p,8,none⟩ (.slice (some ⟨gn,0,none⟩) (n+1) capn)):=(hT3.mono (fun j h=>.inl (.inr h))).trans (hT4.mono (fun j h=>.inl (.inl h)))
 generalize (w3.setCell ⟨p,8,none⟩ (.slice (some ⟨gn,0,none⟩) (n+1) capn))=W4 at hT4 hk4 hr4 ho4 hTw4 |-
 have hk4:SrvAt W4 p x0 x1 x2 x3 x4 x5 x6 (.slice ca n cc) (.slice (some ⟨gn,0,none⟩) (n+1) capn) x9 x10:=hk4
 have hoc4:=hTw4.own HOC.out (fun j hj e=>e.elim (fun e=>HNE.out.1 j hj e) (fun e=>HNE.out.2.2 j hj e.symm))
 have hltp:=lt_of_heap hk4
 have y0:W4.cell? ⟨w.heap.size,0,none⟩=some (.string kk):=cel hr4
 have y1:W4.cell? ⟨w.heap.size,1,none⟩=some (.string vv):=cel hr4
 have z7:W4.cell? ⟨p,7,none⟩=some (.slice ca n cc):=cel hk4
 have z7f:W4.frozen? ⟨p,7,none⟩=false:=frozen_of_row _ _ 7 _ _ hk4
 have z7a:∀ ob:Obj,(W4.alloc ob).cell? ⟨p,7,none⟩=some (.slice ca n cc):=fun ob=>(((Below.refl W4.heap.size W4).alloc (Nat.le_refl _) ob).cell (p:=⟨p,7,none⟩) hltp).trans z7
 have z7fa:∀ ob:Obj,(W4.alloc ob).frozen? ⟨p,7,none⟩=false:=fun ob=>(((Below.refl W4.heap.size W4).alloc (Nat.le_refl _) ob).frozen (p:=⟨p,7,none⟩) hltp).trans z7f
 have hneS:(Value.slice ca n cc).ownBlock≠some p:=fun e=>HNE.out.1 p e rfl
 have HOC4:=Lib.hid (show W4.drew.ownsRow B 38 2 (.slice ca n cc) n cl from hoc4)
 have HK4:=Lib.hid (And.intro hk4 (And.intro ho4 hTw4))
 have hBW:B<=W4.heap.size:=by have:=hTw4.size;omega
 have hwW:w.heap.size<=W4.heap.size:=hTw4.size
 have hCN:∀ j,(Value.slice ca n cc).ownBlock=some j->j≠gn:=by
  intro j hj e
  rcases hat3 with h1 | h1
  · exact HNE.out.2.2 j hj (by rw [h1,e])
  · have:=(HOC.out.lt _ hj).2;omega
 have HCN:=Lib.hid hCN
 have hw3W:w3.heap.size<=W4.heap.size:=hT4.size
 clear hk4 ho4 hTw4 hoc4 hr4 hT4 hk3 hr3 hT3 ho3 hCN
 go_region_law (first
  | (refine step_append_lies _ (by rfl) _ _ _ (by rfl) B 38 i1 _ 2 32 Tryz.underlying35 hi1 hy0 hy1 hy2 rfl (by omega) (.slice ca n cc) n cl (by rfl) (HOC4.out.alloc _) ⟨W4.heap.size,0,none⟩ 1 1 [.string kk,.string vv] (by rfl) (by rfl) (World.news_of_block (cs:=#[.string kk,.string vv]) (t:=38) (fr:=(0,0)) (heap_alloc_new W4.drew _)) (by simp [Value.oneCell']) (by omega) (by unfold maxLen;omega) (by omega) (by simp;omega) (W4.heap.size+1) (by simp) ?_;intro gg cap2 w6 ho6 hg6 hat hlt6;obtain ⟨z6,z6f⟩:=keepR (W:=(W4.alloc (.cells #[.string kk,.string vv] 38)).drew) (z7a _) (z7fa _) hg6 hneS))
 all_goals
  obtain ⟨hk4,ho4,hTw4⟩:=HK4.out
  have hT6:Touch (fun j=>some j=(Value.slice ca n cc).ownBlock) W4 w6:=(Touch.alloc W4 _).trans ((Touch.drewN _ 1).trans (Touch.grown hg6))
  have hk6:=hT6.heap hk4 (fun e=>hneS e.symm)
  have hgp:gg≠p:=by
   rcases hat with h1 | h1
   · exact fun e=>hneS (by rw [h1,e])
   · omega
  have hT7:Touch (fun j=>j=p) w6 (w6.setCell ⟨p,7,none⟩ (.slice (some ⟨gg,0,none⟩) (n+1) cap2)):=Touch.setCell (S:=fun j=>j=p) _ ⟨p,7,none⟩ _ rfl
  have hk7:=heap_setCell_same w6 p 7 _ _ (.slice (some ⟨gg,0,none⟩) (n+1) cap2) hk6
  have ho7:=hT7.own ho6 (fun j hj e=>by have h2:some gg=some j:=hj;injection h2 with h2;omega)
  have hon7:=hT7.own (hT6.own ho4 (fun j hj e=>by have h2:some gn=some j:=hj;injection h2 with h2;exact HCN.out j e.symm h2.symm)) (fun j hj e=>by have h2:some gn=some j:=hj;injection h2 with h2;omega)
  have hT:Touch (fun j=>j=p\/(Value.slice ca n cc).ownBlock=some j\/(Value.slice na n nc).ownBlock=some j) w (w6.setCell ⟨p,7,none⟩ (.slice (some ⟨gg,0,none⟩) (n+1) cap2)):=
   (hTw4.mono (fun j h=>.inl (h.imp id (fun h=>.inr h.symm)))).trans ((hT6.mono (fun j h=>.inl (.inr (.inl h.symm)))).trans (hT7.mono (fun j h=>.inl (.inl h))))
  have HF:=Lib.hid (And.intro hk7 (And.intro ho7 (And.intro hon7 hT)))
  have hat':=Lib.hid hat
  have hat3':=Lib.hid hat3
  clear hk4 ho4 hTw4 hT6 hk6 hT7 hk7 ho7 hon7 hT ho6 hg6 hat hat3 z6 z6f z7 z7f z7a z7fa y0 y1
  go_wp2
  go_end0
  refine ⟨rfl,_,_,HF.out.1,HF.out.2.1,HF.out.2.2.1,fun j hj=>?_,fun j hj=>?_,HF.out.2.2.2⟩
  · have h2:some gg=some j:=hj
    injection h2 with h2
    subst h2
    rcases hat'.out with h1 | h1
    · exact .inl h1
    · exact .inr (by omega)
  · have h2:some gn=some j:=hj
    injection h2 with h2
    subst h2
    rcases hat3'.out with h1 | h1
    · exact .inl h1
    · exact .inr (by omega)
theorem sadd_any (p d tp tb xr n k B:Nat) (x1 x2 x3 x4 x5 x7 x8 tv hv:Value) (ra:Option Addr) (rc:Nat) (tl hl:List Value) (m:Puts) (par:List UInt8) (w:World) (hS:SrvAt w p (.int .i64 d) x1 x2 x3 x4 x5 (.pointer (some ⟨xr,0,none⟩)) x7 x8 tv hv) (hr:RosAt w xr (.slice ra n rc)) (ht:TreeAt w tp tb m) (hd:d<=3) (hK:Kon w)
 (hot:w.ownsRow B 24 1 tv k tl) (hoh:w.ownsRow B 69 5 hv k hl) (hk:k<100) (hB:B<=w.heap.size) :
 Calls Tryz.prog 111 #[.pointer (some ⟨p,0,none⟩),.pointer (some ⟨tp,0,none⟩),.string ⟨par.toArray⟩] w fun e w'=>e=.returned (.tuple #[])/\∃ tv' hv' a c,SrvAt w' p (.int .i64 d) x1 x2 x3 x4 x5 (.pointer (some ⟨xr,0,none⟩)) x7 x8 tv' hv'/\w'.ownsRow B 24 1 tv' (k+1) (tl++[.pointer (some ⟨tp,0,none⟩)])/\w'.ownsRow B 69 5 hv' (k+1) (hl++[.int .u64 k,.string ⟨par.toArray⟩,.int .i64 d,.int .i64 n,.slice a (2^d) c])/\w'.ownsRow w.heap.size 9 1 (.slice a (2^d) c) (2^d) ((hs.level m d).map encStr)/\(∀ j,tv'.ownBlock=some j->tv.ownBlock=some j\/w.heap.size<=j)/\(∀ j,hv'.ownBlock=some j->hv.ownBlock=some j\/w.heap.size<=j)/\Touch (fun j=>j=p\/tv.ownBlock=some j\/hv.ownBlock=some j) w w':=by
 obtain ⟨i0,hi0,hz0,hz1,hz2⟩:=info_parts Tryz.infoTreeP
 obtain ⟨i1,hi1,hy0,hy1,hy2⟩:=info_parts Tryz.infoHdr
 obtain ⟨ta,tc,rfl⟩:=own_slice hot
 obtain ⟨ha,hc,rfl⟩:=own_slice hoh
 have hneT:=own_ne hot hS (by decide)
 have hneH:=own_ne hoh hS (by decide)
 have hneTr:=own_ne hot hr (by decide)
 have hneHr:=own_ne hoh hr (by decide)
 have hneTH:∀ j,(Value.slice ta k tc).ownBlock=some j->¬ (Value.slice ha k hc).ownBlock=some j:=by
  intro j hj hj'
  rcases hoh.2 with ⟨h,_⟩ | ⟨g,cap,cur,h,_,hg,_⟩
  · rw [h] at hj';cases hj'
  · have e1:g=j:=by rw [h] at hj';simpa [Value.ownBlock] using hj'
    subst e1
    exact own_ne hot hg (by decide) g hj rfl
 have hxp:xr≠p:=row_ne hr hS (by decide)
 have hlt:=lt_of_heap hS
 have d0:w.cell? ⟨p,0,none⟩=some (.int .i64 d):=cel hS
 have hcall:=Lib.hid (bnodes_any tp tb m d w ht hK hd)
 have HS:=Lib.hid hS
 have HR:=Lib.hid hr
 have HOT:=Lib.hid hot
 have HOH:=Lib.hid hoh
 have HNE:=Lib.hid (And.intro hneT (And.intro hneH (And.intro hneTH (And.intro hneTr hneHr))))
 generalize hlv:(hs.level m d).map encStr=lv at hcall |-
 generalize hdn:2^d=D at hcall |-
 clear hS hr hot hoh hneT hneH hneTr hneHr hneTH ht hK hlv hdn
 go_enter Tryz.func111,Tryz.ntmps111
 go_wp2_with fail
 refine hcall.out.mono ?_
 clear hcall d0
 rintro e w1 ⟨v,rfl,hov,hb1⟩
 obtain ⟨a,c,rfl⟩:=own_slice hov
 have hs1:=hb1.size
 have hk1:=(hb1.block _ hlt).trans HS.out
 have d9:w1.cell? ⟨p,9,none⟩=some (.slice ta k tc):=cel hk1
 have hot1:=(Touch.of_below hb1 (fun _=>False)).own HOT.out (fun _ _ h=>h)
 have HOV:=Lib.hid hov
 have HB1:=Lib.hid hb1
 have HK1:=Lib.hid hk1
 have HOT1:=Lib.hid hot1
 clear hov hb1 hk1 hot1
 go_wp2_with (at_builtin;refine Hid.out ?_)
 unfold Hid
 refine wpList_append_lies _ rfl _ _ _ rfl B 24 i0 _ 1 8 Tryz.underlying152 hi0 hz0 hz1 hz2 rfl (by decide) (.slice ta k tc) k tl rfl (HOT1.out.alloc _) ⟨w1.heap.size,0,none⟩ 1 1 [.pointer (some ⟨tp,0,none⟩)] rfl rfl (World.news_of_block (cs:=#[.pointer (some ⟨tp,0,none⟩)]) (t:=24) (fr:=(0,0)) (heap_alloc_new _ _)) (by simp [Value.oneCell']) (by decide) (by unfold maxLen;omega) (by omega) (by simp;omega) (w1.heap.size+1) (by simp) ?_
 intro gt capt w3 ho3 hg3 hat3 hlt3
 have hT3:Touch (fun j=>some j=(Value.slice ta k tc).ownBlock) w1 w3:=(Touch.alloc w1 _).trans (Touch.grown hg3)
 have hk3:=hT3.heap HK1.out (fun e=>HNE.out.1 p e.symm rfl)
 have hgp:gt≠p:=by
  rcases hat3 with h1 | h1
  · exact HNE.out.1 gt h1
  · omega
 have z9:w3.cell? ⟨p,9,none⟩=some (.slice ta k tc):=cel hk3
 have z9f:w3.frozen? ⟨p,9,none⟩=false:=frozen_of_row _ _ 9 _ _ hk3
 have HK3:=Lib.hid (And.intro hk3 (And.intro hT3 ho3))
 clear hk3 hT3 ho3 hg3 d9
 go_wp2_with fail
 clear z9 z9f
 obtain ⟨hk3,hT3,ho3⟩:=HK3.out
 have hT4:Touch (fun j=>j=p) w3 (w3.setCell ⟨p,9,none⟩ (.slice (some ⟨gt,0,none⟩) (k+1) capt)):=Touch.setCell (S:=fun j=>j=p) w3 ⟨p,9,none⟩ _ rfl
 have hk4:=heap_setCell_same w3 p 9 _ _ (.slice (some ⟨gt,0,none⟩) (k+1) capt) hk3
 have ho4:=hT4.own ho3 (fun j hj e=>by have h2:some gt=some j:=hj;injection h2 with h2;omega)
 have hT14:Touch (fun j=>j=p\/some j=(Value.slice ta k tc).ownBlock) w1 (w3.setCell ⟨p,9,none⟩ (.slice (some ⟨gt,0,none⟩) (k+1) capt)):=(hT3.mono (fun j h=>.inl (.inr h))).trans (hT4.mono (fun j h=>.inl (.inl h)))
 generalize (w3.setCell ⟨p,9,none⟩ (.slice (some ⟨gt,0,none⟩) (k+1) capt))=W4 at hT4 hk4 ho4 hT14 |-
 have hk4:SrvAt W4 p (.int .i64 d) x1 x2 x3 x4 x5 (.pointer (some ⟨xr,0,none⟩)) x7 x8 (.slice (some ⟨gt,0,none⟩) (k+1) capt) (.slice ha k hc):=hk4
 have hTw4:Touch (fun j=>j=p\/some j=(Value.slice ta k tc).ownBlock) w W4:=(Touch.of_below HB1.out _).trans hT14
 have hoh4:=hTw4.own HOH.out (fun j hj e=>e.elim (fun e=>HNE.out.2.1 j hj e) (fun e=>HNE.out.2.2.1 j e.symm hj))
 have hov4:=hT14.own HOV.out (fun j hj e=>by
  have h1:=(HOV.out.lt j hj).1
  rcases e with e | e
  · omega
  · have:=(HOT.out.lt j e.symm).2;omega)
 have hr4:=hTw4.heap HR.out (fun e=>e.elim hxp (fun e=>HNE.out.2.2.2.1 xr e.symm rfl))
 have hlen:=Lib.hid (rlen_any xr ra n rc W4.drew hr4)
 have hltp:=lt_of_heap hk4
 have z10:W4.cell? ⟨p,10,none⟩=some (.slice ha k hc):=cel hk4
 have z0:W4.cell? ⟨p,0,none⟩=some (.int .i64 d):=cel hk4
 have z6:W4.cell? ⟨p,6,none⟩=some (.pointer (some ⟨xr,0,none⟩)):=cel hk4
 have z10f:W4.frozen? ⟨p,10,none⟩=false:=frozen_of_row _ _ 10 _ _ hk4
 have z10a:∀ ob:Obj,(W4.alloc ob).cell? ⟨p,10,none⟩=some (.slice ha k hc):=fun ob=>(((Below.refl W4.heap.size W4).alloc (Nat.le_refl _) ob).cell (p:=⟨p,10,none⟩) hltp).trans z10
 have z10fa:∀ ob:Obj,(W4.alloc ob).frozen? ⟨p,10,none⟩=false:=fun ob=>(((Below.refl W4.heap.size W4).alloc (Nat.le_refl _) ob).frozen (p:=⟨p,10,none⟩) hltp).trans z10f
 have hneS:(Value.slice ha k hc).ownBlock≠some p:=fun e=>HNE.out.2.1 p e rfl
 have HOH4:=Lib.hid (show W4.drew.ownsRow B 69 5 (.slice ha k hc) k hl from hoh4)
 have HK4:=Lib.hid (And.intro hk4 (And.intro ho4 (And.intro hTw4 hov4)))
 have hwW:w.heap.size<=W4.heap.size:=hTw4.size
 have hBW:B<=W4.heap.size:=by omega
 have hw3W:w3.heap.size<=W4.heap.size:=hT4.size
 have HCN:=Lib.hid (show ∀ j,(Value.slice ha k hc).ownBlock=some j->j≠gt by
  intro j hj e
  rcases hat3 with h1 | h1
  · exact HNE.out.2.2.1 gt h1 (e ▸ hj)
  · have:=(HOH.out.lt _ hj).2;omega)
 have hku:IntKind.u64.wrap (k:Int)=(k:Int):=wrap_u64 _ (by omega) (by omega)
 clear hk4 ho4 hTw4 hoh4 hT4 hk3 hT3 ho3 hov4 hr4 hT14
 have hS0:=Lib.hid (show W4.drew.cell? ⟨p,0,none⟩=some (.int .i64 d)/\W4.drew.cell? ⟨p,6,none⟩=some (.pointer (some ⟨xr,0,none⟩)) from ⟨z0,z6⟩)
 have hSa:=Lib.hid (fun ob:Obj=>(show (W4.alloc ob).drew.cell? ⟨p,0,none⟩=some (.int .i64 d)/\(W4.alloc ob).drew.cell? ⟨p,6,none⟩=some (.pointer (some ⟨xr,0,none⟩)) from
  ⟨(((Below.refl W4.heap.size W4).alloc (Nat.le_refl _) ob).cell (p:=⟨p,0,none⟩) hltp).trans z0,(((Below.refl W4.heap.size W4).alloc (Nat.le_refl _) ob).cell (p:=⟨p,6,none⟩) hltp).trans z6⟩))
 have hSg:=Lib.hid (fun (ob:Obj) (w6:World) (hg:(W4.alloc ob).drew.grownBy w6 (Value.slice ha k hc).ownBlock)=>(show w6.cell? ⟨p,0,none⟩=some (.int .i64 d)/\w6.cell? ⟨p,6,none⟩=some (.pointer (some ⟨xr,0,none⟩)) from
  ⟨(Touch.grown hg).keep_cell (hSa.out ob).1 (fun e=>hneS e.symm),(Touch.grown hg).keep_cell (hSa.out ob).2 (fun e=>hneS e.symm)⟩))
 have hSs:=Lib.hid (fun (w6:World) (v:Value) (h:w6.cell? ⟨p,0,none⟩=some (.int .i64 d)/\w6.cell? ⟨p,6,none⟩=some (.pointer (some ⟨xr,0,none⟩)))=>(show (w6.setCell ⟨p,10,none⟩ v).cell? ⟨p,0,none⟩=some (.int .i64 d)/\(w6.setCell ⟨p,10,none⟩ v).cell? ⟨p,6,none⟩=some (.pointer (some ⟨xr,0,none⟩)) from
  ⟨(World.cell?_setCell_other w6 ⟨p,10,none⟩ ⟨p,0,none⟩ v (by simp)).trans h.1,(World.cell?_setCell_other w6 ⟨p,10,none⟩ ⟨p,6,none⟩ v (by simp)).trans h.2⟩))
 have z10d:W4.drew.cell? ⟨p,10,none⟩=some (.slice ha k hc):=z10
 clear z0 z6
 refine tn_region (fun W=>W.cell? ⟨p,10,none⟩=some (.slice ha k hc)/\W.cell? ⟨p,0,none⟩=some (.int .i64 d)/\W.cell? ⟨p,6,none⟩=some (.pointer (some ⟨xr,0,none⟩))) 28 ⟨z10d,hS0.out⟩ (fun hHeld=>?_)
 iterate 21
  (refine tn_on (v:=?_) rfl (fun w hS=>?_) (by assumption) ?_;rotate_left;· (try dsimp only at hS);go_simp;with_reducible rfl)
  simp only [gP,gA,gB,gC,gD,gE,gF]
 (refine zn_on 22 (v:=?_) rfl (fun w hS=>?_) (by assumption) ?_;rotate_left;· (try dsimp only at hS);go_simp;with_reducible rfl)
 simp only [gP,gA,gB,gC,gD,gE,gF]
 refine zn_one 21 rfl (fun K hK=>?_)
 go_simp
 refine hlen.out.mono ?_
 rintro r w5 ⟨rfl,rfl⟩
 try go_simp
 refine hK.out _ _ (⟨z10d,hS0.out⟩) (fun hHeld=>?_)
 clear hK K
 try simp only [gP,gA,gB,gC,gD,gE,gF]
 (refine zn_on 23 (v:=?_) rfl (fun w hS=>?_) (by assumption) ?_;rotate_left;· (try dsimp only at hS);go_simp;with_reducible rfl)
 simp only [gP,gA,gB,gC,gD,gE,gF]
 refine zn_one 24 rfl (fun K hK=>?_)
 go_simp
 refine hK.out _ _ (⟨z10a _,hSa.out _⟩) (fun hHeld=>?_)
 clear hK K
 try simp only [gP,gA,gB,gC,gD,gE,gF]
 refine zn_one 25 rfl (fun K hK=>?_)
 refine step_append_lies _ (by rfl) _ _ _ (by rfl) B 69 i1 _ 5 64 Tryz.underlying74 hi1 hy0 hy1 hy2 rfl (by omega) (.slice ha k hc) k hl (by rfl) (HOH4.out.alloc _) ⟨W4.heap.size,0,none⟩ 1 1 [.int .u64 k,.string ⟨par.toArray⟩,.int .i64 d,.int .i64 n,.slice a D c] (by rfl) (by rfl) (World.news_of_block (cs:=#[.int .u64 k,.string ⟨par.toArray⟩,.int .i64 d,.int .i64 n,.slice a D c]) (t:=69) (fr:=(0,0)) (heap_alloc_new W4.drew _)) (by simp [Value.oneCell']) (by omega) (by unfold maxLen;omega) (by omega) (by simp;omega) (W4.heap.size+1) (by simp) ?_
 intro gg cap2 w6 ho6 hg6 hat hlt6
 obtain ⟨y10,y10f⟩:=keepR (W:=(W4.alloc (.cells #[.int .u64 k,.string ⟨par.toArray⟩,.int .i64 d,.int .i64 n,.slice a D c] 69)).drew) (z10a _) (z10fa _) hg6 hneS
 refine hK.out _ _ (⟨y10,hSg.out _ _ hg6⟩) (fun hHeld=>?_)
 clear hK K
 try simp only [gP,gA,gB,gC,gD,gE,gF]
 refine zn_one 26 rfl (fun K hK=>?_)
 go_simp
 refine hK.out _ _ (⟨y10,hSg.out _ _ hg6⟩) (fun hHeld=>?_)
 clear hK K
 try simp only [gP,gA,gB,gC,gD,gE,gF]
 (refine zn_on 27 (v:=?_) rfl (fun w hS=>?_) (by assumption) ?_;rotate_left;· (try dsimp only at hS);go_simp;with_reducible rfl)
 simp only [gP,gA,gB,gC,gD,gE,gF]
 refine zn_last rfl (fun K hK=>?_)
 go_simp
 refine hK.out _ _ ?_
 clear hK K
 try simp only [Act.put,List.getElem_toArray,List.getElem_cons_zero,List.getElem_cons_succ,List.setIfInBounds_toArray,List.set_cons_zero,List.set_cons_succ]
 refine tn_done ?_ (by kernel_rfl) _
 all_goals
  obtain ⟨hk4,ho4,hTw4,hov4⟩:=HK4.out
  have hT6:Touch (fun j=>some j=(Value.slice ha k hc).ownBlock) W4 w6:=(Touch.alloc W4 _).trans ((Touch.drewN _ 1).trans (Touch.grown hg6))
  have hk6:=hT6.heap hk4 (fun e=>hneS e.symm)
  have hggp:gg≠p:=by
   rcases hat with h1 | h1
   · exact fun e=>hneS (by rw [h1,e])
   · omega
  have hT7:Touch (fun j=>j=p) w6 (w6.setCell ⟨p,10,none⟩ (.slice (some ⟨gg,0,none⟩) (k+1) cap2)):=Touch.setCell (S:=fun j=>j=p) _ ⟨p,10,none⟩ _ rfl
  have hk7:=heap_setCell_same w6 p 10 _ _ (.slice (some ⟨gg,0,none⟩) (k+1) cap2) hk6
  have ho7:=hT7.own ho6 (fun j hj e=>by have h2:some gg=some j:=hj;injection h2 with h2;omega)
  have hot7:=hT7.own (hT6.own ho4 (fun j hj e=>by have h2:some gt=some j:=hj;injection h2 with h2;exact HCN.out j e.symm h2.symm)) (fun j hj e=>by have h2:some gt=some j:=hj;injection h2 with h2;omega)
  have hov7:=hT7.own (hT6.own hov4 (fun j hj e=>by have h1:=(HOV.out.lt j hj).1;have h2:=(HOH.out.lt j e.symm).2;omega)) (fun j hj e=>by have h1:=(HOV.out.lt j hj).1;omega)
  have hT:Touch (fun j=>j=p\/(Value.slice ta k tc).ownBlock=some j\/(Value.slice ha k hc).ownBlock=some j) w (w6.setCell ⟨p,10,none⟩ (.slice (some ⟨gg,0,none⟩) (k+1) cap2)):=
   (hTw4.mono (fun j h=>.inl (h.imp id (fun h=>.inl h.symm)))).trans ((hT6.mono (fun j h=>.inl (.inr (.inr h.symm)))).trans (hT7.mono (fun j h=>.inl (.inl h))))
  have HF:=Lib.hid (And.intro hk7 (And.intro hot7 (And.intro ho7 (And.intro hov7 hT))))
  have hat':=Lib.hid hat
  have hat3':=Lib.hid hat3
  clear hk4 ho4 hTw4 hov4 hT6 hk6 hT7 hk7 ho7 hot7 hov7 hT ho6 hg6 hat hat3 y10 y10f z10 z10f z10a z10fa z10d hS0 hSa hSg hSs
  go_wp2
  go_end0
  refine ⟨rfl,_,_,a,c,HF.out.1,HF.out.2.1,HF.out.2.2.1,HF.out.2.2.2.1,fun j hj=>?_,fun j hj=>?_,HF.out.2.2.2.2⟩
  · have h2:some gt=some j:=hj
    injection h2 with h2
    subst h2
    rcases hat3'.out with h1 | h1
    · exact .inl h1
    · exact .inr (by omega)
  · have h2:some gg=some j:=hj
    injection h2 with h2
    subst h2
    rcases hat'.out with h1 | h1
    · exact .inl h1
    · exact .inr (by omega)
def fstVal (seed:List UInt8):List UInt8:=valEnt 1 (openOf seed) (pubKey seed 0) 0 nought16
theorem encKey_nat (o r:List UInt8) (h:Nat) (hr:r.length=16) (hh:h<256):natOf (encKey o r h)=(natOf o*2^128+natOf r)*256+h:=by
 unfold encKey
 rw [natOf_append,natOf_append,hr]
 have:natOf [UInt8.ofNat h]=h:=by
  unfold natOf
  simp only [List.foldl_cons,List.foldl_nil,UInt8.toNat_ofNat']
  omega
 rw [this]
 rfl
theorem valAud_nat (s:ByteArray) (o r:List UInt8) (h:Nat) (hs:s.size<=1000) (ho:o.length=16) (hr:r.length=16) (hh:h<256):natOf (valAud s o r h)=tagN 16 [(natOf s.data.toList,s.size),((natOf o*2^128+natOf r)*256+h,33)]:=by
 unfold valAud
 have hl:=encKey_length o r h ho hr
 rw [tag_small 16 _ (by decide) (by
  intro x hx
  simp only [List.mem_cons,List.not_mem_nil,or_false] at hx
  rcases hx with rfl | rfl
  · simpa using hs
  · omega) (by simp),List.map_cons,List.map_cons,List.map_nil]
 unfold nl
 rw [hl,encKey_nat o r h hr hh]
 rfl
theorem fstVal_nat (seed:List UInt8):natOf (fstVal seed)=tagN 12 [(256^49+(natOf (openOf seed)*2^128+natOf (pubKey seed 0))*256*256^16,53)]:=by
 have hr:(pubKey seed 0).length=16:=tagOf_length _ _
 have hl:=encKey_length (openOf seed) (pubKey seed 0) 0 (openOf_length _) hr
 have hlen:(encEnt 1 (openOf seed) (pubKey seed 0) 0 nought16).length=53:=by
  unfold encEnt
  rw [List.length_append,List.length_append,bytesTo_le,hl]
  rfl
 have hn:natOf (encEnt 1 (openOf seed) (pubKey seed 0) 0 nought16)=256^49+(natOf (openOf seed)*2^128+natOf (pubKey seed 0))*256*256^16:=by
  unfold encEnt
  rw [natOf_append,natOf_append,encKey_nat _ _ _ hr (by decide),List.length_append,hl,natOf_four 1 (by decide)]
  have h0:natOf nought16=0:=natOf_zeros 16
  rw [h0,Nat.one_mul,Nat.add_zero,Nat.add_zero,show nought16.length=16 from rfl,show 33+16=49 from rfl]
 unfold fstVal valEnt
 rw [tag_small 12 _ (by decide) (by
  intro x hx
  simp only [List.mem_cons,List.not_mem_nil,or_false] at hx
  subst hx;omega) (by simp),List.map_cons,List.map_nil]
 unfold nl
 rw [hlen,hn]
def cgCells (cs:Puts):List Value:=cs.flatMap fun q=>[.string ⟨q.1.toArray⟩,.string ⟨q.2.toArray⟩]
theorem cgCells_snoc (cs:Puts) (q:Tx×Tx):cgCells (cs++[q])=cgCells cs++[.string ⟨q.1.toArray⟩,.string ⟨q.2.toArray⟩]:=by simp [cgCells]
theorem cgCells_at:∀ (l:Puts) (k:Nat) (hk:k<l.length),(cgCells l)[2*k]?=some (.string ⟨(l[k]).1.toArray⟩)/\(cgCells l)[2*k+1]?=some (.string ⟨(l[k]).2.toArray⟩)
 | q :: l,0,_=>⟨rfl,rfl⟩
 | q :: l,k+1,hk=>by
   have:=cgCells_at l k (by simpa using hk)
   unfold cgCells at *
   rw [List.flatMap_cons]
   simp only [List.getElem_cons_succ]
   rw [show 2*(k+1)=2*k+1+1 from by omega]
   exact this
def usPuts (us:List (List UInt8×List UInt8)):Puts:=us.map fun u=>(nameOf u.1,fstVal u.2)
theorem usPuts_length (us:List (List UInt8×List UInt8)):(usPuts us).length=us.length:=List.length_map _
structure SrvIn (w:World) (S:Nat->Prop) (p d:Nat) (auds:List Aud) (us:List (List UInt8×List UInt8)) (bk dk g xl xr t0 tb:Nat) (cv nv tv hv x3 x4 v2:Value) (na:Option Addr) (nc:Nat) (nts:List ByteArray):Prop where
 row:SrvAt w p (.int .i64 d) (.pointer (some ⟨bk,0,none⟩)) (.bool false) x3 x4 (.map (some xl)) (.pointer (some ⟨xr,0,none⟩)) cv nv tv hv
 book:BookAt w bk dk 0 100 0 0 0 (.slice none 0 0)
 disk:∃ xs,xs.length=200/\(∀ x∈xs,x.size=64)/\DiskAt w dk g xs (.slice none 0 0)
 next:LabsAt w S xl us
 ros:RosAt w xr v2
 rosr:w.ownsRow 0 90 4 v2 auds.length (audCells auds)
 chg:w.ownsRow 0 38 2 cv us.length (cgCells (usPuts us).reverse)
 nlen:nts.length=us.length
 note:w.ownsRow 0 9 1 nv us.length (strs nts)
 small:∀ s∈nts,s.size<=700
 tree:TreeAt w t0 tb (layP auds [] auds.length)
 trees:w.ownsRow 0 24 1 tv 1 [.pointer (some ⟨t0,0,none⟩)]
 heads:w.ownsRow 0 69 5 hv 1 [.int .u64 0,.string ⟨nought16.toArray⟩,.int .i64 d,.int .i64 auds.length,.slice na (2^d) nc]
 nodes:w.ownsRow 0 9 1 (.slice na (2^d) nc) (2^d) ((hs.level (layP auds [] auds.length) d).map encStr)
 inS:S p/\S bk/\S dk/\S g/\S xl/\S xr/\S t0/\S tb
 inS2:(∀ k,cv.ownBlock=some k->S k)/\(∀ k,nv.ownBlock=some k->S k)/\(∀ k,tv.ownBlock=some k->S k)/\(∀ k,hv.ownBlock=some k->S k)/\(∀ k,v2.ownBlock=some k->S k)/\(∀ k,(Value.slice na (2^d) nc).ownBlock=some k->S k)
 apart:(∀ k,nv.ownBlock=some k->k≠g/\(Value.slice na (2^d) nc).ownBlock≠some k)/\xl≠tb/\(Value.slice na (2^d) nc).ownBlock≠some g
 lt:∀ k,S k->k<w.heap.size
def SrvA (w:World) (S:Nat->Prop) (p d:Nat) (auds:List Aud) (us:List (List UInt8×List UInt8)):Prop:=
 ∃ bk dk g xl xr t0 tb cv nv tv hv x3 x4 v2 na nc nts,SrvIn w S p d auds us bk dk g xl xr t0 tb cv nv tv hv x3 x4 v2 na nc nts
theorem SrvIn.touch {w w':World} {S T:Nat->Prop} {p d:Nat} {auds:List Aud} {us:List (List UInt8×List UInt8)} {bk dk g xl xr t0 tb:Nat} {cv nv tv hv x3 x4 v2:Value} {na:Option Addr} {nc:Nat} {nts:List ByteArray}
 (h:SrvIn w S p d auds us bk dk g xl xr t0 tb cv nv tv hv x3 x4 v2 na nc nts) (ht:Touch T w w') (hT:∀ k,S k->¬ T k):SrvIn w' S p d auds us bk dk g xl xr t0 tb cv nv tv hv x3 x4 v2 na nc nts:=by
 obtain ⟨i1,i2,i3,i4,i5,i6,i7,i8⟩:=h.inS
 obtain ⟨j1,j2,j3,j4,j5,j6⟩:=h.inS2
 refine ⟨ht.heap h.row (hT _ i1),ht.heap h.book (hT _ i2),?_,h.next.touch ht (hT _ i5) hT,ht.heap h.ros (hT _ i6),ht.own h.rosr (fun k hk=>hT _ (j5 k hk)),ht.own h.chg (fun k hk=>hT _ (j1 k hk)),h.nlen,ht.own h.note (fun k hk=>hT _ (j2 k hk)),h.small,h.tree.touch ht (hT _ i7) (hT _ i8),ht.own h.trees (fun k hk=>hT _ (j3 k hk)),ht.own h.heads (fun k hk=>hT _ (j4 k hk)),ht.own h.nodes (fun k hk=>hT _ (j6 k hk)),h.inS,h.inS2,h.apart,fun k hk=>Nat.lt_of_lt_of_le (h.lt k hk) ht.size⟩
 obtain ⟨xs,e1,e2,e3⟩:=h.disk
 obtain ⟨c,hb⟩:=e3.blk
 exact ⟨xs,e1,e2,⟨⟨c,ht.heap hb (hT _ i3)⟩,ht.heap e3.row (hT _ i4),e3.ne⟩⟩
theorem SrvA.touch {w w':World} {S T:Nat->Prop} {p d:Nat} {auds:List Aud} {us:List (List UInt8×List UInt8)} (h:SrvA w S p d auds us) (ht:Touch T w w') (hT:∀ k,S k->¬ T k):SrvA w' S p d auds us:=by
 obtain ⟨bk,dk,g,xl,xr,t0,tb,cv,nv,tv,hv,x3,x4,v2,na,nc,nts,h⟩:=h
 exact ⟨bk,dk,g,xl,xr,t0,tb,cv,nv,tv,hv,x3,x4,v2,na,nc,nts,h.touch ht hT⟩
def pubPuts (d:Nat) (auds:List Aud) (us:List (List UInt8×List UInt8)):Puts:=upto (usPuts us).reverse d (layP auds [] auds.length) (2^d)
def nodes0 (d:Nat) (auds:List Aud):List Tx:=hs.level (layP auds [] auds.length) d
def nodes1 (d:Nat) (auds:List Aud) (us:List (List UInt8×List UInt8)):List Tx:=hs.level (pubPuts d auds us) d
def dig0 (d:Nat) (auds:List Aud):Tx:=digHd 0 nought16 d auds.length (nodes0 d auds)
structure SrvPub (w:World) (S:Nat->Prop) (p d:Nat) (auds:List Aud) (us:List (List UInt8×List UInt8)) (nl nr t0 tb t1 tb1:Nat) (x1 x5 x6 x7 x8 tv hv v2:Value) (na:Option Addr) (nc:Nat) (na1:Option Addr) (nc1:Nat):Prop where
 row:SrvAt w p (.int .i64 d) x1 (.bool false) (.map (some nl)) (.pointer (some ⟨nr,0,none⟩)) x5 x6 x7 x8 tv hv
 now:LabsAt w S nl us
 ros:RosAt w nr v2
 rosr:w.ownsRow 0 90 4 v2 auds.length (audCells auds)
 tree0:TreeAt w t0 tb (layP auds [] auds.length)
 tree1:TreeAt w t1 tb1 (pubPuts d auds us)
 trees:w.ownsRow 0 24 1 tv 2 [.pointer (some ⟨t0,0,none⟩),.pointer (some ⟨t1,0,none⟩)]
 heads:w.ownsRow 0 69 5 hv 2 [.int .u64 0,.string ⟨nought16.toArray⟩,.int .i64 d,.int .i64 auds.length,.slice na (2^d) nc,.int .u64 1,.string ⟨(dig0 d auds).toArray⟩,.int .i64 d,.int .i64 auds.length,.slice na1 (2^d) nc1]
 nodes0:w.ownsRow 0 9 1 (.slice na (2^d) nc) (2^d) ((nodes0 d auds).map encStr)
 nodes1:w.ownsRow 0 9 1 (.slice na1 (2^d) nc1) (2^d) ((nodes1 d auds us).map encStr)
 inS:S p/\S nl/\S nr/\S t0/\S tb/\S t1/\S tb1
 inS2:(∀ k,tv.ownBlock=some k->S k)/\(∀ k,hv.ownBlock=some k->S k)/\(∀ k,v2.ownBlock=some k->S k)/\(∀ k,(Value.slice na (2^d) nc).ownBlock=some k->S k)/\(∀ k,(Value.slice na1 (2^d) nc1).ownBlock=some k->S k)
 lt:∀ k,S k->k<w.heap.size
def SrvB (w:World) (S:Nat->Prop) (p d:Nat) (auds:List Aud) (us:List (List UInt8×List UInt8)):Prop:=
 ∃ nl nr t0 tb t1 tb1 x1 x5 x6 x7 x8 tv hv v2 na nc na1 nc1,SrvPub w S p d auds us nl nr t0 tb t1 tb1 x1 x5 x6 x7 x8 tv hv v2 na nc na1 nc1
theorem SrvB.touch {w w':World} {S T:Nat->Prop} {p d:Nat} {auds:List Aud} {us:List (List UInt8×List UInt8)} (h:SrvB w S p d auds us) (ht:Touch T w w') (hT:∀ k,S k->¬ T k):SrvB w' S p d auds us:=by
 obtain ⟨nl,nr,t0,tb,t1,tb1,x1,x5,x6,x7,x8,tv,hv,v2,na,nc,na1,nc1,h⟩:=h
 obtain ⟨i1,i2,i3,i4,i5,i6,i7⟩:=h.inS
 obtain ⟨j1,j2,j3,j4,j5⟩:=h.inS2
 exact ⟨nl,nr,t0,tb,t1,tb1,x1,x5,x6,x7,x8,tv,hv,v2,na,nc,na1,nc1,ht.heap h.row (hT _ i1),h.now.touch ht (hT _ i2) hT,ht.heap h.ros (hT _ i3),ht.own h.rosr (fun k hk=>hT _ (j3 k hk)),h.tree0.touch ht (hT _ i4) (hT _ i5),h.tree1.touch ht (hT _ i6) (hT _ i7),ht.own h.trees (fun k hk=>hT _ (j1 k hk)),ht.own h.heads (fun k hk=>hT _ (j2 k hk)),ht.own h.nodes0 (fun k hk=>hT _ (j4 k hk)),ht.own h.nodes1 (fun k hk=>hT _ (j5 k hk)),h.inS,h.inS2,fun k hk=>Nat.lt_of_lt_of_le (h.lt k hk) ht.size⟩
def sumP (l:List ByteArray):Nat->Nat
 | 0=>0
 | k+1=>sumP l k+partsOf (l.getD k ⟨#[]⟩).size
theorem sumP_le (l:List ByteArray) (h:∀ s∈l,s.size<=700):∀ k,sumP l k<=18*k
 | 0=>Nat.le_refl _
 | k+1=>by
   have ih:=sumP_le l h k
   have h1:(l.getD k ⟨#[]⟩).size<=700:=by
    by_cases hk:k<l.length
    · rw [List.getD_eq_getElem?_getD,List.getElem?_eq_getElem hk]
      exact h _ (List.getElem_mem hk)
    · rw [List.getD_eq_getElem?_getD,List.getElem?_eq_none (by omega)]
      decide
   rw [sumP]
   have:partsOf (l.getD k ⟨#[]⟩).size<=18:=by unfold partsOf;omega
   omega
theorem sumP_mono (l:List ByteArray):∀ n k,k<=n->sumP l k<=sumP l n
 | 0,k,h=>by rw [Nat.le_zero.1 h];exact Nat.le_refl _
 | n+1,k,h=>by
   by_cases e:k=n+1
   · rw [e];exact Nat.le_refl _
   · exact Nat.le_trans (sumP_mono l n k (by omega)) (by rw [sumP];exact Nat.le_add_right _ _)
theorem strs_row_at {w:World} {B n c:Nat} {a:Option Addr} {l:List ByteArray} (h:w.ownsRow B 9 1 (.slice a n c) n (strs l)) (hn:n=l.length) (k:Nat) (hk:k<l.length) :
 ∃ g,a=some ⟨g,0,none⟩/\B<=g/\g<w.heap.size/\w.cell? ⟨g,k,none⟩=some (.string (l.getD k ⟨#[]⟩)):=by
 obtain ⟨g,cap,e,hb,hg⟩:=h.form (by omega)
 injection e with e1 e2 e3
 subst e1
 have hadd:∀ i,(⟨g,0,none⟩:Addr).add i=⟨g,i,none⟩:=fun i=>by unfold Addr.add;split <;> simp_all
 have c0:=h.cells (g:=g) rfl k (.string (l.getD k ⟨#[]⟩)) (by simp [strs,hk])
 rw [hadd] at c0
 exact ⟨g,rfl,hb,hg,c0⟩
theorem sawrite_any (p bk dk g n nh nhc:Nat) (nv:Value) (ha:Option Addr) (nts:List ByteArray) (x0 x3 x4 x5 x6 x7 x9:Value) (w:World) (hS:SrvAt w p x0 (.pointer (some ⟨bk,0,none⟩)) (.bool false) x3 x4 x5 x6 x7 nv x9 (.slice ha nh nhc)) (hbk:BookAt w bk dk 0 100 0 0 0 (.slice none 0 0))
 (hd:∃ xs,xs.length=200/\(∀ x∈xs,x.size=64)/\DiskAt w dk g xs (.slice none 0 0)) (hno:w.ownsRow 0 9 1 nv n (strs nts)) (hnl:nts.length=n) (hn:n<=3) (hnh:nh<1000) (hsm:∀ s∈nts,s.size<=700) (hng:∀ k,nv.ownBlock=some k->k≠g) (hK:Kon w) (hKd:dk≠0) (hKb:bk≠0) (hKg:g≠0) :
 Calls Tryz.prog 68 #[.pointer (some ⟨p,0,none⟩)] w fun e w'=>e=.returned (.int .i64 0)/\Touch (fun k=>k=bk\/k=dk\/k=g) w w':=by
 obtain ⟨na,nc,rfl⟩:=own_slice hno
 subst hnl
 have hpbk:p≠bk:=row_ne hS hbk (by decide)
 obtain ⟨xs,hxl,hx64,hdx⟩:=hd
 have hpdk:p≠dk:=by obtain ⟨_,hdb⟩:=hdx.blk;exact row_ne hS hdb (by decide)
 have hpg:p≠g:=row_ne hS hdx.row (by decide)
 have hlp:=lt_of_heap hS
 have hlbk:=lt_of_heap hbk
 have hldk:=hdx.lt.1
 have hlg:=hdx.lt.2
 have hgdk:=hdx.ne
 have hbkdk:bk≠dk:=by obtain ⟨_,hdb⟩:=hdx.blk;exact row_ne hbk hdb (by decide)
 have hbkg:bk≠g:=row_ne hbk hdx.row (by decide)
 have HC:=Lib.hid (fun (W:World) (S:Nat->Prop) (ht:Touch S w W) (hn:¬ S p)=>(show W.cell? ⟨p,1,none⟩=some (.pointer (some ⟨bk,0,none⟩))/\W.cell? ⟨p,8,none⟩=some (.slice na nts.length nc)/\W.cell? ⟨p,10,none⟩=some (.slice ha nh nhc) from by
  obtain ⟨_,s1,_,_,_,_,_,_,s8,_,s10,_⟩:=hS.cells
  exact ⟨ht.keep_cell s1 hn,ht.keep_cell s8 hn,ht.keep_cell s10 hn⟩))
 have HK:=Lib.hid (fun (W:World) (ht:Touch (fun k=>k=bk\/k=dk\/k=g) w W)=>hK.touch ht (fun e=>by rcases e with e | e | e;exact hKb e.symm;exact hKd e.symm;exact hKg e.symm))
 have HBK:=Lib.hid hbk
 have HD:=Lib.hid (And.intro hxl (And.intro hx64 hdx))
 have HNO:=Lib.hid hno
 have HSM:=Lib.hid hsm
 have HKD:=Lib.hid hKd
 have hun:IntKind.u64.wrap (nts.length:Int)=(nts.length:Int):=wrap_u64 _ (by omega) (by omega)
 have huh:IntKind.u64.wrap (nh:Int)=(nh:Int):=wrap_u64 _ (by omega) (by omega)
 have n256:nts.length<256^2:=by omega
 have h256:nh<256^4:=by omega
 have l1:([]:List UInt8).length<=70368744177664:=by decide
 have l2:([]++bytesTo nts.length 2 2).length<=70368744177664:=by rw [List.nil_append,bytesTo_le];omega
 clear hS hbk hno hng hK hxl hx64 hdx hsm hKd hKb hKg
 go_enter Tryz.func68,Tryz.ntmps68
 go_wp2_with fail
 have hw3:=(wri_new w).drew
 have hb3:Below w.heap.size w (w.alloc (.cells #[.pointer none,.slice none 0 0,.int .i64 0] 215)):=(Below.refl _ _).alloc (Nat.le_refl _) _
 generalize (w.alloc (.cells #[.pointer none,.slice none 0 0,.int .i64 0] 215))=W3 at hw3 hb3 |-
 have hKc:=Lib.hid (fun (W':World) (hb:Below w.heap.size W3.drew W')=>(show W'.cell? ⟨p,8,none⟩=some (.slice na nts.length nc)/\W'.cell? ⟨p,10,none⟩=some (.slice ha nh nhc) from (HC.out W' (fun _=>False) (Touch.of_below (hb3.drew.trans hb) _) id).2))
 have HB3:=Lib.hid hb3.drew
 have hb3':=Lib.hid (Below.refl w.heap.size W3.drew)
 clear hb3
 go_region_held3 (fun W'=>W'.cell? ⟨p,8,none⟩=some (.slice na nts.length nc)/\W'.cell? ⟨p,10,none⟩=some (.slice ha nh nhc)) (first | exact hKc.out _ (by assumption) | exact hKc.out _ hb3'.out)
  (first
    | (go_at_call 119;with_reducible refine (wri_num2 w.heap.size w.heap.size nts.length _ _ hw3 n256 l1).mono ?_;rintro e wA ⟨rfl,hwA,hbA⟩)
    | (go_at_call 119;with_reducible refine (wri_num4 w.heap.size w.heap.size nh _ _ hwA h256 l2).mono ?_;rintro e wC ⟨rfl,hwC,hbC'⟩;have hbC:=hbA.trans hbC';clear hbC')
    | (go_at_call 120;with_reducible refine (wri_bytes w.heap.size w.heap.size _ _ hwC).mono ?_;rintro e wE ⟨rfl,hbE'⟩;have hbE:=hbC.trans hbE';clear hbE'))
 have hBE:=HB3.out.trans hbE
 have hnl:(bytesTo nts.length 2 2++bytesTo nh 4 4).length=6:=by rw [List.length_append,bytesTo_le,bytesTo_le]
 generalize (bytesTo nts.length 2 2++bytesTo nh 4 4)=nl at hnl |-
 obtain ⟨nb,hnb⟩:∃ nb:ByteArray,nb=⟨nl.toArray⟩:=⟨_,rfl⟩
 have hnbs:nb.size=6:=by rw [hnb];show nl.toArray.size=6;simp [hnl]
 rw [<-hnb]
 clear hbA hbC hbE hwA hwC hw3 l1 l2 hKc hnb hnl
 obtain ⟨e1,e8,e10⟩:=HC.out wE (fun _=>False) (Touch.of_below hBE _) id
 have hnoE:=(Touch.of_below hBE (fun _=>False)).own HNO.out (fun _ _ h=>h)
 have hcl:=Lib.hid (clone_row 0 _ nts wE (by omega) hnoE)
 have HBE:=Lib.hid hBE
 have hsE:=hBE.size
 have hfit:¬ (9223372036854775807<1+nb.size):=by omega
 clear hnoE hBE
 go_wp2_with fail
 refine hcl.out.mono ?_
 rintro e w5 ⟨v5,rfl,ho5,hb5⟩
 have hs5:=hb5.size
 clear hcl e1 e8 e10
 go_wp2_with (at_builtin;refine Hid.out ?_)
 unfold Hid
 refine wpList_app1 rfl rfl Tryz.underlying31 Tryz.infoStr rfl ho5 rfl rfl rfl (by omega) (by unfold maxLen;omega) hs5 ?_
 intro v6 w6 ho6 hg6
 obtain ⟨a6,c6,rfl⟩:=own_slice ho6
 obtain ⟨cb,hcb⟩:∃ cb:ByteArray,cb=⟨#[99]⟩++nb:=⟨_,rfl⟩
 have hcs:cb.size=7:=by rw [hcb,cat_size,hnbs];rfl
 obtain ⟨LL,hLL⟩:∃ LL,LL=nts++[cb]:=⟨_,rfl⟩
 obtain ⟨N,hN⟩:∃ N,N=nts.length+1:=⟨_,rfl⟩
 have hLn:LL.length=N:=by rw [hLL,hN];simp
 have hLs:∀ s∈LL,s.size<=700:=fun s h=>by
  rw [hLL] at h
  rcases List.mem_append.1 h with h | h
  · exact HSM.out s h
  · rw [List.mem_singleton.1 h,hcs];decide
 have ho6':w6.ownsRow wE.heap.size 9 1 (.slice a6 N c6) N (strs LL):=by
  have e:strs LL=strs nts++[.string (⟨#[99]⟩++nb)]:=by rw [hLL,hcb];simp [strs]
  rw [e,hN]
  exact ho6
 rw [<-hN]
 have hBw6:Below w.heap.size w w6:=HBE.out.trans ((hb5.grown hg6 hs5 (fun j hj=>(ho5.lt j hj).1)).mono hsE)
 have hN4:N<=4:=by omega
 have hrow:=Lib.hid (fun (W:World) (ht:Touch (fun k=>k=bk\/k=dk\/k=g) w6 W) k (hk:k<LL.length)=>strs_row_at (ht.own ho6' (fun j hj e=>by have:=(ho6'.lt j hj).1;omega)) hLn.symm k hk)
 have hsum:sumP LL N<=72:=by have:=sumP_le LL hLs N;omega
 have hpart:=Lib.hid (fun k (hk:k<LL.length) (W:World)=>lparts_any (LL.getD k ⟨#[]⟩).size (by
  have:=hLs (LL.getD k ⟨#[]⟩) (by rw [List.getD_eq_getElem?_getD,List.getElem?_eq_getElem hk];exact List.getElem_mem hk)
  omega) W)
 have hsk:∀ k,k<LL.length->(LL.getD k ⟨#[]⟩).size<=900:=fun k hk=>by
  have:=hLs (LL.getD k ⟨#[]⟩) (by rw [List.getD_eq_getElem?_getD,List.getElem?_eq_getElem hk];exact List.getElem_mem hk)
  omega
 have HSK:=Lib.hid hsk
 have HBW6:=Lib.hid hBw6
 have hw6:=hBw6.size
 clear hcb hLL hN ho6 ho6' ho5 hb5 hg6 hfit hnbs hcs hsk hBw6
 go_wp2_with fail
 go_loopw [7,45] (fun ps i W=>W=w6/\∃ k:Nat,k<=N/\i=.int .i64 (k:Int)/\ps=.int .i64 (sumP LL k:Int)) (fun _ i _=>N - (intOf i).toNat)
 case atStart=>exact ⟨rfl,0,Nat.zero_le _,rfl,rfl⟩
 case round=>
  obtain ⟨rfl,k,hk,rfl,rfl⟩:=hrel
  by_cases hlt:k<N
  · have hkl:k<LL.length:=by omega
    have hlt':(k:Int)<(N:Int):=by omega
    obtain ⟨gl,rfl,hgB,hgl,z0⟩:=hrow.out wr (Touch.refl _ _) k hkl
    have hp:=Lib.hid (hpart.out k hkl wr)
    have hsuc:sumP LL (k+1)=sumP LL k+partsOf (LL.getD k ⟨#[]⟩).size:=rfl
    have hmo:=sumP_mono LL N (k+1) (by omega)
    have HSUC:=Lib.hid hsuc
    generalize LL.getD k ⟨#[]⟩=sk at z0 hp hsuc HSUC
    generalize hpk:partsOf sk.size=pk at hp hsuc HSUC
    have ew:IntKind.i64.wrap ((sumP LL k:Int)+(pk:Int))=((sumP LL (k+1):Nat):Int):=by
     rw [show (sumP LL k:Int)+(pk:Int)=((sumP LL (k+1):Nat):Int) by omega];exact IntWalk.i64_in _ (by omega)
    generalize hs2:sumP LL (k+1)=s2 at ew hmo HSUC
    generalize sumP LL k=s1 at ew HSUC
    have HS2:=Lib.hid hs2
    clear hs2 hsuc hpk
    go_wp2_with fail
    refine hp.out.mono ?_
    rintro e w9 ⟨rfl,rfl⟩
    clear hp z0
    go_wp2
    go_roundw
    case rel=>exact ⟨trivial,k+1,by omega,by go_num,by rw [HS2.out]⟩
    case measure=>simp [intOf];omega
  · have hkN:k=N:=by omega
    subst hkN
    have hge:¬ (k:Int)<(k:Int):=by omega
    obtain ⟨e1,e8,e10⟩:=HC.out wr (fun _=>False) (Touch.of_below HBW6.out _) id
    have hbk6:=(HBW6.out.block bk hlbk).trans HBK.out
    have hleft:=Lib.hid (lleft_any bk dk 0 100 0 0 0 100 (.slice none 0 0) wr hbk6 (by decide) (by decide))
    have hsumI:¬ ((100:Int)<(sumP LL k:Int)):=by omega
    clear hbk6 e8 e10 hpart
    go_wp2_with fail
    refine hleft.out.mono ?_
    rintro e w7 ⟨rfl,hb7⟩
    have hB7:=HBW6.out.trans (hb7.mono hw6)
    have hs7:=hb7.size
    have hT67:Touch (fun j=>j=bk\/j=dk\/j=g) wr w7:=Touch.of_below hb7 _
    clear hleft e1 hb7
    go_wp2_with fail
    clear hsumI
    go_loopw [64] (fun i W=>∃ (j turn:Nat) (recs:Value) (rl:List ByteArray),j<=k/\i=.int .i64 (j:Int)/\turn<=1/\rl.length=j/\BookAt W bk dk 0 100 0 turn (sumP LL j) recs/\W.ownsRow w7.heap.size 9 1 recs rl.length (strs rl)/\(∃ xs,xs.length=200/\(∀ x∈xs,x.size=64)/\DiskAt W dk g xs (.slice none 0 0))/\Touch (fun j=>j=bk\/j=dk\/j=g) w7 W) (fun i _=>k - (intOf i).toNat)
    case atStart=>
     refine ⟨0,0,.slice none 0 0,[],Nat.zero_le _,rfl,by decide,rfl,(hB7.block bk hlbk).trans HBK.out,World.ownsRow_nil _ _ _ _,⟨xs,HD.out.1,HD.out.2.1,HD.out.2.2.below hB7 hldk hlg⟩,Touch.refl _ _⟩
    case round=>
     obtain ⟨j,turn,recs,rl,hj,rfl,hturn,hrl,hbkj,hroj,hdj,hTj⟩:=hrel
     have hTw:Touch (fun j=>j=bk\/j=dk\/j=g) w wr:=(Touch.of_below hB7 _).trans hTj
     have hpn:¬ (p=bk\/p=dk\/p=g):=by rintro (e | e | e);exact hpbk e;exact hpdk e;exact hpg e
     by_cases hlt:j<k
     · have hjl:j<LL.length:=by omega
       have hlt':(j:Int)<(k:Int):=by omega
       obtain ⟨gl,rfl,hgB,hgl,z0⟩:=hrow.out wr (hT67.trans hTj) j hjl
       obtain ⟨e1,_,_⟩:=HC.out wr _ hTw hpn
       have hs9:=HSK.out j hjl
       have hmo:=sumP_mono LL k (j+1) (by omega)
       have hsuc:sumP LL (j+1)=sumP LL j+partsOf (LL.getD j ⟨#[]⟩).size:=rfl
       have hput:=Lib.hid (lput_more bk dk g 200 0 100 w7.heap.size 0 turn (sumP LL j) recs rl (LL.getD j ⟨#[]⟩) wr (HK.out wr hTw) HKD.out hbkj hdj hroj (fun q hq=>by have:=(hroj.lt q hq).1;omega) (by omega) (by omega) (by decide) (by decide) (by decide) hs9 (by omega))
       rw [<-hsuc] at hput
       have HSUC:=Lib.hid hsuc
       have HTJ:=Lib.hid hTj
       have hwj:=hTj.size
       clear hsuc hbkj hdj hroj hTj hTw hs9
       generalize LL.getD j ⟨#[]⟩=sk at z0 hput
       go_wp2_with fail
       refine hput.out.mono ?_
       rintro e w9 ⟨rfl,recs',hb9,hr9,hd9,hT9⟩
       have HF:=Lib.hid (And.intro hb9 (And.intro hr9 (And.intro hd9 (HTJ.out.trans hT9))))
       clear hput z0 e1 hb9 hr9 hd9 hT9
       go_wp2
       go_roundw
       case rel=>exact ⟨j+1,max turn 1,recs',rl++[sk],by omega,by go_num,by omega,by simp [hrl],HF.out.1,by
        have:=ownsRow_base HF.out.2.1 hwj
        simpa using this,HF.out.2.2.1,HF.out.2.2.2⟩
       case measure=>simp [intOf];omega
     · have hjk:j=k:=by omega
       subst hjk
       have hge2:¬ (j:Int)<(j:Int):=by omega
       have HF:=Lib.hid hTw
       clear hbkj hdj hroj hTj hTw
       go_wp2
       go_ret
       exact ⟨rfl,HF.out⟩
end Go.Proofs.YtcgkomafaepjnaaGreatDoor
