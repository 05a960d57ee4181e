/- Package sha: a number below another. Conditions: the first number drawn is far below the top. -/
import Derived.Test.YtcgkomafaepjnaaGreatDoorTL13
import Derived.Test.YtcgkomafaepjnaaGreatDoorTL3
import Derived.WalkSpells
import Derived.Test.YtcgkomafaepjnaaGreatDoorTL4
import Derived.Test.YtcgkomafaepjnaaGreatDoorTL8
import Derived.Test.YtcgkomafaepjnaaGreatDoorTL6
import Derived.Test.YtcgkomafaepjnaaGreatDoorTL5
set_option maxRecDepth 100000
set_option maxHeartbeats 16000000
namespace Go.Proofs.YtcgkomafaepjnaaGreatDoor
open Go.RowKit
theorem strbelow_small (b n:Nat) (w:World) (hn:n<2) :
 Calls Tryz.prog 129 #[.pointer (some ⟨b,0,none⟩),.int .u64 n] w fun e w'=>e=.returned (.int .u64 0)/\w=w':=by
 have e1:(n:Int)<2:=by omega
 go_enter Tryz.func129,Tryz.ntmps129
 go_wp2
 go_ret
 exact ⟨rfl,rfl⟩
theorem strbelow_any (b n z:Nat) (Q:World->Prop) (w:World) (hn:2<=n) (hn64:n<=64) (hz:z<18446744073709551552)
 (hN:Calls Tryz.prog 184 #[.pointer (some ⟨b,0,none⟩)] w fun e w'=>e=.returned (.int .u64 z)/\Q w') :
 Calls Tryz.prog 129 #[.pointer (some ⟨b,0,none⟩),.int .u64 n] w fun e w'=>e=.returned (.int .u64 ((z%n:Nat):Int))/\Q w':=by
 have e1:¬ ((n:Int)<2):=by omega
 have HN:=Lib.hid hN
 clear hN
 have hE:∃ E:Nat,IntKind.u64.wrap (18446744073709551615 - 18446744073709551615%(n:Int))=(E:Int)/\z<E:=by
  have h1:=Int.emod_lt_of_pos 18446744073709551615 (show (0:Int)<n by omega)
  have h2:=Int.emod_nonneg 18446744073709551615 (show (n:Int)≠0 by omega)
  refine ⟨(18446744073709551615 - 18446744073709551615%(n:Int)).toNat,?_,by omega⟩
  rw [IntKind.wrap_u64]
  omega
 obtain ⟨E,hE,hzE⟩:=hE
 go_enter Tryz.func129,Tryz.ntmps129
 go_wp2_with fail
 refine wp_loop_rounds 1 ?_
 rw [rounds_succ]
 go_wp2_with fail
 refine HN.out.mono ?_
 rintro e w1 ⟨rfl,hq⟩
 have HQ:=Lib.hid hq
 clear HN hq hz
 go_wp2
 go_ret
 exact ⟨rfl,HQ.out⟩
structure Wri (B b:Nat) (w:World) (l:List UInt8):Prop where
 wr:∃ u,Wr w b u l 0/\∀ k,u.ownBlock=some k->B<=k
 le:B<=b
 sz:B<=w.heap.size
theorem wri_step {B b:Nat} {w w':World} {u u':Value} {l':List UInt8} (hu:∀ k,u.ownBlock=some k->B<=k) (hB:B<=b) (hs:B<=w.heap.size) (h':Wr w' b u' l' 0) (ht:Touch (BuS b u) w w') (hn:NewOrSame w u u'):Wri B b w' l'/\Below B w w':=by
 refine ⟨⟨⟨u',h',fun k hk=>?_⟩,hB,Nat.le_trans hs ht.size⟩,ht.below (fun i hi=>?_) hs⟩
 · rcases hn with hn | hn
   · exact hu k (by rw [<-hn];exact hk)
   · exact Nat.le_trans hs (hn k hk)
 · rcases hi with rfl | hi
   · exact hB
   · exact hu i hi
theorem wri_num (B b n z:Nat) (w:World) (l:List UInt8) (h:Wri B b w l) (h1:1<=z) (h8:z<=8) (hn:n<256^z) (hl:l.length<=70368744177664) :
 Calls Tryz.prog 119 #[.pointer (some ⟨b,0,none⟩),.int .u64 n,.int .i64 z] w fun e w'=>e=.returned (.pointer (some ⟨b,0,none⟩))/\Wri B b w' (l++bytesTo n z z)/\Below B w w':=by
 obtain ⟨⟨u,hw,hu⟩,hB,hs⟩:=h
 refine (wrNum_in b n z w u l h1 h8 hw hl ((pow_div_zero n z).2 hn)).mono ?_
 rintro e w' ⟨he,v',hw',ht,hn'⟩
 exact ⟨he,wri_step hu hB hs hw' ht hn'⟩
theorem wri_text (B b:Nat) (s:ByteArray) (w:World) (l:List UInt8) (h:Wri B b w l) (hz:s.size<=4096) (hl:l.length<=35184372088832) :
 Calls Tryz.prog 127 #[.pointer (some ⟨b,0,none⟩),.string s] w fun e w'=>e=.returned (.pointer (some ⟨b,0,none⟩))/\Wri B b w' (l++(bytesTo s.size 2 2++s.data.toList))/\Below B w w':=by
 obtain ⟨⟨u,hw,hu⟩,hB,hs⟩:=h
 refine (wrText_any b s w u l 0 hw (by unfold maxLen;omega) hl).mono ?_
 rintro e w' ⟨he,v',hw',ht,hn'⟩
 have h1:wtL l 0 s=l++(bytesTo s.size 2 2++s.data.toList):=by unfold wtL;rw [if_pos ⟨hz,rfl⟩,List.append_assoc]
 have h2:flBad (okText s) 0 2=0:=by unfold okText;rw [decide_eq_true hz,flBad_ok]
 rw [h1,h2] at hw'
 exact ⟨he,wri_step hu hB hs hw' ht hn'⟩
theorem wr_new (w:World):Wr (w.alloc (.cells #[.pointer none,.slice none 0 0,.int .i64 0] 215)) w.heap.size (.slice none 0 0) [] 0:=
 ⟨_,heap_alloc_new _ _,.inl rfl,rfl,World.ownsRow_nil _ _ _ _,by simp [Value.ownBlock]⟩
theorem wri_new (w:World):Wri w.heap.size w.heap.size (w.alloc (.cells #[.pointer none,.slice none 0 0,.int .i64 0] 215)) []:=
 ⟨⟨_,wr_new w,by simp [Value.ownBlock]⟩,Nat.le_refl _,by simp⟩
theorem wri_bytes (B b:Nat) (w:World) (l:List UInt8) (h:Wri B b w l) :
 Calls Tryz.prog 120 #[.pointer (some ⟨b,0,none⟩)] w fun e w'=>e=.returned (.tuple #[.string ⟨l.toArray⟩,.int .i64 0])/\Below B w w':=by
 obtain ⟨⟨u,hw,hu⟩,hB,hs⟩:=h
 refine (wrBytes_any b w u l 0 hw).mono ?_
 rintro e w' ⟨he,ht⟩
 refine ⟨by rw [he];unfold wbT;rw [if_pos rfl],ht.below (fun i hi=>?_) hs⟩
 rcases hi with rfl | hi
 · exact hB
 · exact hu i hi
theorem wri_num1 (B b n:Nat) (w:World) (l:List UInt8) (h:Wri B b w l) (hn:n<256^1) (hl:l.length<=70368744177664) :
 Calls Tryz.prog 119 #[.pointer (some ⟨b,0,none⟩),.int .u64 n,.int .i64 1] w fun e w'=>e=.returned (.pointer (some ⟨b,0,none⟩))/\Wri B b w' (l++bytesTo n 1 1)/\Below B w w':=wri_num B b n 1 w l h (by decide) (by decide) hn hl
theorem wri_num2 (B b n:Nat) (w:World) (l:List UInt8) (h:Wri B b w l) (hn:n<256^2) (hl:l.length<=70368744177664) :
 Calls Tryz.prog 119 #[.pointer (some ⟨b,0,none⟩),.int .u64 n,.int .i64 2] w fun e w'=>e=.returned (.pointer (some ⟨b,0,none⟩))/\Wri B b w' (l++bytesTo n 2 2)/\Below B w w':=wri_num B b n 2 w l h (by decide) (by decide) hn hl
theorem wri_num4 (B b n:Nat) (w:World) (l:List UInt8) (h:Wri B b w l) (hn:n<256^4) (hl:l.length<=70368744177664) :
 Calls Tryz.prog 119 #[.pointer (some ⟨b,0,none⟩),.int .u64 n,.int .i64 4] w fun e w'=>e=.returned (.pointer (some ⟨b,0,none⟩))/\Wri B b w' (l++bytesTo n 4 4)/\Below B w w':=wri_num B b n 4 w l h (by decide) (by decide) hn hl
theorem Wri.drewN {B b:Nat} {w:World} {l:List UInt8} (h:Wri B b w l) (n:Nat):Wri B b (w.drewN n) l:=by
 obtain ⟨⟨u,hw,hu⟩,hB,hs⟩:=h
 exact ⟨⟨u,hw.touch (Touch.drewN (S:=fun _=>False) w n) (fun h=>h) (fun _ _ h=>h),hu⟩,hB,hs⟩
theorem Wri.drew {B b:Nat} {w:World} {l:List UInt8} (h:Wri B b w l):Wri B b w.drew l:=h.drewN 1
theorem wri_fixed (B b:Nat) (s:ByteArray) (z:Int) (w:World) (l:List UInt8) (h:Wri B b w l) (hz:(s.size:Int)=z) (hl:l.length+s.size<=35184372088832) :
 Calls Tryz.prog 126 #[.pointer (some ⟨b,0,none⟩),.string s,.int .i64 z] w fun e w'=>e=.returned (.pointer (some ⟨b,0,none⟩))/\Wri B b w' (l++s.data.toList)/\Below B w w':=by
 obtain ⟨⟨u,hw,hu⟩,hB,hs⟩:=h
 refine (wrFixed_any b s z w u l 0 hw (by omega)).mono ?_
 rintro e w' ⟨he,v',hw',ht,hn'⟩
 have h1:wfL l 0 s z=l++s.data.toList:=by unfold wfL;rw [if_pos ⟨hz,rfl⟩]
 have h2:flBad (okFixed s z) 0 10=0:=by unfold okFixed;rw [hz,beq_self_eq_true,flBad_ok]
 rw [h1,h2] at hw'
 exact ⟨he,wri_step hu hB hs hw' ht hn'⟩
def encKey (o r:List UInt8) (h:Nat):List UInt8:=o++r++[UInt8.ofNat h]
theorem encKey_length (o r:List UInt8) (h:Nat) (ho:o.length=16) (hr:r.length=16):(encKey o r h).length=33:=by simp [encKey,ho,hr]
theorem pencode_any (o r:List UInt8) (h:Nat) (w:World) (ho:o.length=16) (hr:r.length=16) (hh:h<=6) :
 Calls Tryz.prog 141 #[pubVh o r h] w fun e w'=>e=.returned (.tuple #[.string ⟨(encKey o r h).toArray⟩,.int .i64 0])/\Below w.heap.size w w':=by
 have Henc:=Lib.hid (show encKey o r h=o++(r++bytesTo h 1 1) by simp [encKey,bytesTo,byteAt])
 unfold pubVh
 have so:(ByteArray.mk o.toArray).size=16:=by show o.toArray.size=16;simpa using ho
 have sr:(ByteArray.mk r.toArray).size=16:=by show r.toArray.size=16;simpa using hr
 have hd6:decide ((6:Int)<(h:Int))=false:=by simp;omega
 go_enter Tryz.func141,Tryz.ntmps141
 go_wp2_with fail
 have hb1:Below w.heap.size w (w.alloc (.cells #[.string ⟨o.toArray⟩,.string ⟨r.toArray⟩,.int .i64 h] 88)):=(Below.refl _ _).alloc (Nat.le_refl _) _
 have hr1:(w.alloc (.cells #[.string ⟨o.toArray⟩,.string ⟨r.toArray⟩,.int .i64 h] 88)).heap[w.heap.size]?=some (.cells #[.string ⟨o.toArray⟩,.string ⟨r.toArray⟩,.int .i64 h] 88 (0,0)):=heap_alloc_new _ _
 have hw2:=(wri_new (w.alloc (.cells #[.string ⟨o.toArray⟩,.string ⟨r.toArray⟩,.int .i64 h] 88))).drew
 have hbb:(w.alloc (.cells #[.string ⟨o.toArray⟩,.string ⟨r.toArray⟩,.int .i64 h] 88)).heap.size=w.heap.size+1:=by simp
 rw [hbb] at hw2
 generalize (w.alloc (.cells #[.string ⟨o.toArray⟩,.string ⟨r.toArray⟩,.int .i64 h] 88))=W1 at hb1 hr1 hw2 hbb |-
 generalize w.heap.size+1=bb at hw2 hbb |-
 have hlt:w.heap.size<bb:=by rw [<-hbb];exact (Array.getElem?_eq_some_iff.1 hr1).1
 have hb2:Below bb W1 (W1.alloc (.cells #[.pointer none,.slice none 0 0,.int .i64 0] 215)):=by rw [<-hbb];exact (Below.refl _ _).alloc (Nat.le_refl _) _
 generalize (W1.alloc (.cells #[.pointer none,.slice none 0 0,.int .i64 0] 215))=W2 at hw2 hb2 |-
 have hK:=Lib.hid (fun (W':World) (hb:Below bb W2.drew W')=>(⟨((hb2.drew.trans hb).cell (p:=⟨w.heap.size,0,none⟩) hlt).trans (cel hr1),((hb2.drew.trans hb).cell (p:=⟨w.heap.size,1,none⟩) hlt).trans (cel hr1),((hb2.drew.trans hb).cell (p:=⟨w.heap.size,2,none⟩) hlt).trans (cel hr1)⟩:W'.cell? ⟨w.heap.size,0,none⟩=some (.string ⟨o.toArray⟩)/\W'.cell? ⟨w.heap.size,1,none⟩=some (.string ⟨r.toArray⟩)/\W'.cell? ⟨w.heap.size,2,none⟩=some (.int .i64 h)))
 have HB:=Lib.hid (hb1.trans ((hb2.drew).mono (by omega)))
 have hb2':=Lib.hid (Below.refl bb W2.drew)
 have so':((ByteArray.mk o.toArray).size:Int)=16:=by rw [so];rfl
 have sr':((ByteArray.mk r.toArray).size:Int)=16:=by rw [sr];rfl
 have lo1:([]:List UInt8).length+(ByteArray.mk o.toArray).size<=35184372088832:=by rw [so];decide
 have lo2:([]++(ByteArray.mk o.toArray).data.toList).length+(ByteArray.mk r.toArray).size<=35184372088832:=by rw [sr];simp [ho]
 have lo3:([]++(ByteArray.mk o.toArray).data.toList++(ByteArray.mk r.toArray).data.toList).length<=70368744177664:=by simp [ho,hr]
 have h256:h<256^1:=by omega
 have hu64:IntKind.u64.wrap (h:Int)=(h:Int):=by rw [IntKind.wrap_u64];omega
 have Hbb:=Lib.hid hbb
 clear hr1 hb1 hb2 hbb
 go_region_held3 (fun W'=>W'.cell? ⟨w.heap.size,0,none⟩=some (.string ⟨o.toArray⟩)/\W'.cell? ⟨w.heap.size,1,none⟩=some (.string ⟨r.toArray⟩)/\W'.cell? ⟨w.heap.size,2,none⟩=some (.int .i64 h)) (first | exact hK.out _ (by assumption) | exact hK.out _ hb2'.out)
  (first
    | (go_at_call 126;with_reducible refine (wri_fixed bb bb ⟨o.toArray⟩ 16 _ [] hw2 so' lo1).mono ?_;rintro e wA ⟨rfl,hwA,hbA⟩)
    | (go_at_call 126;with_reducible refine (wri_fixed bb bb ⟨r.toArray⟩ 16 _ _ hwA sr' lo2).mono ?_;rintro e wB ⟨rfl,hwB,hbB'⟩;have hbB:=hbA.trans hbB';clear hbB')
    | (go_at_call 119;with_reducible refine (wri_num1 bb bb h _ _ hwB h256 lo3).mono ?_;rintro e wC ⟨rfl,hwC,hbC'⟩;have hbC:=hbB.trans hbC';clear hbC')
    | (go_at_call 120;with_reducible refine (wri_bytes bb bb _ _ hwC).mono ?_;rintro e wD ⟨rfl,hbD'⟩;have hbD:=hbC.trans hbD';clear hbD'))
 all_goals
  go_wp2
  go_ret2
  refine ⟨?_,HB.out.trans (hbD.mono (by omega))⟩
  rw [Henc.out]
  rfl
theorem own_zero {w:World} {B:Nat} {e:TypeId} {size n:Nat} {v:Value} {xs:List Value} (h:w.ownsRow B e size v n xs):w.ownsRow 0 e size v n xs:=
 ⟨h.1,h.2.imp id fun ⟨g,cap,cur,h1,_,h2⟩=>⟨g,cap,cur,h1,Nat.zero_le _,h2⟩⟩
theorem Tryz.info_clone_auds:(Tryz.prog.info? 90).map (fun i=>(i.zero,i.size,i.bytes))=some (some (.agg #[.string .empty,.string .empty,.string .empty,.int .i64 0]),4,56):=by kernel_rfl
theorem clone_auds (B:Nat) (v:Value) (n:Nat) (xs:List Value) (w:World) (ho:w.ownsRow B 90 4 v n xs) (hone:∀ u∈xs,u.oneCell'=true) (hn:n<=100000) :
 Calls Tryz.prog 205 #[v] w fun e w'=>∃ v',e=.returned v'/\w'.ownsRow w.heap.size 90 4 v' n xs/\Below w.heap.size w w':=by
 have hlen:=ho.1
 have q:=fun (w:World) (a:Option Addr) (n c n' c':Nat)=>Lib.run_eql_slice_nil (P:=Tryz.prog) w 135 90 a n c n' c' Tryz.underlying135
 rcases ho.2 with ⟨rfl,hxs⟩ | ⟨g,cap,cur,rfl,hB,hg,hnc,_⟩
 · go_enter Tryz.func205,Tryz.ntmps205
   go_wp2
   go_ret
   exact ⟨_,rfl,⟨hlen,.inl ⟨rfl,hxs⟩⟩,Below.refl _ _⟩
 · obtain ⟨i0,hi,hz0,hz1,hz2⟩:=info_parts Tryz.info_clone_auds
   have HC:=Lib.hid ho
   go_enter Tryz.func205,Tryz.ntmps205
   go_wp2_with (at_builtin;refine Hid.out ?_)
   unfold Hid
   refine wpList_append_own _ rfl _ _ 135 rfl w.heap.size 90 i0 _ 4 56 Tryz.underlying135 hi hz0 hz1 hz2 rfl (by decide) _ 0 [] rfl (World.ownsRow_made w #[] 0 (Nat.le_refl _) (Nat.zero_le _) rfl) ⟨g,0,none⟩ n cap xs rfl (by simpa using hlen) ?_ hone (by unfold maxLen;omega) (by omega) (by simp) ?_
   · intro j u hj
     exact Lib.cell?_alloc_some _ (HC.out.cells (g:=g) rfl j u hj)
   · intro v' w1 hown hgrow _
     have hB1:Below w.heap.size w w1:=((Below.refl _ _).alloc (Nat.le_refl _) _).grown hgrow (by simp) (fun k hk=>by have h2:some w.heap.size=some k:=hk;injection h2 with h2;omega)
     have hown':w1.ownsRow w.heap.size 90 4 v' n xs:=by simpa using hown
     clear hown hgrow
     go_wp2
     go_ret
     exact ⟨v',rfl,hown',hB1⟩
theorem Tryz.info_clone_heads:(Tryz.prog.info? 69).map (fun i=>(i.zero,i.size,i.bytes))=some (some (.agg #[.int .u64 0,.string .empty,.int .i64 0,.int .i64 0,.slice none 0 0]),5,64):=by kernel_rfl
theorem clone_heads (B:Nat) (v:Value) (n:Nat) (xs:List Value) (w:World) (ho:w.ownsRow B 69 5 v n xs) (hone:∀ u∈xs,u.oneCell'=true) (hn:n<=100000) :
 Calls Tryz.prog 72 #[v] w fun e w'=>∃ v',e=.returned v'/\w'.ownsRow w.heap.size 69 5 v' n xs/\Below w.heap.size w w':=by
 have hlen:=ho.1
 have q:=fun (w:World) (a:Option Addr) (n c n' c':Nat)=>Lib.run_eql_slice_nil (P:=Tryz.prog) w 74 69 a n c n' c' Tryz.underlying74
 rcases ho.2 with ⟨rfl,hxs⟩ | ⟨g,cap,cur,rfl,hB,hg,hnc,_⟩
 · go_enter Tryz.func72,Tryz.ntmps72
   go_wp2
   go_ret
   exact ⟨_,rfl,⟨hlen,.inl ⟨rfl,hxs⟩⟩,Below.refl _ _⟩
 · obtain ⟨i0,hi,hz0,hz1,hz2⟩:=info_parts Tryz.info_clone_heads
   have HC:=Lib.hid ho
   go_enter Tryz.func72,Tryz.ntmps72
   go_wp2_with (at_builtin;refine Hid.out ?_)
   unfold Hid
   refine wpList_append_own _ rfl _ _ 74 rfl w.heap.size 69 i0 _ 5 64 Tryz.underlying74 hi hz0 hz1 hz2 rfl (by decide) _ 0 [] rfl (World.ownsRow_made w #[] 0 (Nat.le_refl _) (Nat.zero_le _) rfl) ⟨g,0,none⟩ n cap xs rfl (by simpa using hlen) ?_ hone (by unfold maxLen;omega) (by omega) (by simp) ?_
   · intro j u hj
     exact Lib.cell?_alloc_some _ (HC.out.cells (g:=g) rfl j u hj)
   · intro v' w1 hown hgrow _
     have hB1:Below w.heap.size w w1:=((Below.refl _ _).alloc (Nat.le_refl _) _).grown hgrow (by simp) (fun k hk=>by have h2:some w.heap.size=some k:=hk;injection h2 with h2;omega)
     have hown':w1.ownsRow w.heap.size 69 5 v' n xs:=by simpa using hown
     clear hown hgrow
     go_wp2
     go_ret
     exact ⟨v',rfl,hown',hB1⟩
theorem Tryz.info_clone_ents:(Tryz.prog.info? 105).map (fun i=>(i.zero,i.size,i.bytes))=some (some (.agg #[.int .u64 0,.string .empty,.string .empty,.int .i64 0,.string .empty]),5,64):=by kernel_rfl
theorem clone_ents (B:Nat) (v:Value) (n:Nat) (xs:List Value) (w:World) (ho:w.ownsRow B 105 5 v n xs) (hone:∀ u∈xs,u.oneCell'=true) (hn:n<=100000) :
 Calls Tryz.prog 81 #[v] w fun e w'=>∃ v',e=.returned v'/\w'.ownsRow w.heap.size 105 5 v' n xs/\Below w.heap.size w w':=by
 have hlen:=ho.1
 have q:=fun (w:World) (a:Option Addr) (n c n' c':Nat)=>Lib.run_eql_slice_nil (P:=Tryz.prog) w 98 105 a n c n' c' Tryz.underlying98
 rcases ho.2 with ⟨rfl,hxs⟩ | ⟨g,cap,cur,rfl,hB,hg,hnc,_⟩
 · go_enter Tryz.func81,Tryz.ntmps81
   go_wp2
   go_ret
   exact ⟨_,rfl,⟨hlen,.inl ⟨rfl,hxs⟩⟩,Below.refl _ _⟩
 · obtain ⟨i0,hi,hz0,hz1,hz2⟩:=info_parts Tryz.info_clone_ents
   have HC:=Lib.hid ho
   go_enter Tryz.func81,Tryz.ntmps81
   go_wp2_with (at_builtin;refine Hid.out ?_)
   unfold Hid
   refine wpList_append_own _ rfl _ _ 98 rfl w.heap.size 105 i0 _ 5 64 Tryz.underlying98 hi hz0 hz1 hz2 rfl (by decide) _ 0 [] rfl (World.ownsRow_made w #[] 0 (Nat.le_refl _) (Nat.zero_le _) rfl) ⟨g,0,none⟩ n cap xs rfl (by simpa using hlen) ?_ hone (by unfold maxLen;omega) (by omega) (by simp) ?_
   · intro j u hj
     exact Lib.cell?_alloc_some _ (HC.out.cells (g:=g) rfl j u hj)
   · intro v' w1 hown hgrow _
     have hB1:Below w.heap.size w w1:=((Below.refl _ _).alloc (Nat.le_refl _) _).grown hgrow (by simp) (fun k hk=>by have h2:some w.heap.size=some k:=hk;injection h2 with h2;omega)
     have hown':w1.ownsRow w.heap.size 105 5 v' n xs:=by simpa using hown
     clear hown hgrow
     go_wp2
     go_ret
     exact ⟨v',rfl,hown',hB1⟩
def posOf (n:Nat):List UInt8:=tagOf 15 [[0,UInt8.ofNat n]]
theorem rplace_any (n:Nat) (w:World) (hn:n<64) (hK:Kon w) :
 Calls Tryz.prog 137 #[.int .i64 n] w fun e w'=>e=.returned (.string ⟨(posOf n).toArray⟩)/\Below w.heap.size w w':=by
 have e2:(n:Int)/256=0:=by omega
 have hu:IntKind.u8.wrap (n:Int)=(n:Int):=by rw [IntKind.wrap_u8];omega
 have hst:∀ W:World,(convert 58 9 (.slice (some ⟨W.heap.size,0,none⟩) 2 2)).run Tryz.prog (W.alloc (.cells #[.int .u8 0,.int .u8 n] 5))=.ok (.string ⟨[0,UInt8.ofNat n].toArray⟩) (W.alloc (.cells #[.int .u8 0,.int .u8 n] 5)):=by
  intro W
  have e:(#[.int .u8 0,.int .u8 n]:Array Value)=(bytesV [0,UInt8.ofNat n]).toArray:=by
   simp only [bytesV,List.map_cons,List.map_nil]
   simp
   omega
  rw [e]
  exact run_string_block Tryz.underlying58 Tryz.underlying5 Tryz.underlying9 (heap_alloc_new W _) rfl
 have hb1:Below w.heap.size w (w.alloc (.cells #[.int .u8 0,.int .u8 n] 5)):=(Below.refl _ _).alloc (Nat.le_refl _) _
 have hT:Hid (Calls Tryz.prog 9 #[.int .u8 15,.slice (some ⟨w.heap.size+1,0,none⟩) 1 1] ((w.alloc (.cells #[.int .u8 0,.int .u8 n] 5)).alloc (.cells #[.string ⟨[0,UInt8.ofNat n].toArray⟩] 9)) fun e w'=>e=.returned (.string ⟨(posOf n).toArray⟩)/\Below w.heap.size w w'):=Lib.hid (by
  have:=tagged_new 15 [⟨[0,UInt8.ofNat n].toArray⟩] 1 rfl (w.alloc (.cells #[.int .u8 0,.int .u8 n] 5)) (by decide) (by decide) (by rw [tagIn_len];simp) (hK.old hb1)
  rw [show (w.alloc (.cells #[.int .u8 0,.int .u8 n] 5)).heap.size=w.heap.size+1 from by simp] at this
  exact this.mono fun e w' h=>⟨h.1,hb1.trans (h.2.mono (Nat.le_succ _))⟩)
 generalize posOf n=P at hT |-
 clear hK
 generalize [0,UInt8.ofNat n].toArray=bs at hst hT
 go_enter Tryz.func137,Tryz.ntmps137
 go_wp2_with fail
 refine hT.out.mono ?_
 rintro e w' ⟨rfl,hb⟩
 go_wp2
 go_ret
 exact ⟨rfl,hb⟩
def audV (s:ByteArray) (o r:List UInt8) (h:Nat):Value:=.agg #[.string s,.string ⟨o.toArray⟩,.string ⟨r.toArray⟩,.int .i64 h]
def valAud (s:ByteArray) (o r:List UInt8) (h:Nat):List UInt8:=tagOf 16 [s.data.toList,encKey o r h]
theorem avalue_any (s:ByteArray) (o r:List UInt8) (h:Nat) (w:World) (hs:s.size<=1000) (ho:o.length=16) (hr:r.length=16) (hh:h<=6) (hK:Kon w) :
 Calls Tryz.prog 139 #[audV s o r h] w fun e w'=>e=.returned (.string ⟨(valAud s o r h).toArray⟩)/\Below w.heap.size w w':=by
 have hP:=Lib.hid (fun W=>pencode_any o r h W ho hr hh)
 have hkl:=encKey_length o r h ho hr
 have hT:Hid (∀ W:World,Kon W->Calls Tryz.prog 9 #[.int .u8 16,.slice (some ⟨W.heap.size,0,none⟩) 2 2] (W.alloc (.cells #[.string s,.string ⟨(encKey o r h).toArray⟩] 9)) fun e w'=>e=.returned (.string ⟨(valAud s o r h).toArray⟩)/\Below W.heap.size W w'):=
  Lib.hid (fun W hk=>tagged_new 16 [s,⟨(encKey o r h).toArray⟩] 2 rfl W (by decide) (by decide) (by rw [tagIn_len];simp [hkl];omega) hk)
 have HK:=Lib.hid hK
 unfold audV
 unfold pubVh at hP
 generalize encKey o r h=E at hP hT hkl
 generalize valAud s o r h=V at hT |-
 clear hK
 go_enter Tryz.func139,Tryz.ntmps139
 go_wp2_with fail
 have hb1:Below w.heap.size w (w.alloc (.cells #[.string s,.string ⟨o.toArray⟩,.string ⟨r.toArray⟩,.int .i64 h] 90)):=(Below.refl _ _).alloc (Nat.le_refl _) _
 have hr1:(w.alloc (.cells #[.string s,.string ⟨o.toArray⟩,.string ⟨r.toArray⟩,.int .i64 h] 90)).heap[w.heap.size]?=some (.cells #[.string s,.string ⟨o.toArray⟩,.string ⟨r.toArray⟩,.int .i64 h] 90 (0,0)):=heap_alloc_new _ _
 generalize (w.alloc (.cells #[.string s,.string ⟨o.toArray⟩,.string ⟨r.toArray⟩,.int .i64 h] 90))=W1 at hb1 hr1 |-
 refine (hP.out W1).mono ?_
 rintro e w2 ⟨rfl,hb2⟩
 have hB2:=hb1.trans (hb2.mono hb1.size)
 have hr2:=(hb2.block _ (lt_of_heap hr1)).trans hr1
 have y0:w2.cell? ⟨w.heap.size,0,none⟩=some (.string s):=cel hr2
 have hTW:=Lib.hid (hT.out w2 (HK.out.old hB2))
 have HB2:=Lib.hid hB2
 clear hP hT hb1 hr1 hb2 hB2 hr2
 go_wp2_with fail
 refine hTW.out.mono ?_
 rintro e w3 ⟨rfl,hb3⟩
 have HB3:=Lib.hid (HB2.out.trans (hb3.mono HB2.out.size))
 clear hTW hb3 y0
 go_wp2
 go_ret
 exact ⟨rfl,HB3.out⟩
def RosAt (w:World) (b:Nat) (v:Value):Prop:=w.heap[b]?=some (.cells #[v] 264 (0,0))
theorem rnew_any (w:World) :
 Calls Tryz.prog 107 #[] w fun e w'=>e=.returned (.pointer (some ⟨w.heap.size,0,none⟩))/\RosAt w' w.heap.size (.slice none 0 0)/\Below w.heap.size w w':=by
 go_enter Tryz.func107,Tryz.ntmps107
 go_wp2
 go_ret
 exact ⟨rfl,heap_alloc_new _ _,(Below.refl _ _).alloc (Nat.le_refl _) _⟩
theorem rlen_any (b:Nat) (a:Option Addr) (n c:Nat) (w:World) (h:RosAt w b (.slice a n c)) :
 Calls Tryz.prog 173 #[.pointer (some ⟨b,0,none⟩)] w fun e w'=>e=.returned (.int .i64 n)/\w=w':=by
 have c0:w.cell? ⟨b,0,none⟩=some (.slice a n c):=cel h
 clear h
 go_enter Tryz.func173,Tryz.ntmps173
 go_wp2
 go_ret
 exact ⟨rfl,rfl⟩
theorem rcopy_any (b B:Nat) (v:Value) (n:Nat) (xs:List Value) (w:World) (h:RosAt w b v) (ho:w.ownsRow B 90 4 v n xs) (hone:∀ u∈xs,u.oneCell'=true) (hn:n<=64) :
 Calls Tryz.prog 172 #[.pointer (some ⟨b,0,none⟩)] w fun e w'=>∃ b' v',e=.returned (.pointer (some ⟨b',0,none⟩))/\w.heap.size<=b'/\RosAt w' b' v'/\w'.ownsRow w.heap.size 90 4 v' n xs/\Below w.heap.size w w':=by
 have c0:w.cell? ⟨b,0,none⟩=some v:=cel h
 have hcl:=Lib.hid (clone_auds B v n xs w ho hone (by omega))
 clear h ho hone
 go_enter Tryz.func172,Tryz.ntmps172
 go_wp2_with fail
 refine hcl.out.mono ?_
 rintro e w1 ⟨v',rfl,ho1,hb1⟩
 obtain ⟨a',c',rfl⟩:=own_slice ho1
 have hs1:=hb1.size
 have HO:=Lib.hid ho1
 have HB:=Lib.hid hb1
 clear hcl ho1 hb1
 go_wp2
 go_ret
 exact ⟨w1.heap.size,_,rfl,hs1,heap_alloc_new _ _,HO.out.alloc _,HB.out.alloc hs1 _⟩
def attV (ep b:Nat) (hd:List UInt8) (num:Nat) (si:Int) (a1:Option Addr) (n1 c1:Nat) (a2:Option Addr) (n2 c2:Nat):Value:=.agg #[.int .u64 ep,.int .i64 b,.string ⟨hd.toArray⟩,.int .i64 num,.int .i64 si,.slice a1 n1 c1,.slice a2 n2 c2]
def placeAt (ep b num:Nat):List UInt8:=[]++bytesTo ep 4 4++bytesTo b 1 1++bytesTo num 2 2
theorem placeAt_length (ep b num:Nat):(placeAt ep b num).length=7:=by
 unfold placeAt
 rw [List.nil_append,List.length_append,List.length_append,bytesTo_le,bytesTo_le,bytesTo_le]
def msgAt (ep b num:Nat) (hd:List UInt8):List UInt8:=tagOf 18 [placeAt ep b num,hd]
theorem atmay_any (ep b:Nat) (hd:List UInt8) (num:Nat) (si:Int) (a1:Option Addr) (n1 c1:Nat) (a2:Option Addr) (n2 c2:Nat) (w:World) (h1:ep<4294967296) (h2:b<16) (h3:hd.length=16) (h4:num<64) :
 Calls Tryz.prog 134 #[attV ep b hd num si a1 n1 c1 a2 n2 c2] w fun e w'=>e=.returned (.bool true)/\Below w.heap.size w w':=by
 have e1:(ep:Int)<=4294967295:=by omega
 have e2:(0:Int)<=(b:Int):=by omega
 have e3:(b:Int)<16:=by omega
 have e4:(0:Int)<=(num:Int):=by omega
 have e5:(num:Int)<64:=by omega
 have e6:((hd.length:Int)==16)=true:=by rw [h3];rfl
 unfold attV
 clear h1 h2 h3 h4
 go_enter Tryz.func134,Tryz.ntmps134
 go_wp2
 go_ret
 exact ⟨rfl,(Below.refl _ _).alloc (Nat.le_refl _) _⟩
theorem aplace_any (ep b:Nat) (hd:List UInt8) (num:Nat) (si:Int) (a1:Option Addr) (n1 c1:Nat) (a2:Option Addr) (n2 c2:Nat) (w:World) (h1:ep<4294967296) (h2:b<16) (h4:num<64) :
 Calls Tryz.prog 135 #[attV ep b hd num si a1 n1 c1 a2 n2 c2] w fun e w'=>e=.returned (.string ⟨(placeAt ep b num).toArray⟩)/\Below w.heap.size w w':=by
 unfold attV
 have d256:ep<256^4:=by omega
 have b256:b<256^1:=by omega
 have n256:num<256^2:=by omega
 have hub:IntKind.u64.wrap (b:Int)=(b:Int):=by rw [IntKind.wrap_u64];omega
 have hun:IntKind.u64.wrap (num:Int)=(num:Int):=by rw [IntKind.wrap_u64];omega
 have l1:([]:List UInt8).length<=70368744177664:=by decide
 have l2:([]++bytesTo ep 4 4).length<=70368744177664:=by rw [List.nil_append,bytesTo_le];omega
 have l3:([]++bytesTo ep 4 4++bytesTo b 1 1).length<=70368744177664:=by rw [List.nil_append,List.length_append,bytesTo_le,bytesTo_le];omega
 clear h1 h2 h4
 go_enter Tryz.func135,Tryz.ntmps135
 go_wp2_with fail
 have hb1:Below w.heap.size w (w.alloc (.cells #[.int .u64 ep,.int .i64 b,.string ⟨hd.toArray⟩,.int .i64 num,.int .i64 si,.slice a1 n1 c1,.slice a2 n2 c2] 86)):=(Below.refl _ _).alloc (Nat.le_refl _) _
 have hr1:(w.alloc (.cells #[.int .u64 ep,.int .i64 b,.string ⟨hd.toArray⟩,.int .i64 num,.int .i64 si,.slice a1 n1 c1,.slice a2 n2 c2] 86)).heap[w.heap.size]?=some (.cells #[.int .u64 ep,.int .i64 b,.string ⟨hd.toArray⟩,.int .i64 num,.int .i64 si,.slice a1 n1 c1,.slice a2 n2 c2] 86 (0,0)):=heap_alloc_new _ _
 have hsz:(w.alloc (.cells #[.int .u64 ep,.int .i64 b,.string ⟨hd.toArray⟩,.int .i64 num,.int .i64 si,.slice a1 n1 c1,.slice a2 n2 c2] 86)).heap.size=w.heap.size+1:=by simp
 rw [<-hsz]
 generalize (w.alloc (.cells #[.int .u64 ep,.int .i64 b,.string ⟨hd.toArray⟩,.int .i64 num,.int .i64 si,.slice a1 n1 c1,.slice a2 n2 c2] 86))=w2 at hb1 hr1 hsz |-
 have hw3:=(wri_new w2).drew
 have hb3:Below w2.heap.size w2 (w2.alloc (.cells #[.pointer none,.slice none 0 0,.int .i64 0] 215)):=(Below.refl _ _).alloc (Nat.le_refl _) _
 generalize (w2.alloc (.cells #[.pointer none,.slice none 0 0,.int .i64 0] 215))=W3 at hw3 hb3 |-
 have hlt2:=lt_of_heap hr1
 have hK:=Lib.hid (fun (W':World) (hb:Below w2.heap.size W3.drew W')=>(⟨((hb3.drew.trans hb).cell (p:=⟨w.heap.size,0,none⟩) hlt2).trans (cel hr1),((hb3.drew.trans hb).cell (p:=⟨w.heap.size,1,none⟩) hlt2).trans (cel hr1),((hb3.drew.trans hb).cell (p:=⟨w.heap.size,3,none⟩) hlt2).trans (cel hr1)⟩:W'.cell? ⟨w.heap.size,0,none⟩=some (.int .u64 ep)/\W'.cell? ⟨w.heap.size,1,none⟩=some (.int .i64 b)/\W'.cell? ⟨w.heap.size,3,none⟩=some (.int .i64 num)))
 have HB3:=Lib.hid hb3.drew
 have HB1:=Lib.hid hb1
 have hb3':=Lib.hid (Below.refl w2.heap.size W3.drew)
 have s2:w.heap.size<=w2.heap.size:=by omega
 clear hr1 hb1 hb3 hlt2 hsz
 go_region_held3 (fun W'=>W'.cell? ⟨w.heap.size,0,none⟩=some (.int .u64 ep)/\W'.cell? ⟨w.heap.size,1,none⟩=some (.int .i64 b)/\W'.cell? ⟨w.heap.size,3,none⟩=some (.int .i64 num)) (first | exact hK.out _ (by assumption) | exact hK.out _ hb3'.out)
  (first
    | (go_at_call 119;with_reducible refine (wri_num4 w2.heap.size w2.heap.size ep _ _ hw3 d256 l1).mono ?_;rintro e wA ⟨rfl,hwA,hbA⟩)
    | (go_at_call 119;with_reducible refine (wri_num1 w2.heap.size w2.heap.size b _ _ hwA b256 l2).mono ?_;rintro e wC ⟨rfl,hwC,hbC'⟩;have hbC:=hbA.trans hbC';clear hbC')
    | (go_at_call 119;with_reducible refine (wri_num2 w2.heap.size w2.heap.size num _ _ hwC n256 l3).mono ?_;rintro e wD ⟨rfl,hwD,hbD'⟩;have hbD:=hbC.trans hbD';clear hbD')
    | (go_at_call 120;with_reducible refine (wri_bytes w2.heap.size w2.heap.size _ _ hwD).mono ?_;rintro e wE ⟨rfl,hbE'⟩;have hbE:=hbD.trans hbE';clear hbE'))
 have HBE:=Lib.hid (HB1.out.trans ((HB3.out.trans hbE).mono s2))
 clear hbA hbC hbD hbE hwA hwC hwD hw3 l1 l2 l3 hK
 go_wp2
 go_ret
 exact ⟨rfl,HBE.out⟩
theorem amessage_any (ep b:Nat) (hd:List UInt8) (num:Nat) (si:Int) (a1:Option Addr) (n1 c1:Nat) (a2:Option Addr) (n2 c2:Nat) (w:World) (h1:ep<4294967296) (h2:b<16) (h3:hd.length=16) (h4:num<64) (hK:Kon w) :
 Calls Tryz.prog 76 #[attV ep b hd num si a1 n1 c1 a2 n2 c2] w fun e w'=>e=.returned (.string ⟨(msgAt ep b num hd).toArray⟩)/\Below w.heap.size w w':=by
 have hM:=Lib.hid (fun W=>atmay_any ep b hd num si a1 n1 c1 a2 n2 c2 W h1 h2 h3 h4)
 have hP:=Lib.hid (fun W=>aplace_any ep b hd num si a1 n1 c1 a2 n2 c2 W h1 h2 h4)
 have hpl:=placeAt_length ep b num
 have hT:=Lib.hid (fun (W:World) (hk:Kon W)=>(show Calls Tryz.prog 9 #[.int .u8 18,.slice (some ⟨W.heap.size,0,none⟩) 2 2] (W.alloc (.cells #[.string ⟨(placeAt ep b num).toArray⟩,.string ⟨hd.toArray⟩] 9)) fun e w'=>e=.returned (.string ⟨(msgAt ep b num hd).toArray⟩)/\Below W.heap.size W w' from
  tagged_new 18 [⟨(placeAt ep b num).toArray⟩,⟨hd.toArray⟩] 2 rfl W (by decide) (by decide) (by rw [tagIn_len];simp [hpl,h3]) hk))
 have HK:=Lib.hid hK
 unfold attV at hM hP |-
 generalize placeAt ep b num=P at hP hT
 generalize msgAt ep b num hd=M at hT |-
 clear hK h1 h2 h3 h4 hpl
 go_enter Tryz.func76,Tryz.ntmps76
 go_wp2_with fail
 have hb1:Below w.heap.size w (w.alloc (.cells #[.int .u64 ep,.int .i64 b,.string ⟨hd.toArray⟩,.int .i64 num,.int .i64 si,.slice a1 n1 c1,.slice a2 n2 c2] 86)):=(Below.refl _ _).alloc (Nat.le_refl _) _
 have hr1:(w.alloc (.cells #[.int .u64 ep,.int .i64 b,.string ⟨hd.toArray⟩,.int .i64 num,.int .i64 si,.slice a1 n1 c1,.slice a2 n2 c2] 86)).heap[w.heap.size]?=some (.cells #[.int .u64 ep,.int .i64 b,.string ⟨hd.toArray⟩,.int .i64 num,.int .i64 si,.slice a1 n1 c1,.slice a2 n2 c2] 86 (0,0)):=heap_alloc_new _ _
 generalize (w.alloc (.cells #[.int .u64 ep,.int .i64 b,.string ⟨hd.toArray⟩,.int .i64 num,.int .i64 si,.slice a1 n1 c1,.slice a2 n2 c2] 86))=W1 at hb1 hr1 |-
 refine (hM.out W1).mono ?_
 rintro e w2 ⟨rfl,hb2⟩
 have hB2:=hb1.trans (hb2.mono hb1.size)
 have hr2:=(hb2.block _ (lt_of_heap hr1)).trans hr1
 have HR2:=Lib.hid (fun W (hb:Below w2.heap.size w2 W)=>(hb.block _ (lt_of_heap hr2)).trans hr2)
 have s2:=hB2.size
 obtain ⟨H,hH⟩:∃ H,H=w.heap.size:=⟨_,rfl⟩
 obtain ⟨Pre,hPre⟩:∃ Pre:World->Prop,Pre=fun W=>Below w2.heap.size w2 W:=⟨_,rfl⟩
 have hcp:=Lib.hid (fun A (hA:Pre A)=>(show A.cell? ⟨H,0,none⟩=some (.int .u64 ep)/\A.cell? ⟨H,1,none⟩=some (.int .i64 b)/\A.cell? ⟨H,2,none⟩=some (.string ⟨hd.toArray⟩)/\A.cell? ⟨H,3,none⟩=some (.int .i64 num)/\A.cell? ⟨H,4,none⟩=some (.int .i64 si)/\A.cell? ⟨H,5,none⟩=some (.slice a1 n1 c1)/\A.cell? ⟨H,6,none⟩=some (.slice a2 n2 c2) by
  rw [hPre] at hA
  have hr:=HR2.out A hA
  rw [hH]
  refine ⟨?_,?_,?_,?_,?_,?_,?_⟩
  · rw [cell_of_row _ _ 0 _ _ _ hr];rfl
  · rw [cell_of_row _ _ 1 _ _ _ hr];rfl
  · rw [cell_of_row _ _ 2 _ _ _ hr];rfl
  · rw [cell_of_row _ _ 3 _ _ _ hr];rfl
  · rw [cell_of_row _ _ 4 _ _ _ hr];rfl
  · rw [cell_of_row _ _ 5 _ _ _ hr];rfl
  · rw [cell_of_row _ _ 6 _ _ _ hr];rfl))
 have hpp:∀ A B,Pre A->Below A.heap.size A B->Pre B:=by
  intro A B hA hb
  rw [hPre] at hA |-
  exact hA.trans (hb.mono hA.size)
 have q1:=Lib.hid (fun A (hA:Pre A)=>(hP.out A).mono (R':=fun e w'=>e=.returned (.string ⟨P.toArray⟩)/\Pre w') fun e w' hh=>⟨hh.1,hpp A w' hA hh.2⟩)
 have q2:=Lib.hid (fun A (hA:Pre A)=>(hT.out A (by rw [hPre] at hA;exact (HK.out.old hB2).old hA)).mono (R':=fun e w'=>e=.returned (.string ⟨M.toArray⟩)/\Pre w') fun e w' hh=>⟨hh.1,hpp A w' hA hh.2⟩)
 have hpa:=Lib.hid (fun A ob (hA:Pre A)=>(show Pre (A.alloc ob) from hpp A _ hA ((Below.refl _ _).alloc (Nat.le_refl _) _)))
 have hpre0:Pre w2.drew:=by rw [hPre];exact below_drew w2
 have HH:=Lib.hid hH
 have HPre:=Lib.hid hPre
 have HB2:=Lib.hid hB2
 clear hH hPre hb1 hr1 hb2 hB2 hr2 hpp hM hP hT
 rw [<-HH.out]
 go_wp2_with fail
 go_region_held3 (fun A=>A.cell? ⟨H,0,none⟩=some (.int .u64 ep)/\A.cell? ⟨H,1,none⟩=some (.int .i64 b)/\A.cell? ⟨H,2,none⟩=some (.string ⟨hd.toArray⟩)/\A.cell? ⟨H,3,none⟩=some (.int .i64 num)/\A.cell? ⟨H,4,none⟩=some (.int .i64 si)/\A.cell? ⟨H,5,none⟩=some (.slice a1 n1 c1)/\A.cell? ⟨H,6,none⟩=some (.slice a2 n2 c2)) (first | exact hcp.out _ (by assumption) | exact hcp.out _ (hpa.out _ _ (by assumption)))
  (first
    | (go_at_call 135;with_reducible refine (q1.out _ (by assumption)).mono ?_;rintro e wA ⟨rfl,hpreA⟩)
    | (go_at_call 9;with_reducible refine (q2.out _ (by assumption)).mono ?_;rintro e wB ⟨rfl,hpreB⟩))
 have HQ:=Lib.hid (HPre.out ▸ hpreB)
 clear hcp q1 q2 hpa hpreA hpreB hpre0
 go_wp2
 go_ret
 exact ⟨rfl,HB2.out.trans (HQ.out.mono s2)⟩
theorem averify_any (ep b:Nat) (hd:List UInt8) (num:Nat) (si:Int) (a1:Option Addr) (n1 c1:Nat) (a2:Option Addr) (n2 c2:Nat) (o r:List UInt8) (h:Int) (w:World) (h1:ep<4294967296) (h2:b<16) (h3:hd.length=16) (h4:num<64) (hK:Kon w)
 (hV:∀ W,Below w.heap.size w W->Calls Tryz.prog 86 #[pubVh o r h,.string ⟨(msgAt ep b num hd).toArray⟩,.agg #[.int .i64 si,.slice a1 n1 c1,.slice a2 n2 c2]] W fun e w'=>e=.returned (.bool true)/\Below W.heap.size W w') :
 Calls Tryz.prog 140 #[attV ep b hd num si a1 n1 c1 a2 n2 c2,pubVh o r h] w fun e w'=>e=.returned (.bool true)/\Below w.heap.size w w':=by
 have hM:=Lib.hid (fun W=>atmay_any ep b hd num si a1 n1 c1 a2 n2 c2 W h1 h2 h3 h4)
 have hG:=Lib.hid (fun W (hk:Kon W)=>amessage_any ep b hd num si a1 n1 c1 a2 n2 c2 W h1 h2 h3 h4 hk)
 have HK:=Lib.hid hK
 have HV:=Lib.hid hV
 unfold attV at hM hG |-
 unfold pubVh at HV |-
 generalize msgAt ep b num hd=M at hG HV
 clear hK hV h1 h2 h3 h4
 go_enter Tryz.func140,Tryz.ntmps140
 go_wp2_with fail
 have hb1:Below w.heap.size w ((w.alloc (.cells #[.int .u64 ep,.int .i64 b,.string ⟨hd.toArray⟩,.int .i64 num,.int .i64 si,.slice a1 n1 c1,.slice a2 n2 c2] 86)).alloc (.cells #[.string ⟨o.toArray⟩,.string ⟨r.toArray⟩,.int .i64 h] 88)):=((Below.refl _ _).alloc (Nat.le_refl _) _).alloc (by simp) _
 have hr1:((w.alloc (.cells #[.int .u64 ep,.int .i64 b,.string ⟨hd.toArray⟩,.int .i64 num,.int .i64 si,.slice a1 n1 c1,.slice a2 n2 c2] 86)).alloc (.cells #[.string ⟨o.toArray⟩,.string ⟨r.toArray⟩,.int .i64 h] 88)).heap[w.heap.size]?=some (.cells #[.int .u64 ep,.int .i64 b,.string ⟨hd.toArray⟩,.int .i64 num,.int .i64 si,.slice a1 n1 c1,.slice a2 n2 c2] 86 (0,0)):=heap_alloc2_old _ _ _
 have hr2:((w.alloc (.cells #[.int .u64 ep,.int .i64 b,.string ⟨hd.toArray⟩,.int .i64 num,.int .i64 si,.slice a1 n1 c1,.slice a2 n2 c2] 86)).alloc (.cells #[.string ⟨o.toArray⟩,.string ⟨r.toArray⟩,.int .i64 h] 88)).heap[w.heap.size+1]?=some (.cells #[.string ⟨o.toArray⟩,.string ⟨r.toArray⟩,.int .i64 h] 88 (0,0)):=heap_alloc2_new _ _ _
 generalize ((w.alloc (.cells #[.int .u64 ep,.int .i64 b,.string ⟨hd.toArray⟩,.int .i64 num,.int .i64 si,.slice a1 n1 c1,.slice a2 n2 c2] 86)).alloc (.cells #[.string ⟨o.toArray⟩,.string ⟨r.toArray⟩,.int .i64 h] 88))=W1 at hb1 hr1 hr2 |-
 have s1:=hb1.size
 have hl2:=lt_of_heap hr2
 have HR:=Lib.hid (fun W (hb:Below W1.heap.size W1 W)=>And.intro ((hb.block _ (lt_of_heap hr1)).trans hr1) ((hb.block _ hl2).trans hr2))
 obtain ⟨H,hH⟩:∃ H,H=w.heap.size:=⟨_,rfl⟩
 obtain ⟨Pre,hPre⟩:∃ Pre:World->Prop,Pre=fun W=>Below W1.heap.size W1 W:=⟨_,rfl⟩
 have hcp:=Lib.hid (fun A (hA:Pre A)=>(show A.cell? ⟨H,0,none⟩=some (.int .u64 ep)/\A.cell? ⟨H,1,none⟩=some (.int .i64 b)/\A.cell? ⟨H,2,none⟩=some (.string ⟨hd.toArray⟩)/\A.cell? ⟨H,3,none⟩=some (.int .i64 num)/\A.cell? ⟨H,4,none⟩=some (.int .i64 si)/\A.cell? ⟨H,5,none⟩=some (.slice a1 n1 c1)/\A.cell? ⟨H,6,none⟩=some (.slice a2 n2 c2)/\A.cell? ⟨H+1,0,none⟩=some (.string ⟨o.toArray⟩)/\A.cell? ⟨H+1,1,none⟩=some (.string ⟨r.toArray⟩)/\A.cell? ⟨H+1,2,none⟩=some (.int .i64 h) by
  rw [hPre] at hA
  obtain ⟨hr,hq⟩:=HR.out A hA
  rw [hH]
  refine ⟨?_,?_,?_,?_,?_,?_,?_,?_,?_,?_⟩
  · rw [cell_of_row _ _ 0 _ _ _ hr];rfl
  · rw [cell_of_row _ _ 1 _ _ _ hr];rfl
  · rw [cell_of_row _ _ 2 _ _ _ hr];rfl
  · rw [cell_of_row _ _ 3 _ _ _ hr];rfl
  · rw [cell_of_row _ _ 4 _ _ _ hr];rfl
  · rw [cell_of_row _ _ 5 _ _ _ hr];rfl
  · rw [cell_of_row _ _ 6 _ _ _ hr];rfl
  · rw [cell_of_row _ _ 0 _ _ _ hq];rfl
  · rw [cell_of_row _ _ 1 _ _ _ hq];rfl
  · rw [cell_of_row _ _ 2 _ _ _ hq];rfl))
 have hpp:∀ A B,Pre A->Below A.heap.size A B->Pre B:=by
  intro A B hA hb
  rw [hPre] at hA |-
  exact hA.trans (hb.mono hA.size)
 have hpw:∀ A,Pre A->Below w.heap.size w A:=by
  intro A hA
  rw [hPre] at hA
  exact hb1.trans (hA.mono s1)
 have q0:=Lib.hid (fun A (hA:Pre A)=>(hM.out A).mono (R':=fun e w'=>e=.returned (.bool true)/\Pre w') fun e w' hh=>⟨hh.1,hpp A w' hA hh.2⟩)
 have q1:=Lib.hid (fun A (hA:Pre A)=>(hG.out A (HK.out.old (hpw A hA))).mono (R':=fun e w'=>e=.returned (.string ⟨M.toArray⟩)/\Pre w') fun e w' hh=>⟨hh.1,hpp A w' hA hh.2⟩)
 have q2:=Lib.hid (fun A (hA:Pre A)=>(HV.out A (hpw A hA)).mono (R':=fun e w'=>e=.returned (.bool true)/\Pre w') fun e w' hh=>⟨hh.1,hpp A w' hA hh.2⟩)
 have hpre0:Pre W1.drew:=by rw [hPre];exact below_drew W1
 have HH:=Lib.hid hH
 have HPW:=Lib.hid hpw
 clear hH hPre hb1 hr1 hr2 hpp hpw hM hG HV s1 hl2
 rw [<-HH.out]
 go_region_held3 (fun A=>A.cell? ⟨H,0,none⟩=some (.int .u64 ep)/\A.cell? ⟨H,1,none⟩=some (.int .i64 b)/\A.cell? ⟨H,2,none⟩=some (.string ⟨hd.toArray⟩)/\A.cell? ⟨H,3,none⟩=some (.int .i64 num)/\A.cell? ⟨H,4,none⟩=some (.int .i64 si)/\A.cell? ⟨H,5,none⟩=some (.slice a1 n1 c1)/\A.cell? ⟨H,6,none⟩=some (.slice a2 n2 c2)/\A.cell? ⟨H+1,0,none⟩=some (.string ⟨o.toArray⟩)/\A.cell? ⟨H+1,1,none⟩=some (.string ⟨r.toArray⟩)/\A.cell? ⟨H+1,2,none⟩=some (.int .i64 h)) (first | exact hcp.out _ (by assumption))
  (first
    | (go_at_call 134;with_reducible refine (q0.out _ (by assumption)).mono ?_;rintro e wA ⟨rfl,hpreA⟩)
    | (go_at_call 76;with_reducible refine (q1.out _ (by assumption)).mono ?_;rintro e wB ⟨rfl,hpreB⟩)
    | (go_at_call 86;with_reducible refine (q2.out _ (by assumption)).mono ?_;rintro e wC ⟨rfl,hpreC⟩))
 have HQ:=Lib.hid (HPW.out _ hpreC)
 clear hcp q0 q1 q2 hpreA hpreB hpreC hpre0
 go_wp2
 go_ret
 exact ⟨rfl,HQ.out⟩
theorem hnode_any (s:Tx) (w:World) (h:okNode s=true) :
 Calls Tryz.prog 183 #[.string ⟨s.toArray⟩] w fun e w'=>e=.returned (.bool true)/\w=w':=by
 by_cases h0:s=emp
 · subst h0
   show Calls _ _ #[.string ⟨#[0]⟩] w _
   go_enter Tryz.func183,Tryz.ntmps183
   go_wp2
   go_ret
   exact ⟨rfl,rfl⟩
 · unfold okNode at h
   have h0':(s==emp)=false:=by simp [h0]
   rw [h0',Bool.false_or,Bool.and_eq_true] at h
   obtain ⟨h1,h2⟩:=h
   obtain ⟨x,r,rfl⟩:∃ x r,s=x :: r:=by
    cases s with
    | nil=>simp at h1
    | cons x r=>exact ⟨x,r,rfl⟩
   have hr:r.length=16:=by simp at h1;exact h1
   have hne:¬ (x :: r)=[0]:=h0
   rw [List.head?_cons] at h2
   have hx:x=1\/x=2:=by
    rcases Bool.or_eq_true _ _ ▸ h2 with e | e
    · left;simpa using e
    · right;simpa using e
   have hsz:(ByteArray.mk (x :: r).toArray).size=17:=by show (x :: r).toArray.size=17;simp [hr]
   have hsz':(((ByteArray.mk (x :: r).toArray).size:Nat):Int)=17:=by rw [hsz];rfl
   clear h0 h0' h1 h2
   rcases hx with rfl | rfl
   · go_enter Tryz.func183,Tryz.ntmps183
     go_wp2
     go_ret
     exact ⟨rfl,rfl⟩
   · go_enter Tryz.func183,Tryz.ntmps183
     go_wp2
     all_goals (go_ret;exact ⟨rfl,rfl⟩)
def hdV (ep:Nat) (par:List UInt8) (d au:Nat) (a:Option Addr) (N c:Nat):Value:=.agg #[.int .u64 ep,.string ⟨par.toArray⟩,.int .i64 d,.int .i64 au,.slice a N c]
structure HdOk (ep:Nat) (par:List UInt8) (d au N:Nat) (nodes:List (List UInt8)):Prop where
 hep:ep<4294967296
 hpar:par.length=16
 hd:d<=3
 hau:au<=64
 hn:N=2^d
 hlen:nodes.length=N
 hnd:∀ x∈nodes,okNode x=true
theorem hcheck_any (ep:Nat) (par:List UInt8) (d au:Nat) (a:Option Addr) (N c:Nat) (nodes:List (List UInt8)) (w:World) (hok:HdOk ep par d au N nodes) (hc:Cells w (.slice a N c) (txs nodes)) :
 Calls Tryz.prog 125 #[hdV ep par d au a N c] w fun e w'=>e=.returned (.int .i64 0)/\Below w.heap.size w w':=by
 obtain ⟨h1,h2,h3,h4,h5,h6,h7⟩:=hok
 have hcnt:=Lib.hid (fun W=>bcount_any d W h3)
 have HC:=Lib.hid hc
 have H7:=Lib.hid h7
 have H6:=Lib.hid h6
 rw [<-h5] at hcnt
 have hN1:1<=N:=by rw [h5];exact Nat.two_pow_pos d
 have hN8:N<=8:=by rw [h5];exact Nat.le_trans (Nat.pow_le_pow_right (by decide) h3) (by decide)
 have sp:((ByteArray.mk par.toArray).size:Int)=16:=by rw [show (ByteArray.mk par.toArray).size=16 from by show par.toArray.size=16;simpa using h2];rfl
 have sp':(ByteArray.mk par.toArray).size=16:=by show par.toArray.size=16;simpa using h2
 have c1:¬ ((4294967295:Int)<(ep:Int)):=by omega
 have c2:((N:Int)==0)=false:=by simp;omega
 have c3:¬ ((64:Int)<(au:Int)):=by omega
 unfold hdV
 clear hc h7 h6 h5
 go_enter Tryz.func125,Tryz.ntmps125
 go_wp2_with fail
 have hb1:Below w.heap.size w (w.alloc (.cells #[.int .u64 ep,.string ⟨par.toArray⟩,.int .i64 d,.int .i64 au,.slice a N c] 69)):=(Below.refl _ _).alloc (Nat.le_refl _) _
 have hr1:(w.alloc (.cells #[.int .u64 ep,.string ⟨par.toArray⟩,.int .i64 d,.int .i64 au,.slice a N c] 69)).heap[w.heap.size]?=some (.cells #[.int .u64 ep,.string ⟨par.toArray⟩,.int .i64 d,.int .i64 au,.slice a N c] 69 (0,0)):=heap_alloc_new _ _
 generalize (w.alloc (.cells #[.int .u64 ep,.string ⟨par.toArray⟩,.int .i64 d,.int .i64 au,.slice a N c] 69))=W at hb1 hr1 |-
 refine (hcnt.out W).mono ?_
 rintro e Wx ⟨rfl,rfl⟩
 have y0:Wx.cell? ⟨w.heap.size,0,none⟩=some (.int .u64 ep):=cel hr1
 have y1:Wx.cell? ⟨w.heap.size,1,none⟩=some (.string ⟨par.toArray⟩):=cel hr1
 have y2:Wx.cell? ⟨w.heap.size,2,none⟩=some (.int .i64 d):=cel hr1
 have y3:Wx.cell? ⟨w.heap.size,3,none⟩=some (.int .i64 au):=cel hr1
 have y4:Wx.cell? ⟨w.heap.size,4,none⟩=some (.slice a N c):=cel hr1
 have HCW:=Lib.hid (HC.out.old hb1)
 have HB1:=Lib.hid hb1
 clear hcnt hr1 hb1
 go_wp2_with fail
 go_loop [42] (fun i=>∃ k:Nat,k<=N/\i=.int .i64 (k:Int)) (fun i=>N - (intOf i).toNat)
 case atStart=>exact ⟨0,Nat.zero_le _,rfl⟩
 case round=>
  obtain ⟨k,hk,rfl⟩:=hrel
  by_cases hlt:k<N
  · have hlt':(k:Int)<(N:Int):=by omega
    obtain ⟨g,off,rfl,hgl,hck⟩:=HCW.out.tx_at k hlt
    have hx:okNode (nodes.getD k [])=true:=by
     rw [List.getD_eq_getElem?_getD,List.getElem?_eq_getElem (by rw [H6.out];exact hlt)]
     exact H7.out _ (List.getElem_mem _)
    generalize nodes.getD k []=x at hck hx
    have hcall:=Lib.hid (hnode_any x Wx hx)
    clear hx
    go_wp2_with fail
    refine hcall.out.mono ?_
    rintro e w' ⟨rfl,rfl⟩
    clear hcall
    go_wp2
    go_round
    case rel=>exact ⟨k+1,by omega,by go_num⟩
    case measure=>simp [intOf];omega
  · have hge:¬ (k:Int)<(N:Int):=by omega
    go_wp2
    go_ret
    exact ⟨rfl,HB1.out⟩
def txtsOf (l:List (List UInt8)) (k:Nat):List UInt8:=(l.take k).flatMap fun x=>bytesTo x.length 2 2++x
theorem txtsOf_succ (l:List (List UInt8)) (k:Nat) (h:k<l.length):txtsOf l (k+1)=txtsOf l k++(bytesTo (l.getD k []).length 2 2++l.getD k []):=by
 unfold txtsOf
 rw [List.take_succ_eq_append_getElem h,List.flatMap_append,List.getD_eq_getElem?_getD,List.getElem?_eq_getElem h]
 simp
def headOf (ep:Nat) (par:List UInt8) (d au:Nat):List UInt8:=[]++bytesTo ep 4 4++par++bytesTo d 1 1++bytesTo au 1 1
def encHd (ep:Nat) (par:List UInt8) (d au:Nat) (nodes:List (List UInt8)):List UInt8:=headOf ep par d au++txtsOf nodes nodes.length
theorem hdNode_le {x:Tx} (h:okNode x=true):x.length<=17:=by
 unfold okNode at h
 rcases Bool.or_eq_true _ _ ▸ h with e | e
 · have:x=emp:=by simpa using e
   rw [this];decide
 · have:=(Bool.and_eq_true _ _ ▸ e).1
   have:x.length=17:=by simpa using this
   omega
theorem txtsOf_le (l:List (List UInt8)) (h:∀ x∈l,okNode x=true):∀ k,k<=l.length->(txtsOf l k).length<=19*k:=by
 intro k
 induction k with
 | zero=>intro _;simp [txtsOf]
 | succ k ih=>
   intro hk
   have h1:=ih (by omega)
   have h2:okNode (l.getD k [])=true:=by
    rw [List.getD_eq_getElem?_getD,List.getElem?_eq_getElem (show k<l.length by omega)]
    exact h _ (List.getElem_mem _)
   have h3:=hdNode_le h2
   rw [txtsOf_succ l k (by omega),List.length_append,List.length_append,bytesTo_le]
   omega
theorem hencode_any (ep:Nat) (par:List UInt8) (d au:Nat) (a:Option Addr) (N c:Nat) (nodes:List (List UInt8)) (w:World) (hok:HdOk ep par d au N nodes) (hc:Cells w (.slice a N c) (txs nodes)) :
 Calls Tryz.prog 71 #[hdV ep par d au a N c] w fun e w'=>e=.returned (.tuple #[.string ⟨(encHd ep par d au nodes).toArray⟩,.int .i64 0])/\Below w.heap.size w w':=by
 have hck:=Lib.hid (fun W (hb:Below w.heap.size w W)=>hcheck_any ep par d au a N c nodes W hok (hc.old hb))
 obtain ⟨h1,h2,h3,h4,h5,h6,h7⟩:=hok
 have HC:=Lib.hid hc
 have H7:=Lib.hid h7
 have H6:=Lib.hid h6
 have hN8:N<=8:=by rw [h5];exact Nat.le_trans (Nat.pow_le_pow_right (by decide) h3) (by decide)
 have Henc:=Lib.hid (show encHd ep par d au nodes=headOf ep par d au++txtsOf nodes N by unfold encHd;rw [h6])
 have Hhead:=Lib.hid (show headOf ep par d au=[]++bytesTo ep 4 4++par++bytesTo d 1 1++bytesTo au 1 1 from rfl)
 have sp:((ByteArray.mk par.toArray).size:Int)=16:=by rw [show (ByteArray.mk par.toArray).size=16 from by show par.toArray.size=16;simpa using h2];rfl
 have sp':(ByteArray.mk par.toArray).size=16:=by show par.toArray.size=16;simpa using h2
 have hTL:=Lib.hid (txtsOf_le nodes h7)
 unfold hdV at hck |-
 clear hc h7 h6 h5
 go_enter Tryz.func71,Tryz.ntmps71
 go_wp2_with fail
 have hb1:Below w.heap.size w (w.alloc (.cells #[.int .u64 ep,.string ⟨par.toArray⟩,.int .i64 d,.int .i64 au,.slice a N c] 69)):=(Below.refl _ _).alloc (Nat.le_refl _) _
 have hr1:(w.alloc (.cells #[.int .u64 ep,.string ⟨par.toArray⟩,.int .i64 d,.int .i64 au,.slice a N c] 69)).heap[w.heap.size]?=some (.cells #[.int .u64 ep,.string ⟨par.toArray⟩,.int .i64 d,.int .i64 au,.slice a N c] 69 (0,0)):=heap_alloc_new _ _
 generalize (w.alloc (.cells #[.int .u64 ep,.string ⟨par.toArray⟩,.int .i64 d,.int .i64 au,.slice a N c] 69))=W at hb1 hr1 |-
 refine (hck.out W hb1).mono ?_
 rintro e w2 ⟨rfl,hb2⟩
 have hr2:=(hb2.block _ (lt_of_heap hr1)).trans hr1
 have hB2:=hb1.trans (hb2.mono hb1.size)
 have hlt2:=lt_of_heap hr2
 clear hck hb1 hr1 hb2
 go_wp2_with fail
 have hw3:=(wri_new w2).drew
 have hb3:Below w2.heap.size w2 (w2.alloc (.cells #[.pointer none,.slice none 0 0,.int .i64 0] 215)):=(Below.refl _ _).alloc (Nat.le_refl _) _
 generalize (w2.alloc (.cells #[.pointer none,.slice none 0 0,.int .i64 0] 215))=W3 at hw3 hb3 |-
 have hK:=Lib.hid (fun (W':World) (hb:Below w2.heap.size W3.drew W')=>(⟨((hb3.drew.trans hb).cell (p:=⟨w.heap.size,0,none⟩) hlt2).trans (cel hr2),((hb3.drew.trans hb).cell (p:=⟨w.heap.size,1,none⟩) hlt2).trans (cel hr2),((hb3.drew.trans hb).cell (p:=⟨w.heap.size,2,none⟩) hlt2).trans (cel hr2),((hb3.drew.trans hb).cell (p:=⟨w.heap.size,3,none⟩) hlt2).trans (cel hr2)⟩:W'.cell? ⟨w.heap.size,0,none⟩=some (.int .u64 ep)/\W'.cell? ⟨w.heap.size,1,none⟩=some (.string ⟨par.toArray⟩)/\W'.cell? ⟨w.heap.size,2,none⟩=some (.int .i64 d)/\W'.cell? ⟨w.heap.size,3,none⟩=some (.int .i64 au)))
 have hK4:=Lib.hid (fun (W':World) (hb:Below w2.heap.size W3.drew W')=>(((hb3.drew.trans hb).cell (p:=⟨w.heap.size,4,none⟩) hlt2).trans (cel hr2):W'.cell? ⟨w.heap.size,4,none⟩=some (.slice a N c)))
 have HC2:=Lib.hid (HC.out.old hB2)
 have HB3:=Lib.hid (hb3.drew)
 have HB2:=Lib.hid hB2
 have hb3':=Lib.hid (Below.refl w2.heap.size W3.drew)
 have h256:ep<256^4:=by omega
 have d256:d<256^1:=by omega
 have a256:au<256^1:=by omega
 have hud:IntKind.u64.wrap (d:Int)=(d:Int):=by rw [IntKind.wrap_u64];omega
 have hua:IntKind.u64.wrap (au:Int)=(au:Int):=by rw [IntKind.wrap_u64];omega
 have l1:([]:List UInt8).length<=70368744177664:=by decide
 have l2:([]++bytesTo ep 4 4).length+(ByteArray.mk par.toArray).size<=35184372088832:=by rw [List.nil_append,bytesTo_le];omega
 have l3:([]++bytesTo ep 4 4++(ByteArray.mk par.toArray).data.toList).length<=70368744177664:=by rw [List.nil_append,List.length_append,bytesTo_le];simp [h2]
 have l4:([]++bytesTo ep 4 4++(ByteArray.mk par.toArray).data.toList++bytesTo d 1 1).length<=70368744177664:=by rw [List.nil_append,List.length_append,List.length_append,bytesTo_le,bytesTo_le];simp [h2]
 have hhl:(headOf ep par d au).length=22:=by unfold headOf;rw [List.nil_append,List.length_append,List.length_append,List.length_append,bytesTo_le,bytesTo_le,bytesTo_le,h2]
 have s2:=hB2.size
 clear hr2 hB2 hb3 hlt2 h1 h3 h4
 go_region_held3 (fun W'=>W'.cell? ⟨w.heap.size,0,none⟩=some (.int .u64 ep)/\W'.cell? ⟨w.heap.size,1,none⟩=some (.string ⟨par.toArray⟩)/\W'.cell? ⟨w.heap.size,2,none⟩=some (.int .i64 d)/\W'.cell? ⟨w.heap.size,3,none⟩=some (.int .i64 au)) (first | exact hK.out _ (by assumption) | exact hK.out _ hb3'.out)
  (first
    | (go_at_call 119;with_reducible refine (wri_num4 w2.heap.size w2.heap.size ep _ _ hw3 h256 l1).mono ?_;rintro e wA ⟨rfl,hwA,hbA⟩)
    | (go_at_call 126;with_reducible refine (wri_fixed w2.heap.size w2.heap.size ⟨par.toArray⟩ 16 _ _ hwA sp l2).mono ?_;rintro e wB ⟨rfl,hwB,hbB'⟩;have hbB:=hbA.trans hbB';clear hbB')
    | (go_at_call 119;with_reducible refine (wri_num1 w2.heap.size w2.heap.size d _ _ hwB d256 l3).mono ?_;rintro e wC ⟨rfl,hwC,hbC'⟩;have hbC:=hbB.trans hbC';clear hbC')
    | (go_at_call 119;with_reducible refine (wri_num1 w2.heap.size w2.heap.size au _ _ hwC a256 l4).mono ?_;rintro e wD ⟨rfl,hwD,hbD'⟩;have hbD:=hbC.trans hbD';clear hbD'))
 have hwD:Wri w2.heap.size w2.heap.size wD (headOf ep par d au):=hwD
 have x4:=hK4.out wD hbD
 have HBD:=Lib.hid (HB3.out.trans hbD)
 clear hbA hbB hbC hbD hwA hwB hwC hw3 l1 l2 l3 l4 hK
 generalize headOf ep par d au=hd at hwD hhl Henc
 go_wp2_with fail
 clear x4
 go_loopw [30] (fun i W=>∃ k:Nat,k<=N/\i=.int .i64 (k:Int)/\Wri w2.heap.size w2.heap.size W (hd++txtsOf nodes k)/\Below w2.heap.size w2 W) (fun i _=>N - (intOf i).toNat)
 case atStart=>exact ⟨0,Nat.zero_le _,rfl,by rw [show hd++txtsOf nodes 0=hd from by simp [txtsOf]];exact hwD,HBD.out⟩
 case round=>
  obtain ⟨k,hk,rfl,hw,hb⟩:=hrel
  clear hwD
  have hlk:=hTL.out k (by rw [H6.out];exact hk)
  by_cases hlt:k<N
  · have hlt':(k:Int)<(N:Int):=by omega
    have hkl:k<nodes.length:=by rw [H6.out];exact hlt
    obtain ⟨g,off,rfl,hgl,hck⟩:=HC2.out.tx_at k hlt
    have hck:=(hb.cell (p:=⟨g,off+k,none⟩) hgl).trans hck
    have hx:okNode (nodes.getD k [])=true:=by
     rw [List.getD_eq_getElem?_getD,List.getElem?_eq_getElem hkl]
     exact H7.out _ (List.getElem_mem _)
    have hx17:=hdNode_le hx
    have Hsucc:=Lib.hid (txtsOf_succ nodes k hkl)
    generalize nodes.getD k []=x at hck hx17 Hsucc
    have sx:(ByteArray.mk x.toArray).size=x.length:=by show x.toArray.size=_;simp
    have hcall:=Lib.hid (wri_text w2.heap.size w2.heap.size ⟨x.toArray⟩ wr (hd++txtsOf nodes k) hw (by rw [sx];omega) (by rw [List.length_append];omega))
    rw [sx] at hcall
    have Hb:=Lib.hid hb
    clear hw hb hx sx
    go_wp2_with fail
    refine hcall.out.mono ?_
    rintro e w4 ⟨rfl,hw4,hb4⟩
    have hB4:=Hb.out.trans hb4
    have hw5:Wri w2.heap.size w2.heap.size w4 (hd++txtsOf nodes (k+1)):=by
     rw [Hsucc.out,<-List.append_assoc];exact hw4
    clear hcall hck hb4 hw4
    go_wp2
    go_roundw
    case rel=>exact ⟨k+1,by omega,by go_num,hw5,hB4⟩
    case measure=>simp [intOf];omega
  · obtain rfl:k=N:=by omega
    have hge:¬ (k:Int)<(k:Int):=by omega
    rw [<-Henc.out] at hw
    have HW:=Lib.hid hw
    have HBB:=Lib.hid (HB2.out.trans (hb.mono s2))
    clear hw hb
    go_wp2_with fail
    refine (wri_bytes _ _ _ _ HW.out).mono ?_
    rintro e w5 ⟨rfl,hb5⟩
    have HB5:=Lib.hid (HBB.out.trans (hb5.mono s2))
    clear hb5
    go_wp2
    go_ret2
    exact ⟨rfl,HB5.out⟩
theorem encHd_le (ep:Nat) (par:List UInt8) (d au N:Nat) (nodes:List (List UInt8)) (hok:HdOk ep par d au N nodes):(encHd ep par d au nodes).length<=200:=by
 have hN8:N<=8:=by rw [hok.hn];exact Nat.le_trans (Nat.pow_le_pow_right (by decide) hok.hd) (by decide)
 have hl:=hok.hlen
 have:=txtsOf_le nodes hok.hnd nodes.length (Nat.le_refl _)
 unfold encHd headOf
 rw [List.nil_append,List.length_append,List.length_append,List.length_append,List.length_append,bytesTo_le,bytesTo_le,bytesTo_le,hok.hpar]
 omega
def digHd (ep:Nat) (par:List UInt8) (d au:Nat) (nodes:List (List UInt8)):List UInt8:=tagOf 14 [encHd ep par d au nodes]
theorem hdigest_any (ep:Nat) (par:List UInt8) (d au:Nat) (a:Option Addr) (N c:Nat) (nodes:List (List UInt8)) (w:World) (hok:HdOk ep par d au N nodes) (hc:Cells w (.slice a N c) (txs nodes)) (hK:Kon w) :
 Calls Tryz.prog 73 #[hdV ep par d au a N c] w fun e w'=>e=.returned (.string ⟨(digHd ep par d au nodes).toArray⟩)/\Below w.heap.size w w':=by
 have hE:=Lib.hid (fun W (hb:Below w.heap.size w W)=>hencode_any ep par d au a N c nodes W hok (hc.old hb))
 have hel:=encHd_le ep par d au N nodes hok
 have hT:Hid (∀ W:World,Kon W->Calls Tryz.prog 9 #[.int .u8 14,.slice (some ⟨W.heap.size,0,none⟩) 1 1] (W.alloc (.cells #[.string ⟨(encHd ep par d au nodes).toArray⟩] 9)) fun e w'=>e=.returned (.string ⟨(digHd ep par d au nodes).toArray⟩)/\Below W.heap.size W w'):=
  Lib.hid (fun W hk=>tagged_new 14 [⟨(encHd ep par d au nodes).toArray⟩] 1 rfl W (by decide) (by decide) (by rw [tagIn_len];simp;omega) hk)
 have HK:=Lib.hid hK
 unfold hdV at hE |-
 generalize encHd ep par d au nodes=E at hE hT hel
 generalize digHd ep par d au nodes=V at hT |-
 clear hok hK hc
 go_enter Tryz.func73,Tryz.ntmps73
 go_wp2_with fail
 have hb1:Below w.heap.size w (w.alloc (.cells #[.int .u64 ep,.string ⟨par.toArray⟩,.int .i64 d,.int .i64 au,.slice a N c] 69)):=(Below.refl _ _).alloc (Nat.le_refl _) _
 refine (hE.out _ hb1).mono ?_
 rintro e w2 ⟨rfl,hb2⟩
 have hB2:=hb1.trans (hb2.mono (by simp))
 have hTW:=Lib.hid (hT.out w2 (HK.out.old hB2))
 have HB2:=Lib.hid hB2
 clear hE hT hb2 hB2 hb1
 go_wp2_with fail
 refine hTW.out.mono ?_
 rintro e w3 ⟨rfl,hb3⟩
 have HB3:=Lib.hid (HB2.out.trans (hb3.mono HB2.out.size))
 clear hTW hb3
 go_wp2
 go_ret
 exact ⟨rfl,HB3.out⟩
theorem digHd_length (ep:Nat) (par:List UInt8) (d au:Nat) (nodes:List (List UInt8)):(digHd ep par d au nodes).length=16:=tagOf_length _ _
theorem hsame_any (ep:Nat) (par:List UInt8) (d au:Nat) (a:Option Addr) (N c:Nat) (nodes:List (List UInt8)) (ep':Nat) (par':List UInt8) (d' au':Nat) (a':Option Addr) (N' c':Nat) (nodes':List (List UInt8)) (b:Bool) (w:World) (hok:HdOk ep par d au N nodes) (hc:Cells w (.slice a N c) (txs nodes)) (hok':HdOk ep' par' d' au' N' nodes') (hc':Cells w (.slice a' N' c') (txs nodes')) (hb:(encHd ep par d au nodes==encHd ep' par' d' au' nodes')=b) :
 Calls Tryz.prog 28 #[hdV ep par d au a N c,hdV ep' par' d' au' a' N' c'] w fun e w'=>e=.returned (.bool b)/\Below w.heap.size w w':=by
 have hE:=Lib.hid (fun W (hb:Below w.heap.size w W)=>hencode_any ep par d au a N c nodes W hok (hc.old hb))
 have hE':=Lib.hid (fun W (hb:Below w.heap.size w W)=>hencode_any ep' par' d' au' a' N' c' nodes' W hok' (hc'.old hb))
 unfold hdV at hE hE' |-
 generalize encHd ep par d au nodes=E at hE hb
 generalize encHd ep' par' d' au' nodes'=E' at hE' hb
 have hbl:((ByteArray.mk E.toArray).toList==(ByteArray.mk E'.toArray).toList)=b:=by rw [ByteArray.toList_mk,ByteArray.toList_mk];exact hb
 clear hok hok' hc hc'
 go_enter Tryz.func28,Tryz.ntmps28
 go_wp2_with fail
 have hb1:Below w.heap.size w ((w.alloc (.cells #[.int .u64 ep,.string ⟨par.toArray⟩,.int .i64 d,.int .i64 au,.slice a N c] 69)).alloc (.cells #[.int .u64 ep',.string ⟨par'.toArray⟩,.int .i64 d',.int .i64 au',.slice a' N' c'] 69)):=((Below.refl _ _).alloc (Nat.le_refl _) _).alloc (by simp) _
 have hr1:((w.alloc (.cells #[.int .u64 ep,.string ⟨par.toArray⟩,.int .i64 d,.int .i64 au,.slice a N c] 69)).alloc (.cells #[.int .u64 ep',.string ⟨par'.toArray⟩,.int .i64 d',.int .i64 au',.slice a' N' c'] 69)).heap[w.heap.size+1]?=some (.cells #[.int .u64 ep',.string ⟨par'.toArray⟩,.int .i64 d',.int .i64 au',.slice a' N' c'] 69 (0,0)):=heap_alloc2_new _ _ _
 generalize ((w.alloc (.cells #[.int .u64 ep,.string ⟨par.toArray⟩,.int .i64 d,.int .i64 au,.slice a N c] 69)).alloc (.cells #[.int .u64 ep',.string ⟨par'.toArray⟩,.int .i64 d',.int .i64 au',.slice a' N' c'] 69))=W at hb1 hr1 |-
 refine (hE.out W hb1).mono ?_
 rintro e w2 ⟨rfl,hb2⟩
 have hr2:=(hb2.block _ (lt_of_heap hr1)).trans hr1
 have hB2:=hb1.trans (hb2.mono hb1.size)
 have y0:w2.cell? ⟨w.heap.size+1,0,none⟩=some (.int .u64 ep'):=cel hr2
 have y1:w2.cell? ⟨w.heap.size+1,1,none⟩=some (.string ⟨par'.toArray⟩):=cel hr2
 have y2:w2.cell? ⟨w.heap.size+1,2,none⟩=some (.int .i64 d'):=cel hr2
 have y3:w2.cell? ⟨w.heap.size+1,3,none⟩=some (.int .i64 au'):=cel hr2
 have y4:w2.cell? ⟨w.heap.size+1,4,none⟩=some (.slice a' N' c'):=cel hr2
 have HB2:=Lib.hid hB2
 clear hE hb1 hr1 hb2 hr2 hB2
 go_wp2_with fail
 refine (hE'.out w2 HB2.out).mono ?_
 rintro e w3 ⟨rfl,hb3⟩
 have HB3:=Lib.hid (HB2.out.trans (hb3.mono HB2.out.size))
 clear hE' hb3 y0 y1 y2 y3 y4
 go_wp2
 go_ret
 exact ⟨by simp_all,HB3.out⟩
end Go.Proofs.YtcgkomafaepjnaaGreatDoor
