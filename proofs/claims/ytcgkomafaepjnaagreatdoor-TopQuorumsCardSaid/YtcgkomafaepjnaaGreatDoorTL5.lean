/- Package smt: leaf, Leaf, Join. Conditions: short texts. -/
import Derived.Test.YtcgkomafaepjnaaGreatDoorTL2
import Derived.Test.YtcgkomafaepjnaaGreatDoorTL4
import Derived.Test.YtcgkomafaepjnaaGreatDoorTL1
import Derived.StillTailTactics
import Derived.Deep.RegionHeld3
import Derived.Laws.IdiomStrings
set_option maxRecDepth 100000
set_option maxHeartbeats 16000000
namespace Go.Proofs.YtcgkomafaepjnaaGreatDoor
open Go.RowKit
def lfOf (k v:Tx):Tx:=1 :: tagOf 9 [k,v]
def nfOf (a b:Tx):Tx:=2 :: tagOf 10 [a,b]
def hs:Hs:=⟨lfOf,nfOf,fun _ _=>⟨_,rfl,tagOf_length _ _⟩,fun _ _=>⟨_,rfl,tagOf_length _ _⟩⟩
theorem lfOf_length (k v:Tx):(lfOf k v).length=17:=by unfold lfOf;rw [List.length_cons,tagOf_length]
theorem nfOf_length (a b:Tx):(nfOf a b).length=17:=by unfold nfOf;rw [List.length_cons,tagOf_length]
theorem one_list (x:Tx) (y:UInt8):((⟨x.toArray⟩:ByteArray).toList==[y])=(x==[y]):=by rw [ByteArray.toList_eq]
theorem leaf_any (x:Tx) (w:World) :
 Calls Tryz.prog 98 #[.string ⟨x.toArray⟩] w fun e w'=>e=.returned (.bool (isLf x))/\w'=w:=by
 match x with
 | []=>
   go_enter Tryz.func98,Tryz.ntmps98
   go_wp2
   go_ret
   exact ⟨rfl,rfl⟩
 | a :: r=>
   have e1:((⟨(a :: r).toArray⟩:ByteArray).extract 0 1).toList=[a]:=by rw [extract_take,ByteArray.toList_eq];rfl
   go_enter Tryz.func98,Tryz.ntmps98
   go_wp2
   go_ret
   refine ⟨?_,rfl⟩
   have:isLf (a :: r)=(a==1):=by
    unfold isLf
    rw [List.head?_cons,Bool.eq_iff_iff,beq_iff_eq,beq_iff_eq];simp
   rw [this];rfl
theorem tagged_two (tag:Nat) (a b:Tx) (W:World) (htag:tag<256) (ha:a.length<=100000) (hb:b.length<=100000) (hK:Kon W) :
 Calls Tryz.prog 9 #[.int .u8 tag,.slice (some ⟨W.heap.size,0,none⟩) 2 2] (W.alloc (.cells #[.string ⟨a.toArray⟩,.string ⟨b.toArray⟩] 9)) fun e w'=>e=.returned (.string ⟨(tagOf tag [a,b]).toArray⟩)/\Below W.heap.size W w':=by
 have h:=tagged_new tag [⟨a.toArray⟩,⟨b.toArray⟩] 2 rfl W htag (by decide) (by rw [tagIn_len];simp;omega) hK
 simp only [List.map_cons,List.map_nil] at h
 exact h
theorem lfnode_any (k v:Tx) (w:World) (hk:k.length<=100000) (hv:v.length<=100000) (hK:Kon w) :
 Calls Tryz.prog 94 #[.string ⟨k.toArray⟩,.string ⟨v.toArray⟩] w fun e w'=>e=.returned (.string ⟨(lfOf k v).toArray⟩)/\Below w.heap.size w w':=by
 have hT:=Lib.hid (tagged_two 9 k v w (by decide) hk hv hK)
 have hc:=Lib.hid (bytes_concat [1] (tagOf 9 [k,v]))
 have hl:=tagOf_length 9 [k,v]
 unfold lfOf
 generalize tagOf 9 [k,v]=T at hT hc hl |-
 clear hK
 go_enter Tryz.func94,Tryz.ntmps94
 go_wp2_with fail
 refine hT.out.mono ?_
 rintro e w' ⟨rfl,hb⟩
 go_wp2
 go_ret
 exact ⟨congrArg (fun s=>Ending.returned (.string s)) hc.out,hb⟩
theorem jn_first (a b:Tx) (h:(a==emp&&(b==emp || isLf b))=true):hs.jn a b=b:=by unfold Hs.jn;rw [h];rfl
theorem jn_second (a b:Tx) (h:(a==emp&&(b==emp || isLf b))=false) (h2:(b==emp&&isLf a)=true):hs.jn a b=a:=by unfold Hs.jn;rw [h,h2];rfl
theorem jn_third (a b:Tx) (h:(a==emp&&(b==emp || isLf b))=false) (h2:(b==emp&&isLf a)=false):hs.jn a b=nfOf a b:=by unfold Hs.jn;rw [h,h2];rfl
theorem join_any (a b:Tx) (w:World) (ha:a.length<=100000) (hb:b.length<=100000) (hK:Kon w) :
 Calls Tryz.prog 52 #[.string ⟨a.toArray⟩,.string ⟨b.toArray⟩] w fun e w'=>e=.returned (.string ⟨(hs.jn a b).toArray⟩)/\Below w.heap.size w w':=by
 have hT:=Lib.hid (tagged_two 10 a b w (by decide) ha hb hK)
 have hc:=Lib.hid (bytes_concat [2] (tagOf 10 [a,b]))
 have hl:=tagOf_length 10 [a,b]
 have j1:=Lib.hid (jn_first a b)
 have j2:=Lib.hid (jn_second a b)
 have j3:=Lib.hid (jn_third a b)
 unfold nfOf at j3
 generalize tagOf 10 [a,b]=T at hT hc hl j3
 have la:=leaf_any a w
 have lb:=leaf_any b w
 have ta:=one_list a 0
 have tb:=one_list b 0
 change _=(a==emp) at ta
 change _=(b==emp) at tb
 have ta2:(a==[0])=(a==emp):=rfl
 have tb2:(b==[0])=(b==emp):=rfl
 clear ha hb hK
 generalize hs.jn a b=J at j1 j2 j3 |-
 generalize (a==emp)=ea at ta ta2 j1 j2 j3
 generalize (b==emp)=eb at tb tb2 j1 j2 j3
 generalize isLf a=fa at la j1 j2 j3
 generalize isLf b=fb at lb j1 j2 j3
 cases ea
 · cases eb
   · obtain rfl:J=2 :: T:=j3.out rfl rfl
     clear j1 j2 j3 la lb
     go_enter Tryz.func52,Tryz.ntmps52
     go_wp2_with fail
     refine hT.out.mono ?_
     rintro e w' ⟨rfl,hb⟩
     go_wp2
     go_ret
     exact ⟨congrArg (fun s=>Ending.returned (.string s)) hc.out,hb⟩
   · cases fa
     · obtain rfl:J=2 :: T:=j3.out rfl rfl
       clear j1 j2 j3 lb
       go_enter Tryz.func52,Tryz.ntmps52
       go_wp2_with fail
       refine la.mono ?_
       rintro e w' ⟨rfl,rfl⟩
       clear la
       go_wp2_with fail
       refine hT.out.mono ?_
       rintro e w' ⟨rfl,hb⟩
       go_wp2
       go_ret
       exact ⟨congrArg (fun s=>Ending.returned (.string s)) hc.out,hb⟩
     · obtain rfl:J=a:=j2.out rfl rfl
       clear j1 j2 j3 lb hT hc hl
       go_enter Tryz.func52,Tryz.ntmps52
       go_wp2_with fail
       refine la.mono ?_
       rintro e w' ⟨rfl,rfl⟩
       clear la
       go_wp2
       go_ret
       exact ⟨rfl,Below.refl _ _⟩
 · cases eb
   · cases fb
     · obtain rfl:J=2 :: T:=j3.out rfl rfl
       clear j1 j2 j3 la
       go_enter Tryz.func52,Tryz.ntmps52
       go_wp2_with fail
       refine lb.mono ?_
       rintro e w' ⟨rfl,rfl⟩
       clear lb
       go_wp2_with fail
       refine hT.out.mono ?_
       rintro e w' ⟨rfl,hb⟩
       go_wp2
       go_ret
       exact ⟨congrArg (fun s=>Ending.returned (.string s)) hc.out,hb⟩
     · obtain rfl:J=b:=j1.out rfl
       clear j1 j2 j3 la hT hc hl
       go_enter Tryz.func52,Tryz.ntmps52
       go_wp2_with fail
       refine lb.mono ?_
       rintro e w' ⟨rfl,rfl⟩
       clear lb
       go_wp2
       go_ret
       exact ⟨rfl,Below.refl _ _⟩
   · obtain rfl:J=b:=j1.out rfl
     clear j1 j2 j3 la lb hT hc hl
     go_enter Tryz.func52,Tryz.ntmps52
     go_wp2
     go_ret
     exact ⟨rfl,Below.refl _ _⟩
theorem nd_le (val:Tx->Tx) (n:Nat) (ks:List Tx) (hn:n<=128) (hr:Row (128 - n) ks):(hs.nd val n ks).length<=17:=by
 rcases nd_shape hs val n ks hn hr with ⟨_,e⟩ | ⟨_,r,e | e,hl⟩
 · rw [e];decide
 · rw [e];simp;omega
 · rw [e];simp;omega
structure Keyrow (w:World) (a:Option Addr) (c:Nat) (ks:List Tx):Prop where
 room:ks.length<=c
 few:ks.length<=100000
 cell:∀ k,k<ks.length->∃ g o,a=some ⟨g,o,none⟩/\g<w.heap.size/\w.cell? ⟨g,o+k,none⟩=some (.string ⟨(ks.getD k []).toArray⟩)
theorem Keyrow.old {w w':World} {a:Option Addr} {c:Nat} {ks:List Tx} (h:Keyrow w a c ks) (hb:Below w.heap.size w w'):Keyrow w' a c ks:=
 ⟨h.room,h.few,fun k hk=>by
  obtain ⟨g,o,e,hg,hc⟩:=h.cell k hk
  exact ⟨g,o,e,Nat.lt_of_lt_of_le hg hb.size,(hb.cell (p:=⟨g,o+k,none⟩) hg).trans hc⟩⟩
theorem Keyrow.head {w:World} {a:Option Addr} {c:Nat} {l0 l1:List Tx} (h:Keyrow w a c (l0++l1)):Keyrow w a c l0:=by
 have h1:=h.room
 have h2:=h.few
 rw [List.length_append] at h1 h2
 refine ⟨by omega,by omega,fun k hk=>?_⟩
 obtain ⟨g,o,e,hg,hc⟩:=h.cell k (by rw [List.length_append];omega)
 refine ⟨g,o,e,hg,?_⟩
 rw [hc,List.getD_eq_getElem?_getD,List.getElem?_append_left hk,<-List.getD_eq_getElem?_getD]
theorem Keyrow.tail {w:World} {a:Option Addr} {c n:Nat} {l0 l1:List Tx} (h:Keyrow w a c (l0++l1)) (hn:l0.length=n):Keyrow w (if c=n then a else a.map (·.add n)) (c - n) l1:=by
 subst hn
 have h1:=h.room
 have h2:=h.few
 rw [List.length_append] at h1 h2
 refine ⟨by omega,by omega,fun k hk=>?_⟩
 obtain ⟨g,o,e,hg,hc⟩:=h.cell (l0.length+k) (by rw [List.length_append];omega)
 have hadd:(⟨g,o,none⟩:Addr).add l0.length=⟨g,o+l0.length,none⟩:=by unfold Addr.add;split <;> simp_all
 refine ⟨g,o+l0.length,by rw [if_neg (by omega),e,Option.map_some,hadd],hg,?_⟩
 rw [show o+l0.length+k=o+(l0.length+k) from by omega,hc,List.getD_eq_getElem?_getD,List.getElem?_append_right (by omega),Nat.add_sub_cancel_left,<-List.getD_eq_getElem?_getD]
theorem addr_add_zero (x:Addr):x.add 0=x:=by unfold Addr.add;split <;> simp_all
theorem tnode_nil (p:Nat) (z:Int) (a:Option Addr) (c:Nat) (w:World) :
 Calls Tryz.prog 92 #[.pointer (some ⟨p,0,none⟩),.slice a 0 c,.int .i64 z] w fun e w'=>e=.returned (.string ⟨emp.toArray⟩)/\Below w.heap.size w w':=by
 go_enter Tryz.func92,Tryz.ntmps92
 go_wp2
 go_ret
 exact ⟨rfl,Below.refl _ _⟩
theorem tnode_one (p b:Nat) (m:Puts) (k:Tx) (z:Int) (a:Option Addr) (c:Nat) (w:World) (ht:TreeAt w p b m) (hK:Kon w) (hr:Keyrow w a c [k]) (hk:k.length=16) :
 Calls Tryz.prog 92 #[.pointer (some ⟨p,0,none⟩),.slice a 1 c,.int .i64 z] w fun e w'=>e=.returned (.string ⟨(lfOf k (valOf m k)).toArray⟩)/\Below w.heap.size w w':=by
 have hd:=(Below.refl w.heap.size w).drew
 obtain ⟨g,o,rfl,hg,hc⟩:=hr.cell 0 (by simp)
 have hc:w.cell? ⟨g,o,none⟩=some (.string ⟨k.toArray⟩):=hc
 have hm:=ht.cell
 have hl:=ht.look false ⟨k.toArray⟩ (by show k.toArray.size<=maxLen;rw [List.size_toArray,hk];decide)
 have hl':=(ht.old hd).look false ⟨k.toArray⟩ (by show k.toArray.size<=maxLen;rw [List.size_toArray,hk];decide)
 rw [if_neg (by decide)] at hl hl'
 have hcall:=Lib.hid (lfnode_any k (valOf m k) w.drew (by omega) (by have:=valOf_length ht.small k;omega) (hK.old hd))
 clear ht hK hr hd hk
 generalize valOf m k=v at hl hl' hcall |-
 go_enter Tryz.func92,Tryz.ntmps92
 go_wp2_with fail
 go_still_tail 11,(by kernel_rfl)
 change wpList _ _ _ _ _ w.drew
 go_wp2_with fail
 refine hcall.out.mono ?_
 rintro e w' ⟨rfl,hb⟩
 go_wp2
 go_ret
 exact ⟨rfl,(Below.refl w.heap.size w).drew.trans hb⟩
theorem below_call0 {V W:World} (h:Below V.drew.heap.size V.drew W):Below V.heap.size V W:=(Below.refl V.heap.size V).drew.trans h
theorem tnode_any (p b:Nat) (m:Puts):∀ (n:Nat) (z:Int) (a:Option Addr) (c len:Nat) (ks:List Tx) (w:World),n<=128->z=((128 - n:Nat):Int)->len=ks.length->Row (128 - n) ks->TreeAt w p b m->Kon w->Keyrow w a c ks ->
 Calls Tryz.prog 92 #[.pointer (some ⟨p,0,none⟩),.slice a len c,.int .i64 z] w fun e w'=>e=.returned (.string ⟨(hs.nd (valOf m) n ks).toArray⟩)/\Below w.heap.size w w':=by
 intro n
 induction n with
 | zero=>
   intro z a c len ks w hn hz hlen hrow ht hK hr
   rcases ks with _ | ⟨k,_ | ⟨y,l⟩⟩
   · subst hlen;rw [nd_nil];exact tnode_nil p z a c w
   · subst hlen;rw [nd_one];exact tnode_one p b m k z a c w ht hK hr (hrow.len k (by simp))
   · have:=hrow.end;simp at this
 | succ n ih=>
   intro z a c len ks w hn hz hlen hrow ht hK hr
   rcases ks with _ | ⟨x,_ | ⟨y,l⟩⟩
   · subst hlen;rw [nd_nil];exact tnode_nil p z a c w
   · subst hlen;rw [nd_one];exact tnode_one p b m x z a c w ht hK hr (hrow.len x (by simp))
   · have h2:2<=(x :: y :: l).length:=by simp
     generalize x :: y :: l=ks at hrow hr hlen h2
     obtain ⟨d,hd⟩:∃ d,128 - (n+1)=d:=⟨_,rfl⟩
     have hd1:128 - n=d+1:=by omega
     have hdn:127 - n=d:=by omega
     rw [hd] at hz hrow
     rw [Hs.nd,hdn]
     have r0:=hrow.half 0
     have r1:=hrow.half 1
     have hcut:=half_cut hrow (by omega)
     have b0:∀ k∈ks.filter (fun k=>bitAt k d==0),bitAt k d=0:=fun k hk=>beq_iff_eq.1 (List.mem_filter.1 hk).2
     have b1:∀ k∈ks.filter (fun k=>bitAt k d==1),bitAt k d=1:=fun k hk=>beq_iff_eq.1 (List.mem_filter.1 hk).2
     have hks16:=hrow.len
     generalize (ks.filter fun k=>bitAt k d==0)=l0 at r0 hcut b0 |-
     generalize (ks.filter fun k=>bitAt k d==1)=l1 at r1 hcut b1 |-
     subst hcut
     rw [<-hd1] at r0 r1
     obtain ⟨n0,hn0⟩:∃ n0,l0.length=n0:=⟨_,rfl⟩
     have hsum:len=n0+l1.length:=by rw [hlen,List.length_append,hn0]
     have ha0:=hr.head
     have ha1:=hr.tail hn0
     have e0:=nd_le (valOf m) n l0 (by omega) r0
     have e1:=nd_le (valOf m) n l1 (by omega) r1
     have C0:=Lib.hid (fun (W:World) (hb:Below w.heap.size w W)=>ih ((d:Int)+1) a c n0 l0 W (by omega) (by omega) hn0.symm r0 (ht.old hb) (hK.old hb) (ha0.old hb))
     have C1:=Lib.hid (fun (W:World) (hb:Below w.heap.size w W)=>ih ((d:Int)+1) (if c=n0 then a else a.map (·.add n0)) (c - n0) (len - n0) l1 W (by omega) (by omega) (by omega) r1 (ht.old hb) (hK.old hb) (ha1.old hb))
     have CJ:=Lib.hid (fun (W:World) (hb:Below w.heap.size w W)=>join_any (hs.nd (valOf m) n l0) (hs.nd (valOf m) n l1) W (by omega) (by omega) (hK.old hb))
     generalize hs.nd (valOf m) n l0=N0 at C0 CJ |-
     generalize hs.nd (valOf m) n l1=N1 at C1 CJ |-
     generalize hs.jn N0 N1=J at CJ |-
     have hcell:Hid (∀ k,k<len->∃ g o,a=some ⟨g,o,none⟩/\∃ t:ByteArray,w.cell? ⟨g,o+k,none⟩=some (.string t)/\t.size=16/\(k<n0->bitI t.data.toList (d:Int)=0)/\(¬ k<n0->bitI t.data.toList (d:Int)=1)):=Lib.hid (by
      intro k hk
      obtain ⟨g,o,e,hg,hc⟩:=hr.cell k (by omega)
      have hkl:k<(l0++l1).length:=by omega
      have hget:(l0++l1).getD k []=(l0++l1)[k]:=by rw [List.getD_eq_getElem?_getD,List.getElem?_eq_getElem hkl];rfl
      refine ⟨g,o,e,_,hc,?_,fun h0=>?_,fun h0=>?_⟩
      · show ((l0++l1).getD k []).toArray.size=16
        rw [List.size_toArray,hget]
        exact hks16 _ (List.getElem_mem hkl)
      · rw [bitI_nat,List.toList_toArray,hget,List.getElem_append_left (by omega)]
        exact b0 _ (List.getElem_mem _)
      · rw [bitI_nat,List.toList_toArray,hget,List.getElem_append_right (by omega)]
        exact b1 _ (List.getElem_mem _))
     have hroom:=hr.room
     have hfew:=hr.few
     rw [<-hlen] at hroom hfew
     have hlen2:2<=len:=by omega
     have hd128:d<128:=by omega
     have hl0:((len:Int)==0)=false:=by simp;omega
     have hl1:((len:Int)==1)=false:=by simp;omega
     have hn0l:n0<=len:=by omega
     have hw1:IntKind.i64.wrap ((d:Int)+1)=(d:Int)+1:=by rw [IntKind.wrap_i64];omega
     have hi0:(0:Int)<=(n0:Int):=by omega
     have hi1:(n0:Int)<=(c:Int):=by omega
     have hi2:(n0:Int)<=(len:Int):=by omega
     obtain ⟨a1,ha1e⟩:∃ a1,(if c=n0 then a else a.map (·.add n0))=a1:=⟨_,rfl⟩
     rw [ha1e] at C1
     have hsl0:∀ W,(Instr.slice 31 (.slice a len c) none (some (.int .i64 (n0:Int))) none).run Tryz.prog W=.ok (.slice a n0 c) W:=by
      intro W
      rw [run_slice_h W 31 a len c Tryz.underlying31 .i64 (n0:Int) hi0 hi1]
      simp [sliced,Tryz.sizeOf9,show Tryz.prog.elem 31=9 from by kernel_rfl,Result.andThen]
      intro _
      cases a with
      | none=>rfl
      | some x=>rw [Option.map_some,addr_add_zero]
     have hsl1:∀ W,(Instr.slice 31 (.slice a len c) (some (.int .i64 (n0:Int))) none none).run Tryz.prog W=.ok (.slice a1 (len - n0) (c - n0)) W:=by
      intro W
      rw [run_slice_l W 31 a len c Tryz.underlying31 .i64 (n0:Int) hi0 hi2]
      simp [sliced,Tryz.sizeOf9,show Tryz.prog.elem 31=9 from by kernel_rfl,Result.andThen,<-ha1e]
     clear ha1e
     have hS0:=Lib.hid (Below.refl w.heap.size w).drew
     have hS1:=Lib.hid (fun w5 (h5:Below w.drew.heap.size w.drew w5)=>below_call0 h5)
     have hS2:=Lib.hid (fun w5 w6 (h5:Below w.drew.heap.size w.drew w5) (h6:Below w5.heap.size w5 w6)=>(below_call0 h5).trans (h6.mono (below_call0 h5).size))
     have hS3:=Lib.hid (fun w5 w6 w7 (h5:Below w.drew.heap.size w.drew w5) (h6:Below w5.heap.size w5 w6) (h7:Below w6.heap.size w6 w7)=>((below_call0 h5).trans (h6.mono (below_call0 h5).size)).trans (h7.mono ((below_call0 h5).trans (h6.mono (below_call0 h5).size)).size))
     clear ih hrow hr r0 r1 b0 b1 hks16 ha0 ha1 e0 e1 ht hK hsum hlen h2 hd hd1 hdn hn0 hn
     subst hz
     go_enter Tryz.func92,Tryz.ntmps92
     go_wp2_with fail
     go_loop [7] (fun i=>∃ k:Nat,k<=n0/\i=.int .i64 k) (fun i=>n0 - (intOf i).toNat)
     case atStart=>exact ⟨0,Nat.zero_le _,rfl⟩
     case round=>
      obtain ⟨k,hk,rfl⟩:=hrel
      by_cases hkl:k<len
      · obtain ⟨g,o,rfl,t,hc,ht16,hb0,hb1⟩:=hcell.out k hkl
        have hbit:=bit_any t (d:Int) w (by omega)
        by_cases hk0:k<n0
        · rw [hb0 hk0] at hbit
          clear hb0 hb1
          go_wp2_with fail
          refine hbit.mono ?_
          rintro e w' ⟨rfl,rfl⟩
          clear hbit
          go_wp2
          go_round
          case rel=>exact ⟨k+1,by omega,by go_num⟩
          case measure=>simp [intOf];omega
        · rw [hb1 hk0] at hbit
          obtain rfl:k=n0:=by omega
          clear hb0 hb1
          go_wp2_with fail
          refine hbit.mono ?_
          rintro e w' ⟨rfl,rfl⟩
          clear hbit
          go_wp2_with fail
          go_region_held3 (fun W'=>Below w.heap.size w W') (first | exact hS0.out | exact hS3.out _ _ _ (by assumption) (by assumption) (by assumption) | exact hS2.out _ _ (by assumption) (by assumption) | exact hS1.out _ (by assumption)) (first | (go_at_call 92;with_reducible refine (C0.out _ hS0.out).mono ?_;rintro r w5 ⟨rfl,hb5⟩) | (go_at_call 92;with_reducible refine (C1.out _ (hS1.out _ (by assumption))).mono ?_;rintro r w6 ⟨rfl,hb6⟩) | (go_at_call 52;with_reducible refine (CJ.out _ (hS2.out _ _ (by assumption) (by assumption))).mono ?_;rintro r w7 ⟨rfl,hb7⟩))
          have hb8:=hS3.out _ _ _ hb5 hb6 hb7
          go_wp2
          go_ret
          exact ⟨rfl,hb8⟩
      · obtain rfl:k=n0:=by omega
        go_wp2_with fail
        go_region_held3 (fun W'=>Below w.heap.size w W') (first | exact hS0.out | exact hS3.out _ _ _ (by assumption) (by assumption) (by assumption) | exact hS2.out _ _ (by assumption) (by assumption) | exact hS1.out _ (by assumption)) (first | (go_at_call 92;with_reducible refine (C0.out _ hS0.out).mono ?_;rintro r w5 ⟨rfl,hb5⟩) | (go_at_call 92;with_reducible refine (C1.out _ (hS1.out _ (by assumption))).mono ?_;rintro r w6 ⟨rfl,hb6⟩) | (go_at_call 52;with_reducible refine (CJ.out _ (hS2.out _ _ (by assumption) (by assumption))).mono ?_;rintro r w7 ⟨rfl,hb7⟩))
        have hb8:=hS3.out _ _ _ hb5 hb6 hb7
        go_wp2
        go_ret
        exact ⟨rfl,hb8⟩
end Go.Proofs.YtcgkomafaepjnaaGreatDoor
namespace Go.Proofs.YtcgkomafaepjnaaGreatDoor
open Go.RowKit Go.Maps Go.Sort Go.Shelf
theorem sorts_in (n:Nat):AnyZ.SortsIn Tryz.prog Tryz.sortedA_ren Fence.wide n:=
 ⟨fun blk off cap ss W hH hblk hsz=>callsIn_wide.2 (AnyM.slices_Sort_string Tryz.laysSlM6_f156 blk off cap ss W hH hblk hsz),
  fun p cap W=>callsIn_wide.2 (AnyM.slices_Sort_string_none Tryz.laysSlM6_f156 p cap W)⟩
theorem tkeys_any (p b:Nat) (m:Puts) (w:World) (h:TreeAt w p b m) :
 Calls Tryz.prog 54 #[.pointer (some ⟨p,0,none⟩)] w fun e w'=>∃ v,e=.returned v/\w'.ownsRow w.heap.size 9 1 v (keysOf m).length ((keysOf m).map encStr)/\(v=.slice none 0 0 ↔ keysOf m=[])/\Below w.heap.size w w':=by
 obtain ⟨D0,hown,hag⟩:=h.map
 have hcell:=h.cell
 have hbl:=hown.lt
 have hsz:=size_of_own hown
 have hfew:=h.few
 refine (callsIn_wide (n:=6)).1 ?_
 have hmax:Maps.size D0<=maxLen:=by unfold maxLen;omega
 have hbytes:Maps.size D0*16<=140737488355328:=by omega
 have hfin:=Lib.hid (fun (ss:List Tx) (hp:ss.Perm (strKeys D0))=>sorted_keys hown Tryz.underlying9 hag hp)
 have hseq:SeqGives Fence.wide 2 Tryz.prog 157 #[.pointer (some ⟨w.heap.size,0,none⟩)] encStr (fun ss=>ss.Perm (strKeys D0)) (Maps.size D0) (w.alloc (.cells #[.map (some b)] 111)):=
  AnyZ.keys_gives (ρ:=Tryz.keysA_ren) { Tryz.keysA with } Fence.wide _ trivial rfl (by omega) w.heap.size b m.length D0 _ (by simp) (by simp) (by
   obtain ⟨es,clock,hb,Ft,hs,hD⟩:=hown
   exact ⟨es,clock,(Below.heap_alloc _ _ b hbl).trans hb,Ft,hs,hD⟩)
 have cK:∀ mb W,CallsIn Fence.wide 5 Tryz.prog 100 #[.map mb] W fun e w'=>e=.returned (.func (.func 157) #[] #[.pointer (some ⟨W.heap.size,0,none⟩)])/\w'=W.alloc (.cells #[.map mb] 111):=fun mb W=>AnyZ.keys_in Tryz.keysA Fence.wide 5 trivial rfl mb W
 have cS:=AnyZ.sorted_in Tryz.sortedA Fence.wide 5 trivial trivial trivial trivial rfl (by omega) (sorts_in _) (enters_of Tryz.func156 (by kernel_rfl) rfl) 157 #[.pointer (some ⟨w.heap.size,0,none⟩)] trivial (enters_of Tryz.func157 (by kernel_rfl) rfl) _ _ hmax hbytes _ hseq
 change CallsIn _ _ Tryz.prog 99 _ _ _ at cS
 have hfK:Fence.wide.fn 100:=trivial
 have hfS:Fence.wide.fn 99:=trivial
 clear h hown hag hsz hfew hmax hbytes hseq
 refine callsIn_of_wp Tryz.func54 rfl trivial ?_ rfl
 simp only [Tryz.ntmps54,List.size_toArray,List.length_cons,List.length_nil,Nat.reduceAdd,Nat.reduceSub,Array.replicate_succ,Array.replicate_zero,List.push_toArray,List.append_toArray,List.nil_append,List.cons_append]
 gi_wp2_with (first
  | (gi_at_call 100;refine (cK _ _).mono ?_;rintro e w' ⟨rfl,rfl⟩)
  | (gi_at_call 99;refine cS.mono ?_;rintro e w' ⟨v,ss,rfl,hS,hrow,hnil,hb⟩))
 go_ret
 have e:=hfin.out ss hS
 rw [e] at hrow
 have el:ss.length=(keysOf m).length:=by rw [<-e,List.length_mergeSort]
 rw [el] at hrow
 refine ⟨v,rfl,ownsRow_base_a hrow (by simp),?_,((Below.refl _ w).alloc (Nat.le_refl _) _).trans (hb.mono (by simp))⟩
 rw [hnil]
 constructor
 · intro h0;rw [h0] at el;exact List.eq_nil_of_length_eq_zero el.symm
 · intro h0;rw [h0] at el;exact List.eq_nil_of_length_eq_zero el
end Go.Proofs.YtcgkomafaepjnaaGreatDoor
namespace Go.Proofs.YtcgkomafaepjnaaGreatDoor
open Go.RowKit Go.Shelf Go.Sort
abbrev Short:={ x:Tx // x.length<=1000 }
instance:Inhabited Short:=⟨⟨[],by decide⟩⟩
def encS (x:Short):Value:=.string ⟨x.1.toArray⟩
theorem encS_one (x:Short):(encS x).oneCell'=true:=rfl
theorem shorts_of:∀ (ks:List Tx),(∀ k∈ks,k.length=16)->∃ ds:List Short,ds.map Subtype.val=ks
 | [],_=>⟨[],rfl⟩
 | k :: ks,h=>by
   obtain ⟨ds,e⟩:=shorts_of ks fun x hx=>h x (by simp [hx])
   exact ⟨⟨k,by rw [h k (by simp)];decide⟩ :: ds,by rw [List.map_cons,e]⟩
theorem encS_map (ds:List Short):(ds.map Subtype.val).map encStr=ds.map encS:=by
 rw [List.map_map];rfl
def Tells (g B1 B2:Nat) (beg:Tx) (z:Int):Prop:=
 ∀ (x:Short) (W:World),W.cell? ⟨B1,0,none⟩=some (.string ⟨beg.toArray⟩)->W.cell? ⟨B2,0,none⟩=some (.int .i64 z) ->
  FnGives Tryz.prog g #[.pointer (some ⟨B1,0,none⟩),.pointer (some ⟨B2,0,none⟩)] #[encS x] (.bool (!alikeTo x.1 beg (depthNat z))) W
theorem tells_node (B1 B2:Nat) (beg:Tx) (z:Int) (hb:beg.length<=1000):Tells 91 B1 B2 beg z:=by
 intro x W h1 h2
 show Calls Tryz.prog 91 #[.string ⟨x.1.toArray⟩,.pointer (some ⟨B1,0,none⟩),.pointer (some ⟨B2,0,none⟩)] W _
 have hx:=x.2
 have hc:=below_any ⟨x.1.toArray⟩ ⟨beg.toArray⟩ z W (by show x.1.toArray.size<=_;rw [List.size_toArray];omega) (by show beg.toArray.size<=_;rw [List.size_toArray];omega)
 simp only at hc
 generalize x.1=t at hc |-
 generalize alikeTo t beg (depthNat z)=r at hc |-
 clear hx
 go_enter Tryz.func91,Tryz.ntmps91
 go_wp2_with fail
 refine hc.mono ?_
 rintro e w' ⟨rfl,rfl⟩
 go_wp2
 go_ret
 exact ⟨rfl,0,rfl⟩
theorem tells_prove (B1 B2:Nat) (beg:Tx) (z:Int) (hb:beg.length<=1000):Tells 58 B1 B2 beg z:=by
 intro x W h1 h2
 show Calls Tryz.prog 58 #[.string ⟨x.1.toArray⟩,.pointer (some ⟨B1,0,none⟩),.pointer (some ⟨B2,0,none⟩)] W _
 have hx:=x.2
 have hc:=below_any ⟨x.1.toArray⟩ ⟨beg.toArray⟩ z W (by show x.1.toArray.size<=_;rw [List.size_toArray];omega) (by show beg.toArray.size<=_;rw [List.size_toArray];omega)
 simp only at hc
 generalize x.1=t at hc |-
 generalize alikeTo t beg (depthNat z)=r at hc |-
 clear hx
 go_enter Tryz.func58,Tryz.ntmps58
 go_wp2_with fail
 refine hc.mono ?_
 rintro e w' ⟨rfl,rfl⟩
 go_wp2
 go_ret
 exact ⟨rfl,0,rfl⟩
theorem delete_nil (c:Nat) (fv:Value) (w:World) :
 Calls Tryz.prog 56 #[.slice none 0 c,fv] w fun e w'=>e=.returned (.slice none 0 c)/\w'=w:=by
 have h:=AnyE.slices_IndexFunc_empty { Tryz.laysSlH10_f56 with } none c fv w
 change Calls Tryz.prog 101 _ _ _ at h
 go_enter Tryz.func56,Tryz.ntmps56
 go_wp2_with fail
 refine h.mono ?_
 rintro e w' ⟨rfl,rfl⟩
 go_wp2
 go_ret
 exact ⟨rfl,rfl⟩
theorem delete_any (g B1 B2:Nat) (beg:Tx) (z:Int) (hg:Tells g B1 B2 beg z) (eg:∀ args w,(callFunc g args).run Tryz.prog w=.ok (.enter g args) w)
 (R:Nat) (v:Value) (ks:List Tx) (w:World) (hown:w.ownsRow R 9 1 v ks.length (ks.map encStr)) (hk16:∀ k∈ks,k.length=16) (hfew:ks.length<=100000)
 (h1:w.cell? ⟨B1,0,none⟩=some (.string ⟨beg.toArray⟩)) (h2:w.cell? ⟨B2,0,none⟩=some (.int .i64 z)) (hne:∀ k,v.ownBlock=some k->B1≠k/\B2≠k) :
 Calls Tryz.prog 56 #[v,.func (.func g) #[] #[.pointer (some ⟨B1,0,none⟩),.pointer (some ⟨B2,0,none⟩)]] w fun e w'=>∃ a c,e=.returned (.slice a (under ks beg (depthNat z)).length c)/\Keyrow w' a c (under ks beg (depthNat z))/\Touch (fun k=>v.ownBlock=some k) w w'/\∀ g o,a=some ⟨g,o,none⟩->v.ownBlock=some g:=by
 rcases hown.2 with ⟨rfl,h0⟩ | ⟨q,cap,cur,rfl,_,hq,hnc,hcm,hcur,htake⟩
 · obtain rfl:=List.eq_nil_of_length_eq_zero h0
   refine (delete_nil 0 _ w).mono ?_
   rintro e w' ⟨rfl,rfl⟩
   exact ⟨none,0,rfl,⟨by simp [under],by simp [under],by intro k hk;simp [under] at hk⟩,Touch.refl _ _,fun _ _ e=>by cases e⟩
 · obtain ⟨ds,rfl⟩:=shorts_of ks hk16
   obtain ⟨hn1,hn2⟩:=hne q rfl
   have hl1:=World.block_lt_of_cell? w _ h1
   have hl2:=World.block_lt_of_cell? w _ h2
   rw [List.length_map] at hown hnc hfew |-
   rw [encS_map] at hown
   have hcl:=hown.cells (g:=q) rfl
   have hH:Holds encS w q 0 ds.toArray:=by
    intro j hj
    have hj:j<ds.length:=by simpa using hj
    constructor
    · have:=hcl j (encS ds[j]) (by simp [hj])
      have hadd:(⟨q,0,none⟩:Addr).add j=⟨q,0+j,none⟩:=by unfold Addr.add;split <;> simp_all
      rw [hadd] at this
      rw [this]
      simp [hj]
    · exact frozen_of_row _ _ _ _ _ hq
   have hp:PredAt Tryz.prog g #[.pointer (some ⟨B1,0,none⟩),.pointer (some ⟨B2,0,none⟩)] encS (fun x=>!alikeTo x.1 beg (depthNat z)) w:=fun W x hb=>
    hg x W ((hb.cell (p:=⟨B1,0,none⟩) hl1).trans h1) ((hb.cell (p:=⟨B2,0,none⟩) hl2).trans h2)
   have hpo:PredOver Tryz.prog g #[.pointer (some ⟨B1,0,none⟩),.pointer (some ⟨B2,0,none⟩)] encS (fun x=>!alikeTo x.1 beg (depthNat z)) q 0 ds.toArray.size w:=fun n os dk x _=>by
    refine hg x _ ?_ ?_
    · unfold sortWorld
      rw [cell?_grow _ _ _ (by show B1<(putRow _ _ _ _ _).heap.size;rw [size_putRow];exact hl1),cell?_putRow_other _ _ q 0 _ _ (Or.inl hn1)]
      exact h1
    · unfold sortWorld
      rw [cell?_grow _ _ _ (by show B2<(putRow _ _ _ _ _).heap.size;rw [size_putRow];exact hl2),cell?_putRow_other _ _ q 0 _ _ (Or.inl hn2)]
      exact h2
   have h:=Tryz.slices_DeleteFunc encS encS_one (fun x=>!alikeTo x.1 beg (depthNat z)) g #[.pointer (some ⟨B1,0,none⟩),.pointer (some ⟨B2,0,none⟩)] eg ⟨[],by decide⟩ (fun w=>Tryz.zeroValue9 w) q 0 cap ds.toArray w hp hpo hH (by simp;omega) (by simpa using hnc)
   rw [show ds.toArray.size=ds.length from List.size_toArray] at h
   refine h.mono ?_
   rintro e w' ⟨rfl,n,rfl⟩
   have er:under (ds.map Subtype.val) beg (depthNat z)=(ds.filter fun x=>!!alikeTo x.1 beg (depthNat z)).map Subtype.val:=by
    unfold under
    rw [List.filter_map]
    simp only [Bool.not_not]
    rfl
   rw [er]
   have hle:(ds.filter fun x=>!!alikeTo x.1 beg (depthNat z)).length<=ds.length:=List.length_filter_le _ _
   have elist:ds.toArray.toList=ds:=rfl
   simp only at *
   generalize (ds.filter fun x=>!!alikeTo x.1 beg (depthNat z))=r at hle |-
   refine ⟨some ⟨q,0,none⟩,cap,by rw [List.length_map],⟨by rw [List.length_map];omega,by rw [List.length_map];omega,fun k hk=>?_⟩,⟨rfl,rfl,rfl,by rw [size_putRow];exact Nat.le_refl _,fun k hk hs=>?_⟩,fun _ _ e=>by injection e with e;injection e with e;rw [<-e];rfl⟩
   · rw [List.length_map] at hk
     refine ⟨q,0,rfl,by rw [size_putRow];exact (Array.getElem?_eq_some_iff.1 hq).1,?_⟩
     have:=cell?_putRow encS (Sort.ahead w n) q 0 ds.toArray ((r++List.replicate (ds.length - r.length) (⟨[],by decide⟩:Short)).toArray) (holds_ahead _ _ _ _ _ _ hH) (by simp;omega) k (by simp;omega)
     rw [this]
     have e2:(r++List.replicate (ds.length - r.length) (⟨[],by decide⟩:Short)).toArray[k]! = r[k]:=by
      rw [getElem!_pos _ _ (by simp;omega)]
      simp [List.getElem_append_left hk]
     rw [e2]
     unfold encS
     rw [List.getD_eq_getElem?_getD,List.getElem?_map,List.getElem?_eq_getElem hk];rfl
   · have hkq:k≠q:=fun e=>hs (by rw [e];rfl)
     show (putRow encS (Sort.ahead w n) q 0 _).heap[k]?=_
     unfold putRow mapBlock
     rw [Array.getElem?_modify,if_neg (fun e=>hkq e.symm)];rfl
end Go.Proofs.YtcgkomafaepjnaaGreatDoor
namespace Go.Proofs.YtcgkomafaepjnaaGreatDoor
open Go.RowKit
theorem depthNat_in (d:Nat) (hd:d<=128):depthNat (d:Int)=d:=by unfold depthNat;omega
theorem tat_any (p b:Nat) (m:Puts) (beg:Tx) (d:Nat) (w:World) (h:TreeAt w p b m) (hK:Kon w) (hb:beg.length<=1000) (hd:d<=128) :
 Calls Tryz.prog 44 #[.pointer (some ⟨p,0,none⟩),.string ⟨beg.toArray⟩,.int .i64 (d:Int)] w fun e w'=>e=.returned (.string ⟨(hs.at (valOf m) (keysOf m) beg d).toArray⟩)/\Below w.heap.size w w':=by
 have hlt:=h.lt
 have hks:=keys_keysOf (m:=m) fun q hq=>(h.small q hq).1
 have hkl:=length_keysOf m
 have hfew:=h.few
 obtain ⟨W0,hW0⟩:∃ W0,W0=(w.alloc (.cells #[.string ⟨beg.toArray⟩] 9)).alloc (.cells #[.int .i64 (d:Int)] 3):=⟨_,rfl⟩
 have hB0:Below w.heap.size w W0:=by rw [hW0];exact ((Below.refl _ _).alloc (Nat.le_refl _) _).alloc (by simp) _
 have hs0:W0.heap.size=w.heap.size+2:=by rw [hW0];simp
 have c1:W0.heap[w.heap.size]?=some (.cells #[.string ⟨beg.toArray⟩] 9 (0,0)):=by
  rw [hW0,Below.heap_alloc _ _ _ (by simp)];exact heap_alloc_new _ _
 have c2:W0.heap[w.heap.size+1]?=some (.cells #[.int .i64 (d:Int)] 3 (0,0)):=by rw [hW0];exact heap_alloc2_new _ _ _
 have hkeys:=Lib.hid (tkeys_any p b m W0 (h.old hB0))
 have hdel:=Lib.hid (fun (v:Value) (W:World) (ho:W.ownsRow W0.heap.size 9 1 v (keysOf m).length ((keysOf m).map encStr)) (hB:Below W0.heap.size W0 W)=>
  delete_any 91 w.heap.size (w.heap.size+1) beg (d:Int) (tells_node _ _ beg _ hb) (enters_of Tryz.func91 (by kernel_rfl) rfl) W0.heap.size v (keysOf m) W ho hks.len (by omega)
   (by rw [cell_of_row _ _ 0 _ _ _ ((hB.block _ (by omega)).trans c1)];rfl) (by rw [cell_of_row _ _ 0 _ _ _ ((hB.block _ (by omega)).trans c2)];rfl) (fun k hk=>by have:=(ho.lt k hk).1;omega))
 rw [depthNat_in d hd] at hdel
 have hnode:=Lib.hid (fun (W:World) (a:Option Addr) (c:Nat) (ht:TreeAt W p b m) (hK:Kon W) (hr:Keyrow W a c (under (keysOf m) beg d))=>
  tnode_any p b m (128 - d) (d:Int) a c (under (keysOf m) beg d).length (under (keysOf m) beg d) W (by omega) (by omega) rfl (by rw [show 128 - (128 - d)=d from by omega];exact under_row hks beg d) ht hK hr)
 unfold Hs.at
 generalize hs.nd (valOf m) (128 - d) (under (keysOf m) beg d)=N at hnode |-
 generalize under (keysOf m) beg d=U at hdel hnode
 have HT:=Lib.hid h
 have HK:=Lib.hid hK
 have HB0:=Lib.hid hB0
 have hm0:max (d:Int) 0=d:=by omega
 have hm1:min (d:Int) 128=d:=by omega
 have c2':=Lib.hid c2
 clear h hK hks hkl hfew c1 c2 hB0
 go_enter Tryz.func44,Tryz.ntmps44
 go_wp2_with fail
 rw [<-hW0]
 refine hkeys.out.mono ?_
 rintro e w1 ⟨v,rfl,ho,_,hB1⟩
 clear hkeys
 have hd1:=hdel.out v w1 ho hB1
 have hol:=Lib.hid (fun k hk=>(ho.lt k hk).1)
 clear hdel ho
 go_wp2_with fail
 refine hd1.mono ?_
 rintro e w2 ⟨a,c,rfl,hr,hT,_⟩
 clear hd1
 have hB2:Below W0.heap.size W0 w2:=hB1.trans (hT.below (B:=W0.heap.size) (fun i hi=>hol.out i hi) hB1.size)
 have hBw:Below w.heap.size w w2:=HB0.out.trans (hB2.mono HB0.out.size)
 have hcz:w2.cell? ⟨w.heap.size+1,0,none⟩=some (.int .i64 (d:Int)):=by
  rw [cell_of_row _ _ 0 _ _ _ ((hB2.block _ (by omega)).trans c2'.out)];rfl
 have hn:=hnode.out w2 a c (HT.out.old hBw) (HK.out.old hBw) hr
 clear hnode hr hT hB1
 generalize U.length=ul at hn |-
 go_wp2_with fail
 refine hn.mono ?_
 rintro e w3 ⟨rfl,hB3⟩
 go_wp2
 go_ret
 exact ⟨rfl,hBw.trans (hB3.mono hBw.size)⟩
theorem at_root (val:Tx->Tx) (ks:List Tx) (p:Tx):hs.at val ks p 0=hs.at val ks [] 0:=at_congr hs val ks rfl
theorem troot_any (p b:Nat) (m:Puts) (w:World) (h:TreeAt w p b m) (hK:Kon w) :
 Calls Tryz.prog 17 #[.pointer (some ⟨p,0,none⟩)] w fun e w'=>e=.returned (.string ⟨(hs.at (valOf m) (keysOf m) [] 0).toArray⟩)/\Below w.heap.size w w':=by
 have hc:=tat_any p b m [] 0 w h hK (by decide) (by decide)
 clear h hK
 generalize hs.at (valOf m) (keysOf m) [] 0=N at hc |-
 go_enter Tryz.func17,Tryz.ntmps17
 go_wp2_with fail
 refine hc.mono ?_
 rintro e w' ⟨rfl,hB⟩
 go_wp2
 go_ret
 exact ⟨rfl,hB⟩
theorem tcopy_any (p b:Nat) (m:Puts) (w:World) (h:TreeAt w p b m) :
 Calls Tryz.prog 10 #[.pointer (some ⟨p,0,none⟩)] w fun e w'=>∃ p' b',e=.returned (.pointer (some ⟨p',0,none⟩))/\TreeAt w' p' b' m/\w.heap.size<=p'/\w.heap.size<=b'/\Below w.heap.size w w':=by
 obtain ⟨D,h1,h2⟩:=h.map
 have hcell:=h.cell
 have hc:=AnyW.maps_Clone_owns Tryz.cloneA 9 (plainElem Tryz.prog 9) b m.length D w h1
 change Calls Tryz.prog 43 _ _ _ at hc
 have HS:=Lib.hid (And.intro h.small h.few)
 clear h h1
 go_enter Tryz.func10,Tryz.ntmps10
 go_wp2_with fail
 refine hc.mono ?_
 rintro e w1 ⟨rfl,ho,_,hB⟩
 clear hc
 go_wp2
 go_ret
 refine ⟨_,_,rfl,⟨heap_alloc_new _ _,⟨D,ho.alloc _,h2⟩,HS.out.1,HS.out.2⟩,hB.size,Nat.le_refl _,hB.alloc hB.size _⟩
theorem bcount_any (d:Nat) (w:World) (hd:d<=3) :
 Calls Tryz.prog 12 #[.int .i64 (d:Int)] w fun e w'=>e=.returned (.int .i64 ((2^d:Nat):Int))/\w'=w:=by
 match d,hd with
 | 0,_=>
   show Calls _ _ #[.int .i64 0] w _
   go_enter Tryz.func12,Tryz.ntmps12
   go_wp2
   go_ret
   exact ⟨rfl,rfl⟩
 | 1,_=>
   show Calls _ _ #[.int .i64 1] w _
   go_enter Tryz.func12,Tryz.ntmps12
   go_wp2
   go_ret
   exact ⟨rfl,rfl⟩
 | 2,_=>
   show Calls _ _ #[.int .i64 2] w _
   go_enter Tryz.func12,Tryz.ntmps12
   go_wp2
   go_ret
   exact ⟨rfl,rfl⟩
 | 3,_=>
   show Calls _ _ #[.int .i64 3] w _
   go_enter Tryz.func12,Tryz.ntmps12
   go_wp2
   go_ret
   exact ⟨rfl,rfl⟩
theorem bof_any (s:ByteArray) (d:Nat) (w:World) (hs:s.size=16) (hd:d<=3) :
 Calls Tryz.prog 39 #[.string s,.int .i64 (d:Int)] w fun e w'=>e=.returned (.tuple #[.int .i64 (bandTo s.data.toList d),.int .i64 0])/\w'=w:=by
 have h1:=bcount_any d w hd
 have hp:0<2^d:=Nat.two_pow_pos d
 generalize 2^d=n at h1 hp
 have h0:((n:Int)==0)=false:=by simp;omega
 have hk':((s.size:Int) != 16)=false:=by rw [hs];rfl
 have h2:=band_any s (d:Int) w (by omega)
 rw [show bandI s.data.toList (d:Int)=bandTo s.data.toList d from by unfold bandI;rw [if_pos (by omega)];rfl] at h2
 go_enter Tryz.func39,Tryz.ntmps39
 go_wp2_with fail
 refine h1.mono ?_
 rintro e w' ⟨rfl,rfl⟩
 go_wp2_with fail
 refine h2.mono ?_
 rintro e w' ⟨rfl,rfl⟩
 go_wp2
 go_ret2
 exact ⟨rfl,rfl⟩
theorem right_any (s:ByteArray) (d:Nat) (w:World) (hs:s.size=16) (hd:d<=128) :
 Calls Tryz.prog 53 #[.string s,.int .i64 (d:Int)] w fun e w'=>e=.returned (.bool true)/\w'=w:=by
 have hk':((s.size:Int)==16)=true:=by rw [hs];rfl
 go_enter Tryz.func53,Tryz.ntmps53
 go_wp2
 go_ret
 exact ⟨by simp;omega,rfl⟩
theorem bytes_new (x:Tx) (w:World) :
 ∃ W c r,(convert 9 58 (.string ⟨x.toArray⟩)).run Tryz.prog w=.ok (.slice (some ⟨w.heap.size,0,none⟩) x.length c) W/\Below w.heap.size w W/\x.length<=c /\
  W.heap[w.heap.size]?=some (.cells ((bytesV x).toArray++r) 5 (((bytesV x).toArray++r).size,((bytesV x).toArray++r).size+1)):=by
 have h:=run_bytes_of_string (P:=Tryz.prog) w 9 58 5 ⟨x.toArray⟩ Tryz.underlying9 Tryz.underlying58 Tryz.underlying5
 have hge:=grownCap_ge w (ByteArray.mk x.toArray).size 0 5
 have e:bytesRow ⟨x.toArray⟩ (grownCap w (ByteArray.mk x.toArray).size 0 5)=(bytesV x).toArray++Array.replicate (grownCap w (ByteArray.mk x.toArray).size 0 5 - (ByteArray.mk x.toArray).size) (.int .u8 0):=by
  unfold bytesRow bytesV;simp
 rw [e] at h
 exact ⟨_,_,_,h,((Below.refl _ _).drew).alloc (Nat.le_refl _) _,hge,heap_alloc_new w.drew _⟩
theorem turned_xor (x:Tx) (d y:Nat) (hy:(x.getD (d/8) 0).toNat=y) :
 (turn x d)=x.set (d/8) (UInt8.ofNat (y ^^^ 2^(7 - d%8))):=by
 unfold turn
 congr 1
 apply UInt8.toNat_inj.1
 have h2:2^(7 - d%8)<256:=Nat.lt_of_le_of_lt (Nat.pow_le_pow_right (by decide) (show 7 - d%8<=7 by omega)) (by decide)
 have h3:y<256:=by rw [<-hy];exact UInt8.toNat_lt _
 rw [UInt8.toNat_xor,hy,UInt8.toNat_ofNat',UInt8.toNat_ofNat',Nat.mod_eq_of_lt h2,Nat.mod_eq_of_lt (Nat.xor_lt_two_pow (n:=8) h3 h2)]
theorem turned_any (x:Tx) (d:Nat) (w:World) (hx:x.length=16) (hd:d<128) :
 Calls Tryz.prog 60 #[.string ⟨x.toArray⟩,.int .i64 (d:Int)] w fun e w'=>e=.returned (.string ⟨(turn x d).toArray⟩)/\Below w.heap.size w w':=by
 obtain ⟨W,c,r,hconv,hB,hc,hrow⟩:=bytes_new x w
 rw [hx] at hconv hc
 have hcl:∀ j,j<16->W.cell? ⟨w.heap.size,j,none⟩=some (.int .u8 ((x.getD j 0).toNat:Int)):=by
  intro j hj
  rw [cell_of_row _ _ j _ _ _ hrow]
  rw [Array.getElem?_append_left (by simp [bytesV,hx];omega)]
  simp [bytesV,hx,hj]
 have hfr:∀ j,j<16->W.frozen? ⟨w.heap.size,j,none⟩=false:=by
  intro j hj
  unfold World.frozen?
  simp [hrow,bytesV,hx]
  omega
 go_enter Tryz.func60,Tryz.ntmps60
 go_wp2_with fail
 have hq:(d:Int)/8=((d/8:Nat):Int):=by omega
 have hr:(d:Int)%8=((d%8:Nat):Int):=by omega
 have hq16:d/8<16:=by omega
 have hr8:d%8<8:=by omega
 have hc0:=hcl (d/8) hq16
 have hf0:=hfr (d/8) hq16
 have ht:=fun y hy=>turned_xor x d y hy
 generalize hy:(x.getD (d/8) 0).toNat=y at hc0
 have ht:=Lib.hid (ht y hy)
 have hy256:y<256:=by rw [<-hy];exact UInt8.toNat_lt _
 clear hy
 generalize d/8=q at hq hc0 hf0 hq16 ht
 generalize d%8=r8 at hr hr8 ht
 have h2:2^(7 - r8)<256:=Nat.lt_of_le_of_lt (Nat.pow_le_pow_right (by decide) (show 7 - r8<=7 by omega)) (by decide)
 have h2':((2:Int)^(7 - r8))%256=((2^(7 - r8):Nat):Int):=by
  have:((2:Int)^(7 - r8))=((2^(7 - r8):Nat):Int):=by simp
  rw [this]
  exact Int.emod_eq_of_lt (Int.natCast_nonneg _) (by exact_mod_cast h2)
 obtain ⟨Y,hY,hYe⟩:∃ Y:Int,bits BinOp.xor IntKind.u8 (y:Int) ((2:Int)^(7 - r8)%256)=Y/\Y=((y ^^^ 2^(7 - r8):Nat):Int):=⟨_,rfl,by rw [h2'];exact u8_xor_nat _ _ hy256 h2⟩
 have hYl:y ^^^ 2^(7 - r8)<256:=Nat.xor_lt_two_pow (n:=8) hy256 h2
 have hback:Hid (∀ V:World,(∀ j,j<16->V.cell? ⟨w.heap.size,j,none⟩=some (.int .u8 ((x.getD j 0).toNat:Int)))->(convert 58 9 (.slice (some ⟨w.heap.size,0,none⟩) 16 c)).run Tryz.prog (V.setCell ⟨w.heap.size,q,none⟩ (.int .u8 Y))=.ok (.string ⟨(turn x d).toArray⟩) (V.setCell ⟨w.heap.size,q,none⟩ (.int .u8 Y))):=Lib.hid (by
  intro V hV
  have hl:=turn_length x d
  have:=run_convert_bytes_back (P:=Tryz.prog) (V.setCell ⟨w.heap.size,q,none⟩ (.int .u8 Y)) 58 9 5 ⟨w.heap.size,0,none⟩ c (turn x d) Tryz.underlying58 Tryz.underlying5 Tryz.underlying9 (by
   intro j hj
   have hj16:j<16:=by omega
   have hadd:(⟨w.heap.size,0,none⟩:Addr).add j=⟨w.heap.size,j,none⟩:=by unfold Addr.add;split <;> simp_all
   rw [hadd]
   by_cases e:j=q
   · subst e
     rw [World.cell?_setCell_same _ _ _ (hV j hj16)]
     have e2:(turn x d)[j]=UInt8.ofNat (y ^^^ 2^(7 - r8)):=by
      have:=ht.out
      simp only [this]
      simp
     rw [e2,hYe,UInt8.toNat_ofNat',Nat.mod_eq_of_lt hYl]
   · rw [World.cell?_setCell_other (a:=⟨w.heap.size,q,none⟩) (b:=⟨w.heap.size,j,none⟩) (h:=by intro h;injection h with _ h;omega),hV j hj16]
     have e2:(turn x d)[j]=x.getD j 0:=by
      have:=ht.out
      simp only [this]
      rw [List.getElem_set_ne (by omega)]
      simp [show j<x.length from by omega]
     rw [e2])
  rw [hl,hx] at this
  exact this)
 have hcl':=Lib.hid hcl
 clear hcl hfr hYe ht hYl h2 h2' hrow
 have hsz:=(hB.size)
 have htm:(d:Int).tmod 8=(r8:Int):=by rw [Int.tmod_eq_emod_of_nonneg (by omega)];exact hr
 obtain ⟨t,ht7⟩:∃ t,7 - r8=t:=⟨_,rfl⟩
 have hw7:IntKind.i64.wrap (7 - (r8:Int))=(t:Int):=by rw [IntKind.wrap_i64];omega
 rw [ht7] at hY
 have hY':bits BinOp.xor IntKind.u8 (y:Int) (IntKind.u8.wrap ((2:Int)^t))=Y:=by rw [IntKind.wrap_u8];exact hY
 have ht0:(0:Int)<=(t:Int):=by omega
 have ht8:(t:Int)<8:=by omega
 clear ht7
 have hq0:(0:Int)<=(q:Int):=by omega
 have hq1:(q:Int)<16:=by omega
 have hwq:IntKind.i64.wrap (q:Int)=q:=by rw [IntKind.wrap_i64];omega
 have hwr:IntKind.i64.wrap (r8:Int)=r8:=by rw [IntKind.wrap_i64];omega
 go_still_tail 10,(by kernel_rfl)
 change wpList _ _ _ _ _ W.drew
 have hc0:W.drew.cell? ⟨w.heap.size,q,none⟩=_:=hc0
 have hf0:W.drew.frozen? ⟨w.heap.size,q,none⟩=_:=hf0
 have hcl':Hid (∀ j,j<16->W.drew.cell? ⟨w.heap.size,j,none⟩=some (.int .u8 ((x.getD j 0).toNat:Int))):=hcl'
 have hB':=Lib.hid (hB.trans (Below.refl w.heap.size W).drew)
 clear hB
 generalize W.drew=V at hc0 hf0 hcl' hB' |-
 have hbk:=hback.out V hcl'.out
 clear hback hcl'
 go_wp2
 go_ret
 exact ⟨rfl,hB'.out.setCell (p:=⟨w.heap.size,q,none⟩) (Nat.le_refl _) _⟩
theorem clone_keys (a:Option Addr) (c:Nat) (ks:List Tx) (w:World) (hr:Keyrow w a c ks) :
 Calls Tryz.prog 57 #[.slice a ks.length c] w fun e w'=>∃ v,e=.returned v/\w'.ownsRow w.heap.size 9 1 v ks.length (ks.map encStr)/\Below w.heap.size w w':=by
 by_cases h0:ks=[]
 · subst h0
   cases a with
   | none=>
     refine (Tryz.slices_Clone_string_nil 0 c w).mono ?_
     rintro e w' ⟨rfl,rfl⟩
     exact ⟨_,rfl,World.ownsRow_nil _ _ _ _,Below.refl _ _⟩
   | some ad=>
     refine (Tryz.slices_Clone_string_zero ad c w).mono ?_
     rintro e w' ⟨v,rfl,ho,_,hB⟩
     exact ⟨v,rfl,ho,hB⟩
 · have hl:0<ks.length:=List.length_pos_iff.2 h0
   obtain ⟨g,o,rfl,_,_⟩:=hr.cell 0 hl
   have hfew:=hr.few
   refine (Tryz.slices_Clone_string g o ks.length c (ks.map fun k=>⟨k.toArray⟩) w (by simp) (by omega) (by
    intro j hj
    rw [List.length_map] at hj
    obtain ⟨g',o',e,_,hc⟩:=hr.cell j hj
    injection e with e
    injection e with e1 e2
    subst e1 e2
    rw [hc]
    congr 2
    rw [List.getD_eq_getElem?_getD,List.getElem?_eq_getElem hj,List.getD_eq_getElem?_getD,List.getElem?_map,List.getElem?_eq_getElem hj];rfl)).mono ?_
   rintro e w' ⟨v,rfl,ho,_,hB⟩
   refine ⟨v,rfl,?_,hB⟩
   have e2:(((ks.map fun k=>(⟨k.toArray⟩:ByteArray)).take ks.length).map Value.string)=ks.map encStr:=by
    rw [List.take_of_length_le (by simp),List.map_map];rfl
   rw [e2] at ho
   exact ho
theorem pin_any (Bk Bq c:Nat) (a:Option Addr) (ks:List Tx) (key:Tx) (d:Nat) (w:World) (hk:w.cell? ⟨Bk,0,none⟩=some (.slice a ks.length c)) (hr:Keyrow w a c ks) (hq:w.cell? ⟨Bq,0,none⟩=some (.string ⟨key.toArray⟩)) (h16:∀ k∈ks,k.length=16) (hkey:key.length<=1000) (hd:d<=128) :
 Calls Tryz.prog 55 #[.int .i64 (d:Int),.pointer (some ⟨Bk,0,none⟩),.pointer (some ⟨Bq,0,none⟩)] w fun e w'=>∃ a' c',e=.returned (.slice a' (under ks key d).length c')/\Keyrow w' a' c' (under ks key d)/\Below w.heap.size w w'/\∀ g o,a'=some ⟨g,o,none⟩->w.heap.size<=g:=by
 have hlk:=World.block_lt_of_cell? w _ hk
 have hlq:=World.block_lt_of_cell? w _ hq
 have hfew:=hr.few
 obtain ⟨W0,hW0⟩:∃ W0,W0=w.alloc (.cells #[.int .i64 (d:Int)] 3):=⟨_,rfl⟩
 have hB0:Below w.heap.size w W0:=by rw [hW0];exact (Below.refl _ _).alloc (Nat.le_refl _) _
 have hs0:W0.heap.size=w.heap.size+1:=by rw [hW0];simp
 have c1:W0.heap[w.heap.size]?=some (.cells #[.int .i64 (d:Int)] 3 (0,0)):=by rw [hW0];exact heap_alloc_new _ _
 have hk0:∀ o,(w.alloc o).cell? ⟨Bk,0,none⟩=some (.slice a ks.length c):=fun o=>(((Below.refl w.heap.size w).alloc (Nat.le_refl _) o).cell (p:=⟨Bk,0,none⟩) hlk).trans hk
 have hcl:=Lib.hid (clone_keys a c ks W0 (hr.old hB0))
 have hdel:=Lib.hid (fun (v:Value) (W:World) (ho:W.ownsRow W0.heap.size 9 1 v ks.length (ks.map encStr)) (hB:Below W0.heap.size W0 W)=>
  delete_any 58 Bq w.heap.size key (d:Int) (tells_prove _ _ key _ hkey) (enters_of Tryz.func58 (by kernel_rfl) rfl) W0.heap.size v ks W ho h16 hfew
   (((hB0.trans (hB.mono hB0.size)).cell (p:=⟨Bq,0,none⟩) hlq).trans hq) (by rw [cell_of_row _ _ 0 _ _ _ ((hB.block _ (by omega)).trans c1)];rfl) (fun k hk=>by have:=(ho.lt k hk).1;have h2:Bq<w.heap.size:=hlq;omega))
 rw [depthNat_in d hd] at hdel
 generalize under ks key d=U at hdel |-
 have HB0:=Lib.hid hB0
 clear hk hr hq h16 hkey hd hfew c1 hB0 hlk hlq
 generalize ks.length=kl at hk0 hcl hdel
 go_enter Tryz.func55,Tryz.ntmps55
 go_wp2_with fail
 rw [<-hW0]
 refine hcl.out.mono ?_
 rintro e w1 ⟨v,rfl,ho,hB1⟩
 have hd1:=hdel.out v w1 ho hB1
 have hol:=Lib.hid (fun k hk=>(ho.lt k hk).1)
 clear hdel ho hcl
 go_wp2_with fail
 refine hd1.mono ?_
 rintro e w2 ⟨a2,c2,rfl,hr2,hT,hloc⟩
 have hB2:Below W0.heap.size W0 w2:=hB1.trans (hT.below (B:=W0.heap.size) (fun i hi=>hol.out i hi) hB1.size)
 have Hr2:=Lib.hid (And.intro hr2 hloc)
 clear hd1 hr2 hT hloc hB1
 go_wp2
 go_ret
 exact ⟨a2,c2,rfl,Hr2.out.1,HB0.out.trans (hB2.mono HB0.out.size),fun g o e=>by have:=hol.out g (Hr2.out.2 g o e);omega⟩
def txs (l:List (List UInt8)):List Value:=l.map fun x=>.string ⟨x.toArray⟩
theorem txs_length (l:List (List UInt8)):(txs l).length=l.length:=List.length_map _
theorem txs_snoc (l:List (List UInt8)) (x:List UInt8):txs (l++[x])=txs l++[.string ⟨x.toArray⟩]:=by simp [txs]
theorem txs_append (l m:List (List UInt8)):txs (l++m)=txs l++txs m:=by simp [txs]
theorem txs_strs (l:List (List UInt8)):txs l=strs (l.map fun x=>⟨x.toArray⟩):=by simp [txs,strs]
theorem txs_one (l:List (List UInt8)):∀ u∈txs l,u.oneCell'=true:=by intro u hu;obtain ⟨x,_,rfl⟩:=List.mem_map.1 hu;rfl
theorem mk_back (l:List (List UInt8)):(l.map fun x=>(⟨x.toArray⟩:ByteArray)).map (·.data.toList)=l:=by
 rw [List.map_map];exact List.map_id'' (fun x=>by simp) l
theorem txs_at (l:List (List UInt8)) (i:Nat) (h:i<l.length):(txs l).getD i undef=.string ⟨(l.getD i []).toArray⟩:=by
 unfold txs
 rw [List.getD_eq_getElem?_getD,List.getElem?_map,List.getElem?_eq_getElem h,List.getD_eq_getElem?_getD,List.getElem?_eq_getElem h];rfl
theorem Cells.tx_at {w:World} {a:Option Addr} {len cap:Nat} {l:List (List UInt8)} (h:Cells w (.slice a len cap) (txs l)) (k:Nat) (hk:k<len) :
 ∃ b off,a=some ⟨b,off,none⟩/\b<w.heap.size/\w.cell? ⟨b,off+k,none⟩=some (.string ⟨(l.getD k []).toArray⟩):=by
 obtain ⟨b,off,h1,h2,h3⟩:=h.at k hk
 have hl:=h.len
 rw [txs_length] at hl
 exact ⟨b,off,h1,h2,by rw [h3,txs_at _ _ (by omega)]⟩
theorem tagIn_le (tag:Nat) (l:List (List UInt8)) (n:Nat) (hn:l.length<=n) (h:∀ x∈l,x.length<=1000):(tagIn tag l).length<=1+1004*n:=by
 rw [tagIn_len]
 have:∀ l:List (List UInt8),(∀ x∈l,x.length<=1000)->(l.map fun x=>4+x.length).sum<=1004*l.length:=by
  intro l
  induction l with
  | nil=>intro _;simp
  | cons x l ih=>intro h;have h1:=h x (by simp);have:=ih fun y hy=>h y (by simp [hy]);simp;omega
 have:=this l h
 have:1004*l.length<=1004*n:=Nat.mul_le_mul_left _ hn
 omega
theorem tagged_txs (tag:Nat) (v:Value) (l:List (List UInt8)) (w:World) (htag:tag<256) (hv:Cells w v (txs l)) (hN:l.length<=300) (h:∀ x∈l,x.length<=1000) (hK:Kon w) :
 Calls Tryz.prog 9 #[.int .u8 tag,v] w fun e w'=>e=.returned (.string ⟨(tagOf tag l).toArray⟩)/\Below w.heap.size w w':=by
 have:=tagged_any tag v (l.map fun x=>⟨x.toArray⟩) w htag (by rw [<-txs_strs];exact hv) (by rw [List.length_map];exact hN) (by rw [mk_back];have:=tagIn_le tag l 300 hN h;omega) hK
 rw [mk_back] at this
 exact this
theorem own_srcs {w:World} {base:Nat} {e:TypeId} {size:Nat} {a:Option Addr} {c n:Nat} {xs:List Value} (h:w.ownsRow base e size (.slice a n c) n xs) :
 (a=none->n=0)/\∀ ad,a=some ad->∀ (j:Nat) u,xs[j]?=some u->w.cell? (ad.add j)=some u:=by
 rcases h.2 with ⟨hv,h0⟩ | ⟨g,cap,cur,hv,_⟩
 · injection hv with e1 _ _
   subst e1
   exact ⟨fun _=>h0,fun _ h=>by cases h⟩
 · injection hv with e1 _ _
   subst e1
   refine ⟨(fun h=>by cases h),fun ad had j u hj=>?_⟩
   injection had with had
   subst had
   exact h.cells (g:=g) rfl j u hj
def publicOf (o:List UInt8) (l:Nat) (ends:List (List UInt8)):List UInt8:=tagOf 4 (o :: placeOf l 0 0 :: ends)
theorem public_any (o:ByteArray) (l:Nat) (v:Value) (ends:List (List UInt8)) (w:World) (B:Nat) (ho:o.size<=1000) (hl:l<256) (n:Nat) (hv:w.ownsRow B 9 1 v n (txs ends)) (hn:n=ends.length) (hN:n<=200) (h:∀ x∈ends,x.length<=1000) (hK:Kon w) :
 Calls Tryz.prog 163 #[.string o,.int .i64 l,v] w fun e w'=>e=.returned (.string ⟨(publicOf o.data.toList l ends).toArray⟩)/\Below w.heap.size w w':=by
 have HK:=Lib.hid hK
 have HV:=Lib.hid hv
 obtain ⟨a,c,rfl⟩:=own_slice hv
 have Hn:=Lib.hid hn
 clear hK hv hn
 go_enter Tryz.func163,Tryz.ntmps163
 go_wp2_with fail
 refine (place_any l 0 0 _ hl (by decide) (by decide)).mono ?_
 rintro e w1 ⟨rfl,hb1⟩
 have s1:=hb1.size
 go_wp2_with (at_builtin;refine Hid.out ?_)
 unfold Hid
 have hown:(w1.alloc (.cells #[.string o,.string ⟨(placeOf l 0 0).toArray⟩] 9)).ownsRow w1.heap.size 9 1 (.slice (some ⟨w1.heap.size,0,none⟩) 2 2) 2 (txs [o.data.toList,placeOf l 0 0]):=
  ⟨rfl,.inr ⟨w1.heap.size,2,_,rfl,Nat.le_refl _,heap_alloc_new _ _,Nat.le_refl _,by decide,rfl,by simp [txs]⟩⟩
 have hba:Below w.heap.size w (w1.alloc (.cells #[.string o,.string ⟨(placeOf l 0 0).toArray⟩] 9)):=hb1.alloc s1 _
 have hsrc:=own_srcs ((Touch.of_below hba (fun _=>False)).own HV.out (fun _ _ h=>h))
 refine wpList_appSrc rfl rfl 1 Tryz.underlying31 Tryz.underlying31 Tryz.infoStr rfl (by decide) hown rfl (news:=txs ends) rfl (by rw [txs_length,Nat.mul_one,Hn.out]) hsrc.1 hsrc.2 (txs_one _) (by unfold maxLen;omega) (by omega) (by simp) ?_
 intro v2 w2 ho2 hg2 _
 have hb2:Below w.heap.size w w2:=hba.grown hg2 hba.size (fun k hk=>by have:=(hown.lt k hk).1;omega)
 rw [<-txs_append] at ho2
 have hT:=Lib.hid (tagged_txs 4 v2 ([o.data.toList,placeOf l 0 0]++ends) w2 (by decide) (cells_of_own ho2) (by have:=Hn.out;simp;omega) (by
  intro x hx
  rcases List.mem_append.1 hx with hx | hx
  · rcases List.mem_cons.1 hx with rfl | hx
    · simpa using ho
    · obtain rfl:x=placeOf l 0 0:=by simpa using hx
      simp [placeOf]
  · exact h x hx) (HK.out.old hb2))
 obtain ⟨a2,c2,rfl⟩:=own_slice ho2
 clear ho2 hown hsrc hg2
 go_wp2_with fail
 refine hT.out.mono ?_
 rintro e w3 ⟨rfl,hb3⟩
 go_wp2
 go_ret
 exact ⟨rfl,hb2.trans (hb3.mono hb2.size)⟩
def pubEnds (seed:List UInt8) (l k:Nat):List (List UInt8):=(List.range k).map fun i=>wk (openOf seed) l i 0 15 (secretOf seed l i)
theorem pubEnds_succ (seed:List UInt8) (l k:Nat):pubEnds seed l (k+1)=pubEnds seed l k++[wk (openOf seed) l k 0 15 (secretOf seed l k)]:=by simp [pubEnds,List.range_succ]
theorem secretOf_length (seed:List UInt8) (l k:Nat):(secretOf seed l k).length=16:=tagOf_length _ _
theorem openOf_length (seed:List UInt8):(openOf seed).length=16:=tagOf_length _ _
def pubKey (seed:List UInt8) (l:Nat):List UInt8:=publicOf (openOf seed) l (pubEnds seed l 35)
theorem pubKey_length (seed:List UInt8) (l:Nat):(pubKey seed l).length=16:=tagOf_length _ _
theorem pubKey_any (seed:ByteArray) (l:Nat) (w:World) (hs:seed.size<=1000) (hl:l<256) (hK:Kon w) :
 Calls Tryz.prog 103 #[.string seed,.int .i64 l] w fun e w'=>e=.returned (.string ⟨(pubKey seed.data.toList l).toArray⟩)/\Below w.heap.size w w':=by
 have HK:=Lib.hid hK
 clear hK
 go_enter Tryz.func103,Tryz.ntmps103
 go_wp2_with fail
 refine (open_any seed _ hs HK.out).mono ?_
 rintro e w1 ⟨rfl,hb1⟩
 have ho:=openOf_length seed.data.toList
 have Hopen:=Lib.hid (show openOf seed.data.toList=openOf seed.data.toList from rfl)
 have s1:=hb1.size
 go_wp2_with fail
 go_loopw [6,10] (fun v i W=>∃ k:Nat,k<=35/\i=.int .i64 k/\W.ownsRow w.heap.size 9 1 v k (txs (pubEnds seed.data.toList l k))/\Below w.heap.size w W) (fun _ i _=>35 - (intOf i).toNat)
 case atStart=>exact ⟨0,Nat.zero_le _,rfl,World.ownsRow_nil _ _ _ _,hb1⟩
 case round=>
  obtain ⟨k,hk,rfl,hown,hb⟩:=hrel
  have sz:=hb.size
  have Hown:=Lib.hid hown
  obtain ⟨av,cv,rfl⟩:=own_slice hown
  clear hown
  by_cases hlt:k<35
  · have Hsucc:=Lib.hid (pubEnds_succ seed.data.toList l k)
    go_wp2_with fail
    refine (secret_any seed l k _ hs hl (by omega) (HK.out.old hb)).mono ?_
    rintro e w2 ⟨rfl,hc2⟩
    have hb2:=hb.trans (hc2.mono sz)
    have s2:=hb2.size
    have hw:=walk_any ⟨(openOf seed.data.toList).toArray⟩ ⟨(secretOf seed.data.toList l k).toArray⟩ l k 0 15 w2 (by show (openOf seed.data.toList).toArray.size<=1000;simp [ho]) (by show (secretOf seed.data.toList l k).toArray.size=16;simp [secretOf_length]) hl (by omega) (by decide) (by decide) (HK.out.old hb2)
    have Hw:=Lib.hid hw
    clear hw
    go_wp2_with fail
    refine Hw.out.mono ?_
    rintro e w3 ⟨rfl,hc3⟩
    have hb3:=hb2.trans (hc3.mono s2)
    have hcc:=hc2.trans (hc3.mono hc2.size)
    have s3:=hb3.size
    go_wp2_with (at_builtin;refine Hid.out ?_)
    unfold Hid
    have hown3:w3.ownsRow w.heap.size 9 1 (.slice av k cv) k (txs (pubEnds seed.data.toList l k)):=(Touch.of_below hcc (fun _=>False)).own Hown.out (fun _ _ h=>h)
    refine wpList_app1 rfl rfl Tryz.underlying31 Tryz.infoStr rfl hown3 rfl rfl rfl (by omega) (by unfold maxLen;omega) s3 ?_
    intro v4 w4 ho4 hg4
    have hb4:Below w.heap.size w w4:=hb3.grown hg4 s3 (fun j hj=>(hown3.lt j hj).1)
    have ho4:w4.ownsRow w.heap.size 9 1 v4 (k+1) (txs (pubEnds seed.data.toList l (k+1))):=by
     rw [Hsucc.out,txs_snoc];exact ho4
    obtain ⟨a4,c4,rfl⟩:=own_slice ho4
    clear hown3 hg4
    go_wp2
    go_roundw
    case rel=>exact ⟨k+1,by omega,by go_num,ho4,hb4⟩
    case measure=>simp [intOf];omega
  · have h35:k=35:=by omega
    have hge:¬ (k:Int)<35:=by omega
    have hp:=public_any ⟨(openOf seed.data.toList).toArray⟩ l (.slice av k cv) (pubEnds seed.data.toList l k) wr w.heap.size (by show (openOf seed.data.toList).toArray.size<=1000;simp [ho]) hl k Hown.out (by simp [pubEnds]) (by omega) (by
     intro x hx
     obtain ⟨i,_,rfl⟩:=List.mem_map.1 hx
     have:=wk_length (openOf seed.data.toList) l i 0 15 (secretOf seed.data.toList l i) (secretOf_length _ _ _)
     omega) (HK.out.old hb)
    have Hp:=Lib.hid hp
    have H35:=Lib.hid h35
    clear hp h35 hlt
    go_wp2_with fail
    refine Hp.out.mono ?_
    rintro e w2 ⟨rfl,hb2⟩
    go_wp2
    go_ret
    exact ⟨by rw [H35.out];rfl,hb.trans (hb2.mono sz)⟩
end Go.Proofs.YtcgkomafaepjnaaGreatDoor
