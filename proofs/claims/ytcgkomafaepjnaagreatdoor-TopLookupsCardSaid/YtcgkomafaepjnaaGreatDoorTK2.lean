/- What the proofs of two trees of labels tell: no program in sight. Conditions: none. -/
import Derived.Test.YtcgkomafaepjnaaGreatDoorTK1
import Derived.Test.YtcgkomafaepjnaaGreatDoorTL28
import Derived.Test.YtcgkomafaepjnaaGreatDoorTL16
set_option maxRecDepth 100000
set_option maxHeartbeats 16000000
namespace Go.Proofs.YtcgkomafaepjnaaGreatDoor
open Go.RowKit
def tr (c:Nat->Nat):Puts:=pubPuts 1 (audsN 1) (usL (c 0) (c 1) (c 2))
def trR (c:Nat->Nat):Tx:=hs.at (valOf (tr c)) (keysOf (tr c)) [] 0
def MadeL (c:Nat->Nat) (k:Nat) (pf:Pf) (m:Nat):Prop:=Made hs (valOf (tr c)) (keysOf (tr c)) (nameOf (nmL k)) 0 pf m
theorem usL_nodup_at (c:Nat->Nat) (hc:∀ i,c i<3):((tr c).map (·.1)).Nodup:=usL_nodup _ _ _ (hc 0) (hc 1) (hc 2)
theorem tr_len (c:Nat->Nat):∀ q∈tr c,q.1.length=16/\q.2.length=16:=pub_len 1 1 _ (by decide)
theorem madeL_good {c:Nat->Nat} {k m:Nat} {pf:Pf} (h:MadeL c k pf m):IsGood pf (nameOf (nmL k)) 0:=Made.good h (keys_keysOf (fun q hq=>(tr_len c q hq).1))
theorem madeL_root {c:Nat->Nat} {k m:Nat} {pf:Pf} (h:MadeL c k pf m):hs.climb (nameOf (nmL k)) pf.beside 0 (hs.foot pf)=trR c:=(made_root h).symm
theorem madeL_has {c:Nat->Nat} (hc:∀ i,c i<3) {k m:Nat} (hk:k<3) {pf:Pf} (h:MadeL c k pf m) (h0:c k≠0):pf.there=true/\pf.key=nameOf (nmL k)/\pf.val=fstVal (seedK (c k)):=by
 obtain ⟨h1,h2⟩:=usL_has c hc k hk h0
 obtain ⟨h3,h4,h5⟩:=made_there h h1
 exact ⟨h3,h4,h5.trans h2⟩
theorem madeL_lacks {c:Nat->Nat} (hc:∀ i,c i<3) {k m:Nat} (hk:k<3) {pf:Pf} (h:MadeL c k pf m) (h0:c k=0):(!pf.there || pf.key != nameOf (nmL k))=true:=by
 rcases h.fin with ⟨_,e,_⟩ | ⟨q,e,_,e2,_⟩
 · rw [e];rfl
 · have hq:q∈keysOf (tr c):=(mem_under.1 (show q∈under (keysOf (tr c)) (nameOf (nmL k)) (0+m) by rw [e];simp)).1
   have hne:pf.key≠nameOf (nmL k):=fun e3=>usL_lacks c hc k hk h0 (by rw [<-e3,e2];exact hq)
   rw [bne_iff_ne.2 hne,Bool.or_true]
theorem madeL_val {c:Nat->Nat} (hc:∀ i,c i<3) {k m:Nat} {pf:Pf} (h:MadeL c k pf m):pf.val.length<=1000:=by
 rcases h.fin with ⟨_,_,_,e⟩ | ⟨q,e,_,_,e3⟩
 · rw [e];decide
 · have hq:q∈keysOf (tr c):=(mem_under.1 (show q∈under (keysOf (tr c)) (nameOf (nmL k)) (0+m) by rw [e];simp)).1
   obtain ⟨p,hp,e4⟩:=List.mem_map.1 (mem_keysOf.1 hq)
   rw [e3,<-e4,valOf_mem _ (usL_nodup_at c hc) p hp]
   have:=(tr_len c p hp).2
   omega
theorem tells_own {c:Nat->Nat} (hc:∀ i,c i<3) {k m:Nat} (hk:k<3) {pf:Pf} (h:MadeL c k pf m):tellB (codeOf (c k)) pf (nameOf (nmL k)) (trR c)=true:=by
 by_cases h0:c k=0
 · rw [codeOf,if_pos h0]
   show ((!pf.there || pf.key != nameOf (nmL k))&&hs.climb (nameOf (nmL k)) pf.beside 0 (hs.foot pf)==trR c)=true
   rw [madeL_lacks hc hk h h0,madeL_root h,beq_self_eq_true]
   rfl
 · rw [codeOf,if_neg h0]
   obtain ⟨h1,h2,h3⟩:=madeL_has hc hk h h0
   show (pf.there&&pf.key==nameOf (nmL k)&&pf.val==fstVal (seedK (c k))&&hs.climb (nameOf (nmL k)) pf.beside 0 (hs.foot pf)==trR c)=true
   rw [h1,h2,h3,madeL_root h,beq_self_eq_true,beq_self_eq_true,beq_self_eq_true]
   rfl
theorem tellB_far (o:Option (List UInt8)) (pf:Pf) (key R:Tx) (h:(hs.climb key pf.beside 0 (hs.foot pf)==R)=false):tellB o pf key R=false:=by
 cases o with
 | none=>show (_&&_)=false;rw [h,Bool.and_false]
 | some s=>show (_&&_)=false;rw [h,Bool.and_false]
theorem seed_apart {a b:Nat} (ha:a<3) (hb:b<3) (a0:a≠0) (b0:b≠0) (h:a≠b):fstVal (seedK a)≠fstVal (seedK b):=by
 have h2:(a=1/\b=2)\/(a=2/\b=1):=by omega
 rcases h2 with ⟨rfl,rfl⟩ | ⟨rfl,rfl⟩
 · exact fst_apart
 · exact fun e=>fst_apart e.symm
theorem tells_other {c e:Nat->Nat} (hc:∀ i,c i<3) (he:∀ i,e i<3) {k mx my:Nat} (hk:k<3) {x y:Pf} (hx:MadeL c k x mx) (hy:MadeL e k y my) (hne:c k≠e k):tellB (codeOf (e k)) y (nameOf (nmL k)) (trR c)=false/\tellB (codeOf (e k)) x (nameOf (nmL k)) (trR c)=false:=by
 constructor
 · refine tellB_far _ _ _ _ ?_
   rw [madeL_root hy,beq_eq_false_iff_ne]
   intro h
   obtain ⟨h0,h1,h2⟩:=rootL_apart (e 0) (e 1) (e 2) (c 0) (c 1) (c 2) (he 0) (he 1) (he 2) (hc 0) (hc 1) (hc 2) h
   have hk3:k=0\/k=1\/k=2:=by omega
   rcases hk3 with rfl | rfl | rfl
   · exact hne h0.symm
   · exact hne h1.symm
   · exact hne h2.symm
 · by_cases h0:e k=0
   · obtain ⟨h1,h2,_⟩:=madeL_has hc hk hx (fun h=>hne (h.trans h0.symm))
     rw [codeOf,if_pos h0]
     show ((!x.there || x.key != nameOf (nmL k))&&_)=false
     rw [h1,h2,bne_self_eq_false]
     rfl
   · rw [codeOf,if_neg h0]
     show (x.there&&x.key==nameOf (nmL k)&&x.val==fstVal (seedK (e k))&&_)=false
     by_cases h3:c k=0
     · have h4:=madeL_lacks hc hk hx h3
       have h5:(x.there&&x.key==nameOf (nmL k))=false:=by
        cases hth:x.there with
        | false=>rfl
        | true=>
          rw [hth] at h4
          have h4:(x.key != nameOf (nmL k))=true:=h4
          rw [bne_iff_ne] at h4
          rw [beq_eq_false_iff_ne.2 h4]
          rfl
       rw [h5]
       rfl
     · obtain ⟨_,_,h4⟩:=madeL_has hc hk hx h3
       rw [h4,beq_eq_false_iff_ne.2 (seed_apart (hc k) (he k) h3 h0 hne),Bool.and_false]
       rfl
theorem keyrow_of_cells {w:World} {a:Option Addr} {n c:Nat} {ks:List Tx} (h:Cells w (.slice a n c) (txs ks)) (hr:n<=c) (hf:ks.length<=100000):Keyrow w a c ks:=by
 obtain ⟨a',c',e,hc⟩:=h
 injection e with e1 e2 e3
 subst e1
 rw [txs_length] at e2
 refine ⟨by omega,hf,fun k hk=>?_⟩
 obtain ⟨b,o,rfl,hb,hc⟩:=hc (fun e=>by have:=txs_length ks;rw [e] at this;simp at this;omega)
 exact ⟨b,o,rfl,hb,by rw [hc k (by rw [txs_length];omega),txs_at _ _ hk]⟩
def Ans (W:World) (c:Nat->Nat) (k:Nat) (ha:Option Addr) (nx hc:Nat) (pa:Option Addr) (pn pc:Nat) (th:Bool) (pk pv:ByteArray):Prop:=
 ∃ pf m,nx=histK (codeOf (c k))/\pn=pf.beside.length/\th=pf.there/\pk=⟨pf.key.toArray⟩/\pv=⟨pf.val.toArray⟩/\W.ownsRow 0 105 5 (.slice ha (histK (codeOf (c k))) hc) (histK (codeOf (c k))) (histL (codeOf (c k)))/\Keyrow W pa pc pf.beside/\MadeL c k pf m
theorem Ans.old {W W':World} {c:Nat->Nat} {k:Nat} {ha:Option Addr} {nx hc:Nat} {pa:Option Addr} {pn pc:Nat} {th:Bool} {pk pv:ByteArray} (h:Ans W c k ha nx hc pa pn pc th pk pv) (hb:Below W.heap.size W W'):Ans W' c k ha nx hc pa pn pc th pk pv:=by
 obtain ⟨pf,m,h1,h2,h3,h4,h5,h6,h7,h8⟩:=h
 exact ⟨pf,m,h1,h2,h3,h4,h5,(Touch.of_below hb (fun _=>False)).own h6 (fun _ _=>id),h7.old hb,h8⟩
theorem look_any (c:Nat->Nat) (k p:Nat) (S:Nat->Prop) (w:World) (hk:k<3) (h:SrvB w S p 1 (audsN 1) (usL (c 0) (c 1) (c 2))) (hK:Kon w) :
 Calls Tryz.prog 33 #[.pointer (some ⟨p,0,none⟩),.string ⟨(nmL k).toArray⟩] w fun e w'=>∃ ha nx hc pa pn pc th pk pv,e=.returned (.tuple #[.agg #[.string ⟨(nmL k).toArray⟩,.slice ha nx hc,.slice pa pn pc,.bool th,.string pk,.string pv],.int .i64 0])/\Ans w' c k ha nx hc pa pn pc th pk pv/\Below w.heap.size w w':=by
 have h1:=slookup_any p 1 (audsN 1) (usL (c 0) (c 1) (c 2)) S ⟨(nmL k).toArray⟩ w h (by show (nmL k).toArray.size<=1000;rw [List.size_toArray];have:=(nm_size k).2;omega) hK
 rw [show (usL (c 0) (c 1) (c 2)).lookup (⟨(nmL k).toArray⟩:ByteArray).data.toList=codeOf (c k) from usL_look c k hk] at h1
 refine h1.mono ?_
 rintro e w' ⟨ha,hc,pa,pc,pf,m,rfl,h2,h3,h4,h5⟩
 exact ⟨ha,_,hc,pa,_,pc,_,_,_,rfl,⟨pf,m,rfl,rfl,rfl,rfl,rfl,h2,h3,h4⟩,h5⟩
theorem two_vars (w:World) (u v:Value) (t t':TypeId):Below w.heap.size w ((w.alloc (.cells #[u] t)).alloc (.cells #[v] t'))/\((w.alloc (.cells #[u] t)).alloc (.cells #[v] t')).cell? ⟨w.heap.size,0,none⟩=some u/\((w.alloc (.cells #[u] t)).alloc (.cells #[v] t')).cell? ⟨w.heap.size+1,0,none⟩=some v:=
 ⟨((Below.refl _ _).alloc (Nat.le_refl _) _).alloc (by rw [World.size_alloc];omega) _,by rw [cell_of_row _ _ 0 _ _ _ (heap_alloc2_old w (.cells #[u] t) (.cells #[v] t'))];rfl,by rw [cell_of_row _ _ 0 _ _ _ (heap_alloc2_new w (.cells #[u] t) (.cells #[v] t'))];rfl⟩
theorem end_pack {W:World} {c e:Nat->Nat} {k F Gb Kb Xb Yb nc xn xc xpn xpc yn yc ypn ypc:Nat} {na xa xpa ya ypa:Option Addr} {xt yt:Bool} {sx sy xk xv yk yv:ByteArray} (hc:∀ i,c i<3) (he:∀ i,e i<3) (hk:k<3) (hK:Kon W)
 (hF:W.cell? ⟨F,0,none⟩=some (.func (.func 35) #[] #[])) (hGb:W.heap[Gb]?=some (.cells #[.int .u64 1,.string ⟨(dig0 1 (audsN 1)).toArray⟩,.int .i64 1,.int .i64 1,.slice na 2 nc] 69 (0,0))) (hKb:W.cell? ⟨Kb,0,none⟩=some (.string ⟨(nameOf (nmL k)).toArray⟩))
 (hN:Keyrow W na nc (nodes1 1 (audsN 1) (usL (c 0) (c 1) (c 2)))) (hX:W.heap[Xb]?=some (.cells #[.string sx,.slice xa xn xc,.slice xpa xpn xpc,.bool xt,.string xk,.string xv] 100 (0,0))) (hx:Ans W c k xa xn xc xpa xpn xpc xt xk xv) (hY:W.heap[Yb]?=some (.cells #[.string sy,.slice ya yn yc,.slice ypa ypn ypc,.bool yt,.string yk,.string yv] 100 (0,0))) (hy:Ans W e k ya yn yc ypa ypn ypc yt yk yv) :
 ∃ (Pre:World->Prop) (b1 b2:Bool) (V1 V2:ByteArray),((b1=false/\b2=false)\/(V1=V2/\b2=true/\b1=false)\/(V1=V2/\b2=true/\b1=true))/\Pre W/\Hid (∀ A,Pre A->Pre A.drew)
  /\ Hid (∀ A,Pre A->A.cell? ⟨F,0,none⟩=some (.func (.func 35) #[] #[])/\A.cell? ⟨Xb,0,none⟩=some (.string sx)/\A.cell? ⟨Xb,1,none⟩=some (.slice xa xn xc)/\A.cell? ⟨Xb,2,none⟩=some (.slice xpa xpn xpc)/\A.cell? ⟨Xb,3,none⟩=some (.bool xt)/\A.cell? ⟨Xb,4,none⟩=some (.string xk)/\A.cell? ⟨Xb,5,none⟩=some (.string xv)/\A.cell? ⟨Yb,0,none⟩=some (.string sy)/\A.cell? ⟨Yb,1,none⟩=some (.slice ya yn yc)/\A.cell? ⟨Yb,2,none⟩=some (.slice ypa ypn ypc)/\A.cell? ⟨Yb,3,none⟩=some (.bool yt)/\A.cell? ⟨Yb,4,none⟩=some (.string yk)/\A.cell? ⟨Yb,5,none⟩=some (.string yv))
  /\ Hid (∀ A,Pre A->Calls Tryz.prog 37 #[.agg #[.string sx,.slice xa xn xc,.slice xpa xpn xpc,.bool xt,.string xk,.string xv],.agg #[.slice xpa xpn xpc,.bool xt,.string xk,.string xv],.pointer (some ⟨F,0,none⟩),.pointer (some ⟨Gb,0,none⟩),.pointer (some ⟨Kb,0,none⟩)] A fun e w'=>e=.returned (.bool true)/\Pre w')
  /\ Hid (∀ A,Pre A->Calls Tryz.prog 37 #[.agg #[.string sy,.slice ya yn yc,.slice ypa ypn ypc,.bool yt,.string yk,.string yv],.agg #[.slice ypa ypn ypc,.bool yt,.string yk,.string yv],.pointer (some ⟨F,0,none⟩),.pointer (some ⟨Gb,0,none⟩),.pointer (some ⟨Kb,0,none⟩)] A fun e w'=>e=.returned (.bool b1)/\Pre w')
  /\ Hid (∀ A,Pre A->Calls Tryz.prog 37 #[.agg #[.string sy,.slice ya yn yc,.slice ypa ypn ypc,.bool yt,.string yk,.string yv],.agg #[.slice xpa xpn xpc,.bool xt,.string xk,.string xv],.pointer (some ⟨F,0,none⟩),.pointer (some ⟨Gb,0,none⟩),.pointer (some ⟨Kb,0,none⟩)] A fun e w'=>e=.returned (.bool b2)/\Pre w')
  /\ Hid (∀ A,Pre A->Calls Tryz.prog 35 #[.agg #[.string sx,.slice xa xn xc,.slice xpa xpn xpc,.bool xt,.string xk,.string xv]] A fun e w'=>e=.returned (.string V1)/\Pre w')/\Hid (∀ A,Pre A->Calls Tryz.prog 35 #[.agg #[.string sy,.slice ya yn yc,.slice ypa ypn ypc,.bool yt,.string yk,.string yv]] A fun e w'=>e=.returned (.string V2)/\Pre w')
  /\ Hid (∀ A,Pre A->Below W.heap.size W A):=by
 have hcells:∀ A,Below W.heap.size W A->A.cell? ⟨F,0,none⟩=some (.func (.func 35) #[] #[])/\A.cell? ⟨Xb,0,none⟩=some (.string sx)/\A.cell? ⟨Xb,1,none⟩=some (.slice xa xn xc)/\A.cell? ⟨Xb,2,none⟩=some (.slice xpa xpn xpc)/\A.cell? ⟨Xb,3,none⟩=some (.bool xt)/\A.cell? ⟨Xb,4,none⟩=some (.string xk)/\A.cell? ⟨Xb,5,none⟩=some (.string xv)/\A.cell? ⟨Yb,0,none⟩=some (.string sy)/\A.cell? ⟨Yb,1,none⟩=some (.slice ya yn yc)/\A.cell? ⟨Yb,2,none⟩=some (.slice ypa ypn ypc)/\A.cell? ⟨Yb,3,none⟩=some (.bool yt)/\A.cell? ⟨Yb,4,none⟩=some (.string yk)/\A.cell? ⟨Yb,5,none⟩=some (.string yv):=fun A hA=>by
  obtain ⟨a0,a1,a2,a3,a4,a5,_⟩:=six_of_row ((hA.block _ (lt_of_heap hX)).trans hX)
  obtain ⟨b0,b1,b2,b3,b4,b5,_⟩:=six_of_row ((hA.block _ (lt_of_heap hY)).trans hY)
  exact ⟨(hA.cell (World.block_lt_of_cell? _ _ hF)).trans hF,a0,a1,a2,a3,a4,a5,b0,b1,b2,b3,b4,b5⟩
 obtain ⟨px,mx,rfl,rfl,rfl,rfl,rfl,hox,hpx,hmx⟩:=hx
 obtain ⟨py,my,rfl,rfl,rfl,rfl,rfl,hoy,hpy,hmy⟩:=hy
 have hroot:∀ A,Below W.heap.size W A->∀ B,Below A.heap.size A B->Calls Tryz.prog 38 #[.agg #[.int .u64 1,.string ⟨(dig0 1 (audsN 1)).toArray⟩,.int .i64 ((1:Nat):Int),.int .i64 ((1:Nat):Int),.slice na 2 nc]] B fun e w'=>e=.returned (.string ⟨(trR c).toArray⟩)/\Below B.heap.size B w':=fun A hA B hB=>
  hroot_any 1 (dig0 1 (audsN 1)) 1 1 na 2 nc ⟨(trR c).toArray⟩ B (fun V hV=>broot_any (tr c) 1 nc na V (((hN.old hA).old hB).old hV) (((hK.old hA).old hB).old hV) (by decide) (fun q hq=>(tr_len c q hq).1))
 have htell:∀ (o:Option (List UInt8)) (s zk zv:ByteArray) (ha:Option Addr) (hc':Nat) (za:Option Addr) (zn zc:Nat) (zt:Bool) (pa:Option Addr) (pc:Nat) (pf:Pf) (A:World),A.ownsRow 0 105 5 (.slice ha (histK o) hc') (histK o) (histL o)->Keyrow A pa pc pf.beside->IsGood pf (nameOf (nmL k)) 0->pf.val.length<=1000->Below W.heap.size W A ->
  Calls Tryz.prog 37 #[.agg #[.string s,.slice ha (histK o) hc',.slice za zn zc,.bool zt,.string zk,.string zv],.agg #[.slice pa pf.beside.length pc,.bool pf.there,.string ⟨pf.key.toArray⟩,.string ⟨pf.val.toArray⟩],.pointer (some ⟨F,0,none⟩),.pointer (some ⟨Gb,0,none⟩),.pointer (some ⟨Kb,0,none⟩)] A fun e w'=>e=.returned (.bool (tellB o pf (nameOf (nmL k)) (trR c)))/\Below W.heap.size W w':=fun o s zk zv ha hc' za zn zc zt pa pc pf A h1 h2 h3 h4 hA=>
  (ttells_any s ha hc' o za zn zc zt zk zv pa pc pf F Gb Kb (dig0 1 (audsN 1)) 1 1 2 na nc (nameOf (nmL k)) (trR c) A h1 h2 h3 h4 (hcells A hA).1 ((hA.block _ (lt_of_heap hGb)).trans hGb) ((hA.cell (World.block_lt_of_cell? _ _ hKb)).trans hKb) (hK.old hA) (hroot A hA)).mono fun _ _ h=>⟨h.1,hA.trans (h.2.mono hA.size)⟩
 have hOx:∀ A,Below W.heap.size W A->A.ownsRow 0 105 5 (.slice xa (histK (codeOf (c k))) xc) (histK (codeOf (c k))) (histL (codeOf (c k))):=fun A hA=>(Touch.of_below hA (fun _=>False)).own hox (fun _ _=>id)
 have hOy:∀ A,Below W.heap.size W A->A.ownsRow 0 105 5 (.slice ya (histK (codeOf (e k))) yc) (histK (codeOf (e k))) (histL (codeOf (e k))):=fun A hA=>(Touch.of_below hA (fun _=>False)).own hoy (fun _ _=>id)
 have hown:=tells_own hc hk hmx
 refine ⟨fun A=>Below W.heap.size W A,tellB (codeOf (e k)) py (nameOf (nmL k)) (trR c),tellB (codeOf (e k)) px (nameOf (nmL k)) (trR c),⟨(valU (codeOf (c k))).toArray⟩,⟨(valU (codeOf (e k))).toArray⟩,?_,Below.refl _ _,Lib.hid (fun A hA=>hA.drew),Lib.hid hcells,Lib.hid (fun A hA=>?_),Lib.hid (fun A hA=>?_),Lib.hid (fun A hA=>?_),Lib.hid (fun A hA=>?_),Lib.hid (fun A hA=>?_),Lib.hid (fun A hA=>hA)⟩
 · by_cases h:c k=e k
   · rw [<-h]
     cases hb:tellB (codeOf (c k)) py (nameOf (nmL k)) (trR c) with
     | false=>exact .inr (.inl ⟨rfl,hown,rfl⟩)
     | true=>exact .inr (.inr ⟨rfl,hown,rfl⟩)
   · exact .inl (tells_other hc he hk hmx hmy h)
 · have h:=htell (codeOf (c k)) sx ⟨px.key.toArray⟩ ⟨px.val.toArray⟩ xa xc xpa px.beside.length xpc px.there xpa xpc px A (hOx A hA) (hpx.old hA) (madeL_good hmx) (madeL_val hc hmx) hA
   rw [hown] at h
   exact h
 · exact htell (codeOf (e k)) sy ⟨py.key.toArray⟩ ⟨py.val.toArray⟩ ya yc ypa py.beside.length ypc py.there ypa ypc py A (hOy A hA) (hpy.old hA) (madeL_good hmy) (madeL_val he hmy) hA
 · exact htell (codeOf (e k)) sy ⟨py.key.toArray⟩ ⟨py.val.toArray⟩ ya yc ypa py.beside.length ypc py.there xpa xpc px A (hOy A hA) (hpx.old hA) (madeL_good hmx) (madeL_val hc hmx) hA
 · exact (tvalue_any sx xa xc (codeOf (c k)) xpa px.beside.length xpc px.there ⟨px.key.toArray⟩ ⟨px.val.toArray⟩ A (hOx A hA) (hK.old hA)).mono fun _ _ h=>⟨h.1,hA.trans (h.2.mono hA.size)⟩
 · exact (tvalue_any sy ya yc (codeOf (e k)) ypa py.beside.length ypc py.there ⟨py.key.toArray⟩ ⟨py.val.toArray⟩ A (hOy A hA) (hK.old hA)).mono fun _ _ h=>⟨h.1,hA.trans (h.2.mono hA.size)⟩
theorem tlookups_any (la ra:Option Addr) (ln lc rn rc:Nat) (ll rl:List UInt8) (lb:Nat) (w:World) (hlb:lb<256) (hl:Cells w (.slice la ln lc) (bytesV ll)) (hr:Cells w (.slice ra rn rc) (bytesV rl)) (hT:Kons w) :
 Calls Tryz.prog 5 #[.slice la ln lc,.slice ra rn rc,.int .u8 lb] w fun e w'=>e=.returned (.bool true)/\Below w.heap.size w w':=by
 have HT:=Lib.hid hT
 have HL:=Lib.hid hl
 have HR:=Lib.hid hr
 have hcall:=Lib.hid (serves_any w hT)
 clear hT hl hr
 go_enter Tryz.func5,Tryz.ntmps5
 go_wp2_with fail
 refine hcall.out.mono ?_
 rintro e w1 ⟨rfl,hb1⟩
 have hcall:=Lib.hid (show Calls Tryz.prog 24 #[.int .i64 1] w1 fun e w'=>∃ va vc bs,e=.returned (.slice va 1 vc)/\KeysAt w' w1.heap.size vc 1 w'.heap.size va bs/\Below w1.heap.size w1 w' from keys_any 1 w1 (by decide) (HT.out.old hb1).kon)
 have HB1:=Lib.hid hb1
 clear hb1
 go_wp2_with fail
 refine hcall.out.mono ?_
 rintro e w3 ⟨va,vc,bs,rfl,hks,hb3⟩
 have hB3:=HB1.out.trans (hb3.mono HB1.out.size)
 have hcall:=Lib.hid (show Calls Tryz.prog 25 #[.slice va 1 vc,.int .i64 1] w3 fun e w'=>∃ p S,e=.returned (.pointer (some ⟨p,0,none⟩))/\SrvA w' S p 1 (audsN 1) []/\(∀ k,S k->w3.heap.size<=k)/\Below w3.heap.size w3 w' from newside_any 1 1 w1.heap.size w3.heap.size vc va bs w3 hks (by decide) (by decide) (auds_good 1 (by decide)) (fun i j h hj=>open_apart i j h (by omega)) (HT.out.old hB3))
 have HK3:=Lib.hid (And.intro hks hB3)
 clear hks hb3 hB3 HB1
 go_wp2_with fail
 refine hcall.out.mono ?_
 rintro e w4 ⟨pa,Sa,rfl,hsa,hSa,hb4⟩
 have hcall:=Lib.hid (show Calls Tryz.prog 25 #[.slice va 1 vc,.int .i64 1] w4 fun e w'=>∃ p S,e=.returned (.pointer (some ⟨p,0,none⟩))/\SrvA w' S p 1 (audsN 1) []/\(∀ k,S k->w4.heap.size<=k)/\Below w4.heap.size w4 w' from newside_any 1 1 w1.heap.size w3.heap.size vc va bs w4 (HK3.out.1.old hb4) (by decide) (by decide) (auds_good 1 (by decide)) (fun i j h hj=>open_apart i j h (by omega)) (HT.out.old (HK3.out.2.trans (hb4.mono HK3.out.2.size))))
 have H4:=Lib.hid (And.intro hsa (And.intro hSa hb4))
 clear hsa hSa hb4
 go_wp2_with fail
 refine hcall.out.mono ?_
 rintro e w5 ⟨pb,Sb,rfl,hsb,hSb,hb5⟩
 have h2:=two_made (HT.out.old HK3.out.2) H4.out.1 H4.out.2.1 H4.out.2.2 hsb hSb hb5
 have hbn:Below w5.heap.size w5 (w5.alloc (.cells #[.string ⟨#[97,108,105,99,101]⟩,.string ⟨#[98,111,98]⟩,.string ⟨#[101,118,101]⟩] 9)):=(Below.refl _ _).alloc (Nat.le_refl _) _
 have hrn:(w5.alloc (.cells #[.string ⟨#[97,108,105,99,101]⟩,.string ⟨#[98,111,98]⟩,.string ⟨#[101,118,101]⟩] 9)).heap[w5.heap.size]?=some (.cells #[.string ⟨#[97,108,105,99,101]⟩,.string ⟨#[98,111,98]⟩,.string ⟨#[101,118,101]⟩] 9 (0,0)):=heap_alloc_new _ _
 have h3:=h2.guard hbn (Q:=fun k=>k=w5.heap.size) (fun k hk=>by subst hk;exact ⟨Nat.le_refl _,lt_of_heap hrn⟩)
 have H5:=Lib.hid (And.intro h3 hrn)
 clear h2 h3 hbn hrn hsb hSb hb5 H4
 go_wp2_with fail
 generalize (w5.alloc (.cells #[.string ⟨#[97,108,105,99,101]⟩,.string ⟨#[98,111,98]⟩,.string ⟨#[101,118,101]⟩] 9))=W6 at H5 |-
 generalize w5.heap.size=Nb at H5 |-
 go_loopw [11] (fun i W=>∃ k:Nat,i=.int .i64 k/\k<=3/\Lk w w3 W Nb pa pb (usAt (codeAt ll) k) (usAt (codeAt rl) k)) (fun i _=>3 - (intOf i).toNat)
 case atStart=>exact ⟨0,rfl,Nat.zero_le _,HK3.out.2,H5.out.1.old (Below.refl _ _),H5.out.2⟩
 case round=>
  obtain ⟨k,rfl,hk,hlk⟩:=hrel
  have H2:=Lib.hid hlk
  clear hlk
  by_cases hlt:k<3
  · have hlt':(k:Int)<3:=by omega
    by_cases hcl:codeAt ll k=0
    · by_cases hcr:codeAt rl k=0
      · skip
        rcases no_put H2.out HL.out hcl with ⟨sb,so,x,rfl,h1,h2,hand,hxc⟩ | ⟨h1,h2⟩ <;> rcases no_put H2.out HR.out hcr with ⟨tb,tf,y,rfl,g1,g2,handr,hyc⟩ | ⟨g1,g2⟩
        all_goals
         as_aux_lemma=>
          go_wp2_with fail
          go_quiet (fail)
          go_wp2_with fail
          go_quiet (fail)
          go_wp2
          go_roundw
          case rel=>exact ⟨k+1,by go_num,by omega,by rw [usAt_none hcl,usAt_none hcr];exact H2.out.old (below_drewN _ _)⟩
          case measure=>simp [intOf];omega
      · skip
        rcases no_put H2.out HL.out hcl with ⟨tb,tf,y,rfl,g1,g2,handr,hyc⟩ | ⟨g1,g2⟩
        all_goals
         as_aux_lemma=>
          go_wp2_with fail
          go_quiet (fail)
          obtain ⟨US,hUS⟩:∃ US,US=usAt (codeAt ll) (k+1):=⟨_,rfl⟩
          have H4:=Lib.hid (H2.out.old (below_drewN wr nq)).swap
          rw [<-usAt_none hcl,<-hUS] at H4
          have HUS:=Lib.hid hUS
          generalize wr.drewN nq=W4 at H4 |-
          clear hUS
          obtain ⟨sb,so,x,b,m,Pre,Post,rfl,hkl,hand,hand2,hb1,hx,v1,v2,v3,hcat,hxc,hcp,hS1,q0,hpre0,hpa,hpad,hst0,hst1,hpl⟩:=put_pack H4.out HR.out hcr hlt (Nat.le_trans (usAt_few _ _) (by omega)) (usAt_new _ k hlt)
          have hpl2:=Lib.hid (fun A (h:Post A)=>(show Lk w w3 A Nb pb pa (usAt (codeAt rl) (k+1)) US from by rw [usAt_some hcr];exact hpl.out A h))
          have zn:=nm_cell H4.out.row k hlt
          clear hpl
          generalize seedK (codeAt rl k)=cd at hcat q0
          go_wp2_with fail
          refine tn_region (fun A=>A.cell? ⟨sb,so+k,none⟩=some (.int .u8 (x:Int))/\A.cell? ⟨Nb,k,none⟩=some (.string ⟨(nmL k).toArray⟩)) 1000 (hcp.out _ hpre0) (fun hHeld=>?_)
          iterate 25
           (refine tn_on (v:=?_) rfl (fun w hS=>?_) (by assumption) ?_;rotate_left;· (try dsimp only at hS);go_simp;with_reducible rfl)
           simp only [gP,gA,gB,gC,gD,gE,gF]
          refine tn_one rfl (fun K hK=>?_)
          go_simp
          refine hK.out _ _ (hcp.out _ (by first | exact hpad.out _ | exact hpa.out _ _ hpre0)) (fun hHeld=>?_)
          clear hK K
          try simp only [gP,gA,gB,gC,gD,gE,gF]
          refine tn_one rfl (fun K hK=>?_)
          go_simp
          refine hK.out _ _ (hcp.out _ (by first | exact hpad.out _ | exact hpa.out _ _ hpre0)) (fun hHeld=>?_)
          clear hK K
          try simp only [gP,gA,gB,gC,gD,gE,gF]
          iterate 1
           (refine tn_on (v:=?_) rfl (fun w hS=>?_) (by assumption) ?_;rotate_left;· (try dsimp only at hS);go_simp;with_reducible rfl)
           simp only [gP,gA,gB,gC,gD,gE,gF]
          refine tn_one rfl (fun K hK=>?_)
          go_simp
          refine (q0.out _ (by first | exact hpad.out _ | exact hpa.out _ _ hpre0)).mono ?_
          rintro e wA ⟨rfl,hpost⟩
          try go_simp
          refine hK.out _ _ (hS1.out _ hpost) (fun hHeld=>?_)
          clear hK K
          try simp only [gP,gA,gB,gC,gD,gE,gF]
          iterate 2
           (refine tn_on (v:=?_) rfl (fun w hS=>?_) (by assumption) ?_;rotate_left;· (try dsimp only at hS);go_simp;with_reducible rfl)
           simp only [gP,gA,gB,gC,gD,gE,gF]
          refine tn_done ?_ (by kernel_rfl) _
          have H3:=Lib.hid (hpl2.out _ hpost)
          clear hkl hand hand2 hb1 hx v1 v2 v3 hcat hxc hcp hS1 q0 hpre0 hpa hpad hst0 hst1 hpl2 zn hpost
          rw [HUS.out] at H3
          go_wp2
          go_roundw
          case rel=>exact ⟨k+1,by go_num,by omega,H3.out.swap⟩
          case measure=>simp [intOf];omega
    · by_cases hcr:codeAt rl k=0
      · skip
        as_aux_lemma=>
         obtain ⟨sb,so,x,b,m,Pre,Post,rfl,hkl,hand,hand2,hb1,hx,v1,v2,v3,hcat,hxc,hcp,hS1,q0,hpre0,hpa,hpad,hst0,hst1,hpl⟩:=put_pack H2.out HL.out hcl hlt (Nat.le_trans (usAt_few _ _) (by omega)) (usAt_new _ k hlt)
         have hpl2:=Lib.hid (fun A (h:Post A)=>(show Lk w w3 A Nb pa pb (usAt (codeAt ll) (k+1)) (usAt (codeAt rl) k) from by rw [usAt_some hcl];exact hpl.out A h))
         have zn:=nm_cell H2.out.row k hlt
         clear hpl
         generalize seedK (codeAt ll k)=cd at hcat q0
         go_wp2_with fail
         refine tn_region (fun A=>A.cell? ⟨sb,so+k,none⟩=some (.int .u8 (x:Int))/\A.cell? ⟨Nb,k,none⟩=some (.string ⟨(nmL k).toArray⟩)) 1000 (hcp.out _ hpre0) (fun hHeld=>?_)
         iterate 25
          (refine tn_on (v:=?_) rfl (fun w hS=>?_) (by assumption) ?_;rotate_left;· (try dsimp only at hS);go_simp;with_reducible rfl)
          simp only [gP,gA,gB,gC,gD,gE,gF]
         refine tn_one rfl (fun K hK=>?_)
         go_simp
         refine hK.out _ _ (hcp.out _ (by first | exact hpad.out _ | exact hpa.out _ _ hpre0)) (fun hHeld=>?_)
         clear hK K
         try simp only [gP,gA,gB,gC,gD,gE,gF]
         refine tn_one rfl (fun K hK=>?_)
         go_simp
         refine hK.out _ _ (hcp.out _ (by first | exact hpad.out _ | exact hpa.out _ _ hpre0)) (fun hHeld=>?_)
         clear hK K
         try simp only [gP,gA,gB,gC,gD,gE,gF]
         iterate 1
          (refine tn_on (v:=?_) rfl (fun w hS=>?_) (by assumption) ?_;rotate_left;· (try dsimp only at hS);go_simp;with_reducible rfl)
          simp only [gP,gA,gB,gC,gD,gE,gF]
         refine tn_one rfl (fun K hK=>?_)
         go_simp
         refine (q0.out _ (by first | exact hpad.out _ | exact hpa.out _ _ hpre0)).mono ?_
         rintro e wA ⟨rfl,hpost⟩
         try go_simp
         refine hK.out _ _ (hS1.out _ hpost) (fun hHeld=>?_)
         clear hK K
         try simp only [gP,gA,gB,gC,gD,gE,gF]
         iterate 2
          (refine tn_on (v:=?_) rfl (fun w hS=>?_) (by assumption) ?_;rotate_left;· (try dsimp only at hS);go_simp;with_reducible rfl)
          simp only [gP,gA,gB,gC,gD,gE,gF]
         refine tn_done ?_ (by kernel_rfl) _
         have H3:=Lib.hid (hpl2.out _ hpost)
         clear hkl hand hand2 hb1 hx v1 v2 v3 hcat hxc hcp hS1 q0 hpre0 hpa hpad hst0 hst1 hpl2 zn hpost
         rcases no_put H3.out HR.out hcr with ⟨tb,tf,y,rfl,g1,g2,handr,hyc⟩ | ⟨g1,g2⟩
         all_goals
          go_wp2_with fail
          go_quiet (fail)
          go_wp2
          go_roundw
          case rel=>exact ⟨k+1,by go_num,by omega,by rw [usAt_none hcr];exact H3.out.old (below_drewN _ _)⟩
          case measure=>simp [intOf];omega
      · skip
        as_aux_lemma=>
         obtain ⟨sb,so,x,b,m,Pre,Post,rfl,hkl,hand,hand2,hb1,hx,v1,v2,v3,hcat,hxc,hcp,hS1,q0,hpre0,hpa,hpad,hst0,hst1,hpl⟩:=put_pack H2.out HL.out hcl hlt (Nat.le_trans (usAt_few _ _) (by omega)) (usAt_new _ k hlt)
         have hpl2:=Lib.hid (fun A (h:Post A)=>(show Lk w w3 A Nb pa pb (usAt (codeAt ll) (k+1)) (usAt (codeAt rl) k) from by rw [usAt_some hcl];exact hpl.out A h))
         have zn:=nm_cell H2.out.row k hlt
         clear hpl
         generalize seedK (codeAt ll k)=cd at hcat q0
         go_wp2_with fail
         refine tn_region (fun A=>A.cell? ⟨sb,so+k,none⟩=some (.int .u8 (x:Int))/\A.cell? ⟨Nb,k,none⟩=some (.string ⟨(nmL k).toArray⟩)) 1000 (hcp.out _ hpre0) (fun hHeld=>?_)
         iterate 25
          (refine tn_on (v:=?_) rfl (fun w hS=>?_) (by assumption) ?_;rotate_left;· (try dsimp only at hS);go_simp;with_reducible rfl)
          simp only [gP,gA,gB,gC,gD,gE,gF]
         refine tn_one rfl (fun K hK=>?_)
         go_simp
         refine hK.out _ _ (hcp.out _ (by first | exact hpad.out _ | exact hpa.out _ _ hpre0)) (fun hHeld=>?_)
         clear hK K
         try simp only [gP,gA,gB,gC,gD,gE,gF]
         refine tn_one rfl (fun K hK=>?_)
         go_simp
         refine hK.out _ _ (hcp.out _ (by first | exact hpad.out _ | exact hpa.out _ _ hpre0)) (fun hHeld=>?_)
         clear hK K
         try simp only [gP,gA,gB,gC,gD,gE,gF]
         iterate 1
          (refine tn_on (v:=?_) rfl (fun w hS=>?_) (by assumption) ?_;rotate_left;· (try dsimp only at hS);go_simp;with_reducible rfl)
          simp only [gP,gA,gB,gC,gD,gE,gF]
         refine tn_one rfl (fun K hK=>?_)
         go_simp
         refine (q0.out _ (by first | exact hpad.out _ | exact hpa.out _ _ hpre0)).mono ?_
         rintro e wA ⟨rfl,hpost⟩
         try go_simp
         refine hK.out _ _ (hS1.out _ hpost) (fun hHeld=>?_)
         clear hK K
         try simp only [gP,gA,gB,gC,gD,gE,gF]
         iterate 2
          (refine tn_on (v:=?_) rfl (fun w hS=>?_) (by assumption) ?_;rotate_left;· (try dsimp only at hS);go_simp;with_reducible rfl)
          simp only [gP,gA,gB,gC,gD,gE,gF]
         refine tn_done ?_ (by kernel_rfl) _
         have H3:=Lib.hid (hpl2.out _ hpost)
         clear hkl hand hand2 hb1 hx v1 v2 v3 hcat hxc hcp hS1 q0 hpre0 hpa hpad hst0 hst1 hpl2 zn hpost
         obtain ⟨US,hUS⟩:∃ US,US=usAt (codeAt ll) (k+1):=⟨_,rfl⟩
         have H4:=Lib.hid H3.out.swap
         rw [<-hUS] at H4
         have HUS:=Lib.hid hUS
         clear hUS
         go_wp2_with fail
         obtain ⟨sb,so,x,b,m,Pre,Post,rfl,hkl,hand,hand2,hb1,hx,v1,v2,v3,hcat,hxc,hcp,hS1,q0,hpre0,hpa,hpad,hst0,hst1,hpl⟩:=put_pack H4.out HR.out hcr hlt (Nat.le_trans (usAt_few _ _) (by omega)) (usAt_new _ k hlt)
         have hpl2:=Lib.hid (fun A (h:Post A)=>(show Lk w w3 A Nb pb pa (usAt (codeAt rl) (k+1)) US from by rw [usAt_some hcr];exact hpl.out A h))
         have zn:=nm_cell H4.out.row k hlt
         clear hpl
         generalize seedK (codeAt rl k)=cd at hcat q0
         go_wp2_with fail
         refine tn_region (fun A=>A.cell? ⟨sb,so+k,none⟩=some (.int .u8 (x:Int))/\A.cell? ⟨Nb,k,none⟩=some (.string ⟨(nmL k).toArray⟩)) 1000 (hcp.out _ hpre0) (fun hHeld=>?_)
         iterate 25
          (refine tn_on (v:=?_) rfl (fun w hS=>?_) (by assumption) ?_;rotate_left;· (try dsimp only at hS);go_simp;with_reducible rfl)
          simp only [gP,gA,gB,gC,gD,gE,gF]
         refine tn_one rfl (fun K hK=>?_)
         go_simp
         refine hK.out _ _ (hcp.out _ (by first | exact hpad.out _ | exact hpa.out _ _ hpre0)) (fun hHeld=>?_)
         clear hK K
         try simp only [gP,gA,gB,gC,gD,gE,gF]
         refine tn_one rfl (fun K hK=>?_)
         go_simp
         refine hK.out _ _ (hcp.out _ (by first | exact hpad.out _ | exact hpa.out _ _ hpre0)) (fun hHeld=>?_)
         clear hK K
         try simp only [gP,gA,gB,gC,gD,gE,gF]
         iterate 1
          (refine tn_on (v:=?_) rfl (fun w hS=>?_) (by assumption) ?_;rotate_left;· (try dsimp only at hS);go_simp;with_reducible rfl)
          simp only [gP,gA,gB,gC,gD,gE,gF]
         refine tn_one rfl (fun K hK=>?_)
         go_simp
         refine (q0.out _ (by first | exact hpad.out _ | exact hpa.out _ _ hpre0)).mono ?_
         rintro e wA ⟨rfl,hpost⟩
         try go_simp
         refine hK.out _ _ (hS1.out _ hpost) (fun hHeld=>?_)
         clear hK K
         try simp only [gP,gA,gB,gC,gD,gE,gF]
         iterate 2
          (refine tn_on (v:=?_) rfl (fun w hS=>?_) (by assumption) ?_;rotate_left;· (try dsimp only at hS);go_simp;with_reducible rfl)
          simp only [gP,gA,gB,gC,gD,gE,gF]
         refine tn_done ?_ (by kernel_rfl) _
         have H3:=Lib.hid (hpl2.out _ hpost)
         clear hkl hand hand2 hb1 hx v1 v2 v3 hcat hxc hcp hS1 q0 hpre0 hpa hpad hst0 hst1 hpl2 zn hpost
         rw [HUS.out] at H3
         go_wp2
         go_roundw
         case rel=>exact ⟨k+1,by go_num,by omega,H3.out.swap⟩
         case measure=>simp [intOf];omega
  · have hk3:¬ (k:Int)<3:=by omega
    have hlk:=H2.out
    rw [show k=3 from by omega,usAt_all,usAt_all] at hlk
    obtain ⟨ua,hua⟩:∃ u,u=usL (codeAt ll 0) (codeAt ll 1) (codeAt ll 2):=⟨_,rfl⟩
    obtain ⟨ub,hub⟩:∃ u,u=usL (codeAt rl 0) (codeAt rl 1) (codeAt rl 2):=⟨_,rfl⟩
    rw [<-hua,<-hub] at hlk
    have hfa:ua.length<=3:=by rw [hua,<-usAt_all];exact usAt_few _ 3
    have hfb:ub.length<=3:=by rw [hub,<-usAt_all];exact usAt_few _ 3
    have hcall:=Lib.hid (show Calls Tryz.prog 27 #[.pointer (some ⟨pa,0,none⟩)] wr fun e w'=>∃ v na nc,e=.returned (.tuple #[.agg #[.int .u64 1,.string ⟨(dig0 1 (audsN 1)).toArray⟩,.int .i64 1,.int .i64 1,.slice na 2 nc],v,.int .i64 0])/\MidA w3 (fun j=>False\/j=Nb) w' pa pb 1 1 ua ub na nc/\(∀ k,(fun j=>False\/j=Nb) k->w'.heap[k]?=wr.heap[k]?)/\2<=nc from puba_room w3 _ pa pb 1 1 2 ua ub wr hlk.two hfa (by decide) (by decide) rfl)
    have HRow:=Lib.hid (And.intro hlk.row hlk.b3)
    have HU:=Lib.hid (And.intro hua (And.intro hub hfb))
    clear hlk hua hub hfa hfb H2
    go_wp2_with fail
    refine hcall.out.mono ?_
    rintro e w7 ⟨pv,na,nc,rfl,hmid,hpr,hnc⟩
    have hbg:Below w7.heap.size w7 (w7.alloc (.cells #[.int .u64 1,.string ⟨(dig0 1 (audsN 1)).toArray⟩,.int .i64 1,.int .i64 1,.slice na 2 nc] 69)):=(Below.refl _ _).alloc (Nat.le_refl _) _
    have hrg:(w7.alloc (.cells #[.int .u64 1,.string ⟨(dig0 1 (audsN 1)).toArray⟩,.int .i64 1,.int .i64 1,.slice na 2 nc] 69)).heap[w7.heap.size]?=some (.cells #[.int .u64 1,.string ⟨(dig0 1 (audsN 1)).toArray⟩,.int .i64 1,.int .i64 1,.slice na 2 nc] 69 (0,0)):=heap_alloc_new _ _
    have hrn:nmRow (w7.alloc (.cells #[.int .u64 1,.string ⟨(dig0 1 (audsN 1)).toArray⟩,.int .i64 1,.int .i64 1,.slice na 2 nc] 69)) Nb:=by
     have h:=(hpr Nb (.inr rfl)).trans HRow.out.1
     exact (hbg.block _ (lt_of_heap h)).trans h
    have hmid:=hmid.guard hbg (Q:=fun k=>k=w7.heap.size) (fun k hk=>by subst hk;exact ⟨Nat.le_refl _,lt_of_heap hrg⟩)
    have hcall2:=Lib.hid (show Calls Tryz.prog 27 #[.pointer (some ⟨pb,0,none⟩)] (w7.alloc (.cells #[.int .u64 1,.string ⟨(dig0 1 (audsN 1)).toArray⟩,.int .i64 1,.int .i64 1,.slice na 2 nc] 69)) fun e w'=>∃ v nb ne,e=.returned (.tuple #[.agg #[.int .u64 1,.string ⟨(dig0 1 (audsN 1)).toArray⟩,.int .i64 1,.int .i64 1,.slice nb 2 ne],v,.int .i64 0])/\TwoB w3 w' pa pb 1 1 ua ub na nc nb ne/\(∀ k,(fun k=>(fun j=>False\/j=Nb) k\/k=w7.heap.size) k->w'.heap[k]?=(w7.alloc (.cells #[.int .u64 1,.string ⟨(dig0 1 (audsN 1)).toArray⟩,.int .i64 1,.int .i64 1,.slice na 2 nc] 69)).heap[k]?)/\(w7.alloc (.cells #[.int .u64 1,.string ⟨(dig0 1 (audsN 1)).toArray⟩,.int .i64 1,.int .i64 1,.slice na 2 nc] 69)).heap.size<=w'.heap.size from pubb_any w3 _ pa pb 1 1 2 ua ub na nc _ hmid HU.out.2.2 (by decide) (by decide) rfl)
    have HG:=Lib.hid (And.intro hrg hrn)
    have HNC:=Lib.hid hnc
    clear hmid hbg hrg hrn hpr hnc hcall
    go_wp2_with fail
    generalize (w7.alloc (.cells #[.int .u64 1,.string ⟨(dig0 1 (audsN 1)).toArray⟩,.int .i64 1,.int .i64 1,.slice na 2 nc] 69))=W8 at HG hcall2 |-
    generalize w7.heap.size=Gb at HG hcall2 |-
    refine hcall2.out.mono ?_
    rintro e w9 ⟨pv2,nb,ne,rfl,h2,hpr,_⟩
    have hrg:=(hpr Gb (.inr rfl)).trans HG.out.1
    have hrn:nmRow w9 Nb:=(hpr Nb (.inl (.inr rfl))).trans HG.out.2
    have hbh:Below w9.heap.size w9 (w9.alloc (.cells #[.int .u64 1,.string ⟨(dig0 1 (audsN 1)).toArray⟩,.int .i64 1,.int .i64 1,.slice nb 2 ne] 69)):=(Below.refl _ _).alloc (Nat.le_refl _) _
    obtain ⟨q,hq,hq3⟩:∃ q:Nat,(lb:Int).tmod 3=(q:Int)/\q<3:=⟨lb%3,by rw [Int.tmod_eq_emod_of_nonneg (by omega)];omega,Nat.mod_lt _ (by omega)⟩
    have hrn2:nmRow (w9.alloc (.cells #[.int .u64 1,.string ⟨(dig0 1 (audsN 1)).toArray⟩,.int .i64 1,.int .i64 1,.slice nb 2 ne] 69)) Nb:=(hbh.block _ (lt_of_heap hrn)).trans hrn
    have zn:=nm_cell hrn2 q hq3
    have hq3':(q:Int)<3:=by omega
    have h3:=h2.old hbh
    have hrg:=(hbh.block _ (lt_of_heap hrg)).trans hrg
    have H10:=Lib.hid (And.intro h3 hrg)
    obtain ⟨Sa,Sb,hsa,hsb,hca,hcb⟩:=h3.2.2
    have hcall3:=Lib.hid (show Calls Tryz.prog 33 #[.pointer (some ⟨pa,0,none⟩),.string ⟨(nmL q).toArray⟩] (w9.alloc (.cells #[.int .u64 1,.string ⟨(dig0 1 (audsN 1)).toArray⟩,.int .i64 1,.int .i64 1,.slice nb 2 ne] 69)) fun e w'=>∃ xa xn xc xpa xpn xpc xt xk xv,e=.returned (.tuple #[.agg #[.string ⟨(nmL q).toArray⟩,.slice xa xn xc,.slice xpa xpn xpc,.bool xt,.string xk,.string xv],.int .i64 0])/\Ans w' (codeAt ll) q xa xn xc xpa xpn xpc xt xk xv/\Below (w9.alloc (.cells #[.int .u64 1,.string ⟨(dig0 1 (audsN 1)).toArray⟩,.int .i64 1,.int .i64 1,.slice nb 2 ne] 69)).heap.size (w9.alloc (.cells #[.int .u64 1,.string ⟨(dig0 1 (audsN 1)).toArray⟩,.int .i64 1,.int .i64 1,.slice nb 2 ne] 69)) w' from look_any (codeAt ll) q pa Sa _ hq3 (by rw [<-HU.out.1];exact hsa) h3.kons.kon)
    clear hrg hrn hbh hrn2 h3 h2 hpr hcall2 hsa hsb hca hcb
    go_wp2_with fail
    generalize (w9.alloc (.cells #[.int .u64 1,.string ⟨(dig0 1 (audsN 1)).toArray⟩,.int .i64 1,.int .i64 1,.slice nb 2 ne] 69))=W10 at H10 hcall3 |-
    clear zn hq
    refine hcall3.out.mono ?_
    rintro e w11 ⟨xa,xn,xc,xpa,xpn,xpc,xt,xk,xv,rfl,hax,hb11⟩
    have hbx:Below w11.heap.size w11 (w11.alloc (.cells #[.string ⟨(nmL q).toArray⟩,.slice xa xn xc,.slice xpa xpn xpc,.bool xt,.string xk,.string xv] 100)):=(Below.refl _ _).alloc (Nat.le_refl _) _
    have hB12:=hb11.trans (hbx.mono hb11.size)
    have hrx:(w11.alloc (.cells #[.string ⟨(nmL q).toArray⟩,.slice xa xn xc,.slice xpa xpn xpc,.bool xt,.string xk,.string xv] 100)).heap[w11.heap.size]?=some (.cells #[.string ⟨(nmL q).toArray⟩,.slice xa xn xc,.slice xpa xpn xpc,.bool xt,.string xk,.string xv] 100 (0,0)):=heap_alloc_new _ _
    have h3:=H10.out.1.old hB12
    obtain ⟨Sa,Sb,hsa,hsb,hca,hcb⟩:=h3.2.2
    have hcall4:=Lib.hid (show Calls Tryz.prog 33 #[.pointer (some ⟨pb,0,none⟩),.string ⟨(nmL q).toArray⟩] (w11.alloc (.cells #[.string ⟨(nmL q).toArray⟩,.slice xa xn xc,.slice xpa xpn xpc,.bool xt,.string xk,.string xv] 100)) fun e w'=>∃ ya yn yc ypa ypn ypc yt yk yv,e=.returned (.tuple #[.agg #[.string ⟨(nmL q).toArray⟩,.slice ya yn yc,.slice ypa ypn ypc,.bool yt,.string yk,.string yv],.int .i64 0])/\Ans w' (codeAt rl) q ya yn yc ypa ypn ypc yt yk yv/\Below (w11.alloc (.cells #[.string ⟨(nmL q).toArray⟩,.slice xa xn xc,.slice xpa xpn xpc,.bool xt,.string xk,.string xv] 100)).heap.size (w11.alloc (.cells #[.string ⟨(nmL q).toArray⟩,.slice xa xn xc,.slice xpa xpn xpc,.bool xt,.string xk,.string xv] 100)) w' from look_any (codeAt rl) q pb Sb _ hq3 (by rw [<-HU.out.2.1];exact hsb) h3.kons.kon)
    have H12:=Lib.hid (And.intro h3 (And.intro ((hB12.block _ (lt_of_heap H10.out.2)).trans H10.out.2) (And.intro hrx (hax.old hbx))))
    clear hbx hB12 hrx h3 hsa hsb hca hcb hax hb11 hcall3 H10
    go_wp2_with fail
    generalize (w11.alloc (.cells #[.string ⟨(nmL q).toArray⟩,.slice xa xn xc,.slice xpa xpn xpc,.bool xt,.string xk,.string xv] 100))=W12 at H12 hcall4 |-
    generalize w11.heap.size=Xb at H12 |-
    refine hcall4.out.mono ?_
    rintro e w13 ⟨ya,yn,yc,ypa,ypn,ypc,yt,yk,yv,rfl,hay,hb13⟩
    have hby:Below w13.heap.size w13 (w13.alloc (.cells #[.string ⟨(nmL q).toArray⟩,.slice ya yn yc,.slice ypa ypn ypc,.bool yt,.string yk,.string yv] 100)):=(Below.refl _ _).alloc (Nat.le_refl _) _
    have hB14:=hb13.trans (hby.mono hb13.size)
    have hry:(w13.alloc (.cells #[.string ⟨(nmL q).toArray⟩,.slice ya yn yc,.slice ypa ypn ypc,.bool yt,.string yk,.string yv] 100)).heap[w13.heap.size]?=some (.cells #[.string ⟨(nmL q).toArray⟩,.slice ya yn yc,.slice ypa ypn ypc,.bool yt,.string yk,.string yv] 100 (0,0)):=heap_alloc_new _ _
    have h3:=H12.out.1.old hB14
    have hcall5:=Lib.hid (show Calls Tryz.prog 34 #[.string ⟨(nmL q).toArray⟩] (w13.alloc (.cells #[.string ⟨(nmL q).toArray⟩,.slice ya yn yc,.slice ypa ypn ypc,.bool yt,.string yk,.string yv] 100)) fun e w'=>e=.returned (.string ⟨(nameOf (nmL q)).toArray⟩)/\Below (w13.alloc (.cells #[.string ⟨(nmL q).toArray⟩,.slice ya yn yc,.slice ypa ypn ypc,.bool yt,.string yk,.string yv] 100)).heap.size (w13.alloc (.cells #[.string ⟨(nmL q).toArray⟩,.slice ya yn yc,.slice ypa ypn ypc,.bool yt,.string yk,.string yv] 100)) w' from ename_any ⟨(nmL q).toArray⟩ _ (by show (nmL q).toArray.size<=1000;rw [List.size_toArray];have:=(nm_size q).2;omega) h3.kons.kon)
    have H14:=Lib.hid (And.intro h3 (And.intro ((hB14.block _ (lt_of_heap H12.out.2.1)).trans H12.out.2.1) (And.intro ((hB14.block _ (lt_of_heap H12.out.2.2.1)).trans H12.out.2.2.1) (And.intro (H12.out.2.2.2.old hB14) (And.intro hry (hay.old hby))))))
    clear hby hB14 hry h3 hay hb13 hcall4 H12
    go_wp2_with fail
    generalize (w13.alloc (.cells #[.string ⟨(nmL q).toArray⟩,.slice ya yn yc,.slice ypa ypn ypc,.bool yt,.string yk,.string yv] 100))=W14 at H14 hcall5 |-
    generalize w13.heap.size=Yb at H14 |-
    refine hcall5.out.mono ?_
    rintro e w15 ⟨rfl,hb15⟩
    have hmf:∀ (fn:Fn) (first cap:Array Value) (w:World),(Instr.makeFunc fn first cap).run Tryz.prog w=.ok (.func fn first cap) w:=fun _ _ _ _=>rfl
    have hsf:∀ (w:World) (a:Addr) (f:Fn) (x y:Array Value) (m:Mode),(store a (.func f x y) m).run Tryz.prog w=stored Tryz.prog w a (.func f x y) m:=fun w a f x y m=>run_store Tryz.prog w a _ m rfl
    obtain ⟨hb17,cK,cF⟩:=two_vars w15 (.string ⟨(nameOf (nmL q)).toArray⟩) (.func (.func 35) #[] #[]) 9 106
    obtain ⟨h3,hrg,hrx,hax,hry,hay⟩:=H14.out
    have hB17:=hb15.trans (hb17.mono hb15.size)
    have h3:=h3.old hB17
    have hBw:=HRow.out.2.trans (h3.bel.mono HRow.out.2.size)
    obtain ⟨Pre,b1,b2,V1,V2,hlaw,hpre0,hpd,hcells,qxx,qyy,qyx,qvx,qvy,hbel⟩:=end_pack (codeAt_lt ll) (codeAt_lt rl) hq3 h3.kons.kon cF ((hB17.block _ (lt_of_heap hrg)).trans hrg) cK (keyrow_of_cells (by rw [<-HU.out.1];exact h3.2.2.choose_spec.choose_spec.2.2.1) HNC.out (by show (hs.level _ _).length<=_;rw [level_length];decide)) ((hB17.block _ (lt_of_heap hrx)).trans hrx) (hax.old hB17) ((hB17.block _ (lt_of_heap hry)).trans hry) (hay.old hB17)
    obtain ⟨c0,x0,x1,x2,x3,x4,x5,y0,y1,y2,y3,y4,y5⟩:=hcells.out _ hpre0
    have HBw:=Lib.hid hBw
    have HL:=Lib.hid hlaw
    have HP0:=Lib.hid hpre0
    clear hb17 cK cF h3 hrg hrx hax hry hay hB17 hBw hlaw hb15 hcall5 H14 hpre0
    go_wp2_with fail
    refine (qxx.out _ HP0.out).mono ?_
    rintro e w18 ⟨rfl,hpre1⟩
    have hpreD:=hpd.out _ hpre1
    clear c0 x0 x1 x2 x3 x4 x5 y0 y1 y2 y3 y4 y5 hmf hsf HP0 qxx
    have hend:=Lib.hid (fun A (hA:Pre A)=>HBw.out.trans ((hbel.out A hA).mono HBw.out.size))
    clear hbel
    generalize w15.heap.size+1=F at hcells qyy qyx |-
    rcases HL.out with ⟨rfl,rfl⟩ | ⟨rfl,rfl,rfl⟩ | ⟨rfl,rfl,rfl⟩
    all_goals
     as_aux_lemma=>
      go_wp2_with fail
      refine wp_region_held_drew (S:=fun A=>A.cell? ⟨F,0,none⟩=some (.func (.func 35) #[] #[])/\A.cell? ⟨Xb,0,none⟩=some (.string ⟨(nmL q).toArray⟩)/\A.cell? ⟨Xb,1,none⟩=some (.slice xa xn xc)/\A.cell? ⟨Xb,2,none⟩=some (.slice xpa xpn xpc)/\A.cell? ⟨Xb,3,none⟩=some (.bool xt)/\A.cell? ⟨Xb,4,none⟩=some (.string xk)/\A.cell? ⟨Xb,5,none⟩=some (.string xv)/\A.cell? ⟨Yb,0,none⟩=some (.string ⟨(nmL q).toArray⟩)/\A.cell? ⟨Yb,1,none⟩=some (.slice ya yn yc)/\A.cell? ⟨Yb,2,none⟩=some (.slice ypa ypn ypc)/\A.cell? ⟨Yb,3,none⟩=some (.bool yt)/\A.cell? ⟨Yb,4,none⟩=some (.string yk)/\A.cell? ⟨Yb,5,none⟩=some (.string yv)) (by kernel_rfl) (hcells.out _ hpreD) (fun hHeld=>?_)
      (refine tk_on (i:=0) (v:=?_) rfl (fun w hS=>?_) (by assumption) ?_;rotate_left;· (try dsimp only at hS);go_simp;with_reducible rfl)
      simp only [gP,gA,gB,gD,gE,gF]
      (refine tk_on (i:=1) (v:=?_) rfl (fun w hS=>?_) (by assumption) ?_;rotate_left;· (try dsimp only at hS);go_simp;with_reducible rfl)
      simp only [gP,gA,gB,gC,gD,gE,gF]
      (refine tk_on (i:=2) (v:=?_) rfl (fun w hS=>?_) (by assumption) ?_;rotate_left;· (try dsimp only at hS);go_simp;with_reducible rfl)
      simp only [gP,gA,gB,gC,gD,gE,gF]
      (refine tk_on (i:=3) (v:=?_) rfl (fun w hS=>?_) (by assumption) ?_;rotate_left;· (try dsimp only at hS);go_simp;with_reducible rfl)
      simp only [gP,gA,gB,gC,gD,gE,gF]
      refine wpAnyH_ready (rs:=[4]) (by kernel_rfl) (by simp) ?_
      refine AllReadyH.cons rfl (fun K hK=>?_) AllReadyH.nil
      go_simp
      refine (qyy.out _ (by assumption)).mono ?_
      rintro e wA ⟨rfl,hpreA⟩
      try go_simp
      refine hK.out _ _ (hcells.out _ hpreA) (fun hHeld=>?_)
      clear hK K
      try simp only [gP,gA,gB,gC,gD,gE,gF]
      (refine tk_on (i:=5) (v:=?_) rfl (fun w hS=>?_) (by assumption) ?_;rotate_left;· (try dsimp only at hS);go_simp;with_reducible rfl)
      simp only [gP,gA,gB,gC,gD,gE,gF]
      (refine tk_on (i:=6) (v:=?_) rfl (fun w hS=>?_) (by assumption) ?_;rotate_left;· (try dsimp only at hS);go_simp;with_reducible rfl)
      simp only [gP,gA,gB,gC,gD,gE,gF]
      first
       | refine tk_off (i:=7) rfl (by rfl) (by assumption) ?_
       | (refine tk_on (i:=7) (v:=?_) rfl (fun w hS=>?_) (by assumption) ?_;rotate_left;· (try dsimp only at hS);go_simp;with_reducible rfl)
      simp only [gP,gA,gB,gC,gD,gE,gF]
      first
       | refine tk_off (i:=8) rfl (by rfl) (by assumption) ?_
       | (refine tk_on (i:=8) (v:=?_) rfl (fun w hS=>?_) (by assumption) ?_;rotate_left;· (try dsimp only at hS);go_simp;with_reducible rfl)
      simp only [gP,gA,gB,gC,gD,gE,gF]
      first
       | refine tk_off (i:=10) rfl (by rfl) (by assumption) ?_
       | (refine tk_on (i:=10) (v:=?_) rfl (fun w hS=>?_) (by assumption) ?_;rotate_left;· (try dsimp only at hS);go_simp;with_reducible rfl)
      simp only [gP,gA,gB,gC,gD,gE,gF]
      first
       | refine tk_off (i:=11) rfl (by rfl) (by assumption) ?_
       | (refine tk_on (i:=11) (v:=?_) rfl (fun w hS=>?_) (by assumption) ?_;rotate_left;· (try dsimp only at hS);go_simp;with_reducible rfl)
      simp only [gP,gA,gB,gC,gD,gE,gF]
      first
       | (refine tk_off (i:=9) rfl (by rfl) (by assumption) ?_;simp only [gP,gA,gB,gC,gD,gE,gF])
       | (refine wpAnyH_ready (rs:=[9]) (by kernel_rfl) (by simp) ?_;refine AllReadyH.cons rfl (fun K hK=>?_) AllReadyH.nil;go_simp;refine (qvx.out _ (by assumption)).mono ?_;rintro e wA ⟨rfl,hpreA⟩;try go_simp;refine hK.out _ _ (hcells.out _ hpreA) (fun hHeld=>?_);clear hK K;try simp only [gP,gA,gB,gC,gD,gE,gF])
      first
       | (refine tk_off (i:=12) rfl (by rfl) (by assumption) ?_;simp only [gP,gA,gB,gC,gD,gE,gF])
       | (refine wpAnyH_ready (rs:=[12]) (by kernel_rfl) (by simp) ?_;refine AllReadyH.cons rfl (fun K hK=>?_) AllReadyH.nil;go_simp;refine (qvy.out _ (by assumption)).mono ?_;rintro e wA ⟨rfl,hpreA⟩;try go_simp;refine hK.out _ _ (hcells.out _ hpreA) (fun hHeld=>?_);clear hK K;try simp only [gP,gA,gB,gC,gD,gE,gF])
      first
       | refine tk_off (i:=13) rfl (by rfl) (by assumption) ?_
       | (refine tk_on (i:=13) (v:=?_) rfl (fun w hS=>?_) (by assumption) ?_;rotate_left;· (try dsimp only at hS);go_simp;with_reducible rfl)
      simp only [gP,gA,gB,gC,gD,gE,gF]
      (refine tk_on (i:=14) (v:=?_) rfl (fun w hS=>?_) (by assumption) ?_;rotate_left;· (try dsimp only at hS);go_simp;with_reducible rfl)
      simp only [gP,gA,gB,gC,gD,gE,gF]
      (refine tk_on (i:=15) (v:=?_) rfl (fun w hS=>?_) (by assumption) ?_;rotate_left;· (try dsimp only at hS);go_simp;with_reducible rfl)
      simp only [gP,gA,gB,gC,gD,gE,gF]
      (refine tk_on (i:=16) (v:=?_) rfl (fun w hS=>?_) (by assumption) ?_;rotate_left;· (try dsimp only at hS);go_simp;with_reducible rfl)
      simp only [gP,gA,gB,gC,gD,gE,gF]
      (refine tk_on (i:=17) (v:=?_) rfl (fun w hS=>?_) (by assumption) ?_;rotate_left;· (try dsimp only at hS);go_simp;with_reducible rfl)
      simp only [gP,gA,gB,gC,gD,gE,gF]
      (refine tk_on (i:=18) (v:=?_) rfl (fun w hS=>?_) (by assumption) ?_;rotate_left;· (try dsimp only at hS);go_simp;with_reducible rfl)
      simp only [gP,gA,gB,gC,gD,gE,gF]
      (refine tk_on (i:=19) (v:=?_) rfl (fun w hS=>?_) (by assumption) ?_;rotate_left;· (try dsimp only at hS);go_simp;with_reducible rfl)
      simp only [gP,gA,gB,gC,gD,gE,gF]
      refine wpAnyH_ready (rs:=[20]) (by kernel_rfl) (by simp) ?_
      refine AllReadyH.cons rfl (fun K hK=>?_) AllReadyH.nil
      go_simp
      refine (qyx.out _ (by assumption)).mono ?_
      rintro e wA ⟨rfl,hpreA⟩
      try go_simp
      refine hK.out _ _ (hcells.out _ hpreA) (fun hHeld=>?_)
      clear hK K
      try simp only [gP,gA,gB,gC,gD,gE,gF]
      (refine tk_on (i:=21) (v:=?_) rfl (fun w hS=>?_) (by assumption) ?_;rotate_left;· (try dsimp only at hS);go_simp;with_reducible rfl)
      simp only [gP,gA,gB,gC,gD,gE,gF]
      (refine tk_on (i:=22) (v:=?_) rfl (fun w hS=>?_) (by assumption) ?_;rotate_left;· (try dsimp only at hS);go_simp;with_reducible rfl)
      simp only [gP,gA,gB,gC,gD,gE,gF]
      first
       | refine tk_off (i:=23) rfl (by rfl) (by assumption) ?_
       | (refine tk_on (i:=23) (v:=?_) rfl (fun w hS=>?_) (by assumption) ?_;rotate_left;· (try dsimp only at hS);go_simp;with_reducible rfl)
      simp only [gP,gA,gB,gC,gD,gE,gF]
      first
       | refine tk_off (i:=24) rfl (by rfl) (by assumption) ?_
       | (refine tk_on (i:=24) (v:=?_) rfl (fun w hS=>?_) (by assumption) ?_;rotate_left;· (try dsimp only at hS);go_simp;with_reducible rfl)
      simp only [gP,gA,gB,gC,gD,gE,gF]
      first
       | refine tk_off (i:=26) rfl (by rfl) (by assumption) ?_
       | (refine tk_on (i:=26) (v:=?_) rfl (fun w hS=>?_) (by assumption) ?_;rotate_left;· (try dsimp only at hS);go_simp;with_reducible rfl)
      simp only [gP,gA,gB,gC,gD,gE,gF]
      first
       | refine tk_off (i:=27) rfl (by rfl) (by assumption) ?_
       | (refine tk_on (i:=27) (v:=?_) rfl (fun w hS=>?_) (by assumption) ?_;rotate_left;· (try dsimp only at hS);go_simp;with_reducible rfl)
      simp only [gP,gA,gB,gC,gD,gE,gF]
      first
       | (refine tk_off (i:=25) rfl (by rfl) (by assumption) ?_;simp only [gP,gA,gB,gC,gD,gE,gF])
       | (refine wpAnyH_ready (rs:=[25]) (by kernel_rfl) (by simp) ?_;refine AllReadyH.cons rfl (fun K hK=>?_) AllReadyH.nil;go_simp;refine (qvx.out _ (by assumption)).mono ?_;rintro e wA ⟨rfl,hpreA⟩;try go_simp;refine hK.out _ _ (hcells.out _ hpreA) (fun hHeld=>?_);clear hK K;try simp only [gP,gA,gB,gC,gD,gE,gF])
      first
       | (refine tk_off (i:=28) rfl (by rfl) (by assumption) ?_;simp only [gP,gA,gB,gC,gD,gE,gF])
       | (refine wpAnyH_ready (rs:=[28]) (by kernel_rfl) (by simp) ?_;refine AllReadyH.cons rfl (fun K hK=>?_) AllReadyH.nil;go_simp;refine (qvy.out _ (by assumption)).mono ?_;rintro e wA ⟨rfl,hpreA⟩;try go_simp;refine hK.out _ _ (hcells.out _ hpreA) (fun hHeld=>?_);clear hK K;try simp only [gP,gA,gB,gC,gD,gE,gF])
      first
       | refine tk_off (i:=29) rfl (by rfl) (by assumption) ?_
       | (refine tk_on (i:=29) (v:=?_) rfl (fun w hS=>?_) (by assumption) ?_;rotate_left;· (try dsimp only at hS);go_simp;with_reducible rfl)
      simp only [gP,gA,gB,gC,gD,gE,gF]
      (refine tk_on (i:=30) (v:=?_) rfl (fun w hS=>?_) (by assumption) ?_;rotate_left;· (try dsimp only at hS);go_simp;with_reducible rfl)
      simp only [gP,gA,gB,gC,gD,gE,gF]
      (refine tk_on (i:=31) (v:=?_) rfl (fun w hS=>?_) (by assumption) ?_;rotate_left;· (try dsimp only at hS);go_simp;with_reducible rfl)
      simp only [gP,gA,gB,gC,gD,gE,gF]
      (refine tk_on (i:=32) (v:=?_) rfl (fun w hS=>?_) (by assumption) ?_;rotate_left;· (try dsimp only at hS);go_simp;with_reducible rfl)
      simp only [gP,gA,gB,gC,gD,gE,gF]
      refine wpAnyH_done (by kernel_rfl) ?_ _
      go_wp2
      go_ret
      exact ⟨rfl,hend.out _ hpreA⟩
end Go.Proofs.YtcgkomafaepjnaaGreatDoor
