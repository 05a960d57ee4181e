/- Package wots: a signature of a digest recovers the public key. Conditions: leaves below 256, seeds of at most a thousand bytes; the round's constants hold what their initialiser lays. -/
import Derived.Test.YtcgkomafaepjnaaGreatDoorTL5
import Derived.Deep.RegionHeld3
import Derived.Deep.AppendLies
import Derived.Deep.RegionLaw
set_option maxRecDepth 100000
set_option maxHeartbeats 16000000
namespace Go.Proofs.YtcgkomafaepjnaaGreatDoor
open Go.RowKit
def sigOf (seed:List UInt8) (l:Nat) (ds:List Int) (k:Nat):List (List UInt8):=(List.range k).map fun i=>wk (openOf seed) l i 0 (ds.getD i 0).toNat (secretOf seed l i)
theorem sigOf_succ (seed:List UInt8) (l:Nat) (ds:List Int) (k:Nat):sigOf seed l ds (k+1)=sigOf seed l ds k++[wk (openOf seed) l k 0 (ds.getD k 0).toNat (secretOf seed l k)]:=by simp [sigOf,List.range_succ]
theorem sigOf_length (seed:List UInt8) (l:Nat) (ds:List Int) (k:Nat):(sigOf seed l ds k).length=k:=by simp [sigOf]
theorem sigOf_mem (seed:List UInt8) (l:Nat) (ds:List Int) (k:Nat):∀ x∈sigOf seed l ds k,x.length=16:=by
 intro x hx
 obtain ⟨i,_,rfl⟩:=List.mem_map.1 hx
 exact wk_length _ _ _ _ _ _ (secretOf_length _ _ _)
def recEnds (o:List UInt8) (l:Nat) (ds:List Int) (sig:List (List UInt8)) (k:Nat):List (List UInt8):=(List.range k).map fun i=>wk o l i (ds.getD i 0).toNat (15 - (ds.getD i 0).toNat) (sig.getD i [])
theorem recEnds_succ (o:List UInt8) (l:Nat) (ds:List Int) (sig:List (List UInt8)) (k:Nat):recEnds o l ds sig (k+1)=recEnds o l ds sig k++[wk o l k (ds.getD k 0).toNat (15 - (ds.getD k 0).toNat) (sig.getD k [])]:=by simp [recEnds,List.range_succ]
def recKey (o:List UInt8) (l:Nat) (ds:List Int) (sig:List (List UInt8)):List UInt8:=publicOf o l (recEnds o l ds sig 35)
theorem recEnds_mem (o:List UInt8) (l:Nat) (ds:List Int) (sig:List (List UInt8)) (k:Nat) (hs:∀ x∈sig,x.length=16):∀ x∈recEnds o l ds sig k,x.length<=1000:=by
 intro x hx
 obtain ⟨i,_,rfl⟩:=List.mem_map.1 hx
 have h1:(sig.getD i []).length<=1000:=by
  rw [List.getD_eq_getElem?_getD]
  cases h:sig[i]? with
  | none=>simp
  | some y=>have:=hs y (List.mem_of_getElem? h);simp [this]
 generalize sig.getD i []=y at h1
 generalize 15 - (ds.getD i 0).toNat=n
 cases n with
 | zero=>exact h1
 | succ n=>rw [wk,tagOf_length];decide
theorem rec_sig (seed:List UInt8) (l:Nat) (ds:List Int) (hd:∀ z∈ds,0<=z/\z<=15) (h35:ds.length=35):recKey (openOf seed) l ds (sigOf seed l ds 35)=pubKey seed l:=by
 unfold recKey pubKey
 congr 1
 unfold recEnds pubEnds
 refine List.map_congr_left fun i hi=>?_
 have hi:i<35:=List.mem_range.1 hi
 have h1:(sigOf seed l ds 35).getD i []=wk (openOf seed) l i 0 (ds.getD i 0).toNat (secretOf seed l i):=by
  unfold sigOf
  rw [List.getD_eq_getElem?_getD,List.getElem?_map,List.getElem?_range hi];rfl
 have h2:ds.getD i 0∈ds:=by rw [List.getD_eq_getElem?_getD,List.getElem?_eq_getElem (by omega)];exact List.getElem_mem _
 obtain ⟨h3,h4⟩:=hd _ h2
 rw [h1]
 generalize hd:(ds.getD i 0).toNat=d
 have:d<=15:=by omega
 have h5:=wk_add (openOf seed) l i 0 d (secretOf seed l i) (15 - d)
 rw [Nat.zero_add,show d+(15 - d)=15 from by omega] at h5
 exact h5.symm
theorem own_base {w:World} {b b':Nat} {e:TypeId} {size:Nat} {v:Value} {n:Nat} {xs:List Value} (h:w.ownsRow b' e size v n xs) (hb:b<=b'):w.ownsRow b e size v n xs:=
 ⟨h.1,h.2.imp id fun ⟨g,cap,cur,h1,h2,h3⟩=>⟨g,cap,cur,h1,Nat.le_trans hb h2,h3⟩⟩
theorem wsign_any (seed d:ByteArray) (l:Nat) (w:World) (hs:seed.size<=1000) (hd:d.size=16) (hl:l<256) (hK:Kon w) :
 Calls Tryz.prog 131 #[.string seed,.int .i64 l,.string d] w fun e w'=>∃ v,e=.returned (.tuple #[v,.int .i64 0])/\w'.ownsRow w.heap.size 9 1 v 35 (txs (sigOf seed.data.toList l (digs d.data.toList) 35))/\Below w.heap.size w w':=by
 have HK:=Lib.hid hK
 have hdl:=digs_length d hd
 have hdr:=digs_range d
 have Hof:=Lib.hid (of_yes d w hd)
 generalize digs d.data.toList=ds at hdl hdr Hof |-
 have HR:=Lib.hid hdr
 clear hK hdr
 go_enter Tryz.func131,Tryz.ntmps131
 go_wp2_with fail
 refine Hof.out.mono ?_
 rintro e w1 ⟨vd,rfl,hod,hb1⟩
 have s1:=hb1.size
 have HD:=Lib.hid (cells_of_own hod)
 obtain ⟨ad,cd,rfl⟩:=own_slice hod
 clear hod
 go_wp2_with fail
 refine (open_any seed _ hs (HK.out.old hb1)).mono ?_
 rintro e w2 ⟨rfl,hc2⟩
 have hb2:=hb1.trans (hc2.mono s1)
 have s2:=hb2.size
 replace HD:=Lib.hid (HD.out.old hc2)
 have ho:=openOf_length seed.data.toList
 go_wp2_with fail
 go_loopw [11,26] (fun v i W=>∃ k:Nat,k<=35/\i=.int .i64 k/\W.ownsRow w2.heap.size 9 1 v k (txs (sigOf seed.data.toList l ds k))/\Below w2.heap.size w2 W) (fun _ i _=>35 - (intOf i).toNat)
 case atStart=>exact ⟨0,Nat.zero_le _,rfl,World.ownsRow_nil _ _ _ _,Below.refl _ _⟩
 case round=>
  obtain ⟨k,hk,rfl,hown,hb⟩:=hrel
  have sz:=hb.size
  have Hown:=Lib.hid hown
  obtain ⟨av,cv,rfl⟩:=own_slice hown
  clear hown
  have hKr:=Lib.hid (HK.out.old (hb2.trans (hb.mono s2)))
  by_cases hlt:k<35
  · have Hsucc:=Lib.hid (sigOf_succ seed.data.toList l ds k)
    obtain ⟨b,off,rfl,hbl,hc⟩:=HD.out.int_at k hlt
    have hc:wr.cell? ⟨b,off+k,none⟩=some (.int .i64 (ds.getD k 0)):=(hb.cell (p:=⟨b,off+k,none⟩) hbl).trans hc
    obtain ⟨h0,h15⟩:=HR.out (ds.getD k 0) (by rw [List.getD_eq_getElem?_getD,List.getElem?_eq_getElem (by omega)];exact List.getElem_mem _)
    obtain ⟨z,hz⟩:=Int.eq_ofNat_of_zero_le h0
    rw [hz] at hc h15
    rw [hz,Int.toNat_natCast] at Hsucc
    clear hz h0
    go_wp2_with fail
    refine (secret_any seed l k _ hs hl (by omega) hKr.out).mono ?_
    rintro e w3 ⟨rfl,hc3⟩
    have hw:=walk_any ⟨(openOf seed.data.toList).toArray⟩ ⟨(secretOf seed.data.toList l k).toArray⟩ l k 0 z w3 (by show (openOf seed.data.toList).toArray.size<=1000;simp [ho]) (by show (secretOf seed.data.toList l k).toArray.size=16;simp [secretOf_length]) hl (by omega) (Nat.zero_le _) (by omega) (hKr.out.old hc3)
    have Hw:=Lib.hid hw
    clear hw
    go_wp2_with fail
    refine Hw.out.mono ?_
    rintro e w4 ⟨rfl,hc4⟩
    have hcc:=hc3.trans (hc4.mono hc3.size)
    have hb4:=hb.trans (hcc.mono sz)
    have s4:=hb4.size
    go_wp2_with (at_builtin;refine Hid.out ?_)
    unfold Hid
    have hown4:w4.ownsRow w2.heap.size 9 1 (.slice av k cv) k (txs (sigOf seed.data.toList l ds k)):=(Touch.of_below hcc (fun _=>False)).own Hown.out (fun _ _ h=>h)
    refine wpList_app1 rfl rfl Tryz.underlying31 Tryz.infoStr rfl hown4 rfl rfl rfl (by omega) (by unfold maxLen;omega) s4 ?_
    intro v5 w5 ho5 hg5
    have hb5:Below w2.heap.size w2 w5:=hb4.grown hg5 s4 (fun j hj=>(hown4.lt j hj).1)
    have ho5:w5.ownsRow w2.heap.size 9 1 v5 (k+1) (txs (sigOf seed.data.toList l ds (k+1))):=by
     rw [Hsucc.out,txs_snoc];exact ho5
    obtain ⟨a5,c5,rfl⟩:=own_slice ho5
    clear hown4 hg5
    go_wp2
    go_roundw
    case rel=>exact ⟨k+1,by omega,by go_num,ho5,hb5⟩
    case measure=>simp [intOf];omega
  · have h35:k=35:=by omega
    have hge:¬ (k:Int)<35:=by omega
    have Hown:Hid (wr.ownsRow w2.heap.size 9 1 (.slice av 35 cv) 35 (txs (sigOf seed.data.toList l ds 35))):=Lib.hid (h35 ▸ Hown.out)
    have H35:=Lib.hid h35
    clear h35 hlt
    go_wp2
    go_ret2
    refine ⟨_,rfl,?_,hb2.trans (hb.mono s2)⟩
    have:=own_base Hown.out s2
    rw [<-H35.out] at this |-
    exact this
theorem wright_any (v:Value) (sig:List (List UInt8)) (w:World) (hv:Cells w v (txs sig)) (h35:sig.length=35) (hs:∀ x∈sig,x.length=16) :
 Calls Tryz.prog 190 #[v] w fun e w'=>e=.returned (.bool true)/\w=w':=by
 obtain ⟨a,c,rfl,hcc⟩:=hv
 have hl:(txs sig).length=35:=by rw [txs_length,h35]
 rw [hl] at hcc |-
 have HV:Hid (Cells w (.slice a 35 c) (txs sig)):=Lib.hid ⟨a,c,by rw [hl],by rw [hl];exact hcc⟩
 have HS:=Lib.hid hs
 clear hcc hs
 go_enter Tryz.func190,Tryz.ntmps190
 go_wp2_with fail
 go_loop [7] (fun i=>∃ k:Nat,k<=35/\i=.int .i64 k) (fun i=>35 - (intOf i).toNat)
 case atStart=>exact ⟨0,Nat.zero_le _,rfl⟩
 case round=>
  obtain ⟨k,hk,rfl⟩:=hrel
  by_cases hlt:k<35
  · obtain ⟨b,off,rfl,hbl,hc⟩:=HV.out.tx_at k hlt
    have h16:(sig.getD k []).length=16:=HS.out _ (by rw [List.getD_eq_getElem?_getD,List.getElem?_eq_getElem (by omega)];exact List.getElem_mem _)
    have hz:(ByteArray.mk (sig.getD k []).toArray).size=16:=by show (sig.getD k []).toArray.size=16;simpa using h16
    generalize (ByteArray.mk (sig.getD k []).toArray)=s at hc hz
    clear h16
    go_wp2
    go_round
    case rel=>exact ⟨k+1,by omega,by go_num⟩
    case measure=>simp [intOf];omega
  · have hge:¬ (k:Int)<35:=by omega
    go_wp2
    go_ret
    exact ⟨rfl,rfl⟩
theorem recover_any (o d:ByteArray) (l:Nat) (v:Value) (sig:List (List UInt8)) (w:World) (ho:o.size<=1000) (hd:d.size=16) (hl:l<256) (hv:Cells w v (txs sig)) (h35:sig.length=35) (hs:∀ x∈sig,x.length=16) (hK:Kon w) :
 Calls Tryz.prog 146 #[.string o,.int .i64 l,.string d,v] w fun e w'=>e=.returned (.tuple #[.string ⟨(recKey o.data.toList l (digs d.data.toList) sig).toArray⟩,.int .i64 0])/\Below w.heap.size w w':=by
 have HK:=Lib.hid hK
 have hdl:=digs_length d hd
 have hdr:=digs_range d
 have Hof:=Lib.hid (of_yes d w hd)
 generalize digs d.data.toList=ds at hdl hdr Hof |-
 have HR:=Lib.hid hdr
 have HV:=Lib.hid hv
 have HS:=Lib.hid hs
 obtain ⟨a,c,rfl,_⟩:=hv
 rw [txs_length,h35] at HV |-
 clear hK hdr hs
 go_enter Tryz.func146,Tryz.ntmps146
 go_wp2_with fail
 refine Hof.out.mono ?_
 rintro e w1 ⟨vd,rfl,hod,hb1⟩
 have s1:=hb1.size
 have HD:=Lib.hid (cells_of_own hod)
 replace HV:=Lib.hid (HV.out.old hb1)
 obtain ⟨ad,cd,rfl⟩:=own_slice hod
 clear hod
 go_wp2_with fail
 refine (wright_any _ sig _ HV.out h35 HS.out).mono ?_
 rintro e w' ⟨rfl,rfl⟩
 go_wp2_with fail
 go_loopw [12,30] (fun v i W=>∃ k:Nat,k<=35/\i=.int .i64 k/\W.ownsRow w1.heap.size 9 1 v k (txs (recEnds o.data.toList l ds sig k))/\Below w1.heap.size w1 W) (fun _ i _=>35 - (intOf i).toNat)
 case atStart=>exact ⟨0,Nat.zero_le _,rfl,World.ownsRow_nil _ _ _ _,Below.refl _ _⟩
 case round=>
  obtain ⟨k,hk,rfl,hown,hb⟩:=hrel
  have sz:=hb.size
  have Hown:=Lib.hid hown
  obtain ⟨av,cv,rfl⟩:=own_slice hown
  clear hown
  have hKr:=Lib.hid (HK.out.old (hb1.trans (hb.mono s1)))
  by_cases hlt:k<35
  · have Hsucc:=Lib.hid (recEnds_succ o.data.toList l ds sig k)
    obtain ⟨b,off,rfl,hbl,hc⟩:=HD.out.int_at k hlt
    have hc:wr.cell? ⟨b,off+k,none⟩=some (.int .i64 (ds.getD k 0)):=(hb.cell (p:=⟨b,off+k,none⟩) hbl).trans hc
    obtain ⟨b2,off2,rfl,hbl2,hc2⟩:=HV.out.tx_at k hlt
    have hc2:wr.cell? ⟨b2,off2+k,none⟩=some (.string ⟨(sig.getD k []).toArray⟩):=(hb.cell (p:=⟨b2,off2+k,none⟩) hbl2).trans hc2
    have h16:(sig.getD k []).length=16:=HS.out _ (by rw [List.getD_eq_getElem?_getD,List.getElem?_eq_getElem (by omega)];exact List.getElem_mem _)
    obtain ⟨h0,h15⟩:=HR.out (ds.getD k 0) (by rw [List.getD_eq_getElem?_getD,List.getElem?_eq_getElem (by omega)];exact List.getElem_mem _)
    obtain ⟨z,hz⟩:=Int.eq_ofNat_of_zero_le h0
    rw [hz] at hc h15
    rw [hz,Int.toNat_natCast] at Hsucc
    have hw:=walk_any o ⟨(sig.getD k []).toArray⟩ l k z 15 wr ho (by show (sig.getD k []).toArray.size=16;simpa using h16) hl (by omega) (by omega) (by decide) hKr.out
    rw [show (ByteArray.mk (sig.getD k []).toArray).data.toList=sig.getD k [] from by simp] at hw
    have Hw:=Lib.hid hw
    generalize sig.getD k []=y at Hw Hsucc hc2
    clear hw hz h0 h16
    go_wp2_with fail
    refine Hw.out.mono ?_
    rintro e w4 ⟨rfl,hcc⟩
    have hb4:=hb.trans (hcc.mono sz)
    have s4:=hb4.size
    go_wp2_with (at_builtin;refine Hid.out ?_)
    unfold Hid
    have hown4:w4.ownsRow w1.heap.size 9 1 (.slice av k cv) k (txs (recEnds o.data.toList l ds sig k)):=(Touch.of_below hcc (fun _=>False)).own Hown.out (fun _ _ h=>h)
    refine wpList_app1 rfl rfl Tryz.underlying31 Tryz.infoStr rfl hown4 rfl rfl rfl (by omega) (by unfold maxLen;omega) s4 ?_
    intro v5 w5 ho5 hg5
    have hb5:Below w1.heap.size w1 w5:=hb4.grown hg5 s4 (fun j hj=>(hown4.lt j hj).1)
    have ho5:w5.ownsRow w1.heap.size 9 1 v5 (k+1) (txs (recEnds o.data.toList l ds sig (k+1))):=by
     rw [Hsucc.out,txs_snoc];exact ho5
    obtain ⟨a5,c5,rfl⟩:=own_slice ho5
    clear hown4 hg5
    go_wp2
    go_roundw
    case rel=>exact ⟨k+1,by omega,by go_num,ho5,hb5⟩
    case measure=>simp [intOf];omega
  · have h35:k=35:=by omega
    have hge:¬ (k:Int)<35:=by omega
    have hp:=public_any o l (.slice av k cv) (recEnds o.data.toList l ds sig k) wr w1.heap.size ho hl k Hown.out (by simp [recEnds]) (by omega) (recEnds_mem _ _ _ _ _ HS.out) hKr.out
    have Hp:=Lib.hid hp
    have H35:=Lib.hid h35
    clear hp h35 hlt
    go_wp2_with fail
    refine Hp.out.mono ?_
    rintro e w2 ⟨rfl,hb2⟩
    go_wp2
    go_ret2
    exact ⟨by rw [H35.out];rfl,(hb1.trans (hb.mono s1)).trans (hb2.mono (by omega))⟩
def nodeOf (a b:List UInt8):List UInt8:=tagOf 5 [a,b]
theorem mnode_any (a b:ByteArray) (w:World) (ha:a.size<=1000) (hb:b.size<=1000) (hK:Kon w) :
 Calls Tryz.prog 191 #[.string a,.string b] w fun e w'=>e=.returned (.string ⟨(nodeOf a.data.toList b.data.toList).toArray⟩)/\Below w.heap.size w w':=by
 have hT:=Lib.hid (tagged_new 5 [a,b] 2 rfl w (by decide) (by decide) (by rw [tagIn_len];simp;omega) hK)
 clear hK
 go_enter Tryz.func191,Tryz.ntmps191
 go_wp2_with fail
 refine hT.out.mono ?_
 rintro e w' ⟨rfl,hb⟩
 go_wp2
 go_ret
 exact ⟨rfl,hb⟩
theorem mright_one (w:World):Calls Tryz.prog 164 #[.int .i64 1] w fun e w'=>e=.returned (.bool true)/\w=w':=by
 have hb:bits BinOp.and IntKind.i64 1 0=0:=by kernel_rfl
 go_enter Tryz.func164,Tryz.ntmps164
 go_wp2
 go_ret
 exact ⟨rfl,rfl⟩
theorem mroot_one (g o c:Nat) (x:ByteArray) (w:World) (hx:w.cell? ⟨g,o,none⟩=some (.string x)) :
 Calls Tryz.prog 104 #[.slice (some ⟨g,o,none⟩) 1 c] w fun e w'=>e=.returned (.tuple #[.string x,.int .i64 0])/\w=w':=by
 go_enter Tryz.func104,Tryz.ntmps104
 go_wp2_with fail
 refine (mright_one _).mono ?_
 rintro e w' ⟨rfl,rfl⟩
 go_wp2_with fail
 refine wp_loop_rounds 1 ?_
 rw [rounds_succ]
 go_wp2
 go_ret2
 exact ⟨rfl,rfl⟩
theorem mpath_one (a:Option Addr) (c:Nat) (w:World) :
 Calls Tryz.prog 133 #[.slice a 1 c,.int .i64 0] w fun e w'=>e=.returned (.tuple #[.slice none 0 0,.int .i64 0])/\w=w':=by
 go_enter Tryz.func133,Tryz.ntmps133
 go_wp2_with fail
 refine (mright_one _).mono ?_
 rintro e w' ⟨rfl,rfl⟩
 go_wp2_with fail
 refine wp_loop_rounds 1 ?_
 rw [rounds_succ]
 go_wp2
 go_ret2
 exact ⟨rfl,rfl⟩
theorem mclimb_one (x:ByteArray) (w:World) :
 Calls Tryz.prog 147 #[.string x,.int .i64 0,.slice none 0 0] w fun e w'=>e=.returned (.string x)/\w=w':=by
 go_enter Tryz.func147,Tryz.ntmps147
 go_wp2_with fail
 refine wp_loop_rounds 1 ?_
 rw [rounds_succ]
 go_wp2
 go_ret
 exact ⟨rfl,rfl⟩
def KeyAt (w:World) (b:Nat) (seed:List UInt8):Prop:=
 ∃ g c,w.heap[b]?=some (.cells #[.string ⟨seed.toArray⟩,.string ⟨(openOf seed).toArray⟩,.string ⟨(pubKey seed 0).toArray⟩,.int .i64 0,.slice (some ⟨g,0,none⟩) 1 c] 195 (0,0))/\g<w.heap.size/\w.cell? ⟨g,0,none⟩=some (.string ⟨(pubKey seed 0).toArray⟩)
def KeyOn (w:World) (b:Nat) (seed:List UInt8):Prop:=
 ∃ g c,w.heap[b]?=some (.cells #[.string ⟨seed.toArray⟩,.string ⟨(openOf seed).toArray⟩,.string ⟨(pubKey seed 0).toArray⟩,.int .i64 0,.slice (some ⟨g,0,none⟩) 1 c] 195 (0,0))/\g<w.heap.size/\w.cell? ⟨g,0,none⟩=some (.string ⟨(pubKey seed 0).toArray⟩)/\b<=g
theorem KeyOn.at {w:World} {b:Nat} {seed:List UInt8} (h:KeyOn w b seed):KeyAt w b seed:=by
 obtain ⟨g,c,h1,h2,h3,_⟩:=h
 exact ⟨g,c,h1,h2,h3⟩
theorem keepC {W W':World} {b j:Nat} {x:Value} (h:W.cell? ⟨b,j,none⟩=some x) (hf:W.frozen? ⟨b,j,none⟩=false) (hb:Below W.heap.size W W') (hlt:b<W.heap.size):W'.cell? ⟨b,j,none⟩=some x/\W'.frozen? ⟨b,j,none⟩=false/\Below W.heap.size W W':=
 ⟨(hb.cell (p:=⟨b,j,none⟩) hlt).trans h,(World.frozen?_of_block (w:=W) (w':=W') (a:=⟨b,j,none⟩) (hb.block b hlt)).trans hf,hb⟩
theorem keepE {W w5:World} {b j:Nat} {x:Value} (h:W.cell? ⟨b,j,none⟩=some x) (hf:W.frozen? ⟨b,j,none⟩=false) (hb:Below W.heap.size W w5) (hlt:b<W.heap.size):∀ o,(w5.alloc o).cell? ⟨b,j,none⟩=some x:=fun o=>
 (keepC h hf (hb.alloc hb.size o) hlt).1
theorem keepD {W w5 w6:World} {b j:Nat} {x:Value} {o:Obj} (h:w5.cell? ⟨b,j,none⟩=some x) (hf:w5.frozen? ⟨b,j,none⟩=false) (hb5:Below W.heap.size W w5) (hg:(w5.alloc o).grownBy w6 none) (hlt:b<W.heap.size):w6.cell? ⟨b,j,none⟩=some x/\w6.frozen? ⟨b,j,none⟩=false/\Below W.heap.size W w6:=by
 have h5:=hb5.size
 have hb6:Below w5.heap.size w5 w6:=((Below.refl w5.heap.size w5).alloc (Nat.le_refl _) o).grown hg (by simp) (fun k hk=>by cases hk)
 have hl:b<w5.heap.size:=by omega
 exact ⟨(hb6.cell (p:=⟨b,j,none⟩) hl).trans h,(World.frozen?_of_block (w:=w5) (w':=w6) (a:=⟨b,j,none⟩) (hb6.block b hl)).trans hf,hb5.trans (hb6.mono h5)⟩
theorem below_drew (W:World):Below W.heap.size W W.drew:=⟨rfl,rfl,rfl,Nat.le_refl _,fun _ _=>rfl⟩
theorem below_drewN {B:Nat} (W:World) (n:Nat):Below B W (W.drewN n):=⟨rfl,rfl,rfl,Nat.le_refl _,fun _ _=>rfl⟩
theorem below_call {W w5:World} (hb:Below W.drew.heap.size W.drew w5):Below W.heap.size W w5:=(below_drew W).trans hb
theorem below_two {W w5:World} (hb:Below W.heap.size W w5) (o o':Obj):Below W.heap.size W ((w5.alloc o).alloc o').drew:=
 ((hb.alloc hb.size o).alloc (by have:=hb.size;simp;omega) o').trans ⟨rfl,rfl,rfl,Nat.le_refl _,fun _ _=>rfl⟩
theorem xnew_zero (seed:ByteArray) (w:World) (hs:seed.size<=1000) (hK:Kon w) :
 Calls Tryz.prog 62 #[.string seed,.int .i64 0] w fun e w'=>∃ b,e=.returned (.tuple #[.pointer (some ⟨b,0,none⟩),.int .i64 0])/\w.heap.size<=b/\KeyOn w' b seed.data.toList/\Below w.heap.size w w':=by
 have HK:=Lib.hid hK
 clear hK
 obtain ⟨i0,hi,hz0,hz1,hz2⟩:=info_parts Tryz.infoStr
 go_enter Tryz.func62,Tryz.ntmps62
 go_wp2_with fail
 refine wp_loop_rounds 2 ?_
 rw [rounds_succ]
 have hb1:Below w.heap.size w (w.alloc (.cells #[.string seed,.string ⟨#[]⟩,.string ⟨#[]⟩,.int .i64 0,.slice none 0 0] 195)):=(Below.refl _ _).alloc (Nat.le_refl _) _
 have hk1:(w.alloc (.cells #[.string seed,.string ⟨#[]⟩,.string ⟨#[]⟩,.int .i64 0,.slice none 0 0] 195)).heap[w.heap.size]?=some (.cells #[.string seed,.string ⟨#[]⟩,.string ⟨#[]⟩,.int .i64 0,.slice none 0 0] 195 (0,0)):=heap_alloc_new _ _
 generalize (w.alloc (.cells #[.string seed,.string ⟨#[]⟩,.string ⟨#[]⟩,.int .i64 0,.slice none 0 0] 195))=W1 at hb1 hk1 |-
 go_wp2_with fail
 have z4:W1.cell? ⟨w.heap.size,4,none⟩=some (.slice none 0 0):=cel hk1
 have hlt:w.heap.size<W1.heap.size:=(Array.getElem?_eq_some_iff.1 hk1).1
 have z4f:W1.frozen? ⟨w.heap.size,4,none⟩=false:=frozen_of_row _ _ 4 _ _ hk1
 have hcall:=pubKey_any seed 0 W1.drew hs (by decide) (HK.out.old (hb1.trans ((below_drew W1).mono (by omega))))
 have hS0:=Lib.hid (keepC z4 z4f (below_drew W1) hlt)
 have hS1:=Lib.hid (fun w5 (hb5:Below W1.drew.heap.size W1.drew w5)=>keepC z4 z4f (below_call hb5) hlt)
 have hS2:=Lib.hid (fun w5 o (hb5:Below W1.drew.heap.size W1.drew w5)=>keepC z4 z4f ((below_call hb5).alloc (below_call hb5).size o) hlt)
 have hS3:=Lib.hid (fun w5 o o' (hb5:Below W1.drew.heap.size W1.drew w5)=>keepC z4 z4f (below_two (below_call hb5) o o') hlt)
 have hpk:=Lib.hid (show pubKey seed.data.toList 0=pubKey seed.data.toList 0 from rfl)
 go_region_law (first
  | (go_simp;go_at_call 103;refine hcall.mono ?_;rintro r w5 ⟨rfl,hb5⟩;obtain ⟨z5,z5f,hb5'⟩:=keepC z4 z4f (below_call hb5) hlt;have z5a:=keepE z4 z4f (below_call hb5) hlt)
  | (refine step_append_lies _ (by rfl) _ _ _ (by rfl) w.heap.size 9 i0 _ 1 16 Tryz.underlying31 hi hz0 hz1 hz2 rfl (by omega) (.slice none 0 0) 0 [] (by rfl) (World.ownsRow_nil _ _ _ _) ⟨w5.heap.size,0,none⟩ 1 1 [.string ⟨(pubKey seed.data.toList 0).toArray⟩] (by rfl) (by rfl) (World.news_of_block (cs:=#[.string ⟨(pubKey seed.data.toList 0).toArray⟩]) (t:=9) (fr:=(0,0)) (heap_alloc_new w5 _)) (by simp [Value.oneCell']) (by omega) (by unfold maxLen;omega) (by omega) (by have:=hb5'.size;simp;omega) (w5.heap.size+1) (by simp) ?_;intro gg cap2 w6 ho6 hg6 hat hlt6;obtain ⟨z6,z6f,hb6⟩:=keepD z5 z5f hb5' hg6 hlt))
 all_goals
  clear hcall z5 z5f z5a z4 z4f hpk
  obtain ⟨gc,cc,hvc,hgB,hgl,hgc,hcell⟩:=own_opened ho6 (by decide)
  injection hvc with e1 _ e3
  injection e1 with e1
  injection e1 with e1 _ _
  subst e1 e3
  have hne:w.heap.size≠gg:=by
   rcases hat with h | h
   · cases h
   · have:=hb5'.size;omega
  have hk6:w6.heap[w.heap.size]?=some (.cells #[.string seed,.string ⟨#[]⟩,.string ⟨#[]⟩,.int .i64 0,.slice none 0 0] 195 (0,0)):=(hb6.block w.heap.size hlt).trans hk1
  have hk7:=heap_setCell_same w6 w.heap.size 4 _ _ (.slice (some ⟨gg,0,none⟩) 1 cap2) hk6
  have hg7:(w6.setCell ⟨w.heap.size,4,none⟩ (.slice (some ⟨gg,0,none⟩) 1 cap2)).cell? ⟨gg,0,none⟩=some (.string ⟨(pubKey seed.data.toList 0).toArray⟩):=by
   rw [World.cell?_setCell_other _ _ _ _ (by intro e;injection e with e;exact hne e)]
   exact hcell 0 _ rfl
  have hb7:Below w.heap.size w (w6.setCell ⟨w.heap.size,4,none⟩ (.slice (some ⟨gg,0,none⟩) 1 cap2)):=(hb1.trans (hb6.mono (by omega))).setCell (Nat.le_refl _) _
  have hgl7:gg<(w6.setCell ⟨w.heap.size,4,none⟩ (.slice (some ⟨gg,0,none⟩) 1 cap2)).heap.size:=by simpa [World.setCell] using hgl
  generalize (w6.setCell ⟨w.heap.size,4,none⟩ (.slice (some ⟨gg,0,none⟩) 1 cap2))=W7 at hk7 hg7 hb7 hgl7 |-
  have hk7:W7.heap[w.heap.size]?=some (.cells #[.string seed,.string ⟨#[]⟩,.string ⟨#[]⟩,.int .i64 0,.slice (some ⟨gg,0,none⟩) 1 cap2] 195 (0,0)):=hk7
  clear hk6 hcell ho6 hg6 hat hb6 hb5 hb5' hk1
  have y4:W7.cell? ⟨w.heap.size,4,none⟩=some (.slice (some ⟨gg,0,none⟩) 1 cap2):=cel hk7
  go_wp2_with fail
  rw [rounds_succ]
  go_wp2_with fail
  refine (mroot_one gg 0 cap2 _ W7 hg7).mono ?_
  rintro e w' ⟨rfl,rfl⟩
  go_wp2_with fail
  refine (open_any seed _ hs (HK.out.old hb7)).mono ?_
  rintro e w8 ⟨rfl,hb8⟩
  have s7:=hb7.size
  have hl7:w.heap.size<W7.heap.size:=(Array.getElem?_eq_some_iff.1 hk7).1
  have hk8:=(hb8.block w.heap.size hl7).trans hk7
  have hg8:=(hb8.cell (p:=⟨gg,0,none⟩) hgl7).trans hg7
  have s8:=hb8.size
  have x1:w8.cell? ⟨w.heap.size,1,none⟩=some (.string ⟨#[]⟩):=cel hk8
  have x2:w8.cell? ⟨w.heap.size,2,none⟩=some (.string ⟨#[]⟩):=cel hk8
  have x3:w8.cell? ⟨w.heap.size,3,none⟩=some (.int .i64 0):=cel hk8
  have f1:w8.frozen? ⟨w.heap.size,1,none⟩=false:=frozen_of_row _ _ 1 _ _ hk8
  have f2:w8.frozen? ⟨w.heap.size,2,none⟩=false:=frozen_of_row _ _ 2 _ _ hk8
  have f3:w8.frozen? ⟨w.heap.size,3,none⟩=false:=frozen_of_row _ _ 3 _ _ hk8
  have hk9:=heap_setCell_same _ w.heap.size 3 _ _ (.int .i64 0) (heap_setCell_same _ w.heap.size 2 _ _ (.string ⟨(pubKey seed.data.toList 0).toArray⟩) (heap_setCell_same w8 w.heap.size 1 _ _ (.string ⟨(openOf seed.data.toList).toArray⟩) hk8))
  clear hk7 hg7 y4
  go_wp2
  go_ret2
  refine ⟨_,rfl,Nat.le_refl _,⟨gg,cap2,?_,?_,?_,hgB⟩,?_⟩
  · rw [hk9]
    simp
  · simp only [World.setCell,Array.size_modify];omega
  · rw [World.cell?_setCell_other _ _ _ _ (by intro e;injection e with e;exact hne e),World.cell?_setCell_other _ _ _ _ (by intro e;injection e with e;exact hne e),World.cell?_setCell_other _ _ _ _ (by intro e;injection e with e;exact hne e)]
    exact hg8
  · exact (((hb7.trans (hb8.mono s7)).setCell (Nat.le_refl _) _).setCell (Nat.le_refl _) _).setCell (Nat.le_refl _) _
theorem encStr_snoc (l:List Tx) (x:Tx):(l++[x]).map encStr=l.map encStr++[.string ⟨x.toArray⟩]:=by
 rw [List.map_append];rfl
structure PS (q:Nat) (m:Puts) (key:Tx) (d:Nat) (w W:World) (n:Nat) (a:Option Addr) (c:Nat) (v:Value):Prop where
 ck:W.heap[w.heap.size]?=some (.cells #[.string ⟨key.toArray⟩] 9 (0,0))
 cr:W.heap[w.heap.size+1]?=some (.cells #[.slice none 0 0,.bool false,.string ⟨#[]⟩,.string ⟨#[]⟩] 51 (0,0))
 cp:W.heap[w.heap.size+2]?=some (.cells #[v,.bool false,.string ⟨#[]⟩,.string ⟨#[]⟩] 51 (0,0))
 cq:W.heap[q]?=some (.cells #[.slice a (under (keysOf m) key (d+n)).length c] 31 (0,0))
 row:Keyrow W a c (under (keysOf m) key (d+n))
 own:W.ownsRow (w.heap.size+3) 9 1 v n ((hs.beside (valOf m) (keysOf m) key d n).map encStr)
 vq:∀ g,v.ownBlock=some g->g≠q
 va:∀ g g' o',v.ownBlock=some g->a=some ⟨g',o',none⟩->g≠g'
 aq:∀ g' o',a=some ⟨g',o',none⟩->q<g'
 bel:Below w.heap.size w W
 more:∀ i,i<n->2<=(under (keysOf m) key (d+i)).length
 room:d+n<=128
theorem Keyrow.touch {S:Nat->Prop} {w w':World} {a:Option Addr} {c:Nat} {ks:List Tx} (h:Keyrow w a c ks) (ht:Touch S w w') (hs:∀ g o,a=some ⟨g,o,none⟩->¬ S g):Keyrow w' a c ks:=
 ⟨h.room,h.few,fun k hk=>by
  obtain ⟨g,o,e,hg,hc⟩:=h.cell k hk
  refine ⟨g,o,e,Nat.lt_of_lt_of_le hg ht.size,?_⟩
  rw [World.cell?_of_block (w:=w) (w':=w') (a:=⟨g,o+k,none⟩) (ht.block g hg (hs g o e))];exact hc⟩
theorem PS.step {q:Nat} {m:Puts} {key:Tx} {d:Nat} {w W W8 w9:World} {n c c9:Nat} {a a9:Option Addr} {v v':Value} (h:PS q m key d w W n a c v) (hsq:w.heap.size+2<q)
 (hT:Touch (fun k=>k=w.heap.size+2\/v.ownBlock=some k) W W8) (hp:W8.heap[w.heap.size+2]?=some (.cells #[v',.bool false,.string ⟨#[]⟩,.string ⟨#[]⟩] 51 (0,0)))
 (ho:W8.ownsRow (w.heap.size+3) 9 1 v' (n+1) ((hs.beside (valOf m) (keysOf m) key d (n+1)).map encStr)) (hloc:∀ g,v'.ownBlock=some g->v.ownBlock=some g\/W.heap.size<=g)
 (hB9:Below W8.heap.size W8 w9) (hr9:Keyrow w9 a9 c9 (under (keysOf m) key (d+(n+1)))) (hl9:∀ g o,a9=some ⟨g,o,none⟩->W8.heap.size<=g) (h2:2<=(under (keysOf m) key (d+n)).length) (hr:d+(n+1)<=128) :
 PS q m key d w (w9.setCell ⟨q,0,none⟩ (.slice a9 (under (keysOf m) key (d+(n+1))).length c9)) (n+1) a9 c9 v':=by
 have lq:=(Array.getElem?_eq_some_iff.1 h.cq).1
 have vlo:∀ g,v.ownBlock=some g->w.heap.size+3<=g:=fun g hg=>(h.own.lt g hg).1
 have s8:=hT.size
 have s9:=hB9.size
 have hTq:Touch (·=q) w9 (w9.setCell ⟨q,0,none⟩ (.slice a9 (under (keysOf m) key (d+(n+1))).length c9)):=Touch.setCell (S:=(·=q)) w9 ⟨q,0,none⟩ _ rfl
 have out:∀ k,k<w.heap.size+3->k≠w.heap.size+2->¬ (k=w.heap.size+2\/v.ownBlock=some k):=fun k hk hne=>by
  rintro (e | e)
  · exact hne e
  · have:=vlo k e;omega
 have keep:∀ k o,k<w.heap.size+3->k≠w.heap.size+2->W.heap[k]?=some o->(w9.setCell ⟨q,0,none⟩ (.slice a9 (under (keysOf m) key (d+(n+1))).length c9)).heap[k]?=some o:=fun k o hk hne ho=>by
  have h8:=hT.heap ho (out k hk hne)
  exact hTq.heap ((hB9.block k (Array.getElem?_eq_some_iff.1 h8).1).trans h8) (by omega)
 have h8q:=hT.heap h.cq (by
  rintro (e | e)
  · omega
  · exact h.vq q e rfl)
 have v'q:∀ g,v'.ownBlock=some g->g≠q:=fun g hg=>by
  rcases hloc g hg with e | e
  · exact h.vq g e
  · omega
 refine ⟨keep _ _ (by omega) (by omega) h.ck,keep _ _ (by omega) (by omega) h.cr,?_,?_,?_,?_,v'q,?_,?_,?_,?_,hr⟩
 · exact hTq.heap ((hB9.block _ (Array.getElem?_eq_some_iff.1 hp).1).trans hp) (by omega)
 · exact heap_setCell_same w9 q 0 _ _ _ ((hB9.block q (by omega)).trans h8q)
 · exact hr9.touch hTq (fun g o e=>by have:=hl9 g o e;omega)
 · exact hTq.own ((Touch.of_below hB9 (fun _=>False)).own ho (fun _ _ h=>h)) (fun k hk=>v'q k hk)
 · intro g g' o' hg e
   have h1:=(ho.lt g hg).2
   have h2:=hl9 g' o' e
   omega
 · intro g' o' e
   have h2:=hl9 g' o' e
   omega
 · have hB8:Below w.heap.size w W8:=h.bel.trans (hT.below (B:=w.heap.size) (by rintro k (e | e);omega;have:=vlo k e;omega) h.bel.size)
   exact (hB8.trans (hB9.mono hB8.size)).setCell (p:=⟨q,0,none⟩) (by show w.heap.size<=q;omega) _
 · intro i hi
   by_cases e:i=n
   · rw [e];exact h2
   · exact h.more i (by omega)
theorem keyrow_of_own {w:World} {R n c:Nat} {a:Option Addr} {ks:List Tx} (h:w.ownsRow R 9 1 (.slice a n c) n (ks.map encStr)) (hf:ks.length<=100000) (hn:n=ks.length):Keyrow w a c ks/\∀ g o,a=some ⟨g,o,none⟩->R<=g:=by
 subst hn
 rcases h.2 with ⟨e,h0⟩ | ⟨g,cap,cur,e,hg,hb,hnc,_⟩
 · injection e with e1 _ e3
   subst e1 e3
   have hnil:ks=[]:=List.eq_nil_of_length_eq_zero h0
   subst hnil
   exact ⟨⟨by simp,by simp,fun k hk=>by simp at hk⟩,fun _ _ e=>by cases e⟩
 · injection e with e1 _ e3
   subst e1 e3
   refine ⟨⟨hnc,hf,fun k hk=>?_⟩,fun g' o' e=>by injection e with e;injection e with e;omega⟩
   refine ⟨g,0,rfl,(Array.getElem?_eq_some_iff.1 hb).1,?_⟩
   have:=h.cells (g:=g) rfl k (encStr ks[k]) (by simp [hk])
   have hadd:(⟨g,0,none⟩:Addr).add k=⟨g,0+k,none⟩:=by unfold Addr.add;split <;> simp_all
   rw [hadd] at this
   rw [this,List.getD_eq_getElem?_getD,List.getElem?_eq_getElem hk];rfl
theorem under_under (ks:List Tx) (p:Tx) {d e:Nat} (h:d<=e):under (under ks p d) p e=under ks p e:=by
 unfold under
 rw [List.filter_filter]
 refine List.filter_congr fun k _=>?_
 cases he:alikeTo k p e with
 | false=>rfl
 | true=>rw [alike_le h he];rfl
theorem under_lt {m:Puts} (hk:Keys (keysOf m)) (key:Tx) (e:Nat) (h2:2<=(under (keysOf m) key e).length) (he:e<=128):e<128:=by
 rcases Nat.lt_or_ge e 128 with h | h
 · exact h
 · have hr:=under_row hk key e
   rw [show e=128 from by omega] at hr h2
   have:=hr.end
   omega
theorem PS.mid {q:Nat} {m:Puts} {key:Tx} {d:Nat} {w W w6 w7:World} {n c vc gg cap2:Nat} {a va:Option Addr} {N:Tx} (h:PS q m key d w W n a c (.slice va n vc)) (hsq:w.heap.size+2<q)
 (hN:hs.beside (valOf m) (keysOf m) key d (n+1)=hs.beside (valOf m) (keysOf m) key d n++[N]) (hb6:Below W.heap.size W w6) (o:Obj) (hg:(w6.alloc o).grownBy w7 (Value.slice va n vc).ownBlock)
 (ho:w7.ownsRow (w.heap.size+3) 9 1 (.slice (some ⟨gg,0,none⟩) (n+1) cap2) (n+1) ((hs.beside (valOf m) (keysOf m) key d n).map encStr++[.string ⟨N.toArray⟩])) (hat:(Value.slice va n vc).ownBlock=some gg\/gg=w6.heap.size+1) :
 Touch (fun k=>k=w.heap.size+2\/(Value.slice va n vc).ownBlock=some k) W (w7.setCell ⟨w.heap.size+2,0,none⟩ (.slice (some ⟨gg,0,none⟩) (n+1) cap2)) /\
 (w7.setCell ⟨w.heap.size+2,0,none⟩ (.slice (some ⟨gg,0,none⟩) (n+1) cap2)).heap[w.heap.size+2]?=some (.cells #[.slice (some ⟨gg,0,none⟩) (n+1) cap2,.bool false,.string ⟨#[]⟩,.string ⟨#[]⟩] 51 (0,0)) /\
 (w7.setCell ⟨w.heap.size+2,0,none⟩ (.slice (some ⟨gg,0,none⟩) (n+1) cap2)).ownsRow (w.heap.size+3) 9 1 (.slice (some ⟨gg,0,none⟩) (n+1) cap2) (n+1) ((hs.beside (valOf m) (keysOf m) key d (n+1)).map encStr) /\
 (∀ g,(Value.slice (some ⟨gg,0,none⟩) (n+1) cap2).ownBlock=some g->(Value.slice va n vc).ownBlock=some g\/W.heap.size<=g) /\
 (w7.setCell ⟨w.heap.size+2,0,none⟩ (.slice (some ⟨gg,0,none⟩) (n+1) cap2)).cell? ⟨q,0,none⟩=some (.slice a (under (keysOf m) key (d+n)).length c) /\
 Keyrow (w7.setCell ⟨w.heap.size+2,0,none⟩ (.slice (some ⟨gg,0,none⟩) (n+1) cap2)) a c (under (keysOf m) key (d+n)) /\
 (w7.setCell ⟨w.heap.size+2,0,none⟩ (.slice (some ⟨gg,0,none⟩) (n+1) cap2)).cell? ⟨w.heap.size,0,none⟩=some (.string ⟨key.toArray⟩):=by
 have hno:∀ g,(Value.slice va n vc).ownBlock=some g->w.heap.size+3<=g:=fun g hg=>(h.own.lt g hg).1
 have hgg:=(ho.lt gg rfl).1
 have s6:=hb6.size
 have T7:Touch (fun k=>(Value.slice va n vc).ownBlock=some k) W w7:=(Touch.of_below (hb6.alloc hb6.size o) _).trans ((Touch.grown hg).mono (fun k hk=>.inl hk.symm))
 have T8:Touch (fun k=>k=w.heap.size+2\/(Value.slice va n vc).ownBlock=some k) W (w7.setCell ⟨w.heap.size+2,0,none⟩ (.slice (some ⟨gg,0,none⟩) (n+1) cap2)):=
  (T7.mono (fun k hk=>.inl (.inr hk))).trans (Touch.setCell (S:=fun k=>k=w.heap.size+2\/(Value.slice va n vc).ownBlock=some k) w7 ⟨w.heap.size+2,0,none⟩ _ (.inl rfl))
 have cp7:=T7.heap h.cp (fun e=>by have:=hno _ e;omega)
 refine ⟨T8,heap_setCell_same w7 _ 0 _ _ _ cp7,?_,?_,?_,?_,?_⟩
 · rw [hN,encStr_snoc]
   exact (Touch.setCell (S:=(·=w.heap.size+2)) w7 ⟨w.heap.size+2,0,none⟩ _ rfl).own ho (fun k hk=>by injection hk with hk;show ¬ k=_;have:k=gg:=hk.symm;omega)
 · intro g hg
   injection hg with hg
   have e:g=gg:=hg.symm
   rcases hat with e2 | e2
   · exact .inl (by rw [e];exact e2)
   · exact .inr (by omega)
 · have:=T8.heap h.cq (by
    rintro (e | e)
    · omega
    · exact h.vq q e rfl)
   rw [cell_of_row _ _ 0 _ _ _ this];rfl
 · refine h.row.touch T8 ?_
   rintro g o e (e2 | e2)
   · have:=h.aq g o e;omega
   · exact h.va g g o e2 e rfl
 · have:=T8.heap h.ck (by
    rintro (e | e)
    · omega
    · have:=hno _ e;omega)
   rw [cell_of_row _ _ 0 _ _ _ this];rfl
theorem pnode_any (s:Tx) (w:World) (h:okNode s=true) :
 Calls Tryz.prog 93 #[.string ⟨s.toArray⟩] w fun e w'=>e=.returned (.bool true)/\w'=w:=by
 by_cases h0:s=emp
 · subst h0
   show Calls _ _ #[.string ⟨#[0]⟩] w _
   go_enter Tryz.func93,Tryz.ntmps93
   go_wp2
   go_ret
   exact ⟨rfl,rfl⟩
 · unfold okNode at h
   have h0':(s==emp)=false:=by simp [h0]
   rw [h0',Bool.false_or,Bool.and_eq_true] at h
   obtain ⟨h1,h2⟩:=h
   obtain ⟨x,r,rfl⟩:∃ x r,s=x :: r:=by
    cases s with
    | nil=>simp at h1
    | cons x r=>exact ⟨x,r,rfl⟩
   have hr:r.length=16:=by simp at h1;exact h1
   have hne:¬ (x :: r)=[0]:=h0
   rw [List.head?_cons] at h2
   have hx:x=1\/x=2:=by
    rcases Bool.or_eq_true _ _ ▸ h2 with e | e
    · left;simpa using e
    · right;simpa using e
   have hsz:(ByteArray.mk (x :: r).toArray).size=17:=by show (x :: r).toArray.size=17;simp [hr]
   have hsz':(((ByteArray.mk (x :: r).toArray).size:Nat):Int)=17:=by rw [hsz];rfl
   clear h0 h0' h1 h2
   rcases hx with rfl | rfl
   · go_enter Tryz.func93,Tryz.ntmps93
     go_wp2
     go_ret
     exact ⟨rfl,rfl⟩
   · go_enter Tryz.func93,Tryz.ntmps93
     go_wp2
     all_goals (go_ret;exact ⟨rfl,rfl⟩)
def PfAt (w:World) (v:Value) (p:Pf):Prop:=∃ a c,v=.agg #[.slice a p.beside.length c,.bool p.there,.string ⟨p.key.toArray⟩,.string ⟨p.val.toArray⟩]/\Keyrow w a c p.beside
theorem PfAt.old {w w':World} {v:Value} {p:Pf} (h:PfAt w v p) (hb:Below w.heap.size w w'):PfAt w' v p:=by
 obtain ⟨a,c,e,h⟩:=h
 exact ⟨a,c,e,h.old hb⟩
theorem four_of_cells {w:World} {b:Nat} {x0 x1 x2 x3:Value} {t:TypeId} (h:w.heap[b]?=some (.cells #[x0,x1,x2,x3] t (0,0))) :
 w.cell? ⟨b,0,none⟩=some x0/\w.cell? ⟨b,1,none⟩=some x1/\w.cell? ⟨b,2,none⟩=some x2/\w.cell? ⟨b,3,none⟩=some x3:=
 ⟨cel h,cel h,cel h,cel h⟩
theorem pgood_any (v:Value) (p:Pf) (key:Tx) (d:Nat) (w:World) (hv:PfAt w v p) (hg:IsGood p key d) :
 Calls Tryz.prog 48 #[v,.string ⟨key.toArray⟩,.int .i64 (d:Int)] w fun e w'=>e=.returned (.bool true)/\Below w.heap.size w w':=by
 obtain ⟨a,c,rfl,hrow⟩:=hv
 obtain ⟨klen,room,nodes,last,none_,some_⟩:=hg
 obtain ⟨bs,there,pk,pv⟩:=p
 dsimp only at *
 obtain ⟨n,hn⟩:∃ n,bs.length=n:=⟨_,rfl⟩
 have hcell:Hid (∀ k,k<n->∃ g o,a=some ⟨g,o,none⟩/\g<w.heap.size/\∃ s:Tx,w.cell? ⟨g,o+k,none⟩=some (.string ⟨s.toArray⟩)/\okNode s=true/\(k+1=n->s≠emp/\(there=true\/s.head?=some 2))):=Lib.hid (by
  intro k hk
  obtain ⟨g,o,e,hgl,hc⟩:=hrow.cell k (by omega)
  have hget:bs.getD k []=bs[k]:=by rw [List.getD_eq_getElem?_getD,List.getElem?_eq_getElem (by omega)];rfl
  rw [hget] at hc
  refine ⟨g,o,e,hgl,bs[k],hc,nodes _ (List.getElem_mem _),fun hk1=>last (bs.take k) bs[k] ?_⟩
  rw [<-List.take_succ_eq_append_getElem (by omega),List.take_of_length_le (by omega)])
 have hroom:=hrow.room
 rw [hn] at room hroom some_ |-
 have hright:=Lib.hid (fun W=>right_any ⟨key.toArray⟩ d W (by show key.toArray.size=16;rw [List.size_toArray,klen]) (by omega))
 have hbelow:=Lib.hid (fun W=>below_any ⟨pk.toArray⟩ ⟨key.toArray⟩ ((d+n:Nat):Int) W)
 clear hrow nodes last hn
 obtain ⟨W0,hW0⟩:∃ W0,W0=w.alloc (.cells #[.slice a n c,.bool there,.string ⟨pk.toArray⟩,.string ⟨pv.toArray⟩] 51):=⟨_,rfl⟩
 have hB0:Below w.heap.size w W0:=by rw [hW0];exact (Below.refl _ _).alloc (Nat.le_refl _) _
 obtain ⟨x0,x1,x2,x3⟩:=four_of_cells (w:=W0) (b:=w.heap.size) (t:=51) (by rw [hW0];exact heap_alloc_new _ _)
 have hcell:Hid (∀ k,k<n->∃ g o,a=some ⟨g,o,none⟩/\g<w.heap.size/\∃ s:Tx,W0.cell? ⟨g,o+k,none⟩=some (.string ⟨s.toArray⟩)/\okNode s=true/\(k+1=n->s≠emp/\(there=true\/s.head?=some 2))):=Lib.hid (fun k hk=>by
  obtain ⟨g,o,e,hgl,s,hc,h⟩:=hcell.out k hk
  exact ⟨g,o,e,hgl,s,(hB0.cell (p:=⟨g,o+k,none⟩) hgl).trans hc,h⟩)
 have hsub:((128:Int) - d<n)=False:=by simp;omega
 have HB0:=Lib.hid hB0
 have None_:=Lib.hid none_
 have Some_:=Lib.hid some_
 have Klen:=Lib.hid klen
 clear hB0 none_ some_ klen
 go_enter Tryz.func48,Tryz.ntmps48
 go_wp2_with fail
 rw [<-hW0]
 refine (hright.out W0).mono ?_
 rintro e w' ⟨rfl,rfl⟩
 clear hright hW0
 go_wp2_with fail
 go_loop [27] (fun i=>∃ k:Nat,k<=n/\i=.int .i64 k) (fun i=>n - (intOf i).toNat)
 case atStart=>exact ⟨0,Nat.zero_le _,rfl⟩
 case round=>
  obtain ⟨k,hk,rfl⟩:=hrel
  by_cases hkl:k<n
  · obtain ⟨g,o,rfl,_,t,hc,hok,_⟩:=hcell.out k hkl
    have hnode:=pnode_any t w' hok
    clear hok
    go_wp2_with fail
    refine hnode.mono ?_
    rintro e w2 ⟨rfl,rfl⟩
    clear hnode
    go_wp2
    go_round
    case rel=>exact ⟨k+1,by omega,by go_num⟩
    case measure=>simp [intOf];omega
  · obtain rfl:k=n:=by omega
    have tail:there=true->Hid ((pk.length=16/\alikeTo pk key (d+k)=true)):=fun h=>Lib.hid (Some_.out h)
    have tail':there=false->Hid (pk=[]/\pv=[]):=fun h=>Lib.hid (None_.out h)
    by_cases hk0:k=0
    · subst hk0
      cases there
      · obtain ⟨rfl,rfl⟩:=(tail' rfl).out
        clear tail tail' hcell
        go_wp2
        go_ret
        exact ⟨rfl,HB0.out⟩
      · obtain ⟨t1,t2⟩:=(tail rfl).out
        have hsz:(((ByteArray.mk pk.toArray).size:Nat):Int)=16:=by show ((pk.toArray.size:Nat):Int)=16;rw [List.size_toArray,t1];rfl
        have hb:=hbelow.out w' (by show pk.toArray.size<=_;rw [List.size_toArray];omega) (by show key.toArray.size<=_;rw [List.size_toArray,Klen.out];decide)
        rw [depthNat_in _ room] at hb
        simp only [Nat.add_zero] at hb t2
        rw [t2] at hb
        clear tail tail' hcell t2 t1
        go_wp2_with fail
        refine hb.mono ?_
        rintro e w2 ⟨rfl,rfl⟩
        go_wp2
        go_ret
        exact ⟨rfl,HB0.out⟩
    · obtain ⟨g,o,rfl,_,t,hc,hok,hl⟩:=hcell.out (k - 1) (by omega)
      obtain ⟨hne,hor⟩:=hl (by omega)
      have hkp:(0:Int)<(k:Int):=by omega
      have hne':(t==[0])=false:=by rw [beq_eq_false_iff_ne];exact hne
      have hne2:((⟨t.toArray⟩:ByteArray).toList==[0])=false:=by rw [one_list];exact hne'
      have hk0':((k:Int)==0)=false:=by simp;omega
      clear hok hl hcell hne hk0
      cases there
      · obtain ⟨rfl,rfl⟩:=(tail' rfl).out
        obtain ⟨r,rfl⟩:∃ r,t=2 :: r:=by
         rcases hor with h | h
         · cases h
         · cases t with
           | nil=>cases h
           | cons x r=>rw [List.head?_cons] at h;injection h with h;exact ⟨r,by rw [h]⟩
        clear tail tail' hor hne' hne2
        have hsz:(((ByteArray.mk (2 :: r).toArray).size:Nat):Int)=(r.length:Int)+1:=by show (((2 :: r).toArray.size:Nat):Int)=_;simp
        have hsz2:0<(ByteArray.mk (2 :: r).toArray).size:=by show 0<(2 :: r).toArray.size;simp
        go_wp2
        all_goals (go_ret;exact ⟨rfl,HB0.out⟩)
      · obtain ⟨t1,t2⟩:=(tail rfl).out
        have hsz:(((ByteArray.mk pk.toArray).size:Nat):Int)=16:=by show ((pk.toArray.size:Nat):Int)=16;rw [List.size_toArray,t1];rfl
        have hb:=hbelow.out w' (by show pk.toArray.size<=_;rw [List.size_toArray];omega) (by show key.toArray.size<=_;rw [List.size_toArray,Klen.out];decide)
        rw [depthNat_in _ room] at hb
        rw [t2] at hb
        have hw:wrap64 ((d:Int)+k)=((d+k:Nat):Int):=by rw [IntWalk.wrap64_in _ (by omega)];omega
        clear tail tail' t2 t1 hor
        go_wp2_with fail
        refine hb.mono ?_
        rintro e w2 ⟨rfl,rfl⟩
        go_wp2
        go_ret
        exact ⟨rfl,HB0.out⟩
end Go.Proofs.YtcgkomafaepjnaaGreatDoor
