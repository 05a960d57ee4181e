/- A tree as what was put in it, the newest first: its keys, rising; the datum of the map that holds it. Conditions: none of a program. -/
import Derived.Test.YtcgkomafaepjnaaGreatDoorTL1
import Derived.Maps.Own
import Derived.Sort.KeysCollected
import Derived.Carry
import Derived.Test.YtcgkomafaepjnaaGreatDoorProg
import Derived.Deep.QuietTactic
import Derived.BigQuiet
import Derived.StillTailTactics
import Derived.Laws.CopyOwn
import Derived.Laws.Tables
import Derived.Lib.LaidTab
import Derived.Deep.WholeRow
set_option maxRecDepth 100000
set_option maxHeartbeats 16000000
namespace Go.Proofs.YtcgkomafaepjnaaGreatDoor
open Go.RowKit
abbrev Puts:=List (Tx×Tx)
def valOf (m:Puts) (k:Tx):Tx:=(m.lookup k).getD []
def onceOf:List Tx->List Tx
 | []=>[]
 | x :: r=>if x∈r then onceOf r else x :: onceOf r
theorem mem_onceOf {x:Tx}:∀ {l:List Tx},x∈onceOf l ↔ x∈l
 | []=>Iff.rfl
 | y :: r=>by
   unfold onceOf
   split
   · rename_i h
     rw [mem_onceOf,List.mem_cons]
     exact ⟨.inr,fun e=>e.elim (fun e=>e ▸ h) id⟩
   · rw [List.mem_cons,List.mem_cons,mem_onceOf]
theorem nodup_onceOf:∀ l:List Tx,(onceOf l).Nodup
 | []=>List.nodup_nil
 | y :: r=>by
   unfold onceOf
   split
   · exact nodup_onceOf r
   · rename_i h
     exact List.nodup_cons.2 ⟨fun e=>h (mem_onceOf.1 e),nodup_onceOf r⟩
theorem length_onceOf:∀ l:List Tx,(onceOf l).length<=l.length
 | []=>Nat.le_refl _
 | y :: r=>by
   have:=length_onceOf r
   unfold onceOf
   split
   · simp;omega
   · simp;omega
def keysOf (m:Puts):List Tx:=(onceOf (m.map (·.1))).mergeSort leB
theorem mem_keysOf {m:Puts} {k:Tx}:k∈keysOf m ↔ k∈m.map (·.1):=by
 unfold keysOf
 rw [List.mem_mergeSort,mem_onceOf]
theorem lookup_mem {m:Puts} {k:Tx}:(m.lookup k).isSome=true ↔ k∈m.map (·.1):=by
 induction m with
 | nil=>simp
 | cons q m ih=>
   obtain ⟨a,v⟩:=q
   rw [List.lookup_cons]
   by_cases e:k=a
   · subst e;simp
   · have:(k==a)=false:=by simp [e]
     rw [this,List.map_cons,List.mem_cons]
     simp only [e,false_or]
     exact ih
theorem rise_keysOf (m:Puts):Rise (keysOf m):=by
 have tr:∀ a b c:Tx,leB a b=true->leB b c=true->leB a c=true:=fun a b c h1 h2=>by simp only [leB,decide_eq_true_eq] at *;exact List.le_trans h1 h2
 have to:∀ a b:Tx,(leB a b || leB b a)=true:=fun a b=>by simp only [leB,Bool.or_eq_true,decide_eq_true_eq];exact List.le_total a b
 have h1:=List.pairwise_mergeSort tr to (onceOf (m.map (·.1)))
 have h2:(keysOf m).Nodup:=(List.mergeSort_perm _ leB).nodup_iff.2 (nodup_onceOf _)
 refine List.Pairwise.imp₂ (R:=fun a b=>leB a b=true) (S:=fun a b=>a≠b) (fun a b hab hne=>?_) h1 h2
 rcases Decidable.em (a<b) with h | h
 · exact h
 · simp only [leB,decide_eq_true_eq] at hab
   exact absurd (List.le_antisymm hab (List.not_lt.1 h)) hne
theorem keys_keysOf {m:Puts} (h:∀ q∈m,q.1.length=16):Keys (keysOf m):=
 ⟨rise_keysOf m,fun k hk=>by
  obtain ⟨q,hq,rfl⟩:=List.mem_map.1 (mem_keysOf.1 hk)
  exact h q hq⟩
theorem length_keysOf (m:Puts):(keysOf m).length<=m.length:=by
 unfold keysOf
 rw [List.length_mergeSort]
 have:=length_onceOf (m.map (·.1))
 simpa using this
theorem keysOf_put (k v:Tx) (m:Puts) (x:Tx):x∈keysOf ((k,v) :: m) ↔ x=k\/x∈keysOf m:=by
 rw [mem_keysOf,mem_keysOf,List.map_cons,List.mem_cons]
theorem valOf_put_same (k v:Tx) (m:Puts):valOf ((k,v) :: m) k=v:=by unfold valOf;simp
theorem valOf_put_other {k x:Tx} (v:Tx) (m:Puts) (h:x≠k):valOf ((k,v) :: m) x=valOf m x:=by
 unfold valOf
 rw [List.lookup_cons,show (x==k)=false from by simp [h]]
structure Agrees (D:DataW Nat) (m:Puts):Prop where
 isMap:Maps.IsMap D
 at_:∀ k z,D.atKey (.string k) z=((m.lookup k).map fun v=>DataW.lit (.string v)).getD z
theorem agrees_nil:Agrees (.map []) []:=⟨⟨[],rfl⟩,fun _ _=>rfl⟩
theorem Agrees.put {D:DataW Nat} {m:Puts} (h:Agrees D m) (k v:Tx):Agrees (D.put (.string k) (.lit (.string v))) ((k,v) :: m):=by
 refine ⟨h.isMap.put _ _,fun x z=>?_⟩
 rw [List.lookup_cons]
 by_cases e:x=k
 · subst e
   rw [Maps.atKey_put_same (k:=.string x) h.isMap trivial]
   simp
 · rw [Maps.atKey_put_other (fun he=>e (by injection he)),h.at_,show (x==k)=false from by simp [e]]
theorem Agrees.has {D:DataW Nat} {m:Puts} (h:Agrees D m) (k:Tx):Maps.has D (.string k)=true ↔ k∈m.map (·.1):=by
 rw [<-lookup_mem]
 have:=h.at_ k
 cases hl:m.lookup k with
 | none=>
   rw [hl] at this
   rw [Maps.has_false_of_atKey (fun z=>by rw [this z];rfl)]
   simp
 | some v=>
   rw [hl] at this
   rw [Maps.has_true_of_atKey (y:=.lit (.string v)) (fun z=>by rw [this z];rfl)]
   simp
theorem sorted_keys {P:Program} {t:TypeId} {R:Value->Option (DataW Nat×List MemPlace)} {w:World} {b n:Nat} {D:DataW Nat} (hown:w.ownsMap P t R b n D) (ht:P.underlying t=some .string) {m:Puts} (h:Agrees D m)
 {ss:List Tx} (hp:ss.Perm (strKeys D)):ss.mergeSort (fun x y=>decide (x<=y))=keysOf m:=by
 obtain ⟨es,hD,hpw,_⟩:=hown.entries (Maps.string_keyed ht)
 obtain ⟨es',hD',hko⟩:=hown.keysOf
 obtain rfl:es=es':=by rw [hD] at hD';simpa using hD'
 subst hD
 have:=perm_strKeys hpw (fun p hp=>by obtain ⟨v,hv⟩:=hko p hp;obtain ⟨x,_,hx,_⟩:=Maps.keyOf_str ht hv;exact ⟨x,hx⟩) (nodup_onceOf (m.map (·.1))) (fun x=>by rw [mem_onceOf,<-h.has x])
 exact mergeSort_of_perm (hp.trans this.symm)
theorem size_of_own {P:Program} {t:TypeId} {R:Value->Option (DataW Nat×List MemPlace)} {w:World} {b n:Nat} {D:DataW Nat} (hown:w.ownsMap P t R b n D):Maps.size D<=n:=by
 obtain ⟨es,clock,_,F,hs,rfl⟩:=hown
 rw [Maps.size_eq,length_sorted]
 simpa using hs
theorem plainElem_string_inv {H:Type} {P:Program} {e:TypeId} (he:P.underlying e=some .string) {v:Value} {z:DataW H×List MemPlace} (h:plainElem P e v=some z):∃ s:ByteArray,v=.string s/\z=(.lit (.string s.data.toList),[]):=by
 unfold plainElem at h
 rw [he] at h
 cases v <;> simp at h
 exact ⟨_,rfl,h.2.symm⟩
theorem map_look {P:Program} {t s:TypeId} {w:World} {b n:Nat} {D:DataW Nat} {m:Puts} (c:Bool) (hs:P.underlying s=some .string) (ht:P.underlying t=some (.map s s)) (hz:(zeroValue s).run P w=.ok (.string .empty) w)
 (hown:w.ownsMap P s (plainElem P s) b n D) (h:Agrees D m) (k:ByteArray) (hk:k.size<=maxLen) :
 (Instr.lookup t (.map (some b)) (.string k) c).run P w=.ok (if c then .tuple #[.string ⟨(valOf m k.data.toList).toArray⟩,.bool (m.lookup k.data.toList).isSome] else .string ⟨(valOf m k.data.toList).toArray⟩) w:=by
 obtain ⟨es,clock,hb,F,_,rfl⟩:=hown
 have at_:=h.at_ k.data.toList
 unfold valOf
 rcases Maps.fit_look c (Maps.string_keyed hs) ht hz hb F (WideMaps.keyOf_string_mk hs hk) with ⟨hrun,_,hat⟩ | ⟨e0,y,_,_,hrun,hRv,hat,_⟩
 · rw [hrun]
   cases hl:m.lookup k.data.toList with
   | none=>rfl
   | some v=>
     have:=(at_ .nil).symm.trans (hat .nil)
     rw [hl] at this
     cases this
 · rw [hrun]
   obtain ⟨s,es,ey⟩:=plainElem_string_inv hs hRv
   cases hl:m.lookup k.data.toList with
   | none=>
     have e1:=(at_ .nil).symm.trans (hat .nil)
     rw [hl,ey] at e1
     cases e1
   | some v=>
     have e1:=(at_ .nil).symm.trans (hat .nil)
     rw [hl,ey] at e1
     have e2:v=s.data.toList:=by
      simp at e1;exact e1
     rw [es,e2]
     rfl
def bandTo (l:List UInt8):Nat->Int
 | 0=>0
 | k+1=>2*bandTo l k+bitAt l k
def bandI (l:List UInt8) (d:Int):Int:=if 0<=d/\d<=16 then bandTo l d.toNat else 0
theorem bandTo_bd (l:List UInt8) (k:Nat):0<=bandTo l k/\bandTo l k<2^k:=by
 induction k with
 | zero=>simp [bandTo]
 | succ k ih=>have:=bitAt_bd l k;simp only [bandTo,Int.pow_succ];omega
theorem bandTo_bd16 (l:List UInt8) (k:Nat) (h:k<=16):0<=bandTo l k/\bandTo l k<65536:=by
 have h1:=bandTo_bd l k
 have h2:(2:Int)^k<=2^16:=by exact_mod_cast Nat.pow_le_pow_right (by decide) h
 have h3:(2:Int)^16=65536:=by decide
 omega
theorem band_in (s:ByteArray) (d:Nat) (w:World) (hs:s.size<=1152921504606846975) (hd:d<=16) :
 Calls Tryz.prog 13 #[.string s,.int .i64 d] w fun e w'=>e=.returned (.int .i64 (bandTo s.data.toList d))/\w=w':=by
 go_enter Tryz.func13,Tryz.ntmps13
 go_wp2
 go_loop [5,14] (fun n i=>∃ k:Nat,k<=d/\i=.int .i64 k/\n=.int .i64 (bandTo s.data.toList k)) (fun _ i=>d - (intOf i).toNat)
 case atStart=>exact ⟨0,Nat.zero_le _,rfl,rfl⟩
 case round=>
  obtain ⟨k,hk,rfl,rfl⟩:=hrel
  by_cases hlt:k<d
  · obtain ⟨b1,b2⟩:=bandTo_bd16 s.data.toList k (by omega)
    obtain ⟨b3,b4⟩:=bitAt_bd s.data.toList k
    go_wp2_with fail
    refine (bit_any s k _ hs).mono ?_
    rintro e w' ⟨rfl,rfl⟩
    rw [bitI_nat]
    go_wp2
    go_round
    case rel=>exact ⟨k+1,by omega,by go_num,by rw [i64_orBit _ _ b1 (by omega) b3 b4];rfl⟩
    case measure=>simp [intOf];omega
  · obtain rfl:k=d:=by omega
    go_wp2
    go_ret
    exact ⟨rfl,rfl⟩
theorem band_out (s:ByteArray) (d:Int) (w:World) (hd:d<0\/16<d) :
 Calls Tryz.prog 13 #[.string s,.int .i64 d] w fun e w'=>e=.returned (.int .i64 0)/\w=w':=by
 by_cases h0:d<0
 · go_enter Tryz.func13,Tryz.ntmps13
   go_wp2
   go_ret
   exact ⟨rfl,rfl⟩
 · have h1:16<d:=by omega
   clear hd
   go_enter Tryz.func13,Tryz.ntmps13
   go_wp2
   go_ret
   exact ⟨rfl,rfl⟩
theorem band_any (s:ByteArray) (d:Int) (w:World) (hs:s.size<=1152921504606846975) :
 Calls Tryz.prog 13 #[.string s,.int .i64 d] w fun e w'=>e=.returned (.int .i64 (bandI s.data.toList d))/\w=w':=by
 unfold bandI
 by_cases h0:0<=d/\d<=16
 · rw [if_pos h0]
   obtain ⟨k,rfl⟩:=Int.eq_ofNat_of_zero_le h0.1
   exact band_in s k w hs (by omega)
 · rw [if_neg h0];exact band_out s d w (by omega)
theorem make16 (w:World):(Instr.makeSlice 58 (.int .i64 16) (.int .i64 16)).run Tryz.prog w=.ok (.slice (some ⟨w.heap.size,0,none⟩) 16 16) (w.alloc (.cells (Array.replicate 16 (.int .u8 0)) 5)):=by kernel_rfl
def p2 (d:Nat):Int:=2^d
def topOf (b:Int) (d:Nat):Int:=b*2^(16 - d)
def twoBytes (t:Int):List UInt8:=[UInt8.ofNat (t/256).toNat,UInt8.ofNat (t%256).toNat]++List.replicate 14 0
def zeros16:List UInt8:=List.replicate 16 0
theorem p2_bd (d:Nat) (h:d<=16):1<=p2 d/\p2 d<=65536:=by
 unfold p2
 have h1:(2:Int)^d<=2^16:=by exact_mod_cast Nat.pow_le_pow_right (by decide) h
 have h2:(1:Int)<=2^d:=by exact_mod_cast Nat.one_le_two_pow
 have h3:(2:Int)^16=65536:=by decide
 omega
theorem p2_wrap (d:Nat) (h:d<=16):wrap64 (2^d)=p2 d:=by
 have:=p2_bd d h
 exact IntWalk.wrap64_in _ (by unfold p2 at this;omega)
theorem topOf_bd (b:Int) (d:Nat) (h:d<=16) (h0:0<=b) (h1:b<p2 d):0<=topOf b d/\topOf b d<65536:=by
 unfold topOf
 have h2:(0:Int)<2^(16 - d):=by exact_mod_cast Nat.two_pow_pos _
 have h3:(2:Int)^d*2^(16 - d)=65536:=by rw [<-Int.pow_add,show d+(16 - d)=16 from by omega];decide
 refine ⟨Int.mul_nonneg h0 (by omega),?_⟩
 rw [<-h3]
 exact Int.mul_lt_mul_of_pos_right h1 h2
theorem topOf_wrap (b:Int) (d:Nat) (h:d<=16) (h0:0<=b) (h1:b<p2 d):wrap64 (b*2^(16 - d))=topOf b d:=by
 have:=topOf_bd b d h h0 h1
 exact IntWalk.wrap64_in _ (by unfold topOf at this;omega)
theorem twoBytes_cells (t:Int) (h0:0<=t) (h1:t<65536):((Array.replicate 16 (Value.int .u8 0)).setIfInBounds 0 (.int .u8 (t/256))).setIfInBounds 1 (.int .u8 (t%256))=(bytesV (twoBytes t)).toArray:=by
 have e1:(((UInt8.ofNat (t/256).toNat).toNat:Nat):Int)=t/256:=by simp;omega
 have e2:(((UInt8.ofNat (t%256).toNat).toNat:Nat):Int)=t%256:=by simp;omega
 unfold twoBytes bytesV
 simp only [List.map_append,List.map_cons,List.map_nil,e1,e2]
 rfl
theorem string_two (t:Int) (h0:0<=t) (h1:t<65536) (w:World):(convert 58 9 (.slice (some ⟨w.heap.size,0,none⟩) 16 16)).run Tryz.prog (w.alloc (.cells (((Array.replicate 16 (.int .u8 0)).setIfInBounds 0 (.int .u8 (t/256))).setIfInBounds 1 (.int .u8 (t%256))) 5))=.ok (.string ⟨(twoBytes t).toArray⟩) (w.alloc (.cells (((Array.replicate 16 (.int .u8 0)).setIfInBounds 0 (.int .u8 (t/256))).setIfInBounds 1 (.int .u8 (t%256))) 5)):=by
 rw [twoBytes_cells t h0 h1]
 exact run_string_block Tryz.underlying58 Tryz.underlying5 Tryz.underlying9 (heap_alloc_new w _) rfl
theorem string_zeros (w:World):(convert 58 9 (.slice (some ⟨w.heap.size,0,none⟩) 16 16)).run Tryz.prog (w.alloc (.cells (Array.replicate 16 (.int .u8 0)) 5))=.ok (.string ⟨zeros16.toArray⟩) (w.alloc (.cells (Array.replicate 16 (.int .u8 0)) 5)):=by
 have e:Array.replicate 16 (Value.int .u8 0)=(bytesV zeros16).toArray:=rfl
 rw [e]
 exact run_string_block Tryz.underlying58 Tryz.underlying5 Tryz.underlying9 (heap_alloc_new w _) rfl
theorem first_in (b:Int) (d:Nat) (w:World) (hd:d<=16) (h0:0<=b) (hb:b<p2 d) :
 Calls Tryz.prog 45 #[.int .i64 b,.int .i64 d] w fun e w'=>e=.returned (.string ⟨(twoBytes (topOf b d)).toArray⟩)/\Below w.heap.size w w':=by
 have hmk:=make16
 have hp:=p2_wrap d hd
 obtain ⟨p1,p3⟩:=p2_bd d hd
 have ht:=topOf_wrap b d hd h0 hb
 obtain ⟨t1,t3⟩:=topOf_bd b d hd h0 hb
 have hst:=string_two (topOf b d) t1 t3
 go_enter Tryz.func45,Tryz.ntmps45
 go_wp2
 go_ret
 exact ⟨rfl,(Below.refl _ _).alloc (Nat.le_refl _) _⟩
theorem first_out (b d:Int) (w:World) (h:d<0\/16<d\/(0<=d/\d<=16/\(b<0\/p2 d.toNat<=b))) :
 Calls Tryz.prog 45 #[.int .i64 b,.int .i64 d] w fun e w'=>e=.returned (.string ⟨zeros16.toArray⟩)/\Below w.heap.size w w':=by
 have hmk:=make16
 have hst:=string_zeros
 rcases h with h | h | ⟨h0,h1,h | h⟩
 · go_enter Tryz.func45,Tryz.ntmps45
   go_wp2
   go_ret
   exact ⟨rfl,(Below.refl _ _).alloc (Nat.le_refl _) _⟩
 · have h0:0<=d:=by omega
   go_enter Tryz.func45,Tryz.ntmps45
   go_wp2
   go_ret
   exact ⟨rfl,(Below.refl _ _).alloc (Nat.le_refl _) _⟩
 · go_enter Tryz.func45,Tryz.ntmps45
   go_wp2
   go_ret
   exact ⟨rfl,(Below.refl _ _).alloc (Nat.le_refl _) _⟩
 · obtain ⟨k,rfl⟩:=Int.eq_ofNat_of_zero_le h0
   have hp:=p2_wrap k (by omega)
   rw [Int.toNat_natCast] at h
   have hb:=p2_bd k (by omega)
   have hb0:0<=b:=by omega
   clear hb
   go_enter Tryz.func45,Tryz.ntmps45
   go_wp2
   go_ret
   exact ⟨rfl,(Below.refl _ _).alloc (Nat.le_refl _) _⟩
def firstOf (b d:Int):List UInt8:=if 0<=d/\d<=16/\0<=b/\b<p2 d.toNat then twoBytes (topOf b d.toNat) else zeros16
theorem first_any (b d:Int) (w:World) :
 Calls Tryz.prog 45 #[.int .i64 b,.int .i64 d] w fun e w'=>e=.returned (.string ⟨(firstOf b d).toArray⟩)/\Below w.heap.size w w':=by
 unfold firstOf
 by_cases h:0<=d/\d<=16/\0<=b/\b<p2 d.toNat
 · rw [if_pos h]
   obtain ⟨h0,h1,h2,h3⟩:=h
   obtain ⟨k,rfl⟩:=Int.eq_ofNat_of_zero_le h0
   rw [Int.toNat_natCast] at h3 |-
   exact first_in b k w (by omega) h2 h3
 · rw [if_neg h]
   refine first_out b d w ?_
   by_cases h0:d<0
   · exact .inl h0
   · by_cases h1:16<d
     · exact .inr (.inl h1)
     · refine .inr (.inr ⟨by omega,by omega,?_⟩)
       by_cases h2:b<0
       · exact .inl h2
       · refine .inr ?_
         by_cases h3:b<p2 d.toNat
         · exact absurd ⟨by omega,by omega,by omega,h3⟩ h
         · omega
theorem bit_two (t:Int) (h0:0<=t) (h1:t<65536) (i:Nat) (hi:i<16):bitAt (twoBytes t) i=t/2^(15 - i)%2:=by
 obtain ⟨t,rfl⟩:=Int.eq_ofNat_of_zero_le h0
 have ht:t<65536:=by omega
 have key:∀ i,i<8->(t/256)/2^(7 - i)=t/2^(15 - i):=by
  intro i hi
  rw [Nat.div_div_eq_div_mul,show 256*2^(7 - i)=2^(15 - i) from by rw [show 15 - i=8+(7 - i) from by omega,Nat.pow_add]]
 have g0:(UInt8.ofNat ((t:Int)/256).toNat).toNat=t/256:=by simp;omega
 have g1:(UInt8.ofNat ((t:Int)%256).toNat).toNat=t%256:=by simp;omega
 by_cases h:i<8
 · have e:(twoBytes (t:Int)).getD (i/8) 0=UInt8.ofNat ((t:Int)/256).toNat:=by rw [show i/8=0 from by omega];rfl
   unfold bitAt
   rw [e,g0,show i%8=i from by omega,key i h]
   push_cast
   rfl
 · have e:(twoBytes (t:Int)).getD (i/8) 0=UInt8.ofNat ((t:Int)%256).toNat:=by rw [show i/8=1 from by omega];rfl
   unfold bitAt
   rw [e,g1,show 7 - i%8=15 - i from by omega]
   have hm:t%256/2^(15 - i)%2=t/2^(15 - i)%2:=by
    have:∀ j,j<8->t%256/2^j%2=t/2^j%2:=by
     intro j hj
     match j,hj with
     | 0,_=>omega
     | 1,_=>omega
     | 2,_=>omega
     | 3,_=>omega
     | 4,_=>omega
     | 5,_=>omega
     | 6,_=>omega
     | 7,_=>omega
    exact this _ (by omega)
   rw [hm]
   push_cast
   rfl
theorem bit_two_past (t:Int) (i:Nat) (hi:16<=i):bitAt (twoBytes t) i=0:=by
 have e:(twoBytes t).getD (i/8) 0=0:=by
  unfold twoBytes
  rw [List.getD_eq_getElem?_getD,List.getElem?_append_right (by simp;omega)]
  by_cases h:i/8 - 2<14
  · rw [List.getElem?_replicate_of_lt (by simpa using h)];rfl
  · rw [List.getElem?_eq_none (by simp;omega)];rfl
 unfold bitAt
 rw [e]
 simp
theorem band_two (t:Int) (h0:0<=t) (h1:t<65536) (k:Nat) (hk:k<=16):bandTo (twoBytes t) k=t/2^(16 - k):=by
 induction k with
 | zero=>simp [bandTo];omega
 | succ k ih=>
   rw [bandTo,ih (by omega),bit_two t h0 h1 k (by omega),show 16 - (k+1)=15 - k from by omega,show 16 - k=(15 - k)+1 from by omega,Int.pow_succ,<-Int.ediv_ediv_of_nonneg (Int.le_of_lt (by exact_mod_cast Nat.two_pow_pos _))]
   omega
theorem top_div (b:Int) (d:Nat):topOf b d/2^(16 - d)=b:=by
 unfold topOf
 exact Int.mul_ediv_cancel _ (Int.ne_of_gt (by exact_mod_cast Nat.two_pow_pos _))
theorem first_band (b:Int) (d:Nat) (hd:d<=16) (h0:0<=b) (h1:b<p2 d):bandTo (twoBytes (topOf b d)) d=b:=by
 obtain ⟨t0,t1⟩:=topOf_bd b d hd h0 h1
 rw [band_two _ t0 t1 d hd,top_div]
theorem first_low (b:Int) (d:Nat) (hd:d<=16) (h0:0<=b) (h1:b<p2 d) (i:Nat) (hi:d<=i):bitAt (twoBytes (topOf b d)) i=0:=by
 obtain ⟨t0,t1⟩:=topOf_bd b d hd h0 h1
 by_cases h:i<16
 · rw [bit_two _ t0 t1 i h]
   unfold topOf
   rw [show 16 - d=(15 - i)+(i - d)+1 from by omega,Int.pow_succ,Int.pow_add]
   have e:b*(2^(15 - i)*2^(i - d)*2)=2^(15 - i)*(b*2^(i - d)*2):=by
    rw [Int.mul_comm b,Int.mul_assoc,Int.mul_assoc,Int.mul_comm (2^(i - d)) (2*b),Int.mul_comm 2 b,Int.mul_assoc b 2,Int.mul_assoc b,Int.mul_comm 2]
   rw [e,Int.mul_ediv_cancel_left _ (Int.ne_of_gt (by exact_mod_cast Nat.two_pow_pos _))]
   omega
 · exact bit_two_past _ i (by omega)
theorem band_alike (a b:List UInt8) (k:Nat):bandTo a k=bandTo b k->alikeTo a b k=true:=by
 induction k with
 | zero=>intro _;rfl
 | succ k ih=>
   intro h
   have:=bitAt_bd a k
   have:=bitAt_bd b k
   simp only [bandTo] at h
   have e1:bandTo a k=bandTo b k:=by omega
   have e2:bitAt a k=bitAt b k:=by omega
   simp [alikeTo,ih e1,e2]
theorem alike_band (a b:List UInt8) (k:Nat):alikeTo a b k=true->bandTo a k=bandTo b k:=by
 induction k with
 | zero=>intro _;rfl
 | succ k ih=>
   intro e
   have h:=(alikeTo_iff a b (k+1)).1 e
   rw [bandTo,bandTo,ih ((alikeTo_iff a b k).2 fun i hi=>h i (by omega)),h k (by omega)]
def firstP (j d:Nat):Tx:=twoBytes (topOf j d)
theorem firstP_length (j d:Nat):(firstP j d).length=16:=rfl
theorem firstP_of (j d:Nat) (hd:d<=16) (hj:j<2^d):firstOf j d=firstP j d:=by
 unfold firstOf
 rw [if_pos ⟨by omega,by omega,by omega,by unfold p2;rw [Int.toNat_natCast];exact_mod_cast hj⟩,Int.toNat_natCast];rfl
theorem firstP_lt {j d:Nat} (hj:j<2^d):((j:Nat):Int)<p2 d:=by unfold p2;exact_mod_cast hj
theorem firstP_band (j d:Nat) (hd:d<=16) (hj:j<2^d):bandTo (firstP j d) d=j:=first_band j d hd (by omega) (firstP_lt hj)
theorem firstP_low (j d:Nat) (hd:d<=16) (hj:j<2^d) (i:Nat) (hi:d<=i):bitAt (firstP j d) i=0:=first_low j d hd (by omega) (firstP_lt hj) i hi
theorem firstP_alike (x:Tx) (j d:Nat) (hd:d<=16) (hj:j<2^d):alikeTo x (firstP j d) d=true ↔ bandTo x d=j:=by
 constructor
 · intro h;rw [alike_band _ _ _ h,firstP_band j d hd hj]
 · intro h;exact band_alike _ _ _ (by rw [h,firstP_band j d hd hj])
variable (h:Hs)
def Hs.level (h:Hs) (m:Puts) (d:Nat):List Tx:=(List.range (2^d)).map fun j=>h.at (valOf m) (keysOf m) (firstP j d) d
theorem level_length (m:Puts) (d:Nat):(h.level m d).length=2^d:=by unfold Hs.level;simp
theorem level_at (m:Puts) (d j:Nat) (hj:j<2^d):(h.level m d).getD j []=h.at (valOf m) (keysOf m) (firstP j d) d:=by
 unfold Hs.level
 rw [List.getD_eq_getElem?_getD,List.getElem?_map,List.getElem?_range hj];rfl
theorem level_zero (m:Puts):h.level m 0=[h.at (valOf m) (keysOf m) [] 0]:=by
 unfold Hs.level
 rw [show List.range (2^0)=[0] from rfl,List.map_singleton]
 rw [at_congr h (valOf m) (keysOf m) (p:=firstP 0 0) (q:=[]) (d:=0) rfl]
def Hs.pairs (h:Hs):List Tx->List Tx
 | a :: b :: r=>h.jn a b :: Hs.pairs h r
 | _=>[]
theorem pairs_append (a b:Tx):∀ (n:Nat) (l:List Tx),l.length=2*n->h.pairs (l++[a,b])=h.pairs l++[h.jn a b]
 | 0,[],_=>rfl
 | 0,_ :: _,e=>by simp at e
 | n+1,[],e=>by simp at e
 | n+1,[_],e=>by simp at e;omega
 | n+1,x :: y :: l,e=>by
   rw [List.cons_append,List.cons_append,Hs.pairs,pairs_append a b n l (by simp at e;omega),Hs.pairs,List.cons_append]
theorem pairs_range (f:Nat->Tx):∀ n,h.pairs ((List.range (2*n)).map f)=(List.range n).map fun j=>h.jn (f (2*j)) (f (2*j+1))
 | 0=>rfl
 | n+1=>by
   rw [show 2*(n+1)=2*n+1+1 from by omega,List.range_succ,List.range_succ,List.map_append,List.map_append,List.append_assoc]
   rw [show [2*n].map f++[2*n+1].map f=[f (2*n),f (2*n+1)] from rfl,pairs_append h _ _ n _ (by simp),pairs_range f n,List.range_succ,List.map_append];rfl
theorem level_up (m:Puts) (d:Nat) (hd:d<16):h.pairs (h.level m (d+1))=h.level m d:=by
 unfold Hs.level
 rw [show 2^(d+1)=2*2^d from by rw [Nat.pow_succ,Nat.mul_comm],pairs_range]
 refine List.map_congr_left fun j hj=>?_
 have hj:j<2^d:=List.mem_range.1 hj
 have h2:2^(d+1)=2*2^d:=by rw [Nat.pow_succ,Nat.mul_comm]
 have b0:bitAt (firstP j d) d=0:=firstP_low j d (by omega) hj d (Nat.le_refl _)
 have e0:alikeTo (firstP j d) (firstP (2*j) (d+1)) (d+1)=true:=by
  rw [firstP_alike _ (2*j) (d+1) (by omega) (by omega),bandTo,firstP_band j d (by omega) hj,b0];omega
 have tb:=turn_bit (firstP j d) d d (by rw [firstP_length];omega)
 rw [if_pos rfl,b0] at tb
 have ta:=alike_band _ _ _ (turn_alike (firstP j d) d (by rw [firstP_length];omega))
 have e1:alikeTo (turn (firstP j d) d) (firstP (2*j+1) (d+1)) (d+1)=true:=by
  rw [firstP_alike _ (2*j+1) (d+1) (by omega) (by omega),bandTo,ta,firstP_band j d (by omega) hj,tb];omega
 rw [at_step h (valOf m) (keysOf m) (firstP j d) d (by omega) (firstP_length j d),b0,if_pos (show ((0:Int)==0)=true from rfl),at_congr h _ _ e0,at_congr h _ _ e1]
def ofBand (A:Puts) (d b:Nat):Puts:=A.filter fun q=>bandTo q.1 d==(b:Int)
def upto (A:Puts) (d:Nat) (m:Puts):Nat->Puts
 | 0=>m
 | b+1=>(ofBand A d b).reverse++upto A d m b
theorem upto_length (A m:Puts) (d:Nat):∀ b:Nat,(upto A d m b).length<=b*A.length+m.length
 | 0=>by simp [upto]
 | b+1=>by
   have:=upto_length A m d b
   have h2:(ofBand A d b).length<=A.length:=List.length_filter_le _ _
   rw [upto,List.length_append,List.length_reverse,Nat.add_mul,Nat.one_mul]
   omega
structure TreeAt (w:World) (p b:Nat) (m:Puts):Prop where
 blk:w.heap[p]?=some (.cells #[.map (some b)] 113 (0,0))
 map:∃ D,w.ownsMap Tryz.prog 9 (plainElem Tryz.prog 9) b m.length D/\Agrees D m
 small:∀ q∈m,q.1.length=16/\q.2.length<=1000
 few:m.length<=1000
theorem ownsMap_touch {S:Nat->Prop} {w w':World} {P:Program} {k:TypeId} {R:Value->Option (DataW Nat×List MemPlace)} {b n:Nat} {D:DataW Nat} (h:w.ownsMap P k R b n D) (ht:Touch S w w') (hb:¬ S b):w'.ownsMap P k R b n D:=by
 obtain ⟨es,clock,h1,F,hs,hD⟩:=h
 exact ⟨es,clock,ht.heap h1 hb,F,hs,hD⟩
theorem TreeAt.touch {S:Nat->Prop} {w w':World} {p b:Nat} {m:Puts} (h:TreeAt w p b m) (ht:Touch S w w') (hp:¬ S p) (hb:¬ S b):TreeAt w' p b m:=by
 obtain ⟨D,h1,h2⟩:=h.map
 exact ⟨ht.heap h.blk hp,⟨D,ownsMap_touch h1 ht hb,h2⟩,h.small,h.few⟩
theorem TreeAt.old {w w':World} {p b:Nat} {m:Puts} (h:TreeAt w p b m) (hb:Below w.heap.size w w'):TreeAt w' p b m:=h.touch (Touch.of_below hb (fun _=>False)) id id
theorem TreeAt.lt {w:World} {p b:Nat} {m:Puts} (h:TreeAt w p b m):p<w.heap.size/\b<w.heap.size:=by
 obtain ⟨D,h1,_⟩:=h.map
 exact ⟨(Array.getElem?_eq_some_iff.1 h.blk).1,h1.lt⟩
theorem TreeAt.ne {w:World} {p b:Nat} {m:Puts} (h:TreeAt w p b m):p≠b:=by
 obtain ⟨D,⟨es,clock,h1,_⟩,_⟩:=h.map
 rintro rfl
 rw [h.blk] at h1
 cases h1
theorem TreeAt.cell {w:World} {p b:Nat} {m:Puts} (h:TreeAt w p b m):w.cell? ⟨p,0,none⟩=some (.map (some b)):=by
 rw [cell_of_row _ _ 0 _ _ _ h.blk];rfl
theorem TreeAt.look {w:World} {p b:Nat} {m:Puts} (h:TreeAt w p b m) (c:Bool) (k:ByteArray) (hk:k.size<=maxLen) :
 (Instr.lookup 111 (.map (some b)) (.string k) c).run Tryz.prog w=.ok (if c then .tuple #[.string ⟨(valOf m k.data.toList).toArray⟩,.bool (m.lookup k.data.toList).isSome] else .string ⟨(valOf m k.data.toList).toArray⟩) w:=by
 obtain ⟨D,h1,h2⟩:=h.map
 exact map_look c Tryz.underlying9 Tryz.underlying111 (Tryz.zeroValue9 w) h1 h2 k hk
theorem valOf_length {m:Puts} (h:∀ q∈m,q.1.length=16/\q.2.length<=1000) (k:Tx):(valOf m k).length<=1000:=by
 unfold valOf
 induction m with
 | nil=>simp
 | cons q m ih=>
   obtain ⟨a,v⟩:=q
   rw [List.lookup_cons]
   split
   · exact (h (a,v) (by simp)).2
   · exact ih fun q hq=>h q (by simp [hq])
theorem tnew_any (w:World) :
 Calls Tryz.prog 7 #[] w fun e w'=>∃ p b,e=.returned (.pointer (some ⟨p,0,none⟩))/\TreeAt w' p b []/\w.heap.size<=p/\w.heap.size<=b/\Below w.heap.size w w':=by
 have hmm:=@run_makeMap Tryz.prog
 go_enter Tryz.func7,Tryz.ntmps7
 go_wp2
 go_ret
 refine ⟨_,_,rfl,⟨heap_alloc2_new _ _ _,⟨.map [],(World.ownsMap_made w _ _ _).alloc _,agrees_nil⟩,by simp,by simp⟩,?_,Nat.le_refl _,((Below.refl _ _).alloc (Nat.le_refl _) _).alloc (by simp) _⟩
 simp
theorem tget_any (p b:Nat) (m:Puts) (k:ByteArray) (w:World) (h:TreeAt w p b m) (hk:k.size=16) :
 Calls Tryz.prog 18 #[.pointer (some ⟨p,0,none⟩),.string k] w fun e w'=>e=.returned (.tuple #[.string ⟨(valOf m k.data.toList).toArray⟩,.bool (m.lookup k.data.toList).isSome])/\w=w':=by
 have hc:=h.cell
 have hl:=h.look true k (by rw [hk];decide)
 rw [if_pos rfl] at hl
 clear h
 go_enter Tryz.func18,Tryz.ntmps18
 go_wp2
 go_ret2
 exact ⟨rfl,rfl⟩
theorem tput_any (p b:Nat) (m:Puts) (k v:ByteArray) (w:World) (h:TreeAt w p b m) (hk:k.size=16) (hv:v.size<=1000) (hm:m.length<1000) :
 Calls Tryz.prog 8 #[.pointer (some ⟨p,0,none⟩),.string k,.string v] w fun e w'=>e=.returned (.int .i64 0)/\TreeAt w' p b ((k.data.toList,v.data.toList) :: m)/\Touch (·=b) w w':=by
 have hc:=h.cell
 obtain ⟨D,h1,h2⟩:=h.map
 obtain ⟨w',hrun,hown,hgrow⟩:=h1.update (Maps.string_keyed Tryz.underlying9) Tryz.underlying111 (by unfold maxLen;omega) (WideMaps.keyOf_string_mk Tryz.underlying9 (s:=k) (by rw [hk];decide)) (plainElem_string Tryz.underlying9 (s:=v) (by unfold maxLen;omega))
 have hT:Touch (·=b) w w':=(Touch.grown hgrow).mono (fun k hk=>.inl (by simpa using hk))
 have hfin:TreeAt w' p b ((k.data.toList,v.data.toList) :: m):=⟨hT.heap h.blk h.ne,⟨_,hown,h2.put _ _⟩,by
  intro q hq
  rcases List.mem_cons.1 hq with rfl | hq
  · exact ⟨by simpa using hk,by simpa using hv⟩
  · exact h.small q hq,by simp;omega⟩
 have HF:=Lib.hid (And.intro hfin hT)
 have hk':((k.size:Int) != 16)=false:=by rw [hk];rfl
 clear h h1 h2 hown hgrow hT hfin hm hv
 go_enter Tryz.func8,Tryz.ntmps8
 go_wp2
 go_ret
 exact ⟨rfl,HF.out.1,HF.out.2⟩
def byteI (l:List UInt8) (i:Nat):Int:=((l.getD i 0).toNat:Int)
theorem byteI_bd (l:List UInt8) (i:Nat):0<=byteI l i/\byteI l i<256:=by unfold byteI;have:=(l.getD i 0).toNat_lt;omega
theorem u32_byte (x:Int) (h:0<=x/\x<256):IntKind.u32.wrap x=x:=by show x%4294967296=x;omega
def rotl (x:Int) (s:Nat):Int:=bits BinOp.or IntKind.u32 (x*2^s%4294967296) (x/2^(32 - s))
theorem rot_any (x:Int) (k:Int) (s:Nat) (hs:bits BinOp.and IntKind.u64 (IntKind.u64.wrap k) 31=(s:Int)) (h1:1<=s) (h2:s<=31) (w:World) :
 Calls Tryz.prog 152 #[.int .u32 x,.int .i64 k] w fun e w'=>e=.returned (.int .u32 (rotl x s))/\w=w':=by
 go_enter Tryz.func152,Tryz.ntmps152
 go_wp2
 go_ret
 exact ⟨rfl,rfl⟩
def u32s (l:List Int):List Value:=l.map (Value.int .u32)
def init8:List Int:=[1779033703,3144134277,1013904242,2773480762,1359893119,2600822924,528734635,1541459225]
theorem first_any' (w:World) :
 Calls Tryz.prog 88 #[] w fun e w'=>e=.returned (.agg (u32s init8).toArray)/\Below w.heap.size w w':=by
 go_enter Tryz.func88,Tryz.ntmps88
 go_wp2
 refine bodyPost_ret (results_cell_row rfl _ _ w.heap.size 180 (u32s init8).toArray (0,0) _ rfl (heap_alloc_new _ _) Tryz.underlying180 rfl (by kernel_rfl)) rfl ?_
 exact ⟨rfl,(Below.refl _ _).alloc (Nat.le_refl _) _⟩
theorem bytesV_getD (l:List UInt8) (i:Nat) (h:i<l.length):(bytesV l).getD i undef=.int .u8 (byteI l i):=by
 unfold bytesV byteI
 rw [List.getD_eq_getElem?_getD,List.getElem?_map,List.getElem?_eq_getElem h,List.getD_eq_getElem?_getD,List.getElem?_eq_getElem h];rfl
def wordOf (a b c d:Int):Int:=bits BinOp.or IntKind.u32 (bits BinOp.or IntKind.u32 (bits BinOp.or IntKind.u32 (a*16777216) (b*65536)) (c*256)) d
def sig0 (x:Int):Int:=bits BinOp.xor IntKind.u32 (bits BinOp.xor IntKind.u32 (rotl x 25) (rotl x 14)) (x/8)
def sig1 (x:Int):Int:=bits BinOp.xor IntKind.u32 (bits BinOp.xor IntKind.u32 (rotl x 15) (rotl x 13)) (x/1024)
def late (p x q y:Int):Int:=(p+sig0 x+q+sig1 y)%4294967296
def words (l:List UInt8):Nat->List Int
 | 0=>[]
 | k+1=>words l k++[if k<16 then wordOf (byteI l (4*k)) (byteI l (4*k+1)) (byteI l (4*k+2)) (byteI l (4*k+3))
    else late ((words l k).getD (k - 16) 0) ((words l k).getD (k - 15) 0) ((words l k).getD (k - 7) 0) ((words l k).getD (k - 2) 0)]
theorem words_length (l:List UInt8):∀ k,(words l k).length=k
 | 0=>rfl
 | k+1=>by rw [words,List.length_append,words_length l k];rfl
def row64 (l:List UInt8) (k:Nat):Array Value:=(u32s (words l k++List.replicate (64 - k) 0)).toArray
theorem row64_size (l:List UInt8) (k:Nat) (h:k<=64):(row64 l k).size=64:=by simp [row64,u32s,words_length];omega
theorem row64_zero (l:List UInt8):Array.replicate 64 (Value.int .u32 0)=row64 l 0:=by simp only [row64,u32s,words,List.nil_append,List.map_replicate];rfl
theorem row64_get (l:List UInt8) (k j:Nat) (h:j<k):(row64 l k)[j]?=some (.int .u32 ((words l k).getD j 0)):=by
 have hl:=words_length l k
 have hj:j<(words l k).length:=by omega
 unfold row64 u32s
 rw [List.map_append,List.getElem?_toArray,List.getElem?_append_left (by rw [List.length_map];exact hj),List.getElem?_map,List.getD_eq_getElem?_getD,List.getElem?_eq_getElem hj]
 rfl
theorem row64_at (l:List UInt8) (k:Nat) (h:k<64):(row64 l k)[k]?=some (.int .u32 0):=by
 have hl:=words_length l k
 have e:(List.map (Value.int .u32) (words l k)).length=k:=by rw [List.length_map,hl]
 unfold row64 u32s
 rw [List.map_append,List.getElem?_toArray,List.getElem?_append_right (by rw [e];exact Nat.le_refl _),e,Nat.sub_self,show 64 - k=(64 - (k+1))+1 from by omega,List.replicate_succ]
 rfl
theorem row64_set (l:List UInt8) (k:Nat) (hk:k<64) (z:Int) (hz:words l (k+1)=words l k++[z]):(row64 l k).setIfInBounds k (.int .u32 z)=row64 l (k+1):=by
 have hl:=words_length l k
 unfold row64 u32s
 rw [hz]
 apply Array.ext'
 rw [Array.toList_setIfInBounds]
 simp only [List.map_append,List.map_replicate]
 have e:(List.map (Value.int .u32) (words l k)).length=k:=by rw [List.length_map,hl]
 rw [show 64 - k=(64 - (k+1))+1 from by omega,List.replicate_succ,List.set_append_right _ _ (by omega),e,Nat.sub_self,List.set_cons_zero]
 simp
structure Sch (w W:World) (l:List UInt8) (k:Nat):Prop where
 out:W.heap[w.heap.size]?=some (.cells (row64 l 0) 247)
 blk:W.heap[w.heap.size+1]?=some (.cells (row64 l k) 247)
 below:Below w.heap.size w W
theorem Sch.drew {w W:World} {l:List UInt8} {k:Nat} (h:Sch w W l k) (n:Nat):Sch w (W.drewN n) l k:=⟨h.out,h.blk,h.below.trans ⟨rfl,rfl,rfl,Nat.le_refl _,fun _ _=>rfl⟩⟩
theorem Sch.step {w W:World} {l:List UInt8} {k:Nat} (h:Sch w W l k) (hk:k<64) (z:Int) (hz:words l (k+1)=words l k++[z]):Sch w (W.setCell ⟨w.heap.size+1,k,none⟩ (.int .u32 z)) l (k+1):=by
 refine ⟨?_,?_,h.below.setCell (Nat.le_succ _) _⟩
 · rw [heap_setCell_other _ _ _ _ (by show w.heap.size≠w.heap.size+1;omega)];exact h.out
 · rw [<-row64_set l k hk z hz];exact heap_setCell_same W _ _ _ _ _ h.blk
theorem schedule_any (v:Value) (l:List UInt8) (w:World) (hv:Cells w v (bytesV l)) (hl:64<=l.length) (hl2:l.length<=140737488355328) :
 Calls Tryz.prog 151 #[v] w fun e w'=>e=.returned (.agg (row64 l 64))/\Below w.heap.size w w':=by
 obtain ⟨a,cap,rfl,hc⟩:=hv
 obtain ⟨b,off,rfl,hb,hc⟩:=hc (by intro e;have:=congrArg List.length e;simp [bytesV] at this;subst this;simp at hl)
 have HC:=Lib.hid hc
 have hlen:(bytesV l).length=l.length:=by simp [bytesV]
 rw [hlen]
 clear hc hlen
 have hz:=Lib.hid (row64_zero l)
 go_enter Tryz.func151,Tryz.ntmps151
 go_wp2_with fail
 obtain ⟨W0,hW0⟩:∃ W0,W0=(w.alloc (.cells (row64 l 0) 247)).alloc (.cells (row64 l 0) 247):=⟨_,rfl⟩
 have h1:W0.heap[w.heap.size]?=some (.cells (row64 l 0) 247):=by
  rw [hW0,Below.heap_alloc _ _ _ (by simp)];exact heap_alloc_new _ _
 have h2:W0.heap[w.heap.size+1]?=some (.cells (row64 l 0) 247):=by rw [hW0];exact heap_alloc2_new _ _ _
 have hb0:Below w.heap.size w W0:=by rw [hW0];exact ((Below.refl _ _).alloc (Nat.le_refl _) _).alloc (by simp) _
 rw [<-row64_zero l] at hW0
 simp only [Array.replicate_succ,Array.replicate_zero,List.push_toArray,List.nil_append,List.cons_append] at hW0
 rw [<-hW0]
 clear hW0 hz
 have hS0:Sch w W0 l 0:=⟨h1,h2,hb0⟩
 clear h1 h2 hb0
 go_loopw [10] (fun i W=>∃ k:Nat,k<=16/\i=.int .i64 k/\Sch w W l k) (fun i _=>16 - (intOf i).toNat)
 case atStart=>exact ⟨0,Nat.zero_le _,rfl,hS0⟩
 case round=>
  obtain ⟨k,hk,rfl,hS⟩:=hrel
  by_cases hlt:k<16
  · have c0:=HC.out (4*k) (by rw [bytesV_length];omega)
    have c1:=HC.out (4*k+1) (by rw [bytesV_length];omega)
    have c2:=HC.out (4*k+2) (by rw [bytesV_length];omega)
    have c3:=HC.out (4*k+3) (by rw [bytesV_length];omega)
    rw [<-hS.below.cell (p:=⟨b,_,none⟩) hb,bytesV_getD l _ (by omega)] at c0 c1 c2 c3
    have hw:words l (k+1)=words l k++[wordOf (byteI l (4*k)) (byteI l (4*k+1)) (byteI l (4*k+2)) (byteI l (4*k+3))]:=by rw [words,if_pos hlt]
    unfold wordOf at hw
    have cs:wr.cell? ⟨w.heap.size+1,k,none⟩=some (.int .u32 0):=by rw [cell_of_row _ _ k _ _ _ hS.blk];exact row64_at l k (by omega)
    have fs:wr.frozen? ⟨w.heap.size+1,k,none⟩=false:=frozen_of_row _ _ k _ _ hS.blk
    have r0:=byteI_bd l (4*k)
    have r1:=byteI_bd l (4*k+1)
    have r2:=byteI_bd l (4*k+2)
    have r3:=byteI_bd l (4*k+3)
    generalize byteI l (4*k)=x0 at c0 hw r0
    generalize byteI l (4*k+1)=x1 at c1 hw r1
    generalize byteI l (4*k+2)=x2 at c2 hw r2
    generalize byteI l (4*k+3)=x3 at c3 hw r3
    have HW:=Lib.hid hw
    have HS:=Lib.hid hS
    clear hw hS
    go_wp2_with fail
    obtain ⟨m,hm⟩:∃ m,m=4*k:=⟨_,rfl⟩
    obtain ⟨m1,hm1⟩:∃ m1,m1=m+1:=⟨_,rfl⟩
    obtain ⟨m2,hm2⟩:∃ m2,m2=m+2:=⟨_,rfl⟩
    obtain ⟨m3,hm3⟩:∃ m3,m3=m+3:=⟨_,rfl⟩
    rw [<-hm] at c0 c1 c2 c3
    rw [<-hm1] at c1
    rw [<-hm2] at c2
    rw [<-hm3] at c3
    have w0:IntKind.i64.wrap (4*(k:Int))=(m:Int):=by rw [show (4*(k:Int))=(m:Int) from by omega];exact IntWalk.i64_in _ (by omega)
    have w1:IntKind.i64.wrap ((m:Int)+1)=(m1:Int):=by rw [show (m:Int)+1=(m1:Int) from by omega];exact IntWalk.i64_in _ (by omega)
    have w2:IntKind.i64.wrap ((m:Int)+2)=(m2:Int):=by rw [show (m:Int)+2=(m2:Int) from by omega];exact IntWalk.i64_in _ (by omega)
    have w3:IntKind.i64.wrap ((m:Int)+3)=(m3:Int):=by rw [show (m:Int)+3=(m3:Int) from by omega];exact IntWalk.i64_in _ (by omega)
    have i0:(m:Int)<(l.length:Int):=by omega
    have i1:(m1:Int)<(l.length:Int):=by omega
    have i2:(m2:Int)<(l.length:Int):=by omega
    have i3:(m3:Int)<(l.length:Int):=by omega
    clear hm hm1 hm2 hm3
    have y0:=u32_byte x0 r0
    have y1:=u32_byte x1 r1
    have y2:=u32_byte x2 r2
    have y3:=u32_byte x3 r3
    go_still_tail 34,(by kernel_rfl)
    change wpList _ _ _ _ _ wr.drew
    have HS:Hid (Sch w wr.drew l k):=Lib.hid (HS.out.drew 1)
    have hk64:(k:Int)<64:=by omega
    have cs:wr.drew.cell? ⟨w.heap.size+1,k,none⟩=some (.int .u32 0):=cs
    have fs:wr.drew.frozen? ⟨w.heap.size+1,k,none⟩=false:=fs
    generalize wr.drew=W at HS cs fs |-
    go_wp2
    go_roundw
    case rel=>exact ⟨k+1,by omega,by go_num,HS.out.step (by omega) _ HW.out⟩
    case measure=>simp [intOf];omega
  · have h16:k=16:=by omega
    have HS:Hid (Sch w wr l 16):=Lib.hid (h16 ▸ hS)
    have hge:¬ (k:Int)<16:=by omega
    clear hS hS0 h16
    go_wp2_with fail
    go_loopw [5] (fun i W=>∃ k:Nat,16<=k/\k<=64/\i=.int .i64 k/\Sch w W l k) (fun i _=>64 - (intOf i).toNat)
    case atStart=>exact ⟨16,Nat.le_refl _,by decide,rfl,HS.out⟩
    case round=>
     obtain ⟨k,h16,hk,rfl,hS⟩:=hrel
     by_cases hlt:k<64
     · have c15:wr.cell? ⟨w.heap.size+1,k - 15,none⟩=some (.int .u32 ((words l k).getD (k - 15) 0)):=by rw [cell_of_row _ _ _ _ _ _ hS.blk];exact row64_get l k _ (by omega)
       have c2:wr.cell? ⟨w.heap.size+1,k - 2,none⟩=some (.int .u32 ((words l k).getD (k - 2) 0)):=by rw [cell_of_row _ _ _ _ _ _ hS.blk];exact row64_get l k _ (by omega)
       have c16:wr.cell? ⟨w.heap.size+1,k - 16,none⟩=some (.int .u32 ((words l k).getD (k - 16) 0)):=by rw [cell_of_row _ _ _ _ _ _ hS.blk];exact row64_get l k _ (by omega)
       have c7:wr.cell? ⟨w.heap.size+1,k - 7,none⟩=some (.int .u32 ((words l k).getD (k - 7) 0)):=by rw [cell_of_row _ _ _ _ _ _ hS.blk];exact row64_get l k _ (by omega)
       have cs:wr.cell? ⟨w.heap.size+1,k,none⟩=some (.int .u32 0):=by rw [cell_of_row _ _ k _ _ _ hS.blk];exact row64_at l k (by omega)
       have fs:wr.frozen? ⟨w.heap.size+1,k,none⟩=false:=frozen_of_row _ _ k _ _ hS.blk
       have hw:words l (k+1)=words l k++[late ((words l k).getD (k - 16) 0) ((words l k).getD (k - 15) 0) ((words l k).getD (k - 7) 0) ((words l k).getD (k - 2) 0)]:=by rw [words,if_neg (by omega)]
       generalize (words l k).getD (k - 15) 0=x at c15 hw
       generalize (words l k).getD (k - 2) 0=y at c2 hw
       generalize (words l k).getD (k - 16) 0=p at c16 hw
       generalize (words l k).getD (k - 7) 0=q at c7 hw
       obtain ⟨k15,e15⟩:∃ n,n=k - 15:=⟨_,rfl⟩
       obtain ⟨k2,e2⟩:∃ n,n=k - 2:=⟨_,rfl⟩
       obtain ⟨k16,e16⟩:∃ n,n=k - 16:=⟨_,rfl⟩
       obtain ⟨k7,e7⟩:∃ n,n=k - 7:=⟨_,rfl⟩
       rw [<-e15] at c15
       rw [<-e2] at c2
       rw [<-e16] at c16
       rw [<-e7] at c7
       have d15:(k:Int) - 15=(k15:Int):=by omega
       have d2:(k:Int) - 2=(k2:Int):=by omega
       have d16:(k:Int) - 16=(k16:Int):=by omega
       have d7:(k:Int) - 7=(k7:Int):=by omega
       have i15:(k15:Int)<64:=by omega
       have i2:(k2:Int)<64:=by omega
       have i16:(k16:Int)<64:=by omega
       have i7:(k7:Int)<64:=by omega
       have ik:(k:Int)<64:=by omega
       have HW:=Lib.hid hw
       have HS:=Lib.hid hS
       clear hw hS e15 e2 e16 e7
       go_wp2_with fail
       go_quiet (fail)
       go_wp2_with fail
       refine (rot_any x (-7) 25 (by kernel_rfl) (by decide) (by decide) _).mono ?_
       rintro e w' ⟨rfl,rfl⟩
       go_wp2_with fail
       refine (rot_any x (-18) 14 (by kernel_rfl) (by decide) (by decide) _).mono ?_
       rintro e w' ⟨rfl,rfl⟩
       go_wp2_with fail
       refine (rot_any y (-17) 15 (by kernel_rfl) (by decide) (by decide) _).mono ?_
       rintro e w' ⟨rfl,rfl⟩
       go_wp2_with fail
       refine (rot_any y (-19) 13 (by kernel_rfl) (by decide) (by decide) _).mono ?_
       rintro e w' ⟨rfl,rfl⟩
       go_wp2_with fail
       have HS:Hid (Sch w (wr.drewN nq) l k):=Lib.hid (HS.out.drew nq)
       replace c16:(wr.drewN nq).cell? ⟨w.heap.size+1,k16,none⟩=some (.int .u32 p):=c16
       replace c7:(wr.drewN nq).cell? ⟨w.heap.size+1,k7,none⟩=some (.int .u32 q):=c7
       replace cs:(wr.drewN nq).cell? ⟨w.heap.size+1,k,none⟩=some (.int .u32 0):=cs
       replace fs:(wr.drewN nq).frozen? ⟨w.heap.size+1,k,none⟩=false:=fs
       clear c15 c2
       generalize wr.drewN nq=W at HS c16 c7 cs fs |-
       have d16':IntKind.i64.wrap ((k:Int) - 16)=(k16:Int):=by rw [d16];exact IntWalk.i64_in _ (by omega)
       have d7':IntKind.i64.wrap ((k:Int) - 7)=(k7:Int):=by rw [d7];exact IntWalk.i64_in _ (by omega)
       clear d16 d7 d15 d2
       change Hid (_=_++[(p+bits BinOp.xor IntKind.u32 (bits BinOp.xor IntKind.u32 (rotl x 25) (rotl x 14)) (x/8)+q+bits BinOp.xor IntKind.u32 (bits BinOp.xor IntKind.u32 (rotl y 15) (rotl y 13)) (y/1024))%4294967296]) at HW
       generalize bits BinOp.xor IntKind.u32 (bits BinOp.xor IntKind.u32 (rotl x 25) (rotl x 14)) (x/8)=sx at HW |-
       generalize bits BinOp.xor IntKind.u32 (bits BinOp.xor IntKind.u32 (rotl y 15) (rotl y 13)) (y/1024)=sy at HW |-
       go_still_tail 14,(by kernel_rfl)
       change wpList _ _ _ _ _ W.drew
       have HS:Hid (Sch w W.drew l k):=Lib.hid (HS.out.drew 1)
       replace cs:W.drew.cell? ⟨w.heap.size+1,k,none⟩=some (.int .u32 0):=cs
       replace fs:W.drew.frozen? ⟨w.heap.size+1,k,none⟩=false:=fs
       clear c16 c7 d16' d7'
       generalize W.drew=W2 at HS cs fs |-
       go_wp2
       go_roundw
       case rel=>exact ⟨k+1,by omega,by omega,by go_num,HS.out.step (by omega) _ HW.out⟩
       case measure=>simp [intOf];omega
     · have h64:k=64:=by omega
       have hS:Sch w wr l 64:=h64 ▸ hS
       have hge2:¬ (k:Int)<64:=by omega
       have hout:=Lib.hid hS.out
       have hblk:=Lib.hid hS.blk
       have hbel:=Lib.hid hS.below
       clear hS h64 h16 hk hlt
       go_wp2_with (first | (refine wpList_load_row rfl 247 _ rfl _ rfl 247 _ _ _ hblk.out Tryz.underlying247 rfl ?_ ?_;rw [row64_size l 64 (by decide)];kernel_rfl) | (refine wpList_store_row rfl 247 _ _ rfl _ _ rfl rfl 247 _ hout.out ?_ ?_ ?_ ?_))
       · exact ⟨_,rfl,by rw [row64_size l 64 (by decide)];kernel_rfl⟩
       · rw [row64_size l 0 (by decide),row64_size l 64 (by decide)]
       · intro i hi
         simp [row64,u32s,Value.oneCell']
       · refine bodyPost_ret (results_cell_row rfl _ _ w.heap.size 247 (row64 l 64) (0,0) _ rfl (setRow_heap wr _ _ _ _ _ hout.out) Tryz.underlying247 rfl (by rw [row64_size l 64 (by decide)];kernel_rfl)) rfl ?_
         exact ⟨rfl,below_setRow hbel.out (Nat.le_refl _) _⟩
def kTab:List Int:=[1116352408,1899447441,3049323471,3921009573,961987163,1508970993,2453635748,2870763221,3624381080,310598401,607225278,1426881987,1925078388,2162078206,2614888103,3248222580,3835390401,4022224774,264347078,604807628,770255983,1249150122,1555081692,1996064986,2554220882,2821834349,2952996808,3210313671,3336571891,3584528711,113926993,338241895,666307205,773529912,1294757372,1396182291,1695183700,1986661051,2177026350,2456956037,2730485921,2820302411,3259730800,3345764771,3516065817,3600352804,4094571909,275423344,430227734,506948616,659060556,883997877,958139571,1322822218,1537002063,1747873779,1955562222,2024104815,2227730452,2361852424,2428436474,2756734187,3204031479,3329325298]
def Kon (w:World):Prop:=Lib.TabIs Tryz.prog w "plumbob/sha.constants" .u32 kTab
theorem Tryz.konName:Tryz.prog.globalNamed "plumbob/sha.constants" = some 0:=by kernel_rfl
theorem var?_below {P:Program} {B g:Nat} {W W':World} {n:String} {cs:Array Value} (h:Below B W W') (hg:P.globalNamed n=some g) (hgB:g<B) (hv:W.var? P n=some cs):W'.var? P n=some cs:=by
 unfold World.var? at hv |-
 rw [hg] at hv |-
 simp only [Option.bind_some] at hv |-
 rw [h.block g hgB]
 exact hv
theorem Kon.below {B:Nat} {w w':World} (h:Kon w) (hb:Below B w w') (hB:0<B):Kon w':=var?_below hb Tryz.konName hB h
theorem Kon.cell {w:World} (h:Kon w) (i:Nat) (hi:i<64):w.cell? ⟨0,i,none⟩=some (.int .u32 (kTab.getD i 0)):=by
 rw [World.var?_cell Tryz.konName h i,List.getElem?_toArray,List.getElem?_map,List.getD_eq_getElem?_getD]
 have:i<kTab.length:=hi
 rw [List.getElem?_eq_getElem this];rfl
theorem Kon.lt {w:World} (h:Kon w):0<w.heap.size:=World.block_lt_of_cell? w _ (h.cell 0 (by decide))
theorem Kon.old {w w':World} (h:Kon w) (hb:Below w.heap.size w w'):Kon w':=h.below hb h.lt
def big1 (e:Int):Int:=bits BinOp.xor IntKind.u32 (bits BinOp.xor IntKind.u32 (rotl e 26) (rotl e 21)) (rotl e 7)
def big0 (a:Int):Int:=bits BinOp.xor IntKind.u32 (bits BinOp.xor IntKind.u32 (rotl a 30) (rotl a 19)) (rotl a 10)
theorem drewN_add (w:World) (n m:Nat):(w.drewN n).drewN m=w.drewN (n+m):=by unfold World.drewN;simp only [Nat.add_assoc]
def cho (e f g:Int):Int:=bits BinOp.xor IntKind.u32 (bits BinOp.and IntKind.u32 e f) (bits BinOp.and IntKind.u32 (bits BinOp.xor IntKind.u32 4294967295 e) g)
def maj (a b c:Int):Int:=bits BinOp.xor IntKind.u32 (bits BinOp.xor IntKind.u32 (bits BinOp.and IntKind.u32 a b) (bits BinOp.and IntKind.u32 a c)) (bits BinOp.and IntKind.u32 b c)
def rnd (K W:Int):List Int->List Int
 | [a,b,c,d,e,f,g,h]=>[(h+big1 e+cho e f g+K+W+(big0 a+maj a b c))%4294967296,a,b,c,(d+(h+big1 e+cho e f g+K+W))%4294967296,e,f,g]
 | _=>[]
theorem rnd_eq (K W a b c d e f g h:Int):rnd K W [a,b,c,d,e,f,g,h]=[(h+big1 e+cho e f g+K+W+(big0 a+maj a b c))%4294967296,a,b,c,(d+(h+big1 e+cho e f g+K+W))%4294967296,e,f,g]:=rfl
def mixTo (st xs:List Int) (k:Nat):List Int:=(List.range 8).map fun i=>if i<k then (st.getD i 0+xs.getD i 0)%4294967296 else st.getD i 0
theorem mixTo_zero (a b c d e f g h:Int) (xs:List Int):mixTo [a,b,c,d,e,f,g,h] xs 0=[a,b,c,d,e,f,g,h]:=rfl
theorem mixTo_get (st xs:List Int) (k:Nat) (hk:k<8):(u32s (mixTo st xs k)).toArray[k]?=some (.int .u32 (st.getD k 0)):=by
 match k,hk with
 | 0,_=>rfl | 1,_=>rfl | 2,_=>rfl | 3,_=>rfl | 4,_=>rfl | 5,_=>rfl | 6,_=>rfl | 7,_=>rfl
theorem mixTo_set (st xs:List Int) (k:Nat) (hk:k<8):(u32s (mixTo st xs k)).toArray.setIfInBounds k (.int .u32 ((st.getD k 0+xs.getD k 0)%4294967296))=(u32s (mixTo st xs (k+1))).toArray:=by
 match k,hk with
 | 0,_=>rfl | 1,_=>rfl | 2,_=>rfl | 3,_=>rfl | 4,_=>rfl | 5,_=>rfl | 6,_=>rfl | 7,_=>rfl
theorem index_eight (a b c d e f g h:Int) (k:Nat) (hk:k<8) (w:World):(Instr.index 179 (.agg #[.int .u32 a,.int .u32 b,.int .u32 c,.int .u32 d,.int .u32 e,.int .u32 f,.int .u32 g,.int .u32 h]) (.int .i64 (k:Int))).run Tryz.prog w=.ok (.int .u32 ([a,b,c,d,e,f,g,h].getD k 0)) w:=by
 match k,hk with
 | 0,_=>show _=_;kernel_rfl
 | 1,_=>show _=_;kernel_rfl
 | 2,_=>show _=_;kernel_rfl
 | 3,_=>show _=_;kernel_rfl
 | 4,_=>show _=_;kernel_rfl
 | 5,_=>show _=_;kernel_rfl
 | 6,_=>show _=_;kernel_rfl
 | 7,_=>show _=_;kernel_rfl
def rounds (kt ws st:List Int):Nat->List Int
 | 0=>st
 | k+1=>rnd (kt.getD k 0) (ws.getD k 0) (rounds kt ws st k)
theorem mix_over (g:Nat) (st:List Int) (v:Value) (l:List UInt8) (w:World) (hg:w.heap[g]?=some (.cells (u32s st).toArray 180 (0,0))) (hst:st.length=8) (kt ws:List Int) (hK:∀ i,i<64->w.cell? ⟨0,i,none⟩=some (.int .u32 (kt.getD i 0))) (hK0:0<w.heap.size) (hws:∀ k,k<64->(row64 l 64)[k]?=some (.int .u32 (ws.getD k 0))) (hv:Cells w v (bytesV l)) (hl:64<=l.length) (hl2:l.length<=140737488355328) :
 Calls Tryz.prog 89 #[.pointer (some ⟨g,0,none⟩),v] w fun e w'=>e=.returned (.tuple #[])/\Touch (·=g) w w'/\w'.heap[g]?=some (.cells (u32s (mixTo st (rounds kt ws st 64) 8)).toArray 180 (0,0)):=by
 obtain ⟨a0,b0,c0,d0,e0,f0,g0,h0,rfl⟩:∃ a b c d e f g h,st=[a,b,c,d,e,f,g,h]:=by
  match st,hst with
  | [a,b,c,d,e,f,g,h],_=>exact ⟨a,b,c,d,e,f,g,h,rfl⟩
 have HK:=Lib.hid hK
 have HWS:=Lib.hid hws
 have HG:=Lib.hid hg
 have HV:=Lib.hid hv
 have hgs:g<w.heap.size:=by obtain ⟨h1,_⟩:=Array.getElem?_eq_some_iff.1 hg;exact h1
 have z0:=cell_of_row w g 0 _ _ _ hg
 have z1:=cell_of_row w g 1 _ _ _ hg
 have z2:=cell_of_row w g 2 _ _ _ hg
 have z3:=cell_of_row w g 3 _ _ _ hg
 have z4:=cell_of_row w g 4 _ _ _ hg
 have z5:=cell_of_row w g 5 _ _ _ hg
 have z6:=cell_of_row w g 6 _ _ _ hg
 have z7:=cell_of_row w g 7 _ _ _ hg
 change _=some (Value.int .u32 a0) at z0
 change _=some (Value.int .u32 b0) at z1
 change _=some (Value.int .u32 c0) at z2
 change _=some (Value.int .u32 d0) at z3
 change _=some (Value.int .u32 e0) at z4
 change _=some (Value.int .u32 f0) at z5
 change _=some (Value.int .u32 g0) at z6
 change _=some (Value.int .u32 h0) at z7
 clear hg hK hv hst hws
 go_enter Tryz.func89,Tryz.ntmps89
 go_wp2_with fail
 refine (schedule_any _ l _ HV.out hl hl2).mono ?_
 rintro e w1 ⟨rfl,hb1⟩
 go_wp2_with (first | (refine wpList_store_row rfl 247 _ _ rfl _ _ rfl rfl 247 _ (heap_alloc_new _ _) ?_ ?_ ?_ ?_))
 · rw [row64_size l 64 (by decide)];kernel_rfl
 · rw [row64_size l 64 (by decide)];rfl
 · simp [row64,u32s,Value.oneCell']
 rw [World.setRow_alloc_new]
 have hgw:g<w1.heap.size:=by have:=hb1.size;omega
 have hb2:Below w.heap.size w (w1.alloc (.cells (row64 l 64) 247)):=hb1.alloc hb1.size _
 have hblk:(w1.alloc (.cells (row64 l 64) 247)).heap[w1.heap.size]?=some (.cells (row64 l 64) 247):=heap_alloc_new _ _
 have s1:=hb1.size
 generalize w1.heap.size=B at hblk hgw s1 |-
 generalize (w1.alloc (.cells (row64 l 64) 247))=W at hb2 hblk |-
 replace z0:=(hb2.cell (p:=⟨g,0,none⟩) hgs).trans z0
 replace z1:=(hb2.cell (p:=⟨g,1,none⟩) hgs).trans z1
 replace z2:=(hb2.cell (p:=⟨g,2,none⟩) hgs).trans z2
 replace z3:=(hb2.cell (p:=⟨g,3,none⟩) hgs).trans z3
 replace z4:=(hb2.cell (p:=⟨g,4,none⟩) hgs).trans z4
 replace z5:=(hb2.cell (p:=⟨g,5,none⟩) hgs).trans z5
 replace z6:=(hb2.cell (p:=⟨g,6,none⟩) hgs).trans z6
 replace z7:=(hb2.cell (p:=⟨g,7,none⟩) hgs).trans z7
 replace HK:=Lib.hid (fun i hi=>(hb2.cell (p:=⟨0,i,none⟩) hK0).trans (HK.out i hi))
 replace HG:=Lib.hid ((hb2.block g hgs).trans HG.out)
 go_wp2_with fail
 go_quiet (fail)
 go_wp2_with fail
 go_loopw [5,6,7,8,9,10,11,12,54] (fun a b c d e f g h i W'=>(∃ n,W'=W.drewN n)/\∃ (k:Nat) (xa xb xc xd xe xf xg xh:Int),k<=64/\i=.int .i64 k/\rounds kt ws [a0,b0,c0,d0,e0,f0,g0,h0] k=[xa,xb,xc,xd,xe,xf,xg,xh]/\a=.int .u32 xa/\b=.int .u32 xb/\c=.int .u32 xc/\d=.int .u32 xd/\e=.int .u32 xe/\f=.int .u32 xf/\g=.int .u32 xg/\h=.int .u32 xh) (fun _ _ _ _ _ _ _ _ i _=>64 - (intOf i).toNat)
 case atStart=>exact ⟨⟨_,rfl⟩,0,_,_,_,_,_,_,_,_,Nat.zero_le _,rfl,rfl,rfl,rfl,rfl,rfl,rfl,rfl,rfl,rfl⟩
 case round=>
  obtain ⟨⟨n,rfl⟩,k,xa,xb,xc,xd,xe,xf,xg,xh,hk,rfl,hr,rfl,rfl,rfl,rfl,rfl,rfl,rfl,rfl⟩:=hrel
  by_cases hlt:k<64
  · have cW:(W.drewN n).cell? ⟨B,k,none⟩=some (.int .u32 (ws.getD k 0)):=by
     show W.cell? _=_
     rw [cell_of_row _ _ k _ _ _ hblk];exact HWS.out k hlt
    have cK:(W.drewN n).cell? ⟨0,k,none⟩=some (.int .u32 (kt.getD k 0)):=HK.out k hlt
    generalize hww:ws.getD k 0=ww at cW
    generalize hkk:kt.getD k 0=kk at cK
    have Hww:=Lib.hid hww
    have Hkk:=Lib.hid hkk
    clear hww hkk
    have ik:(k:Int)<64:=by omega
    have HR:=Lib.hid hr
    clear hr z0 z1 z2 z3 z4 z5 z6 z7
    generalize hWn:W.drewN n=Wn at cW cK |-
    go_wp2_with fail
    refine (rot_any xe (-6) 26 (by kernel_rfl) (by decide) (by decide) _).mono ?_
    rintro e w' ⟨rfl,rfl⟩
    go_wp2_with fail
    refine (rot_any xe (-11) 21 (by kernel_rfl) (by decide) (by decide) _).mono ?_
    rintro e w' ⟨rfl,rfl⟩
    go_wp2_with fail
    refine (rot_any xe (-25) 7 (by kernel_rfl) (by decide) (by decide) _).mono ?_
    rintro e w' ⟨rfl,rfl⟩
    go_wp2_with fail
    go_quiet (fail)
    generalize e1:bits BinOp.xor IntKind.u32 (bits BinOp.xor IntKind.u32 (rotl xe 26) (rotl xe 21)) (rotl xe 7)=s1v
    generalize e2:bits BinOp.xor IntKind.u32 (bits BinOp.and IntKind.u32 xe xf) (bits BinOp.and IntKind.u32 (bits BinOp.xor IntKind.u32 (if IntKind.u32.signed=true then -1 else IntKind.u32.max) xe) xg)=chv
    have E1:Hid (big1 xe=s1v):=Lib.hid e1
    have E2:Hid (cho xe xf xg=chv):=Lib.hid e2
    clear e1 e2
    go_wp2_with fail
    refine (rot_any xa (-2) 30 (by kernel_rfl) (by decide) (by decide) _).mono ?_
    rintro e w' ⟨rfl,rfl⟩
    go_wp2_with fail
    refine (rot_any xa (-13) 19 (by kernel_rfl) (by decide) (by decide) _).mono ?_
    rintro e w' ⟨rfl,rfl⟩
    go_wp2_with fail
    refine (rot_any xa (-22) 10 (by kernel_rfl) (by decide) (by decide) _).mono ?_
    rintro e w' ⟨rfl,rfl⟩
    go_wp2
    go_roundw
    case rel=>
     refine ⟨⟨n+nq,by rw [<-hWn];exact drewN_add W n nq⟩,k+1,_,_,_,_,_,_,_,_,by omega,by go_num,?_,rfl,rfl,rfl,rfl,rfl,rfl,rfl,rfl⟩
     rw [rounds,HR.out,Hkk.out,Hww.out]
     rw [rnd_eq,E1.out,E2.out]
     simp only [List.cons.injEq,and_true,true_and]
     refine ⟨?_,?_⟩
     · show (xh+s1v+chv+kk+ww+(big0 xa+maj xa xb xc))%4294967296=((xh+s1v+chv+kk+ww)%4294967296+(big0 xa+maj xa xb xc)%4294967296)%4294967296
       omega
     · omega
    case measure=>simp [intOf];omega
  · have h64:k=64:=by omega
    have HR:=Lib.hid hr
    have H64:=Lib.hid h64
    have hge:¬ (k:Int)<64:=by omega
    have hgr:(W.drewN n).heap[g]?=some (.cells (u32s [a0,b0,c0,d0,e0,f0,g0,h0]).toArray 180 (0,0)):=HG.out
    have ht:Touch (·=g) w (W.drewN n):=(Touch.of_below hb2 _).trans (Touch.drewN W n)
    clear hr h64 z0 z1 z2 z3 z4 z5 z6 z7 hk hlt HK HG hblk
    generalize (W.drewN n)=W3 at hgr ht |-
    rw [<-mixTo_zero a0 b0 c0 d0 e0 f0 g0 h0 [xa,xb,xc,xd,xe,xf,xg,xh]] at hgr
    have hix:=index_eight xa xb xc xd xe xf xg xh
    generalize hst:[a0,b0,c0,d0,e0,f0,g0,h0]=st at HR hgr
    generalize hxs:[xa,xb,xc,xd,xe,xf,xg,xh]=xs at HR hgr hix
    have Hix:=Lib.hid hix
    have Hgr:=Lib.hid hgr
    have Hst:=Lib.hid hst
    clear hst hxs hix hgr
    go_wp2_with fail
    go_loopw [128] (fun i W'=>∃ k:Nat,k<=8/\i=.int .i64 k/\W'.heap[g]?=some (.cells (u32s (mixTo st xs k)).toArray 180 (0,0))/\Touch (·=g) w W') (fun i _=>8 - (intOf i).toNat)
    case atStart=>exact ⟨0,Nat.zero_le _,rfl,Hgr.out,ht⟩
    case round=>
     obtain ⟨j,hj,rfl,hblk,ht⟩:=hrel
     by_cases hlt:j<8
     · have hi:=Hix.out j hlt
       have cg:wr.cell? ⟨g,j,none⟩=some (.int .u32 (st.getD j 0)):=by rw [cell_of_row _ _ j _ _ _ hblk];exact mixTo_get st xs j hlt
       have fg:wr.frozen? ⟨g,j,none⟩=false:=frozen_of_row _ _ j _ _ hblk
       have Hset:=Lib.hid (mixTo_set st xs j hlt)
       generalize xs.getD j 0=x at hi Hset
       generalize st.getD j 0=y at cg Hset
       have Hblk:=Lib.hid hblk
       have Ht:=Lib.hid ht
       have ij:(j:Int)<8:=by omega
       clear hblk ht
       go_wp2_with fail
       go_still_tail 8,(by kernel_rfl)
       change wpList _ _ _ _ _ wr.drew
       have Hblk:Hid (wr.drew.heap[g]?=some (.cells (u32s (mixTo st xs j)).toArray 180 (0,0))):=Hblk
       have Ht:Hid (Touch (·=g) w wr.drew):=Lib.hid (Ht.out.trans (Touch.drewN wr 1))
       replace cg:wr.drew.cell? ⟨g,j,none⟩=some (.int .u32 y):=cg
       replace fg:wr.drew.frozen? ⟨g,j,none⟩=false:=fg
       clear hi
       generalize wr.drew=W4 at Hblk Ht cg fg |-
       go_wp2
       go_roundw
       case rel=>exact ⟨j+1,by omega,by go_num,by rw [<-Hset.out];exact heap_setCell_same W4 g j _ _ _ Hblk.out,Ht.out.trans (Touch.setCell _ _ _ rfl)⟩
       case measure=>simp [intOf];omega
     · have h8:j=8:=by omega
       have hge2:¬ (j:Int)<8:=by omega
       have Hb:Hid (wr.heap[g]?=some (.cells (u32s (mixTo st xs 8)).toArray 180 (0,0))):=Lib.hid (h8 ▸ hblk)
       have Ht:=Lib.hid ht
       clear hblk ht h8 hlt
       go_wp2
       go_end0
       exact ⟨rfl,Ht.out,by rw [Hst.out,<-H64.out,HR.out];exact Hb.out⟩
def mixOf (st:List Int) (l:List UInt8):List Int:=mixTo st (rounds kTab (words l 64) st 64) 8
theorem mixTo_length (st xs:List Int) (k:Nat):(mixTo st xs k).length=8:=by simp [mixTo]
theorem mix_any (g:Nat) (st:List Int) (v:Value) (l:List UInt8) (w:World) (hg:w.heap[g]?=some (.cells (u32s st).toArray 180 (0,0))) (hst:st.length=8) (hK:Kon w) (hv:Cells w v (bytesV l)) (hl:64<=l.length) (hl2:l.length<=140737488355328) :
 Calls Tryz.prog 89 #[.pointer (some ⟨g,0,none⟩),v] w fun e w'=>e=.returned (.tuple #[])/\Touch (·=g) w w'/\w'.heap[g]?=some (.cells (u32s (mixOf st l)).toArray 180 (0,0)):=
 mix_over g st v l w hg hst kTab (words l 64) (fun i hi=>hK.cell i hi) hK.lt (fun k hk=>row64_get l 64 k hk) hv hl hl2
end Go.Proofs.YtcgkomafaepjnaaGreatDoor
