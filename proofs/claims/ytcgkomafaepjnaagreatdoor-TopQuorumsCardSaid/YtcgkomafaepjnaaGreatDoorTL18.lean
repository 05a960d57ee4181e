/- What a law's arguments look like, opened: arrays of bytes, slices of numbers. Conditions: none of a program. -/
import Derived.Test.YtcgkomafaepjnaaGreatDoorTL1
import Derived.ProofKit
import Derived.OpenShut
import Derived.ShutString
import Derived.ChangeOld
import Derived.Below
import Derived.Carry
set_option maxRecDepth 100000
set_option maxHeartbeats 16000000
namespace Go.Proofs.YtcgkomafaepjnaaGreatDoor
open Go.RowKit Go.ChangeShapes Go.WideShapes Go.ChangeAt
section
variable {H:Type} {enc:TypeId×Value->H} {P:Program} {w:World} {r:Reach} {base b0:Nat} {spare:Nat->Bool} {held:Bool} {t e:TypeId} {v:Value} {d:DataW H} {ps:List MemPlace}
theorem lt_of_trod (h:DataW.Trod enc P w base spare held t v d ps):∀ x∈ps,x.block<w.heap.size:=by
 obtain ⟨m,hm⟩:=h;exact DataW.trod_lt m _ _ _ hm
theorem open_bytes {n:Nat} (ht:P.underlying t=some (.array n e)) (he:P.underlying e=some (.int .u8)) (hct:P.cellsOf t=n) (hce:P.cellsOf e=1)
 (hok:Value.okWide P w r b0 t v) (h:DataW.Trod enc P w base spare held t v d ps):∃ l:List UInt8,v=.agg (bytesV l).toArray/\l.length=n:=by
 simp only [Value.okWide,ht] at hok
 obtain ⟨cs,rfl,hsz,_⟩:=hok
 obtain ⟨fuel,hf⟩:=h
 obtain ⟨xs,m,_,_,hl,hxl,hx⟩:=DataW.trod_array ht hf
 rw [hct] at hsz
 have hbyte:∀ i,(hi:i<n)->∃ z:Int,cs.toList[i]?=some (.int .u8 z)/\0<=z/\z<=255:=by
  intro i hi
  have h1:=hx i hi
  rw [hce,Nat.mul_one,List.getElem?_eq_getElem (by omega)] at h1
  obtain ⟨z,hz,_,hw⟩:=DataW.trod_int he h1
  refine ⟨z,?_,bounds_u8 hw⟩
  have h2:(cs.toList.drop i).take 1=[Value.int .u8 z]:=by simpa [Value.cells] using hz
  have h3:((cs.toList.drop i).take 1)[0]?=some (.int .u8 z):=by rw [h2];rfl
  simpa using h3
 have key:∀ k,k<=n->∃ l:List UInt8,l.length=k/\cs.toList.take k=bytesV l:=by
  intro k
  induction k with
  | zero=>intro _;exact ⟨[],rfl,by simp [bytesV]⟩
  | succ k ih=>
    intro hk
    obtain ⟨l,hl,hc⟩:=ih (by omega)
    obtain ⟨z,hz,h0,h1⟩:=hbyte k (by omega)
    refine ⟨l++[UInt8.ofNat z.toNat],by simp [hl],?_⟩
    rw [List.take_add_one,hc,hz]
    have e1:(UInt8.ofNat z.toNat).toNat=z.toNat:=by simp;omega
    have e2:((z.toNat:Nat):Int)=z:=by omega
    simp only [bytesV,List.map_append,List.map_cons,List.map_nil,Option.toList_some,e1,e2]
 obtain ⟨l,hl,hc⟩:=key n (Nat.le_refl _)
 refine ⟨l,?_,hl⟩
 have:cs.toList.take n=cs.toList:=List.take_of_length_le (by simp [hsz])
 rw [this] at hc
 rw [<-hc]
end
end Go.Proofs.YtcgkomafaepjnaaGreatDoor
namespace Go.Proofs.YtcgkomafaepjnaaGreatDoor
open Go.RowKit Go.ChangeShapes Go.WideShapes Go.ChangeAt
section
variable {H:Type} {enc:TypeId×Value->H} {P:Program} {w:World} {r:Reach} {base b0:Nat} {spare:Nat->Bool} {held:Bool} {t e:TypeId} {v:Value} {d:DataW H} {ps:List MemPlace}
theorem bytes_of_ints:∀ zs:List Int,(∀ z∈zs,(Lit.int .u8 z).wf=true)->bytesV (zs.map fun z=>UInt8.ofNat z.toNat)=zs.map fun z=>Value.int .u8 z
 | [],_=>rfl
 | z :: zs,h=>by
   have h0:(decide ((0:Int)<=z)&&decide (z<=255))=true:=h z (List.mem_cons_self ..)
   rw [Bool.and_eq_true,decide_eq_true_eq,decide_eq_true_eq] at h0
   have ih:=bytes_of_ints zs (fun z hz=>h z (List.mem_cons_of_mem _ hz))
   show Value.int .u8 (((UInt8.ofNat z.toNat).toNat:Nat):Int) :: bytesV (zs.map fun z=>UInt8.ofNat z.toNat)=_
   rw [ih,show (((UInt8.ofNat z.toNat).toNat:Nat):Int)=z from by simp;omega]
   rfl
theorem open_u8s (ht:P.underlying t=some (.slice e)) (he:P.underlying e=some (.int .u8)) (hce:P.cellsOf e=1)
 (hok:Value.okWide P w r b0 t v) (h:DataW.Trod enc P w base spare held t v d ps) :
 ∃ a len cap sl,v=.slice a len cap/\Cells w (.slice a len cap) (bytesV sl):=by
 obtain ⟨a0,len0,cap0,rfl⟩:=okWide_slice ht hok
 obtain ⟨fuel,hf⟩:=h
 rcases open_ints ht he hce hf with ⟨hcs,_⟩ | ⟨x,l,c,zs,hcs,_,hl,hm,hz,_,hcell,hwz⟩
 · simp [Value.cells] at hcs
   obtain ⟨rfl,rfl,rfl⟩:=hcs
   exact ⟨none,0,0,[],rfl,⟨none,0,rfl,fun h=>absurd rfl h⟩⟩
 · simp [Value.cells] at hcs
   obtain ⟨rfl,rfl,rfl⟩:=hcs
   have hz':len0<=zs.length:=by rw [hz];split <;> omega
   clear hz
   have hll:(zs.take len0).length=len0:=by rw [List.length_take];omega
   have hb:=bytes_of_ints (zs.take len0) (fun z hz=>hwz z (List.mem_of_mem_take hz))
   refine ⟨some x,len0,cap0,(zs.take len0).map fun z=>UInt8.ofNat z.toNat,rfl,?_⟩
   rw [hb]
   refine ⟨some x,cap0,by rw [List.length_map,hll],fun hne=>?_⟩
   have hpos:0<len0:=by
    rcases Nat.eq_zero_or_pos len0 with h | h
    · subst h;exact absurd rfl hne
    · exact h
   obtain ⟨b,off,rfl,hd⟩:=ints_at hcell (by omega)
   refine ⟨b,off,rfl,World.block_lt_of_cell? w _ (hd 0 (by omega)),fun j hj=>?_⟩
   rw [List.length_map,hll] at hj
   rw [hd j (by omega)]
   simp [List.getD_eq_getElem?_getD,hj,List.getElem?_eq_getElem (show j<zs.length by omega)]
theorem open_three (ht:P.underlying t=some (.array 3 e)) (he:P.underlying e=some (.int .u8)) (hct:P.cellsOf t=3) (hce:P.cellsOf e=1)
 (hok:Value.okWide P w r b0 t v) (h:DataW.Trod enc P w base spare held t v d ps):∃ x y z:Nat,v=.agg #[.int .u8 x,.int .u8 y,.int .u8 z]/\x<256/\y<256/\z<256:=by
 obtain ⟨l,rfl,hl⟩:=open_bytes ht he hct hce hok h
 match l,hl with
 | [x,y,z],_=>exact ⟨x.toNat,y.toNat,z.toNat,rfl,x.toNat_lt,y.toNat_lt,z.toNat_lt⟩
end
end Go.Proofs.YtcgkomafaepjnaaGreatDoor
