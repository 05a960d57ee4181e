/- What a law's arguments look like, opened: arrays of bytes, slices of numbers. Conditions: none of a program. -/
import Derived.Test.YtcgkomafaepjnaaGreatDoorTL1
import Derived.ProofKit
import Derived.OpenShut
import Derived.ShutString
import Derived.ChangeOld
import Derived.Below
import Derived.Carry
set_option maxRecDepth 100000
set_option maxHeartbeats 16000000
namespace Go.Proofs.YtcgkomafaepjnaaGreatDoor
open Go.RowKit Go.ChangeShapes Go.WideShapes Go.ChangeAt
section
variable {H:Type} {enc:TypeId×Value->H} {P:Program} {w:World} {r:Reach} {base b0:Nat} {spare:Nat->Bool} {held:Bool} {t e:TypeId} {v:Value} {d:DataW H} {ps:List MemPlace}
theorem lt_of_trod (h:DataW.Trod enc P w base spare held t v d ps):∀ x∈ps,x.block<w.heap.size:=by
 obtain ⟨m,hm⟩:=h;exact DataW.trod_lt m _ _ _ hm
theorem bytes_of_ints:∀ zs:List Int,(∀ z∈zs,(Lit.int .u8 z).wf=true)->bytesV (zs.map fun z=>UInt8.ofNat z.toNat)=zs.map fun z=>Value.int .u8 z
 | [],_=>rfl
 | z :: zs,h=>by
   have h0:(decide ((0:Int)<=z)&&decide (z<=255))=true:=h z (List.mem_cons_self ..)
   rw [Bool.and_eq_true,decide_eq_true_eq,decide_eq_true_eq] at h0
   have ih:=bytes_of_ints zs (fun z hz=>h z (List.mem_cons_of_mem _ hz))
   show Value.int .u8 (((UInt8.ofNat z.toNat).toNat:Nat):Int) :: bytesV (zs.map fun z=>UInt8.ofNat z.toNat)=_
   rw [ih,show (((UInt8.ofNat z.toNat).toNat:Nat):Int)=z from by simp;omega]
   rfl
theorem open_u8s (ht:P.underlying t=some (.slice e)) (he:P.underlying e=some (.int .u8)) (hce:P.cellsOf e=1)
 (hok:Value.okWide P w r b0 t v) (h:DataW.Trod enc P w base spare held t v d ps) :
 ∃ a len cap sl,v=.slice a len cap/\Cells w (.slice a len cap) (bytesV sl):=by
 obtain ⟨a0,len0,cap0,rfl⟩:=okWide_slice ht hok
 obtain ⟨fuel,hf⟩:=h
 rcases open_ints ht he hce hf with ⟨hcs,_⟩ | ⟨x,l,c,zs,hcs,_,hl,hm,hz,_,hcell,hwz⟩
 · simp [Value.cells] at hcs
   obtain ⟨rfl,rfl,rfl⟩:=hcs
   exact ⟨none,0,0,[],rfl,⟨none,0,rfl,fun h=>absurd rfl h⟩⟩
 · simp [Value.cells] at hcs
   obtain ⟨rfl,rfl,rfl⟩:=hcs
   have hz':len0<=zs.length:=by rw [hz];split <;> omega
   clear hz
   have hll:(zs.take len0).length=len0:=by rw [List.length_take];omega
   have hb:=bytes_of_ints (zs.take len0) (fun z hz=>hwz z (List.mem_of_mem_take hz))
   refine ⟨some x,len0,cap0,(zs.take len0).map fun z=>UInt8.ofNat z.toNat,rfl,?_⟩
   rw [hb]
   refine ⟨some x,cap0,by rw [List.length_map,hll],fun hne=>?_⟩
   have hpos:0<len0:=by
    rcases Nat.eq_zero_or_pos len0 with h | h
    · subst h;exact absurd rfl hne
    · exact h
   obtain ⟨b,off,rfl,hd⟩:=ints_at hcell (by omega)
   refine ⟨b,off,rfl,World.block_lt_of_cell? w _ (hd 0 (by omega)),fun j hj=>?_⟩
   rw [List.length_map,hll] at hj
   rw [hd j (by omega)]
   simp [List.getD_eq_getElem?_getD,hj,List.getElem?_eq_getElem (show j<zs.length by omega)]
end
end Go.Proofs.YtcgkomafaepjnaaGreatDoor
