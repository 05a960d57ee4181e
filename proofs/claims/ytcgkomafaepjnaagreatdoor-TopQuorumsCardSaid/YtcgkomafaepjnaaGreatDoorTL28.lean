/- The auditors of a side, their tree, its header's digest, the windows that it draws: in numbers (printed by tools/gentab.py). Conditions: none of a program's run. -/
import Derived.Test.YtcgkomafaepjnaaGreatDoorTL27
import Derived.Test.YtcgkomafaepjnaaGreatDoorTL17
import Derived.Test.YtcgkomafaepjnaaGreatDoorTL21
import Derived.Test.YtcgkomafaepjnaaGreatDoorTL16
import Derived.Test.YtcgkomafaepjnaaGreatDoorTL19
import Derived.Lib.LaidTab
import Derived.Lib.LaidU8T
import Derived.PinnedBridge
import Derived.Stop.LaidErr
set_option maxRecDepth 100000
set_option maxHeartbeats 16000000
namespace Go.Proofs.YtcgkomafaepjnaaGreatDoor
open Go.RowKit
theorem seed_A:seedA 0=sdA:=rfl
theorem aud_A:audOf 0=audA:=by
 unfold audOf audA
 rw [seed_A]
 rfl
theorem seed_B:seedA 1=sdB:=rfl
theorem aud_B:audOf 1=audB:=by
 unfold audOf audB
 rw [seed_B]
 rfl
theorem seed_C:seedA 2=sdC:=rfl
theorem aud_C:audOf 2=audC:=by
 unfold audOf audC
 rw [seed_C]
 rfl
theorem seed_D:seedA 3=sdD:=rfl
theorem aud_D:audOf 3=audD:=by
 unfold audOf audD
 rw [seed_D]
 rfl
theorem seed_E:seedA 4=sdE:=rfl
theorem aud_E:audOf 4=audE:=by
 unfold audOf audE
 rw [seed_E]
 rfl
def openN (i:Nat):Nat:=([109587863264237520213294427808459291486,335977491356365822708457361470532562370,2688858685714587009391435523047875932,50937952871822512784380920202028185130,289545113968429579497783113047107454307]:List Nat).getD i 0
def posN (i:Nat):Nat:=([139945399875619327258537880106904654631,118247940898374587900571278090318647973,124037722912792596843614021507233242852,196778044920940393316441979216466624364,314141005684421030140289612560992309841]:List Nat).getD i 0
def valN (i:Nat):Nat:=([108194395584396492986176298512887459091,116563843709813201526120796066517287038,281357888785480517996685382315459920612,269665823667855964678852211965147046727,119385773620293126392971552022752067748]:List Nat).getD i 0
theorem open_num:∀ i,i<5->natOf (openOf (seedA i))=openN i
 | 0,_=>by rw [seed_A];exact openA
 | 1,_=>by rw [seed_B];exact openB
 | 2,_=>by rw [seed_C];exact openC
 | 3,_=>by rw [seed_D];exact openD
 | 4,_=>by rw [seed_E];exact openE
 | n+5,h=>absurd h (by omega)
theorem pos_num:∀ i,i<5->natOf (posOf i)=posN i
 | 0,_=>posA
 | 1,_=>posB
 | 2,_=>posC
 | 3,_=>posD
 | 4,_=>posE
 | n+5,h=>absurd h (by omega)
theorem val_num:∀ i,i<5->natOf (audVal (audOf i))=valN i
 | 0,_=>by rw [aud_A];exact valA
 | 1,_=>by rw [aud_B];exact valB
 | 2,_=>by rw [aud_C];exact valC
 | 3,_=>by rw [aud_D];exact valD
 | 4,_=>by rw [aud_E];exact valE
 | n+5,h=>absurd h (by omega)
theorem open_apart (i j:Nat) (h:i<j) (hj:j<5):openOf (seedA i)≠openOf (seedA j):=by
 intro e
 have e:=congrArg natOf e
 rw [open_num i (by omega),open_num j hj] at e
 exact (show ∀ j,j<5->∀ i,i<j->openN i≠openN j by decide +kernel) j hj i h e
theorem pos_apart (i j:Nat) (h:i<j) (hj:j<5):posOf i≠posOf j:=by
 intro e
 have e:=congrArg natOf e
 rw [pos_num i (by omega),pos_num j hj] at e
 exact (show ∀ j,j<5->∀ i,i<j->posN i≠posN j by decide +kernel) j hj i h e
theorem low_list {s:ByteArray} (h:∀ b∈s.data.toList,97<=b.toNat/\b.toNat<=122):Low s:=fun i hi=>h s[i] (Array.mem_toList_iff.2 (Array.getElem_mem hi))
theorem aud_good:∀ i,i<5->AudGood (audOf i)
 | 0,_=>⟨low_list (by decide),by decide,by decide,openOf_length _,rootOf4_length _,by decide⟩
 | 1,_=>⟨low_list (by decide),by decide,by decide,openOf_length _,rootOf4_length _,by decide⟩
 | 2,_=>⟨low_list (by decide),by decide,by decide,openOf_length _,rootOf4_length _,by decide⟩
 | 3,_=>⟨low_list (by decide),by decide,by decide,openOf_length _,rootOf4_length _,by decide⟩
 | 4,_=>⟨low_list (by decide),by decide,by decide,openOf_length _,rootOf4_length _,by decide⟩
 | n+5,h=>absurd h (by omega)
theorem auds_good (n:Nat) (hn:n<=5):∀ x∈audsN n,AudGood x:=by
 intro x hx
 obtain ⟨i,hi,rfl⟩:=List.mem_map.1 hx
 exact aud_good i (by have:=List.mem_range.1 hi;omega)
def layN:Nat->List (Nat×Nat)
 | 0=>[]
 | k+1=>(posN k,valN k) :: layN k
def nn (q:Tx×Tx):Nat×Nat:=(natOf q.1,natOf q.2)
theorem layP_nn (n:Nat) (hn:n<=5):∀ k,k<=n->(layP (audsN n) [] k).map nn=layN k
 | 0,_=>rfl
 | k+1,hk=>by
   rw [layP_succ _ _ _ (by rw [audsN_length];omega),audsN_at,List.map_cons,layP_nn n hn k (by omega),layN]
   unfold nn
   rw [pos_num k (by omega),val_num k (by omega)]
theorem layP_len (n:Nat):∀ k,k<=n->∀ q∈layP (audsN n) [] k,q.1.length=16/\q.2.length=16
 | 0,_,_,hq=>by cases hq
 | k+1,hk,q,hq=>by
   rw [layP_succ _ _ _ (by rw [audsN_length];omega)] at hq
   rcases List.mem_cons.1 hq with rfl | hq
   · exact ⟨posOf_length _,audVal_length _⟩
   · exact layP_len n k (by omega) q hq
theorem nn_nodup {m:Puts} {l:List (Nat×Nat)} (h:(m.map nn).Perm l) (hl:(l.map (·.1)).Nodup):(m.map (·.1)).Nodup:=by
 have h1:((m.map (·.1)).map natOf).Perm (l.map (·.1)):=by
  have:=h.map (·.1)
  rw [List.map_map] at this
  rw [List.map_map]
  exact this
 have h2:((m.map (·.1)).map natOf).Nodup:=h1.nodup_iff.2 hl
 exact List.Pairwise.of_map natOf (fun a b h e=>h (congrArg natOf e)) h2
theorem root_perm (m:Puts) (l:List (Nat×Nat)) (h16:∀ q∈m,q.1.length=16/\q.2.length=16) (hp:(m.map nn).Perm l) (hl:(l.map (·.1)).Nodup):natOf (hs.at (valOf m) (keysOf m) [] 0)=ndN 128 l:=by
 have hn:=nn_nodup hp hl
 have hkeys:(keysOf m).Perm (m.map (·.1)):=by
  refine (List.perm_ext_iff_of_nodup (rise_nodup (rise_keysOf m)) hn).2 fun k=>mem_keysOf
 unfold Hs.at
 rw [under_zero]
 have hkk:=keys_keysOf (m:=m) fun q hq=>(h16 q hq).1
 refine nd_nat (valOf m) 128 (keysOf m) _ (Nat.le_refl _) ⟨hkk.rise,hkk.len,fun _ _ _ _ i hi=>by omega⟩ ?_ ?_
 · intro k hk
   obtain ⟨q,hq,rfl⟩:=List.mem_map.1 (mem_keysOf.1 hk)
   rw [valOf_mem m hn q hq]
   exact (h16 q hq).2
 · refine ((hkeys.map _).trans ?_).trans hp
   rw [List.map_map]
   refine List.Perm.of_eq (List.map_congr_left fun q hq=>?_)
   show (natOf q.1,natOf (valOf m q.1))=(natOf q.1,natOf q.2)
   rw [valOf_mem m hn q hq]
theorem isNd_at (val:Tx->Tx) (ks:List Tx) (p:Tx) (d:Nat):IsNd (hs.at val ks p d):=isNd_nd val _ _
theorem at_len (val:Tx->Tx) (ks:List Tx) (p:Tx) (d:Nat) (h:0<natOf (hs.at val ks p d)):(hs.at val ks p d).length=17:=by
 have h1:=(nd_nl _ (isNd_at val ks p d)).1
 have h2:(nl (hs.at val ks p d)).2=(hs.at val ks p d).length:=rfl
 rw [h1] at h2
 rw [<-h2]
 exact lenN_pos h
def root0N (n:Nat):Nat:=([0,657820522209025363269994360246445859863,853547112052456415146785803060923969396,877459367700930943616490810669245228219,991381294930010343214428489441341124059,963963899475281964210096003023594083065]:List Nat).getD n 0
theorem root0_num (n:Nat) (h1:1<=n) (h5:n<=5):natOf (hs.at (valOf (layP (audsN n) [] n)) (keysOf (layP (audsN n) [] n)) [] 0)=root0N n:=by
 rw [root_perm _ (layN n) (layP_len n n (Nat.le_refl _)) (List.Perm.of_eq (layP_nn n h5 n (Nat.le_refl _))) ((show ∀ n,n<6->((layN n).map (·.1)).Nodup by decide +kernel) n (by omega))]
 exact (show ∀ n,n<6->1<=n->ndN 128 (layN n)=root0N n by decide +kernel) n (by omega) h1
theorem encHd_num (ep:Nat) (par:Tx) (au:Nat) (r:Tx) (hep:ep<4294967296) (hpar:par.length=16) (hau:au<256) (hr:r.length=17):natOf (encHd ep par 0 au [r])=((ep*256^16+natOf par)*65536+au)*256^19+17*256^17+natOf r/\(encHd ep par 0 au [r]).length=41:=by
 have e:encHd ep par 0 au [r]=bytesTo ep 4 4++par++bytesTo 0 1 1++bytesTo au 1 1++(bytesTo 17 2 2++r):=by
  unfold encHd headOf txtsOf
  simp only [List.take_succ_cons,List.length_cons,List.length_nil,List.take_zero,List.flatMap_cons,List.flatMap_nil,List.append_nil,List.nil_append,hr]
 rw [e]
 constructor
 · rw [natOf_append,natOf_append,natOf_append,natOf_append,natOf_append,natOf_bytesTo ep 4 4 (Nat.le_refl _) hep,natOf_bytesTo 0 1 1 (Nat.le_refl _) (by decide),natOf_bytesTo au 1 1 (Nat.le_refl _) hau,natOf_bytesTo 17 2 2 (Nat.le_refl _) (by decide)]
   simp only [List.length_append,bytesTo_le,hpar,hr]
   omega
 · simp only [List.length_append,bytesTo_le,hpar,hr]
theorem digHd_num (ep:Nat) (par:Tx) (au:Nat) (r:Tx) (hep:ep<4294967296) (hpar:par.length=16) (hau:au<256) (hr:r.length=17):natOf (digHd ep par 0 au [r])=tagN 14 [(((ep*256^16+natOf par)*65536+au)*256^19+17*256^17+natOf r,41)]:=by
 obtain ⟨h1,h2⟩:=encHd_num ep par au r hep hpar hau hr
 unfold digHd
 rw [tag_small 14 _ (by decide) (by intro x hx;rw [List.mem_singleton] at hx;subst hx;omega) (by simp),List.map_cons,List.map_nil]
 unfold nl
 rw [h1,h2]
def dig0N (n:Nat):Nat:=([0,248857841665150416876678463204263826632,61383419417417696993839003279900057565,135561497503324633073467742279431685032,128194028827200348017555787886586873491,339196172512431978187263207148228908292]:List Nat).getD n 0
theorem root0_pos (n:Nat) (h1:1<=n) (h5:n<=5):0<root0N n:=(show ∀ n,n<6->1<=n->0<root0N n by decide +kernel) n (by omega) h1
theorem dig0_num (n:Nat) (h1:1<=n) (h5:n<=5):natOf (dig0 0 (audsN n))=dig0N n:=by
 have hr:=root0_num n h1 h5
 unfold dig0
 rw [audsN_length,nodes0_eq,level_zero,digHd_num 0 nought16 n _ (by decide) (by decide) (by omega) (at_len _ _ _ _ (by rw [hr];exact root0_pos n h1 h5)),hr,show natOf nought16=0 from natOf_zeros 16]
 exact (show ∀ n,n<6->1<=n->tagN 14 [(((0*256^16+0)*65536+n)*256^19+17*256^17+root0N n,41)]=dig0N n by decide +kernel) n (by omega) h1
theorem numTo_nat (s:ByteArray):∀ k,k<=s.data.toList.length->numTo s k=natOf (s.data.toList.take k)
 | 0,_=>rfl
 | k+1,h=>by
   have e:s.data.toList.take (k+1)=s.data.toList.take k++[s.data.toList[k]]:=by rw [List.take_succ_eq_append_getElem (by omega)]
   rw [e,natOf_append,<-numTo_nat s k (by omega),numTo,List.getD_eq_getElem?_getD,List.getElem?_eq_getElem (by omega)]
   show 256*_+_=_*256^1+natOf [s.data.toList[k]]
   have:natOf [s.data.toList[k]]=(s.data.toList[k]).toNat:=by unfold natOf;simp
   rw [this,Option.getD_some]
   omega
theorem winZ_nat (hd:List UInt8) (k:Nat) (hk:k<4):winZ hd k=natOf (shaOf (winSeed hd++[0,0,0,0]))/256^(24 - 8*k)%256^8:=by
 have hl:=shaOf_length (winSeed hd++[0,0,0,0])
 unfold winZ winT
 generalize shaOf (winSeed hd++[0,0,0,0])=l at hl
 have e:((⟨l.toArray⟩:ByteArray).extract (8*k) 32).data.toList=l.drop (8*k):=by
  rw [ByteArray.data_extract]
  simp [List.extract]
  exact List.take_of_length_le (by rw [List.length_drop];omega)
 rw [numTo_nat _ 8 (by rw [e,List.length_drop,hl];omega),e]
 exact (natOf_cut l (8*k) 8 (24 - 8*k) (by omega)).symm
theorem winT_num (hd:List UInt8) (hl:hd.length=16):natOf (shaOf (winSeed hd++[0,0,0,0]))=shaN8 (tagN 17 [(natOf hd,16),(0,1)]*256^4) 20:=by
 have h1:(winSeed hd).length=16:=tagOf_length _ _
 have h2:natOf (winSeed hd)=tagN 17 [(natOf hd,16),(0,1)]:=by
  unfold winSeed
  rw [tag_small 17 _ (by decide) (by
   intro x hx
   simp only [List.mem_cons,List.not_mem_nil,or_false] at hx
   rcases hx with rfl | rfl
   · omega
   · decide) (by simp),List.map_cons,List.map_cons,List.map_nil]
  unfold nl
  rw [hl]
  rfl
 rw [sha_nat8 _ (by rw [List.length_append,h1];decide),List.length_append,h1,natOf_append,h2,show natOf [0,0,0,0]=0 from rfl,Nat.add_zero,show ([0,0,0,0]:List UInt8).length=4 from rfl]
def winN (n:Nat):Nat:=([0,66697594615167920704076188119782085643208157917652006757592753675057235496157,95592272889984864105226230507371072252953295875963894422269892994817364664620,68430714612848783562211440114486774572155729814090029081307895084581472645195,58227381292588040154896399815695878238629089330079807934929300196928870399749,48530592043517762219555740970979781640119891817050112121019104048768814869710]:List Nat).getD n 0
theorem win_ok (n:Nat) (h1:1<=n) (h5:n<=5):WinOk (dig0 0 (audsN n)):=by
 intro k hk
 rw [winZ_nat _ k hk,winT_num (dig0 0 (audsN n)) (digHd_length _ _ _ _ _),dig0_num n h1 h5,(show ∀ n,n<6->1<=n->shaN8 (tagN 17 [(dig0N n,16),(0,1)]*256^4) 20=winN n by decide +kernel) n (by omega) h1]
 exact (show ∀ n,n<6->∀ k,k<4->winN n/256^(24 - 8*k)%256^8<18446744073709551552 by decide +kernel) n (by omega) k hk
theorem bandTo_one (l:Tx):bandTo l 1=0\/bandTo l 1=1:=by
 show 2*(0:Int)+bitAt l 0=0\/2*(0:Int)+bitAt l 0=1
 rcases bit_cases l 0 with e | e <;> rw [e] <;> simp
theorem upto_perm (A m:Puts):∀ d,d<=1->(upto A d m (2^d)).Perm (A++m)
 | 0,_=>by
   show ((A.filter fun q=>bandTo q.1 0==((0:Nat):Int)).reverse++m).Perm (A++m)
   have e:(A.filter fun q=>bandTo q.1 0==((0:Nat):Int))=A:=List.filter_eq_self.2 (fun _ _=>rfl)
   rw [e]
   exact (List.reverse_perm A).append_right m
 | 1,_=>by
   show ((A.filter fun q=>bandTo q.1 1==((1:Nat):Int)).reverse++((A.filter fun q=>bandTo q.1 1==((0:Nat):Int)).reverse++m)).Perm (A++m)
   rw [<-List.append_assoc]
   refine List.Perm.append_right m ?_
   refine ((List.reverse_perm _).append (List.reverse_perm _)).trans ?_
   have e:(A.filter fun q=>bandTo q.1 1==((0:Nat):Int))=A.filter fun q=>!(bandTo q.1 1==((1:Nat):Int)):=by
    refine List.filter_congr fun q _=>?_
    rcases bandTo_one q.1 with e | e <;> rw [e] <;> rfl
   rw [e]
   exact List.filter_append_perm _ A
 | d+2,h=>absurd h (by omega)
theorem pub_perm (n d:Nat) (us:List (List UInt8×List UInt8)) (hd:d<=1):(pubPuts d (audsN n) us).Perm (usPuts us++layP (audsN n) [] n):=by
 unfold pubPuts
 rw [audsN_length]
 exact (upto_perm _ _ d hd).trans ((List.reverse_perm _).append_right _)
theorem pub_nn (n d:Nat) (us:List (List UInt8×List UInt8)) (l:List (Nat×Nat)) (hn:n<=5) (hd:d<=1) (hl:(usPuts us).map nn=l):((pubPuts d (audsN n) us).map nn).Perm (l++layN n):=by
 refine ((pub_perm n d us hd).map nn).trans (List.Perm.of_eq ?_)
 rw [List.map_append,hl,layP_nn n hn n (Nat.le_refl _)]
theorem pub_len (n d:Nat) (us:List (List UInt8×List UInt8)) (hd:d<=1):∀ q∈pubPuts d (audsN n) us,q.1.length=16/\q.2.length=16:=fun q hq=>by
 rcases List.mem_append.1 ((pub_perm n d us hd).mem_iff.1 hq) with h | h
 · obtain ⟨u,_,rfl⟩:=List.mem_map.1 h
   exact ⟨tagOf_length _ _,tagOf_length _ _⟩
 · exact layP_len n n (Nat.le_refl _) q h
theorem pub_num (n d:Nat) (us:List (List UInt8×List UInt8)) (l:List (Nat×Nat)) (hn:n<=5) (hd:d<=1) (hl:(usPuts us).map nn=l) (hnd:((l++layN n).map (·.1)).Nodup):natOf (hs.at (valOf (pubPuts d (audsN n) us)) (keysOf (pubPuts d (audsN n) us)) [] 0)=ndN 128 (l++layN n):=
 root_perm _ _ (pub_len n d us hd) (pub_nn n d us l hn hd hl) hnd
def sdFa:List UInt8:=[97]
theorem sdFa_nat:natOf sdFa=97:=by decide +kernel
theorem openFa:natOf (openOf sdFa)=83577383354805067101475303447739077736:=by
 rw [open_nat sdFa (by decide),sdFa_nat,show sdFa.length=1 from rfl]
 decide +kernel
theorem pubFa:natOf (pubKey sdFa 0)=318567294025424869500337219057122504885:=by
 rw [pub_nat sdFa 0 (by decide) (by decide),sdFa_nat,openFa,show sdFa.length=1 from rfl]
 decide +kernel
theorem entFa:natOf (fstVal sdFa)=250879762568776793572471937980459908471:=by
 rw [fstVal_nat,openFa,pubFa]
 decide +kernel
def sdFb:List UInt8:=[98]
theorem sdFb_nat:natOf sdFb=98:=by decide +kernel
theorem openFb:natOf (openOf sdFb)=18077323512653557199697503671963491245:=by
 rw [open_nat sdFb (by decide),sdFb_nat,show sdFb.length=1 from rfl]
 decide +kernel
theorem pubFb:natOf (pubKey sdFb 0)=99192162424780597698515631456096489172:=by
 rw [pub_nat sdFb 0 (by decide) (by decide),sdFb_nat,openFb,show sdFb.length=1 from rfl]
 decide +kernel
theorem entFb:natOf (fstVal sdFb)=73957289808335263845181293492023611011:=by
 rw [fstVal_nat,openFb,pubFb]
 decide +kernel
def sdFk:List UInt8:=[107,48]
theorem sdFk_nat:natOf sdFk=27440:=by decide +kernel
theorem openFk:natOf (openOf sdFk)=303082291774651697010015422812144596995:=by
 rw [open_nat sdFk (by decide),sdFk_nat,show sdFk.length=2 from rfl]
 decide +kernel
theorem pubFk:natOf (pubKey sdFk 0)=180464734167206609345427555598333072875:=by
 rw [pub_nat sdFk 0 (by decide) (by decide),sdFk_nat,openFk,show sdFk.length=2 from rfl]
 decide +kernel
theorem entFk:natOf (fstVal sdFk)=199239930398923418169049663849351584643:=by
 rw [fstVal_nat,openFk,pubFk]
 decide +kernel
def sdFl:List UInt8:=[107,49]
theorem sdFl_nat:natOf sdFl=27441:=by decide +kernel
theorem openFl:natOf (openOf sdFl)=196277537775201644399211099723716623879:=by
 rw [open_nat sdFl (by decide),sdFl_nat,show sdFl.length=2 from rfl]
 decide +kernel
theorem pubFl:natOf (pubKey sdFl 0)=212175322380953687311061801199904833487:=by
 rw [pub_nat sdFl 0 (by decide) (by decide),sdFl_nat,openFl,show sdFl.length=2 from rfl]
 decide +kernel
theorem entFl:natOf (fstVal sdFl)=197223449561319944129204862404787694790:=by
 rw [fstVal_nat,openFl,pubFl]
 decide +kernel
theorem name_alice:natOf (nameOf [97,108,105,99,101])=258197051470350780555791945109248033098:=by
 unfold nameOf
 rw [tag_small 11 _ (by decide) (by decide) (by decide)]
 decide +kernel
theorem name_bob:natOf (nameOf [98,111,98])=7430050822040270997558273447267311076:=by
 unfold nameOf
 rw [tag_small 11 _ (by decide) (by decide) (by decide)]
 decide +kernel
theorem name_eve:natOf (nameOf [101,118,101])=326090218919067660826388814283837132226:=by
 unfold nameOf
 rw [tag_small 11 _ (by decide) (by decide) (by decide)]
 decide +kernel
def usA:List (List UInt8×List UInt8):=[([97,108,105,99,101],[97])]
def usB:List (List UInt8×List UInt8):=[([97,108,105,99,101],[98])]
def lA:List (Nat×Nat):=[(258197051470350780555791945109248033098,250879762568776793572471937980459908471)]
def lB:List (Nat×Nat):=[(258197051470350780555791945109248033098,73957289808335263845181293492023611011)]
theorem usA_nn:(usPuts usA).map nn=lA:=by
 simp only [usA,usPuts,List.map_cons,List.map_nil,nn]
 rw [name_alice,show ([97]:List UInt8)=sdFa from rfl,entFa]
 rfl
theorem usB_nn:(usPuts usB).map nn=lB:=by
 simp only [usB,usPuts,List.map_cons,List.map_nil,nn]
 rw [name_alice,show ([98]:List UInt8)=sdFb from rfl,entFb]
 rfl
def rootAN (n:Nat):Nat:=([0,965128889846018836673869933969611236937,804014275853729924027511881470887740474,929857412354234850124494928145828845510,704300759262870580368452943087526766304,980433520819364857821941235563371994011]:List Nat).getD n 0
def rootBN (n:Nat):Nat:=([0,734576871608199603825634948498568913477,918488903503695988851569894714503305934,762749649184045041982906170197582252689,875485930185932612232824095571699215189,906797709836993972966326423394579524439]:List Nat).getD n 0
theorem rootA_num (n:Nat) (h1:1<=n) (h5:n<=5):natOf (hs.at (valOf (pubPuts 0 (audsN n) usA)) (keysOf (pubPuts 0 (audsN n) usA)) [] 0)=rootAN n:=by
 rw [pub_num n 0 usA lA h5 (by decide) usA_nn ((show ∀ n,n<6->((lA++layN n).map (·.1)).Nodup by decide +kernel) n (by omega))]
 exact (show ∀ n,n<6->1<=n->ndN 128 (lA++layN n)=rootAN n by decide +kernel) n (by omega) h1
theorem rootB_num (n:Nat) (h1:1<=n) (h5:n<=5):natOf (hs.at (valOf (pubPuts 0 (audsN n) usB)) (keysOf (pubPuts 0 (audsN n) usB)) [] 0)=rootBN n:=by
 rw [pub_num n 0 usB lB h5 (by decide) usB_nn ((show ∀ n,n<6->((lB++layN n).map (·.1)).Nodup by decide +kernel) n (by omega))]
 exact (show ∀ n,n<6->1<=n->ndN 128 (lB++layN n)=rootBN n by decide +kernel) n (by omega) h1
theorem rivals (n:Nat) (h1:1<=n) (h5:n<=5):(encHd 1 (dig0 0 (audsN n)) 0 n (nodes1 0 (audsN n) usA)==encHd 1 (dig0 0 (audsN n)) 0 n (nodes1 0 (audsN n) usB))=false:=by
 have ha:=rootA_num n h1 h5
 have hb:=rootB_num n h1 h5
 have hla:=at_len (valOf (pubPuts 0 (audsN n) usA)) (keysOf (pubPuts 0 (audsN n) usA)) [] 0 (by rw [ha];exact (show ∀ n,n<6->1<=n->0<rootAN n by decide +kernel) n (by omega) h1)
 have hlb:=at_len (valOf (pubPuts 0 (audsN n) usB)) (keysOf (pubPuts 0 (audsN n) usB)) [] 0 (by rw [hb];exact (show ∀ n,n<6->1<=n->0<rootBN n by decide +kernel) n (by omega) h1)
 have hne:rootAN n≠rootBN n:=(show ∀ n,n<6->1<=n->rootAN n≠rootBN n by decide +kernel) n (by omega) h1
 refine beq_eq_false_iff_ne.2 fun e=>hne ?_
 have e:=congrArg natOf e
 unfold nodes1 at e
 rw [level_zero,level_zero,(encHd_num 1 (dig0 0 (audsN n)) n _ (by decide) (digHd_length _ _ _ _ _) (by omega) hla).1,(encHd_num 1 (dig0 0 (audsN n)) n _ (by decide) (digHd_length _ _ _ _ _) (by omega) hlb).1,ha,hb] at e
 exact Nat.add_left_cancel e
theorem low_alice:Low ⟨#[97,108,105,99,101]⟩:=low_list (by decide)
theorem six_touch (w:World) (b:Nat) (y0 y1 y2 y3 y4 y5:Value):Touch (fun k=>k=b) w ((((((w.setCell ⟨b,0,none⟩ y0).setCell ⟨b,1,none⟩ y1).setCell ⟨b,2,none⟩ y2).setCell ⟨b,3,none⟩ y3).setCell ⟨b,4,none⟩ y4).setCell ⟨b,5,none⟩ y5):=
 have T:∀ (W:World) (i:Nat) (v:Value),Touch (fun k=>k=b) W (W.setCell ⟨b,i,none⟩ v):=fun W i v=>Touch.setCell (S:=fun k=>k=b) W ⟨b,i,none⟩ v rfl
 (((((T _ _ _).trans (T _ _ _)).trans (T _ _ _)).trans (T _ _ _)).trans (T _ _ _)).trans (T _ _ _)
theorem own_lit {w:World} {g:Nat} {xs:Array Value} {e:TypeId} {size:Nat} (h:w.heap[g]?=some (.cells xs e (0,0))) (hs:xs.size=size):w.ownsRow g e size (.slice (some ⟨g,0,none⟩) 1 1) 1 xs.toList:=
 ⟨by simp [hs],.inr ⟨g,1,xs,rfl,Nat.le_refl _,h,Nat.le_refl _,by decide,by rw [Nat.one_mul,hs],by rw [Nat.one_mul,<-hs];exact List.take_of_length_le (by simp)⟩⟩
theorem old_row {V wA:World} {x0 x1 x2 x3 x4 x5:Value} {t:TypeId} {S:Obj} (hb:Below (V.alloc (.cells #[x0,x1,x2,x3,x4,x5] t)).drew.heap.size (V.alloc (.cells #[x0,x1,x2,x3,x4,x5] t)).drew wA):(wA.alloc S).heap[V.heap.size]?=some (.cells #[x0,x1,x2,x3,x4,x5] t (0,0)):=by
 have hl:V.heap.size<(V.alloc (.cells #[x0,x1,x2,x3,x4,x5] t)).drew.heap.size:=by
  show V.heap.size<(V.alloc (.cells #[x0,x1,x2,x3,x4,x5] t)).heap.size
  rw [World.size_alloc]
  omega
 exact (Below.heap_alloc wA S _ (Nat.lt_of_lt_of_le hl hb.size)).trans ((hb.block _ hl).trans (heap_alloc_new V _))
theorem serves_any (w:World) (hT:Kons w) :
 Calls Tryz.prog 22 #[] w fun e w'=>e=.returned (.bool true)/\Below w.heap.size w w':=by
 have HT:=Lib.hid hT
 have hK1:Calls Tryz.prog 24 #[.int .i64 1] w fun e w'=>∃ va vc bs,e=.returned (.slice va 1 vc)/\KeysAt w' w.heap.size vc 1 w'.heap.size va bs/\Below w.heap.size w w':=keys_any 1 w (by decide) hT.kon
 clear hT
 go_enter Tryz.func22,Tryz.ntmps22
 go_wp2_with fail
 refine hK1.mono ?_
 rintro e w1 ⟨va,vc,bs,rfl,hks,hb1⟩
 have hcall:=Lib.hid (show Calls Tryz.prog 25 #[.slice va 1 vc,.int .i64 0] w1 fun e w'=>∃ p S,e=.returned (.pointer (some ⟨p,0,none⟩))/\SrvA w' S p 0 (audsN 1) []/\(∀ k,S k->w1.heap.size<=k)/\Below w1.heap.size w1 w' from newside_any 1 0 w.heap.size w1.heap.size vc va bs w1 hks (by decide) (by decide) (auds_good 1 (by decide)) (fun i j h hj=>open_apart i j h (by omega)) (HT.out.old hb1))
 have H1:=Lib.hid (And.intro hks hb1)
 clear hks hb1 hK1
 go_wp2_with fail
 refine hcall.out.mono ?_
 rintro e w2 ⟨p,S,rfl,hsrv,hS,hb2⟩
 have hB2:=H1.out.2.trans (hb2.mono H1.out.2.size)
 have hcall:=Lib.hid (owners_any w2 (HT.out.old hB2) low_alice)
 have H2:=Lib.hid (And.intro hsrv (And.intro hS (And.intro hb2 hB2)))
 clear hsrv hS hb2 hB2
 go_wp2_with fail
 refine hcall.out.mono ?_
 rintro e w3 ⟨rfl,hb3⟩
 obtain ⟨hsrv,hS,hb2,hB2⟩:=H2.out
 have hb13:=hb2.trans (hb3.mono hb2.size)
 have hB3:=hB2.trans (hb3.mono hB2.size)
 have hcl:∀ k,S k->0<k:=fun k hk=>by
  have:=hS k hk
  have:=HT.out.kon.lt
  have:=H1.out.2.size
  omega
 have hcall:=Lib.hid (show Calls Tryz.prog 26 #[.pointer (some ⟨p,0,none⟩),.string ⟨#[97,108,105,99,101]⟩,.string ⟨#[97]⟩] w3 fun e w'=>e=.returned (.bool true)/\∃ S',SrvA w' S' p 0 (audsN 1) usA/\(∀ k,S' k->S k\/w3.heap.size<=k)/\Touch S w3 w' from put_any p 0 (audsN 1) [] S ⟨#[97,108,105,99,101]⟩ [97] w3 (hsrv.old hb3) (by decide) (by decide) low_alice (by decide) (by decide) rfl (HT.out.old hB3) (fun h=>by have:=hcl _ h;omega))
 have H3:=Lib.hid (And.intro hS (And.intro hb13 (And.intro hB3 hcl)))
 clear hsrv hS hb2 hB2 hb13 hB3 hcl hb3 H2
 go_wp2_with fail
 refine hcall.out.mono ?_
 rintro e w4 ⟨rfl,S',hsrv,hS',ht4⟩
 obtain ⟨hS,hb13,hB3,hcl⟩:=H3.out
 have hb14:=hb13.trans (ht4.below (B:=w1.heap.size) hS hb13.size)
 have hB4:=H1.out.2.trans (hb14.mono H1.out.2.size)
 have hS4:∀ k,S' k->w1.heap.size<=k:=fun k hk=>(hS' k hk).elim (hS k) (fun h=>Nat.le_trans hb13.size h)
 have hcall:=Lib.hid (show Calls Tryz.prog 27 #[.pointer (some ⟨p,0,none⟩)] w4 fun e w'=>∃ v na1 nc1,e=.returned (.tuple #[.agg #[.int .u64 1,.string ⟨(dig0 0 (audsN 1)).toArray⟩,.int .i64 0,.int .i64 1,.slice na1 1 nc1],v,.int .i64 0])/\SrvB w' (more S' w4 w') p 0 (audsN 1) usA/\Cells w' (.slice na1 1 nc1) (txs (nodes1 0 (audsN 1) usA))/\(∀ k,(Value.slice na1 1 nc1).ownBlock=some k->w4.heap.size<=k/\k<w'.heap.size)/\Touch S' w4 w' from spublish_any p 0 (audsN 1) usA S' w4 hsrv (by decide) (by decide) (by decide) (HT.out.old hB4).kon (fun h=>by have:=hS4 _ h;have:=HT.out.kon.lt;have:=H1.out.2.size;omega))
 have H4:=Lib.hid (And.intro hS4 hb14)
 clear hS hb13 hB3 hcl hsrv hS' ht4 hb14 hB4 hS4 H3
 go_wp2_with fail
 refine hcall.out.mono ?_
 rintro e w5 ⟨pv,na,nc,rfl,hsrv,hc,_,ht5⟩
 obtain ⟨hS4,hb14⟩:=H4.out
 have hb15:=hb14.trans (ht5.below (B:=w1.heap.size) hS4 hb14.size)
 obtain ⟨gv,rfl,hgv,hptr⟩:=H1.out.1.ptr 0 (by decide)
 have hkey:=((H1.out.1.2 0 (by decide)).2.touch (Touch.of_below hb15 (fun _=>False)) (fun _ _ _=>id))
 have hptr:=(hb15.cell (p:=⟨gv,0,none⟩) hgv).trans hptr
 have hB5:=H1.out.2.trans (hb15.mono H1.out.2.size)
 have H5:=Lib.hid (And.intro hsrv (And.intro hc (And.intro hkey (And.intro hptr hB5))))
 clear hsrv hc ht5 hS4 hb14 hb15 hkey hptr hB5 hgv H4 H1 hcall
 go_wp2_with fail
 obtain ⟨hsrv,hc,hkey,hptr,hB5⟩:=H5.out
 have hb6:Below w5.heap.size w5 (w5.alloc (.cells #[.int .u64 1,.string ⟨(dig0 0 (audsN 1)).toArray⟩,.int .i64 0,.int .i64 1,.slice na 1 nc] 69)):=(Below.refl _ _).alloc (Nat.le_refl _) _
 have hr6:(w5.alloc (.cells #[.int .u64 1,.string ⟨(dig0 0 (audsN 1)).toArray⟩,.int .i64 0,.int .i64 1,.slice na 1 nc] 69)).heap[w5.heap.size]?=some (.cells #[.int .u64 1,.string ⟨(dig0 0 (audsN 1)).toArray⟩,.int .i64 0,.int .i64 1,.slice na 1 nc] 69 (0,0)):=heap_alloc_new _ _
 have hsrv:=hsrv.old hb6
 have hc:=hc.old hb6
 have hkey:=hkey.touch (Touch.of_below hb6 (fun _=>False)) (fun _ _ _=>id)
 have hptr:=(hb6.cell (World.block_lt_of_cell? _ _ hptr)).trans hptr
 have hB6:=hB5.trans (hb6.mono hB5.size)
 generalize (w5.alloc (.cells #[.int .u64 1,.string ⟨(dig0 0 (audsN 1)).toArray⟩,.int .i64 0,.int .i64 1,.slice na 1 nc] 69))=V at hb6 hr6 hsrv hc hkey hptr hB6 |-
 generalize w5.heap.size=HB at hr6 |-
 obtain ⟨Pre,hPre⟩:∃ Pre:World->Prop,Pre=fun W=>Below V.heap.size V W:=⟨_,rfl⟩
 have hcp:=Lib.hid (fun A (hA:Pre A)=>(show A.cell? ⟨HB,0,none⟩=some (.int .u64 1)/\A.cell? ⟨HB,1,none⟩=some (.string ⟨(dig0 0 (audsN 1)).toArray⟩)/\A.cell? ⟨HB,2,none⟩=some (.int .i64 0)/\A.cell? ⟨HB,3,none⟩=some (.int .i64 1)/\A.cell? ⟨HB,4,none⟩=some (.slice na 1 nc)/\A.cell? ⟨gv,0,none⟩=some (.pointer (some ⟨bs 0,0,none⟩)) by
  rw [hPre] at hA
  obtain ⟨e0,e1,e2,e3,e4,_,_,_,_,_⟩:=ten_of_row ((hA.block _ (lt_of_heap hr6)).trans hr6)
  exact ⟨e0,e1,e2,e3,e4,(hA.cell (World.block_lt_of_cell? _ _ hptr)).trans hptr⟩))
 have q0:=Lib.hid (fun A (hA:Pre A)=>(show Calls Tryz.prog 31 #[.pointer (some ⟨bs 0,0,none⟩),.int .i64 0,.int .i64 0,.int .i64 0,.pointer (some ⟨p,0,none⟩),.agg #[.int .u64 1,.string ⟨(dig0 0 (audsN 1)).toArray⟩,.int .i64 0,.int .i64 1,.slice na 1 nc]] A fun e w'=>∃ (num:Nat) (ev:Int) (s2:ByteArray) (i4:Int) (a5:Option Addr) (n5 c5:Nat) (a6:Option Addr) (n6 c6:Nat) (s7 s8 s9:ByteArray) (i10:Int) (a11:Option Addr) (n11 c11:Nat) (t12:Bool) (s13 s14:ByteArray),e=.returned (.agg #[.int .u64 ev,.int .i64 0,.string s2,.int .i64 num,.int .i64 i4,.slice a5 n5 c5,.slice a6 n6 c6,.string s7,.string s8,.string s9,.int .i64 i10,.slice a11 n11 c11,.bool t12,.string s13,.string s14])/\VtR w' A.heap.size w'.heap.size 1 0 0 (dig1 1 0 usA) ⟨num,ev,s2,i4,a5,n5,c5,a6,n6,c6,s7,s8,s9,i10,a11,n11,c11,t12,s13,s14⟩/\Pre w'/\Below A.heap.size A w' from by
  have hA':Below V.heap.size V A:=by rw [hPre] at hA;exact hA
  refine Calls.mono (vote_flat 1 p 0 0 (bs 0) w1.heap.size usA _ na nc A (by decide) (by decide) (by decide) (hsrv.old hA') (hkey.touch (Touch.of_below hA' (fun _=>False)) (fun _ _ _=>id)) (hc.old hA') ((HT.out.old hB6).kon.old hA')) ?_
  rintro e w' ⟨num,ev,s2,i4,a5,n5,c5,a6,n6,c6,s7,s8,s9,i10,a11,n11,c11,t12,s13,s14,h1,h2,h3⟩
  exact ⟨num,ev,s2,i4,a5,n5,c5,a6,n6,c6,s7,s8,s9,i10,a11,n11,c11,t12,s13,s14,h1,h2,by rw [hPre] at hA |-;exact hA.trans (h3.mono hA.size),h3⟩))
 have hpre0:Pre V.drew:=by rw [hPre];exact below_drew V
 have hpa:=Lib.hid (fun A ob (hA:Pre A)=>(show Pre (A.alloc ob) from by rw [hPre] at hA |-;exact hA.alloc hA.size _))
 have hpad:=Lib.hid (fun ob=>(show Pre (V.alloc ob).drew from by rw [hPre];exact ((Below.refl _ _).alloc (Nat.le_refl _) _).drew))
 have HV:=Lib.hid (And.intro hsrv (And.intro hc hB6))
 have hp6:=Lib.hid (fun A F v0 v1 v2 v3 v4 v5 (hF:V.heap.size<=F) (hA:Pre A)=>(show Pre ((((((A.setCell ⟨F,0,none⟩ v0).setCell ⟨F,1,none⟩ v1).setCell ⟨F,2,none⟩ v2).setCell ⟨F,3,none⟩ v3).setCell ⟨F,4,none⟩ v4).setCell ⟨F,5,none⟩ v5) from by
  rw [hPre] at hA |-
  exact (((((hA.setCell (p:=⟨F,0,none⟩) hF v0).setCell (p:=⟨F,1,none⟩) hF v1).setCell (p:=⟨F,2,none⟩) hF v2).setCell (p:=⟨F,3,none⟩) hF v3).setCell (p:=⟨F,4,none⟩) hF v4).setCell (p:=⟨F,5,none⟩) hF v5))
 have hpsz:∀ A,Pre A->V.heap.size<=A.heap.size:=by
  intro A hA
  rw [hPre] at hA
  exact hA.size
 have HPB:=Lib.hid (fun A (hA:Pre A)=>(show Below V.heap.size V A from by rw [hPre] at hA;exact hA))
 clear hPre hr6 hsrv hc hkey hptr hB5 hB6 hb6 H5
 go_region_held3 (fun A=>A.cell? ⟨HB,0,none⟩=some (.int .u64 1)/\A.cell? ⟨HB,1,none⟩=some (.string ⟨(dig0 0 (audsN 1)).toArray⟩)/\A.cell? ⟨HB,2,none⟩=some (.int .i64 0)/\A.cell? ⟨HB,3,none⟩=some (.int .i64 1)/\A.cell? ⟨HB,4,none⟩=some (.slice na 1 nc)/\A.cell? ⟨gv,0,none⟩=some (.pointer (some ⟨bs 0,0,none⟩))) (first | with_reducible exact hcp.out _ (by assumption) | with_reducible exact hcp.out _ (hpad.out _) | with_reducible exact hcp.out _ (hpa.out _ _ (by assumption)) | with_reducible exact hcp.out _ (hpa.out _ _ (hpa.out _ _ (by assumption))) | with_reducible exact hcp.out _ (hp6.out _ _ _ _ _ _ _ _ (by first | exact Nat.le_refl _ | exact hpsz _ hpreA | (have:=hpsz _ hpreA;simp only [World.size_alloc];omega)) (by first | assumption | exact hpa.out _ _ (by assumption) | exact hpa.out _ _ (hpa.out _ _ (by assumption)))))
  (first
    | (go_at_call 31;with_reducible refine (q0.out _ (by first | assumption | exact hpad.out _ | exact hpa.out _ _ (by assumption))).mono ?_;rintro e wA ⟨num,ev,s2,i4,a5,n5,c5,a6,n6,c6,s7,s8,s9,i10,a11,n11,c11,t12,s13,s14,rfl,hvr,hpreA,hbA⟩;obtain ⟨x0,x1,x2,x3,x4,x5,g0,g1,g2,g3,g4,g5⟩:=six_of_row (heap_alloc2_old wA (.cells #[.int .u64 0,.string ⟨#[]⟩,.int .i64 0,.int .i64 0,.slice none 0 0,.slice none 0 0] 81) (.cells #[.int .u64 ev,.int .i64 0,.string s2,.int .i64 num,.int .i64 i4,.slice a5 n5 c5,.slice a6 n6 c6,.string s7,.string s8,.string s9,.int .i64 i10,.slice a11 n11 c11,.bool t12,.string s13,.string s14] 92));try (have hy:=old_row (S:=(.cells #[.int .u64 ev,.int .i64 0,.string s2,.int .i64 num,.int .i64 i4,.slice a5 n5 c5,.slice a6 n6 c6,.string s7,.string s8,.string s9,.int .i64 i10,.slice a11 n11 c11,.bool t12,.string s13,.string s14] 92)) hbA;obtain ⟨y0,y1,y2,y3,y4,y5,h0,h1,h2,h3,h4,h5⟩:=six_of_row hy;clear hy)))
 all_goals
  have hsA:=hpsz _ hpreA
  obtain ⟨lo,hlo⟩:∃ lo,VtR wA lo wA.heap.size 1 0 0 (dig1 1 0 usA) ⟨num,ev,s2,i4,a5,n5,c5,a6,n6,c6,s7,s8,s9,i10,a11,n11,c11,t12,s13,s14⟩:=⟨_,hvr⟩
  first
   | (have hF:((wA.alloc (.cells #[.int .u64 ev,.int .i64 0,.string s2,.int .i64 num,.int .i64 i4,.slice a5 n5 c5,.slice a6 n6 c6,.string s7,.string s8,.string s9,.int .i64 i10,.slice a11 n11 c11,.bool t12,.string s13,.string s14] 92)).alloc (.cells #[.int .u64 1,.string ⟨(dig0 0 (audsN 1)).toArray⟩,.int .i64 0,.int .i64 1,.slice na 1 nc,.slice (some ⟨wA.heap.size,0,none⟩) 1 1] 81)).heap[wA.heap.size+1]?=some (.cells #[.int .u64 1,.string ⟨(dig0 0 (audsN 1)).toArray⟩,.int .i64 0,.int .i64 1,.slice na 1 nc,.slice (some ⟨wA.heap.size,0,none⟩) 1 1] 81 (0,0)):=heap_alloc2_new _ _ _
      have hG:((wA.alloc (.cells #[.int .u64 ev,.int .i64 0,.string s2,.int .i64 num,.int .i64 i4,.slice a5 n5 c5,.slice a6 n6 c6,.string s7,.string s8,.string s9,.int .i64 i10,.slice a11 n11 c11,.bool t12,.string s13,.string s14] 92)).alloc (.cells #[.int .u64 1,.string ⟨(dig0 0 (audsN 1)).toArray⟩,.int .i64 0,.int .i64 1,.slice na 1 nc,.slice (some ⟨wA.heap.size,0,none⟩) 1 1] 81)).heap[wA.heap.size]?=some (.cells #[.int .u64 ev,.int .i64 0,.string s2,.int .i64 num,.int .i64 i4,.slice a5 n5 c5,.slice a6 n6 c6,.string s7,.string s8,.string s9,.int .i64 i10,.slice a11 n11 c11,.bool t12,.string s13,.string s14] 92 (0,0)):=heap_alloc2_old _ _ _
      have hP:Pre ((wA.alloc (.cells #[.int .u64 ev,.int .i64 0,.string s2,.int .i64 num,.int .i64 i4,.slice a5 n5 c5,.slice a6 n6 c6,.string s7,.string s8,.string s9,.int .i64 i10,.slice a11 n11 c11,.bool t12,.string s13,.string s14] 92)).alloc (.cells #[.int .u64 1,.string ⟨(dig0 0 (audsN 1)).toArray⟩,.int .i64 0,.int .i64 1,.slice na 1 nc,.slice (some ⟨wA.heap.size,0,none⟩) 1 1] 81)):=hpa.out _ _ (hpa.out _ _ hpreA)
      have hvR:VtR ((wA.alloc (.cells #[.int .u64 ev,.int .i64 0,.string s2,.int .i64 num,.int .i64 i4,.slice a5 n5 c5,.slice a6 n6 c6,.string s7,.string s8,.string s9,.int .i64 i10,.slice a11 n11 c11,.bool t12,.string s13,.string s14] 92)).alloc (.cells #[.int .u64 1,.string ⟨(dig0 0 (audsN 1)).toArray⟩,.int .i64 0,.int .i64 1,.slice na 1 nc,.slice (some ⟨wA.heap.size,0,none⟩) 1 1] 81)) lo wA.heap.size 1 0 0 (dig1 1 0 usA) ⟨num,ev,s2,i4,a5,n5,c5,a6,n6,c6,s7,s8,s9,i10,a11,n11,c11,t12,s13,s14⟩:=hlo.touch ((Touch.alloc (S:=fun _=>False) _ _).trans (Touch.alloc _ _)) (fun _ _ _=>id)
      obtain ⟨W,hWW⟩:∃ W,W=((wA.alloc (.cells #[.int .u64 ev,.int .i64 0,.string s2,.int .i64 num,.int .i64 i4,.slice a5 n5 c5,.slice a6 n6 c6,.string s7,.string s8,.string s9,.int .i64 i10,.slice a11 n11 c11,.bool t12,.string s13,.string s14] 92)).alloc (.cells #[.int .u64 1,.string ⟨(dig0 0 (audsN 1)).toArray⟩,.int .i64 0,.int .i64 1,.slice na 1 nc,.slice (some ⟨wA.heap.size,0,none⟩) 1 1] 81)):=⟨_,rfl⟩
      rw [<-hWW] at hF hG hP hvR |-
      clear hWW
      obtain ⟨F,hFF⟩:∃ F,F=wA.heap.size+1:=⟨_,rfl⟩
      rw [<-hFF] at hF |-
      obtain ⟨G,hGG⟩:∃ G,G=wA.heap.size:=⟨_,rfl⟩
      rw [<-hGG] at hF hG |-
      clear hFF hGG)
   | (have hF:((wA.alloc (.cells #[.int .u64 1,.string ⟨(dig0 0 (audsN 1)).toArray⟩,.int .i64 0,.int .i64 1,.slice na 1 nc,.slice (some ⟨wA.heap.size+1,0,none⟩) 1 1] 81)).alloc (.cells #[.int .u64 ev,.int .i64 0,.string s2,.int .i64 num,.int .i64 i4,.slice a5 n5 c5,.slice a6 n6 c6,.string s7,.string s8,.string s9,.int .i64 i10,.slice a11 n11 c11,.bool t12,.string s13,.string s14] 92)).heap[wA.heap.size]?=some (.cells #[.int .u64 1,.string ⟨(dig0 0 (audsN 1)).toArray⟩,.int .i64 0,.int .i64 1,.slice na 1 nc,.slice (some ⟨wA.heap.size+1,0,none⟩) 1 1] 81 (0,0)):=heap_alloc2_old _ _ _
      have hG:((wA.alloc (.cells #[.int .u64 1,.string ⟨(dig0 0 (audsN 1)).toArray⟩,.int .i64 0,.int .i64 1,.slice na 1 nc,.slice (some ⟨wA.heap.size+1,0,none⟩) 1 1] 81)).alloc (.cells #[.int .u64 ev,.int .i64 0,.string s2,.int .i64 num,.int .i64 i4,.slice a5 n5 c5,.slice a6 n6 c6,.string s7,.string s8,.string s9,.int .i64 i10,.slice a11 n11 c11,.bool t12,.string s13,.string s14] 92)).heap[wA.heap.size+1]?=some (.cells #[.int .u64 ev,.int .i64 0,.string s2,.int .i64 num,.int .i64 i4,.slice a5 n5 c5,.slice a6 n6 c6,.string s7,.string s8,.string s9,.int .i64 i10,.slice a11 n11 c11,.bool t12,.string s13,.string s14] 92 (0,0)):=heap_alloc2_new _ _ _
      have hP:Pre ((wA.alloc (.cells #[.int .u64 1,.string ⟨(dig0 0 (audsN 1)).toArray⟩,.int .i64 0,.int .i64 1,.slice na 1 nc,.slice (some ⟨wA.heap.size+1,0,none⟩) 1 1] 81)).alloc (.cells #[.int .u64 ev,.int .i64 0,.string s2,.int .i64 num,.int .i64 i4,.slice a5 n5 c5,.slice a6 n6 c6,.string s7,.string s8,.string s9,.int .i64 i10,.slice a11 n11 c11,.bool t12,.string s13,.string s14] 92)):=hpa.out _ _ (hpa.out _ _ hpreA)
      have hvR:VtR ((wA.alloc (.cells #[.int .u64 1,.string ⟨(dig0 0 (audsN 1)).toArray⟩,.int .i64 0,.int .i64 1,.slice na 1 nc,.slice (some ⟨wA.heap.size+1,0,none⟩) 1 1] 81)).alloc (.cells #[.int .u64 ev,.int .i64 0,.string s2,.int .i64 num,.int .i64 i4,.slice a5 n5 c5,.slice a6 n6 c6,.string s7,.string s8,.string s9,.int .i64 i10,.slice a11 n11 c11,.bool t12,.string s13,.string s14] 92)) lo wA.heap.size 1 0 0 (dig1 1 0 usA) ⟨num,ev,s2,i4,a5,n5,c5,a6,n6,c6,s7,s8,s9,i10,a11,n11,c11,t12,s13,s14⟩:=hlo.touch ((Touch.alloc (S:=fun _=>False) _ _).trans (Touch.alloc _ _)) (fun _ _ _=>id)
      obtain ⟨W,hWW⟩:∃ W,W=((wA.alloc (.cells #[.int .u64 1,.string ⟨(dig0 0 (audsN 1)).toArray⟩,.int .i64 0,.int .i64 1,.slice na 1 nc,.slice (some ⟨wA.heap.size+1,0,none⟩) 1 1] 81)).alloc (.cells #[.int .u64 ev,.int .i64 0,.string s2,.int .i64 num,.int .i64 i4,.slice a5 n5 c5,.slice a6 n6 c6,.string s7,.string s8,.string s9,.int .i64 i10,.slice a11 n11 c11,.bool t12,.string s13,.string s14] 92)):=⟨_,rfl⟩
      rw [<-hWW] at hF hG hP hvR |-
      clear hWW
      obtain ⟨G,hGG⟩:∃ G,G=wA.heap.size+1:=⟨_,rfl⟩
      rw [<-hGG] at hF hG |-
      obtain ⟨F,hFF⟩:∃ F,F=wA.heap.size:=⟨_,rfl⟩
      rw [<-hFF] at hF |-
      clear hFF hGG)
   | (have hy:=old_row (S:=(.cells #[.int .u64 ev,.int .i64 0,.string s2,.int .i64 num,.int .i64 i4,.slice a5 n5 c5,.slice a6 n6 c6,.string s7,.string s8,.string s9,.int .i64 i10,.slice a11 n11 c11,.bool t12,.string s13,.string s14] 92)) hbA
      have hF:=six_store (.int .u64 1) (.string ⟨(dig0 0 (audsN 1)).toArray⟩) (.int .i64 0) (.int .i64 1) (.slice na 1 nc) (.slice (some ⟨wA.heap.size,0,none⟩) 1 1) hy
      have hlV:V.heap.size<wA.heap.size:=by
       have h1:=hbA.size
       change (V.alloc (.cells #[.int .u64 0,.string ⟨#[]⟩,.int .i64 0,.int .i64 0,.slice none 0 0,.slice none 0 0] 81)).heap.size<=_ at h1
       rw [World.size_alloc] at h1
       omega
      have hT:Touch (fun k=>k=V.heap.size) wA (((((((wA.alloc (.cells #[.int .u64 ev,.int .i64 0,.string s2,.int .i64 num,.int .i64 i4,.slice a5 n5 c5,.slice a6 n6 c6,.string s7,.string s8,.string s9,.int .i64 i10,.slice a11 n11 c11,.bool t12,.string s13,.string s14] 92)).setCell ⟨V.heap.size,0,none⟩ (.int .u64 1)).setCell ⟨V.heap.size,1,none⟩ (.string ⟨(dig0 0 (audsN 1)).toArray⟩)).setCell ⟨V.heap.size,2,none⟩ (.int .i64 0)).setCell ⟨V.heap.size,3,none⟩ (.int .i64 1)).setCell ⟨V.heap.size,4,none⟩ (.slice na 1 nc)).setCell ⟨V.heap.size,5,none⟩ (.slice (some ⟨wA.heap.size,0,none⟩) 1 1)):=(Touch.alloc _ _).trans (six_touch _ _ _ _ _ _ _ _)
      have hG:((((((((wA.alloc (.cells #[.int .u64 ev,.int .i64 0,.string s2,.int .i64 num,.int .i64 i4,.slice a5 n5 c5,.slice a6 n6 c6,.string s7,.string s8,.string s9,.int .i64 i10,.slice a11 n11 c11,.bool t12,.string s13,.string s14] 92)).setCell ⟨V.heap.size,0,none⟩ (.int .u64 1)).setCell ⟨V.heap.size,1,none⟩ (.string ⟨(dig0 0 (audsN 1)).toArray⟩)).setCell ⟨V.heap.size,2,none⟩ (.int .i64 0)).setCell ⟨V.heap.size,3,none⟩ (.int .i64 1)).setCell ⟨V.heap.size,4,none⟩ (.slice na 1 nc)).setCell ⟨V.heap.size,5,none⟩ (.slice (some ⟨wA.heap.size,0,none⟩) 1 1))).heap[wA.heap.size]?=some (.cells #[.int .u64 ev,.int .i64 0,.string s2,.int .i64 num,.int .i64 i4,.slice a5 n5 c5,.slice a6 n6 c6,.string s7,.string s8,.string s9,.int .i64 i10,.slice a11 n11 c11,.bool t12,.string s13,.string s14] 92 (0,0)):=(six_touch (wA.alloc (.cells #[.int .u64 ev,.int .i64 0,.string s2,.int .i64 num,.int .i64 i4,.slice a5 n5 c5,.slice a6 n6 c6,.string s7,.string s8,.string s9,.int .i64 i10,.slice a11 n11 c11,.bool t12,.string s13,.string s14] 92)) V.heap.size _ _ _ _ _ _).heap (heap_alloc_new _ _) (by omega)
      have hP:Pre ((((((((wA.alloc (.cells #[.int .u64 ev,.int .i64 0,.string s2,.int .i64 num,.int .i64 i4,.slice a5 n5 c5,.slice a6 n6 c6,.string s7,.string s8,.string s9,.int .i64 i10,.slice a11 n11 c11,.bool t12,.string s13,.string s14] 92)).setCell ⟨V.heap.size,0,none⟩ (.int .u64 1)).setCell ⟨V.heap.size,1,none⟩ (.string ⟨(dig0 0 (audsN 1)).toArray⟩)).setCell ⟨V.heap.size,2,none⟩ (.int .i64 0)).setCell ⟨V.heap.size,3,none⟩ (.int .i64 1)).setCell ⟨V.heap.size,4,none⟩ (.slice na 1 nc)).setCell ⟨V.heap.size,5,none⟩ (.slice (some ⟨wA.heap.size,0,none⟩) 1 1))):=hp6.out _ _ _ _ _ _ _ _ (Nat.le_refl _) (hpa.out _ _ hpreA)
      have hvR:VtR ((((((((wA.alloc (.cells #[.int .u64 ev,.int .i64 0,.string s2,.int .i64 num,.int .i64 i4,.slice a5 n5 c5,.slice a6 n6 c6,.string s7,.string s8,.string s9,.int .i64 i10,.slice a11 n11 c11,.bool t12,.string s13,.string s14] 92)).setCell ⟨V.heap.size,0,none⟩ (.int .u64 1)).setCell ⟨V.heap.size,1,none⟩ (.string ⟨(dig0 0 (audsN 1)).toArray⟩)).setCell ⟨V.heap.size,2,none⟩ (.int .i64 0)).setCell ⟨V.heap.size,3,none⟩ (.int .i64 1)).setCell ⟨V.heap.size,4,none⟩ (.slice na 1 nc)).setCell ⟨V.heap.size,5,none⟩ (.slice (some ⟨wA.heap.size,0,none⟩) 1 1))) (V.heap.size+1) wA.heap.size 1 0 0 (dig1 1 0 usA) ⟨num,ev,s2,i4,a5,n5,c5,a6,n6,c6,s7,s8,s9,i10,a11,n11,c11,t12,s13,s14⟩:=by
       have hvr:VtR wA (V.alloc (.cells #[.int .u64 0,.string ⟨#[]⟩,.int .i64 0,.int .i64 0,.slice none 0 0,.slice none 0 0] 81)).heap.size wA.heap.size 1 0 0 (dig1 1 0 usA) ⟨num,ev,s2,i4,a5,n5,c5,a6,n6,c6,s7,s8,s9,i10,a11,n11,c11,t12,s13,s14⟩:=hvr
       rw [World.size_alloc] at hvr
       exact hvr.touch hT (fun k h1 h2 h3=>by omega)
      obtain ⟨W,hWW⟩:∃ W,W=((((((((wA.alloc (.cells #[.int .u64 ev,.int .i64 0,.string s2,.int .i64 num,.int .i64 i4,.slice a5 n5 c5,.slice a6 n6 c6,.string s7,.string s8,.string s9,.int .i64 i10,.slice a11 n11 c11,.bool t12,.string s13,.string s14] 92)).setCell ⟨V.heap.size,0,none⟩ (.int .u64 1)).setCell ⟨V.heap.size,1,none⟩ (.string ⟨(dig0 0 (audsN 1)).toArray⟩)).setCell ⟨V.heap.size,2,none⟩ (.int .i64 0)).setCell ⟨V.heap.size,3,none⟩ (.int .i64 1)).setCell ⟨V.heap.size,4,none⟩ (.slice na 1 nc)).setCell ⟨V.heap.size,5,none⟩ (.slice (some ⟨wA.heap.size,0,none⟩) 1 1))):=⟨_,rfl⟩
      rw [<-hWW] at hF hG hP hvR |-
      clear hWW
      obtain ⟨F,hFF⟩:∃ F,F=V.heap.size:=⟨_,rfl⟩
      rw [<-hFF] at hF |-
      obtain ⟨G,hGG⟩:∃ G,G=wA.heap.size:=⟨_,rfl⟩
      rw [<-hGG] at hF hG |-
      clear hFF hGG)
  clear hlo hsA hpreA hvr hbA x0 x1 x2 x3 x4 x5 g0 g1 g2 g3 g4 g5
 all_goals
  have hPW:=HPB.out W hP
  have hvX:∃ lo' hi',VtR W lo' hi' 1 0 0 (dig1 1 0 usA) ⟨num,ev,s2,i4,a5,n5,c5,a6,n6,c6,s7,s8,s9,i10,a11,n11,c11,t12,s13,s14⟩:=⟨_,_,hvR⟩
  obtain ⟨hsrv,hc,hB6⟩:=HV.out
  have hBW:=hB6.trans (hPW.mono hB6.size)
  have hsrv:=hsrv.old hPW
  have hc:=hc.old hPW
  have hown:W.ownsRow G 92 15 (.slice (some ⟨G,0,none⟩) 1 1) 1 (vtCells [(⟨num,ev,s2,i4,a5,n5,c5,a6,n6,c6,s7,s8,s9,i10,a11,n11,c11,t12,s13,s14⟩:Vt)]):=own_lit hG rfl
  obtain ⟨Pre2,hPre2⟩:∃ Pre2:World->Prop,Pre2=fun A=>Below W.heap.size W A:=⟨_,rfl⟩
  have hp2:Pre2 W.drew:=by rw [hPre2];exact below_drew W
  have hcp2:=Lib.hid (fun A (hA:Pre2 A)=>(show A.cell? ⟨F,0,none⟩=some (.int .u64 1)/\A.cell? ⟨F,1,none⟩=some (.string ⟨(dig0 0 (audsN 1)).toArray⟩)/\A.cell? ⟨F,2,none⟩=some (.int .i64 0)/\A.cell? ⟨F,3,none⟩=some (.int .i64 1)/\A.cell? ⟨F,4,none⟩=some (.slice na 1 nc)/\A.cell? ⟨F,5,none⟩=some (.slice (some ⟨G,0,none⟩) 1 1) by
   rw [hPre2] at hA
   obtain ⟨e0,e1,e2,e3,e4,e5,_⟩:=six_of_row ((hA.block _ (lt_of_heap hF)).trans hF)
   exact ⟨e0,e1,e2,e3,e4,e5⟩))
  have q1:=Lib.hid (fun A (hA:Pre2 A)=>(show Calls Tryz.prog 29 #[.pointer (some ⟨p,0,none⟩)] A fun e w'=>∃ gh ch pna pnc,e=.returned (.slice (some ⟨gh,0,none⟩) 2 ch)/\(w'.cell? ⟨gh,0,none⟩=some (.int .u64 0)/\w'.cell? ⟨gh,1,none⟩=some (.string ⟨nought16.toArray⟩)/\w'.cell? ⟨gh,2,none⟩=some (.int .i64 0)/\w'.cell? ⟨gh,3,none⟩=some (.int .i64 1)/\w'.cell? ⟨gh,4,none⟩=some (.slice pna 1 pnc))/\(Cells w' (.slice pna 1 pnc) (txs (nodes0 0 (audsN 1)))/\Keyrow w' pna pnc (nodes0 0 (audsN 1)))/\Pre2 w' from by
   have hA':Below W.heap.size W A:=by rw [hPre2] at hA;exact hA
   refine Calls.mono (heads_flat 1 p 0 1 usA _ A (hsrv.old hA') (by decide) rfl) ?_
   rintro e w' ⟨gh,ch,pna,pnc,h1,h2,h3,h4,h5⟩
   exact ⟨gh,ch,pna,pnc,h1,h2,⟨h3,h4⟩,by rw [hPre2] at hA |-;exact hA.trans (h5.mono hA.size)⟩))
  have q2:=Lib.hid (fun A pna pnc (hA:Pre2 A) (hc0:Cells A (.slice pna 1 pnc) (txs (nodes0 0 (audsN 1)))) (hr0:Keyrow A pna pnc (nodes0 0 (audsN 1)))=>(show Calls Tryz.prog 32 #[.agg #[.int .u64 1,.string ⟨(dig0 0 (audsN 1)).toArray⟩,.int .i64 0,.int .i64 1,.slice na 1 nc,.slice (some ⟨G,0,none⟩) 1 1],.agg #[.int .u64 0,.string ⟨nought16.toArray⟩,.int .i64 0,.int .i64 1,.slice pna 1 pnc],.int .i64 1,.agg #[.int .i64 1,.int .i64 1]] A fun e w'=>e=.returned (.int .i64 0)/\Pre2 w'/\Below w.heap.size w w' from by
   have hA':Below W.heap.size W A:=by rw [hPre2] at hA;exact hA
   refine Calls.mono (cert_any 1 1 1 0 usA pna na pnc nc [⟨num,ev,s2,i4,a5,n5,c5,a6,n6,c6,s7,s8,s9,i10,a11,n11,c11,t12,s13,s14⟩] (some ⟨G,0,none⟩) 1 1 0 G A (by decide) (by decide) (by decide) (by decide) (by decide) (by decide) (by decide) (fun i j h hj=>pos_apart i j h (by omega)) (win_ok 1 (by decide) (by decide)) ((HT.out.old hBW).kon.old hA') hc0 hr0 (hc.old hA') ((Touch.of_below hA' (fun _=>False)).own hown (fun _ _=>id)) rfl ?_ ?_ (fun h=>by omega) (fun _=>rfl)) ?_
   · have hn:num=0:=hvR.num
     have hl:winL (dig0 0 (audsN 1)) 1 1=[0]:=List.perm_singleton.1 (shuf_perm 1 _ 1 (by decide))
     rw [hl,hn]
     exact List.Sublist.refl _
   · intro v hv
     rw [List.mem_singleton] at hv
     subst hv
     obtain ⟨lo',hi',hr⟩:=hvX
     have hn:num=0:=hr.num
     have h2:=hr.touch (Touch.of_below hA' (fun _=>False)) (fun _ _ _=>id)
     refine ⟨lo',hi',?_⟩
     show VtR A lo' hi' 1 num 0 (dig1 1 0 usA) _
     rw [hn] at h2 |-
     exact h2
   · rintro e w' ⟨h1,h2⟩
     exact ⟨h1,by rw [hPre2];exact hA'.trans (h2.mono hA'.size),(hBW.trans (hA'.mono hBW.size)).trans (h2.mono (hBW.trans (hA'.mono hBW.size)).size)⟩))
  clear hPre2 hsrv hc hB6 hPW hBW hF hG hP hvR hvX hown HPB HV hpa hpad hp6 hpsz hcp q0 hpre0
  go_wp2_with fail
  refine tn_region (fun A=>A.cell? ⟨F,0,none⟩=some (.int .u64 1)/\A.cell? ⟨F,1,none⟩=some (.string ⟨(dig0 0 (audsN 1)).toArray⟩)/\A.cell? ⟨F,2,none⟩=some (.int .i64 0)/\A.cell? ⟨F,3,none⟩=some (.int .i64 1)/\A.cell? ⟨F,4,none⟩=some (.slice na 1 nc)/\A.cell? ⟨F,5,none⟩=some (.slice (some ⟨G,0,none⟩) 1 1)) 1000 (hcp2.out _ hp2) (fun hHeld=>?_)
  iterate 5
   (refine tn_on (v:=?_) rfl (fun w hS=>?_) (by assumption) ?_;rotate_left;· (try dsimp only at hS);go_simp;with_reducible rfl)
   simp only [gP,gA,gB,gC,gD,gE,gF]
  (refine zn_on 8 (v:=?_) rfl (fun w hS=>?_) (by assumption) ?_;rotate_left;· (try dsimp only at hS);go_simp;with_reducible rfl)
  simp only [gP,gA,gB,gC,gD,gE,gF]
  refine zn_one 5 rfl (fun K hK=>?_)
  go_simp
  refine (q1.out _ hp2).mono ?_
  rintro e wH ⟨gh,ch,pna,pnc,rfl,⟨y0,y1,y2,y3,y4⟩,hcr,hpreH⟩
  try go_simp
  refine hK.out _ _ (hcp2.out _ hpreH) (fun hHeld=>?_)
  clear hK K
  try simp only [gP,gA,gB,gC,gD,gE,gF]
  (refine zn_on 6 (v:=?_) rfl (fun w hS=>?_) (by assumption) ?_;rotate_left;· (try dsimp only at hS);go_simp;with_reducible rfl)
  simp only [gP,gA,gB,gC,gD,gE,gF]
  refine zn_one 7 rfl (fun K hK=>?_)
  go_simp
  refine hK.out _ _ (hcp2.out _ hpreH) (fun hHeld=>?_)
  clear hK K
  try simp only [gP,gA,gB,gC,gD,gE,gF]
  refine zn_one 9 rfl (fun K hK=>?_)
  go_simp
  refine (q2.out _ _ _ hpreH hcr.1 hcr.2).mono ?_
  rintro e wK ⟨rfl,hpreK,hbK⟩
  try go_simp
  refine hK.out _ _ (hcp2.out _ hpreK) (fun hHeld=>?_)
  clear hK K
  try simp only [gP,gA,gB,gC,gD,gE,gF]
  (refine zn_on 10 (v:=?_) rfl (fun w hS=>?_) (by assumption) ?_;rotate_left;· (try dsimp only at hS);go_simp;with_reducible rfl)
  simp only [gP,gA,gB,gC,gD,gE,gF]
  (refine zn_on 11 (v:=?_) rfl (fun w hS=>?_) (by assumption) ?_;rotate_left;· (try dsimp only at hS);go_simp;with_reducible rfl)
  simp only [gP,gA,gB,gC,gD,gE,gF]
  (refine zn_on 12 (v:=?_) rfl (fun w hS=>?_) (by assumption) ?_;rotate_left;· (try dsimp only at hS);go_simp;with_reducible rfl)
  simp only [gP,gA,gB,gC,gD,gE]
  refine tn_done ?_ (by kernel_rfl) _
 all_goals
  have HX:=Lib.hid hbK
  clear hbK hpreK hpreH hp2 q1 q2 hcp2
  go_wp2
  go_ret
  exact ⟨rfl,HX.out⟩
theorem mixed_of_struct {H:Type} {enc:TypeId×Value->H} {P:Program} {w:World} {base:Nat} {sp:Nat->Bool} {held:Bool} {fuel:Nat} {t:TypeId} {fs:Array Field} {cs:List Value} {zs:List (IntKind×Int)} {p:List MemPlace} (ht:P.underlying t=some (.struct fs))
 (hf:∀ (i:Nat) (f:Field),fs[i]?=some f->f.offset=i/\P.cellsOf f.type=1/\∃ k z,zs[i]?=some (k,z)/\P.underlying f.type=some (.int k)) (hz:zs.length<=fs.size)
 (h:DataW.trod enc P w base sp held fuel t cs=some (.agg (zs.map fun x=>.lit (.int x.1 x.2)),p)) (i:Nat) (x:IntKind×Int) (hi:zs[i]?=some x):cs[i]?=some (.int x.1 x.2):=by
 obtain ⟨xs,n,rfl,hx,hl,hxl,hall⟩:=DataW.trod_struct ht h
 have hxs:xs.map (·.1)=zs.map fun x=>(DataW.lit (.int x.1 x.2):DataW H):=by
  have:=congrArg Prod.fst hx
  simpa using this.symm
 have hlt:i<zs.length:=by
  rcases Nat.lt_or_ge i zs.length with h | h
  · exact h
  · rw [List.getElem?_eq_none h] at hi;cases hi
 obtain ⟨ho,hc,k,z,hk,hu⟩:=hf i fs[i] (by simp [Nat.lt_of_lt_of_le hlt hz])
 obtain rfl:x=(k,z):=Option.some.inj (hi.symm.trans hk)
 have h1:=hall i fs[i] (by simp [Nat.lt_of_lt_of_le hlt hz])
 obtain ⟨b,hb⟩:∃ b,xs[i]?=some b:=⟨xs[i]'(by omega),List.getElem?_eq_getElem (by omega)⟩
 rw [hb,ho,hc] at h1
 obtain ⟨z',hcz,rfl,_⟩:=DataW.trod_int hu h1
 have h2:cs[i]?=some (.int k z'):=by
  have:=congrArg (·[0]?) hcz
  simpa [List.getElem?_take,List.getElem?_drop] using this
 have h3:(xs.map (·.1))[i]?=some (DataW.lit (.int k z'):DataW H):=by simp [hb]
 rw [hxs] at h3
 simp only [List.getElem?_map,hk,Option.map_some,Option.some.injEq,DataW.lit.injEq,Lit.int.injEq,true_and] at h3
 rw [h2,h3]
def alpZs (i:Nat):List (IntKind×Int):=if i=0 then [(.i64,1),(.i32,97),(.i32,122)] else if i=1 then [(.i64,2),(.i32,945),(.i32,969)] else [(.i64,4),(.i32,1072),(.i32,1103)]
theorem alp_of_reads {w:World} (h:Lib.VarReads Tryz.prog w "plumbob/label.alphabets" (.agg [.agg [.lit (.int .i64 1),.lit (.int .i32 97),.lit (.int .i32 122)],.agg [.lit (.int .i64 2),.lit (.int .i32 945),.lit (.int .i32 969)],.agg [.lit (.int .i64 4),.lit (.int .i32 1072),.lit (.int .i32 1103)]])):Alp w:=by
 obtain ⟨g,t,cs,fuel,p,hg,hty,hvar,hd⟩:=h
 have e1:=Option.some.inj (Tryz.alpName.symm.trans hg)
 subst e1
 have e2:=Option.some.inj ((show (Tryz.prog.globals[2]?).map (·.type)=some 356 by kernel_rfl).symm.trans hty)
 subst e2
 have hc3:Tryz.prog.cellsOf 355=3:=by kernel_rfl
 have hel:∀ i,i<3->∀ j x,(alpZs i)[j]?=some x->cs[3*i+j]?=some (.int x.1 x.2):=fun i hi j x hj=>by
  obtain ⟨fuel',d,q,hdi,he⟩:=Lib.array_elem Tryz.underlying356 hd i hi
  have hd2:d=.agg ((alpZs i).map fun x=>.lit (.int x.1 x.2)):=by
   clear he
   have h3:i=0\/i=1\/i=2:=by omega
   rcases h3 with rfl | rfl | rfl <;> exact (Option.some.inj hdi).symm
  subst hd2
  rw [hc3] at he
  have hl3:(alpZs i).length=3:=by unfold alpZs;split;rfl;split <;> rfl
  have:=mixed_of_struct Tryz.underlying355 (fun a f ha=>by
   have hz:∃ z0 z1 z2,alpZs i=[(.i64,z0),(.i32,z1),(.i32,z2)]:=by unfold alpZs;split;exact ⟨_,_,_,rfl⟩;split <;> exact ⟨_,_,_,rfl⟩
   obtain ⟨z0,z1,z2,hz⟩:=hz
   rw [hz]
   match a,ha with
   | 0,ha=>simp at ha;subst ha;exact ⟨rfl,by kernel_rfl,_,_,rfl,by kernel_rfl⟩
   | 1,ha=>simp at ha;subst ha;exact ⟨rfl,by kernel_rfl,_,_,rfl,by kernel_rfl⟩
   | 2,ha=>simp at ha;subst ha;exact ⟨rfl,by kernel_rfl,_,_,rfl,by kernel_rfl⟩
   | a+3,ha=>simp at ha) (by rw [hl3];decide) he j x hj
  have hj3:j<3:=by
   rcases Nat.lt_or_ge j 3 with h | h
   · exact h
   · rw [List.getElem?_eq_none (by omega)] at hj;cases hj
  rw [List.getElem?_take,if_pos hj3,List.getElem?_drop,Array.getElem?_toList] at this
  rw [show 3*i+j=i*3+j from by omega]
  exact this
 intro i v hv
 rw [World.var?_cell Tryz.alpName hvar i]
 have hi:i<9:=by
  rcases Nat.lt_or_ge i 9 with h | h
  · exact h
  · rw [Array.getElem?_eq_none (by exact h)] at hv;cases hv
 have h9:=hel (i/3) (by omega) (i%3)
 rw [show 3*(i/3)+i%3=i from by omega] at h9
 have hall:∀ i,i<9->∃ x,(alpZs (i/3))[i%3]?=some x/\alpCells[i]?=some (.int x.1 x.2):=fun i hi=>by
  match i,hi with
  | 0,_=>exact ⟨_,rfl,rfl⟩
  | 1,_=>exact ⟨_,rfl,rfl⟩
  | 2,_=>exact ⟨_,rfl,rfl⟩
  | 3,_=>exact ⟨_,rfl,rfl⟩
  | 4,_=>exact ⟨_,rfl,rfl⟩
  | 5,_=>exact ⟨_,rfl,rfl⟩
  | 6,_=>exact ⟨_,rfl,rfl⟩
  | 7,_=>exact ⟨_,rfl,rfl⟩
  | 8,_=>exact ⟨_,rfl,rfl⟩
 obtain ⟨x,hx,hx2⟩:=hall i hi
 rw [h9 x hx,<-hx2,hv]
theorem kons_of_reads {W:World} (hS:Kon W) (hA:Lib.VarReads Tryz.prog W "plumbob/label.alphabets" (.agg [.agg [.lit (.int .i64 1),.lit (.int .i32 97),.lit (.int .i32 122)],.agg [.lit (.int .i64 2),.lit (.int .i32 945),.lit (.int .i32 969)],.agg [.lit (.int .i64 4),.lit (.int .i32 1072),.lit (.int .i32 1103)]]))
 (h3:Lib.VarReads Tryz.prog W "unicode/utf8.first" Lib.firstData) (h4:Lib.VarReads Tryz.prog W "unicode/utf8.acceptRanges" Lib.acceptData):Kons W:=
 ⟨hS,alp_of_reads hA,utf8Tabs_of_readsT (ρ:=Tryz.lays196_ren) (U8Types.of196 Tryz.lays196) ⟨by kernel_rfl,by kernel_rfl,by kernel_rfl,by kernel_rfl,by kernel_rfl,by kernel_rfl,by kernel_rfl⟩ h3 h4⟩
end Go.Proofs.YtcgkomafaepjnaaGreatDoor
