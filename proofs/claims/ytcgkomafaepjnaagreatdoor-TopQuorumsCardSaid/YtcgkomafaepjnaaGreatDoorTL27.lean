/- Package plumbobtop: a vote that was made is right. Conditions: five auditors at the most, whose places differ. -/
import Derived.Test.YtcgkomafaepjnaaGreatDoorTL26
import Derived.Test.YtcgkomafaepjnaaGreatDoorTL25
import Derived.Test.YtcgkomafaepjnaaGreatDoorTL20
import Derived.Test.YtcgkomafaepjnaaGreatDoorTL12
import Derived.Test.YtcgkomafaepjnaaGreatDoorTL21
set_option maxRecDepth 100000
set_option maxHeartbeats 16000000
namespace Go.Proofs.YtcgkomafaepjnaaGreatDoor
open Go.RowKit
def sgX (idx:Nat) (seed m:List UInt8):List Value:=
 if idx=0 then txs (sigOf seed 0 (digs (digestAt0 (openOf seed) m)) 35) else txs (sigOf seed 1 (digs (digestAt1 (openOf seed) m)) 35)
def sgY (idx:Nat) (seed:List UInt8):List Value:=
 if idx=0 then txs [pubKey seed 1,nodeOf (pubKey seed 2) (pubKey seed 3)] else txs [pubKey seed 0,nodeOf (pubKey seed 2) (pubKey seed 3)]
theorem sg_parts {i:Int} {a x:Option Addr} {c z:Nat} {a' x':Option Addr} {c' z':Nat} (e:Value.agg #[.int .i64 i,.slice a 35 c,.slice a' 2 c']=.agg #[.int .i64 i,.slice x 35 z,.slice x' 2 z']):a=x/\c=z/\a'=x'/\c'=z':=by
 injection e with e
 injection e with e
 injection e with _ e
 injection e with e1 e
 injection e with e2 _
 injection e1 with h1 _ h2
 injection e2 with h3 _ h4
 exact ⟨h1,h2,h3,h4⟩
theorem xsign_two (idx b:Nat) (hi:idx<=1) (seed:List UInt8) (m:ByteArray) (w:World) (hk:Key4 w b seed) (hs:seed.length<=1000) (hm:m.size<=1000) (hK:Kon w) :
 Calls Tryz.prog 75 #[.pointer (some ⟨b,0,none⟩),.int .i64 idx,.string m] w fun e w'=>∃ a c a' c',e=.returned (.tuple #[.agg #[.int .i64 idx,.slice a 35 c,.slice a' 2 c'],.int .i64 0])/\Cells w' (.slice a 35 c) (sgX idx seed m.data.toList)/\Cells w' (.slice a' 2 c') (sgY idx seed)/\(∀ k,(Value.slice a 35 c).ownBlock=some k->w.heap.size<=k)/\(∀ k,(Value.slice a' 2 c').ownBlock=some k->w.heap.size<=k)/\Below w.heap.size w w':=by
 rcases Nat.le_one_iff_eq_zero_or_eq_one.1 hi with rfl | rfl
 · refine (xsign_two0 b seed m w hk hs hm hK).mono ?_
   rintro e w' ⟨a,c,a',c',rfl,⟨x,z,x',z',e1,h1,h2⟩,h3,h4,h5⟩
   obtain ⟨rfl,rfl,rfl,rfl⟩:=sg_parts e1
   exact ⟨a,c,a',c',rfl,h1,h2,h3,h4,h5⟩
 · refine (xsign_two1 b seed m w hk hs hm hK).mono ?_
   rintro e w' ⟨a,c,a',c',rfl,⟨x,z,x',z',e1,h1,h2⟩,h3,h4,h5⟩
   obtain ⟨rfl,rfl,rfl,rfl⟩:=sg_parts e1
   exact ⟨a,c,a',c',rfl,h1,h2,h3,h4,h5⟩
theorem xverify_two (idx:Nat) (hi:idx<=1) (seed:List UInt8) (m:ByteArray) (a:Option Addr) (c:Nat) (a':Option Addr) (c':Nat) (w:World) (h1:Cells w (.slice a 35 c) (sgX idx seed m.data.toList)) (h2:Cells w (.slice a' 2 c') (sgY idx seed)) (hm:m.size<=1000) (hK:Kon w) :
 Calls Tryz.prog 86 #[pubVh (openOf seed) (rootOf4 seed) 2,.string m,.agg #[.int .i64 idx,.slice a 35 c,.slice a' 2 c']] w fun e w'=>e=.returned (.bool true)/\Below w.heap.size w w':=by
 rcases Nat.le_one_iff_eq_zero_or_eq_one.1 hi with rfl | rfl
 · exact xverify_two0 seed m _ w ⟨a,c,a',c',rfl,h1,h2⟩ hm hK
 · exact xverify_two1 seed m _ w ⟨a,c,a',c',rfl,h1,h2⟩ hm hK
theorem layP_small (n:Nat):∀ k,k<=n->∀ q∈layP (audsN n) [] k,q.1.length=16/\q.2.length<=1000
 | 0,_,_,hq=>by cases hq
 | k+1,hk,q,hq=>by
   rw [layP_succ _ _ _ (by rw [audsN_length];omega)] at hq
   rcases List.mem_cons.1 hq with rfl | hq
   · exact ⟨posOf_length _,by show (audVal _).length<=1000;rw [audVal_length];decide⟩
   · exact layP_small n k (by omega) q hq
theorem layP_val (n:Nat) (hpos:∀ i j,i<j->j<n->posOf i≠posOf j) (i:Nat):∀ k,k<=n->i<k->valOf (layP (audsN n) [] k) (posOf i)=audVal (audOf i)
 | 0,_,hi=>absurd hi (Nat.not_lt_zero _)
 | k+1,hk,hi=>by
   rw [layP_succ _ _ _ (by rw [audsN_length];omega),audsN_at]
   by_cases e:i=k
   · subst e
     exact valOf_put_same _ _ _
   · rw [valOf_put_other _ _ (hpos i k (by omega) (by omega))]
     exact layP_val n hpos i k (by omega) (by omega)
theorem layP_mem (n i:Nat):∀ k,k<=n->i<k->posOf i∈keysOf (layP (audsN n) [] k)
 | 0,_,hi=>absurd hi (Nat.not_lt_zero _)
 | k+1,hk,hi=>by
   rw [layP_succ _ _ _ (by rw [audsN_length];omega),keysOf_put]
   by_cases e:i=k
   · exact .inl (by rw [e])
   · exact .inr (layP_mem n i k (by omega) (by omega))
theorem nodes0_eq (n d:Nat):nodes0 d (audsN n)=hs.level (layP (audsN n) [] n) d:=by
 unfold nodes0
 rw [audsN_length]
def dig1 (n d:Nat) (us:List (List UInt8×List UInt8)):List UInt8:=digHd 1 (dig0 d (audsN n)) d n (nodes1 d (audsN n) us)
theorem hdN0 (n d:Nat) (hn:n<=5) (hd:d<=3):HdOk 0 nought16 d n (2^d) (nodes0 d (audsN n)):=by
 have h:=hdOk0 d (audsN n) hd (by rw [audsN_length];omega)
 rw [audsN_length] at h
 exact h
theorem hdN1 (n d:Nat) (us:List (List UInt8×List UInt8)) (hn:n<=5) (hd:d<=3):HdOk 1 (dig0 d (audsN n)) d n (2^d) (nodes1 d (audsN n) us):=by
 have h:=hdOk1 d (audsN n) us hd (by rw [audsN_length];omega)
 rw [audsN_length] at h
 exact h
def vtOf (i idx:Nat) (dg:List UInt8) (a:Option Addr) (c:Nat) (a':Option Addr) (c':Nat) (pa:Option Addr) (pc:Nat) (pf:Pf):Vt:=
 ⟨i,1,⟨dg.toArray⟩,idx,a,35,c,a',2,c',(audOf i).s,⟨(openOf (seedA i)).toArray⟩,⟨(rootOf4 (seedA i)).toArray⟩,2,pa,pf.beside.length,pc,pf.there,⟨pf.key.toArray⟩,⟨pf.val.toArray⟩⟩
def VtR (w:World) (lo hi n i idx:Nat) (dg:List UInt8) (v:Vt):Prop:=
 hi<=w.heap.size/\∃ a c a' c' pa pc pf k,v=vtOf i idx dg a c a' c' pa pc pf/\Cells w (.slice a 35 c) (sgX idx (seedA i) (msgAt 1 0 i dg))/\Cells w (.slice a' 2 c') (sgY idx (seedA i))/\Keyrow w pa pc pf.beside/\Made hs (valOf (layP (audsN n) [] n)) (keysOf (layP (audsN n) [] n)) (posOf i) 0 pf k/\(∀ k,(Value.slice a 35 c).ownBlock=some k->lo<=k/\k<hi)/\(∀ k,(Value.slice a' 2 c').ownBlock=some k->lo<=k/\k<hi)/\(0<pf.beside.length->∀ q o,pa=some ⟨q,o,none⟩->lo<=q/\q<hi)
theorem VtR.touch {T:Nat->Prop} {w w':World} {lo hi n i idx:Nat} {dg:List UInt8} {v:Vt} (h:VtR w lo hi n i idx dg v) (ht:Touch T w w') (hT:∀ k,lo<=k->k<hi->¬ T k):VtR w' lo hi n i idx dg v:=by
 obtain ⟨h0,a,c,a',c',pa,pc,pf,k,e,h1,h2,h3,h4,h5,h6,h7⟩:=h
 exact ⟨Nat.le_trans h0 ht.size,a,c,a',c',pa,pc,pf,k,e,ht.cells h1 (fun k hk=>hT k (h5 k hk).1 (h5 k hk).2),ht.cells h2 (fun k hk=>hT k (h6 k hk).1 (h6 k hk).2),h3.touch' ht (fun hl q o e=>hT q (h7 hl q o e).1 (h7 hl q o e).2),h4,h5,h6,h7⟩
theorem VtR.num {w:World} {lo hi n i idx:Nat} {dg:List UInt8} {v:Vt} (h:VtR w lo hi n i idx dg v):v.num=i:=by
 obtain ⟨h0,a,c,a',c',pa,pc,pf,k,e,_⟩:=h
 rw [e]
 rfl
theorem seedA_few (i:Nat):(seedA i).length<=1000:=by show 8<=1000;decide
theorem own_lt {w:World} {a:Option Addr} {n c:Nat} {xs:List Value} (h:Cells w (.slice a n c) xs) (hne:xs≠[]):∀ k,(Value.slice a n c).ownBlock=some k->k<w.heap.size:=by
 obtain ⟨a',c',e,h⟩:=h
 injection e with e1 e2 e3
 subst e1
 obtain ⟨b,off,rfl,hb,_⟩:=h hne
 intro k hk
 injection hk with hk
 subst hk
 exact hb
theorem sgX_ne (idx:Nat) (seed m:List UInt8):sgX idx seed m≠[]:=by
 have hl:(sgX idx seed m).length=35:=by
  unfold sgX
  split <;> rw [txs_length] <;> exact sigOf_length _ _ _ _
 intro e
 rw [e] at hl
 cases hl
theorem sgY_ne (idx:Nat) (seed:List UInt8):sgY idx seed≠[]:=by
 unfold sgY
 split <;> exact fun e=>by cases e
theorem vote_right (n p i idx kb E:Nat) (us:List (List UInt8×List UInt8)) (S:Nat->Prop) (na:Option Addr) (nc:Nat) (w:World) (hn:n<=5) (hin:i<n) (hidx:idx<=1) (h:SrvB w S p 0 (audsN n) us) (hkey:KeyU w kb E (seedA i)) (hc:Cells w (.slice na 1 nc) (txs (nodes1 0 (audsN n) us))) (hK:Kon w) :
 Calls Tryz.prog 31 #[.pointer (some ⟨kb,0,none⟩),.int .i64 idx,.int .i64 i,.int .i64 0,.pointer (some ⟨p,0,none⟩),hdV 1 (dig0 0 (audsN n)) 0 n na 1 nc] w fun e w'=>∃ v,e=.returned (.agg v.row.toArray)/\VtR w' w.heap.size w'.heap.size n i idx (dig1 n 0 us) v/\Below w.heap.size w w':=by
 refine (vote_any kb idx i p n (dig0 0 (audsN n)) (dig1 n 0 us) na 1 nc (audOf i).s (openOf (seedA i)) (rootOf4 (seedA i)) 2 (sgX idx (seedA i) (msgAt 1 0 i (dig1 n 0 us))) (sgY idx (seedA i)) (fun pf=>∃ k,Made hs (valOf (layP (audsN n) [] n)) (keysOf (layP (audsN n) [] n)) (posOf i) 0 pf k) w hidx (by omega) (digHd_length _ _ _ _ _) hK ?_ ?_ ?_).mono ?_
 · exact fun W hb=>hdigest_any 1 (dig0 0 (audsN n)) 0 n na 1 nc (nodes1 0 (audsN n) us) W (hdN1 n 0 us hn (by decide)) (hc.old hb) (hK.old hb)
 · exact fun W hb=>xsign_two idx kb hidx (seedA i) ⟨(msgAt 1 0 i (dig1 n 0 us)).toArray⟩ W ((hkey.touch (Touch.of_below hb (fun _=>False)) (fun _ _ _ h=>h)).key) (seedA_few i) (by show (msgAt 1 0 i (dig1 n 0 us)).toArray.size<=1000;rw [List.size_toArray];unfold msgAt;rw [tagOf_length];decide) (hK.old hb)
 · intro W hb
   have hl:i<(audsN n).length:=by rw [audsN_length];exact hin
   refine (smember_any p 0 (audsN n) us S i hl (audOf i).s (openOf (seedA i)) (rootOf4 (seedA i)) 2 (audsN_at n i hl) W (h.touch (Touch.of_below hb (fun _=>False)) (fun _ _ h=>h)) (by rw [audsN_length];omega) (hK.old hb)).mono ?_
   rintro e w' ⟨a,c,pf,k,rfl,h1,h2,h3,h4⟩
   rw [audsN_length] at h2
   exact ⟨a,c,pf,rfl,h1,⟨k,h2⟩,h3,h4⟩
 · rintro e w' ⟨a,c,a',c',pa,pc,pf,rfl,h1,h2,h3,h4,h5,⟨k,h6⟩,h7,h8⟩
   exact ⟨vtOf i idx (dig1 n 0 us) a c a' c' pa pc pf,rfl,⟨Nat.le_refl _,a,c,a',c',pa,pc,pf,k,rfl,h1,h2,h5,h6,fun k hk=>⟨h3 k hk,own_lt h1 (sgX_ne _ _ _) k hk⟩,fun k hk=>⟨h4 k hk,own_lt h2 (sgY_ne _ _) k hk⟩,fun hl q o e=>⟨h7 q o e,keyrow_lt h5 hl q o e⟩⟩,h8⟩
theorem win_idx (l:List Nat) (slots i:Nat) (h:i∈l.take slots):∃ j:Nat,(Lib.idxOf ((l.map fun (x:Nat)=>((x:Nat):Int)).take slots) (i:Int):Int)=(j:Int):=by
 have h0:0<=Lib.idxOf ((l.map fun (x:Nat)=>((x:Nat):Int)).take slots) (i:Int):=by
  rw [Lib.idxOf_nonneg_iff,<-List.map_take]
  exact List.elem_eq_true_of_mem (List.mem_map.2 ⟨i,h,rfl⟩)
 exact ⟨(Lib.idxOf ((l.map fun (x:Nat)=>((x:Nat):Int)).take slots) (i:Int)).toNat,(Int.toNat_of_nonneg h0).symm⟩
theorem natRow_cell {w:World} {g:Nat} {l:List Nat} (hg:w.heap[g]?=some (.cells (natRow l) 3 (0,0))) (j:Nat) (hj:j<(l.map fun (x:Nat)=>((x:Nat):Int)).length):w.cell? ⟨g,j,none⟩=some (.int .i64 ((l.map fun (x:Nat)=>((x:Nat):Int)).getD j 0)):=by
 rw [List.length_map] at hj
 rw [cell_of_row _ _ j _ _ _ hg,natRow_at l j hj]
 simp [List.getD_eq_getElem?_getD,List.getElem?_eq_getElem hj]
theorem vtr_check (n slots i idx lo hi G g cc:Nat) (l:List Nat) (us:List (List UInt8×List UInt8)) (v:Vt) (pna na:Option Addr) (pnc nc:Nat) (w:World) (hn:n<=5) (hin:i<n) (hidx:idx<=1) (hpos:∀ i j,i<j->j<n->posOf i≠posOf j) (hv:VtR w lo hi n i idx (dig1 n 0 us) v)
 (hr0:Keyrow w pna pnc (nodes0 0 (audsN n))) (hc1:Cells w (.slice na 1 nc) (txs (nodes1 0 (audsN n) us))) (hG:w.cell? ⟨G,0,none⟩=some (.slice (some ⟨g,0,none⟩) slots slots)) (hg:w.heap[g]?=some (.cells (natRow l) 3 (0,0))) (hl:l.length=n) (hsn:slots<=n) (hmem:i∈l.take slots) (hK:Kon w) :
 Calls Tryz.prog 79 #[.agg v.row.toArray,hdV 0 nought16 0 n pna 1 pnc,hdV 1 (dig0 0 (audsN n)) 0 n na 1 nc,.slice (some ⟨G,0,none⟩) 1 cc] w fun e w'=>e=.returned (.int .i64 0)/\Below w.heap.size w w':=by
 obtain ⟨_,a,c,a',c',pa,pc,pf,k,rfl,h1,h2,h3,h4,_,_,_⟩:=hv
 obtain ⟨t1,t2,t3⟩:=made_there h4 (layP_mem n i n (Nat.le_refl _) hin)
 rw [layP_val n hpos i n (Nat.le_refl _) hin] at t3
 have hgood:=h4.good (keys_keysOf (fun q hq=>(layP_small n n (Nat.le_refl _) q hq).1))
 have hroot:=made_root h4
 obtain ⟨j,hj⟩:=win_idx l slots i hmem
 refine vcheck_any 1 0 (dig1 n 0 us) i idx a 35 c a' 2 c' (audOf i).s (openOf (seedA i)) (rootOf4 (seedA i)) 2 pa pf.beside.length pc pf.there pf.key pf.val G 1 cc g slots slots (l.map fun (x:Nat)=>((x:Nat):Int)) 0 nought16 0 n pna 1 pnc (dig0 0 (audsN n)) 0 n na 1 nc ⟨(hs.climb (posOf i) pf.beside 0 (hs.foot pf)).toArray⟩ w (by decide) hG (by rw [List.length_map];omega) (by omega) (natRow_cell hg) j hj (by decide) (by decide) (digHd_length _ _ _ _ _) (by omega) (by show 2<=1000;decide) (openOf_length _) (rootOf4_length _) (by decide) hK ?_ ?_ ?_ ?_
 · exact fun W hb=>hdigest_any 1 (dig0 0 (audsN n)) 0 n na 1 nc (nodes1 0 (audsN n) us) W (hdN1 n 0 us hn (by decide)) (hc1.old hb) (hK.old hb)
 · intro W hb
   refine hroot_any 0 nought16 0 n pna 1 pnc _ W fun W' hb'=>?_
   have hr:=(hr0.old hb).old hb'
   rw [nodes0_eq] at hr
   have:=broot_any (layP (audsN n) [] n) 0 pnc pna W' hr ((hK.old hb).old hb') (by decide) (fun q hq=>(layP_small n n (Nat.le_refl _) q hq).1)
   rw [hroot] at this
   exact this
 · intro W hb
   rw [show valAud (audOf i).s (openOf (seedA i)) (rootOf4 (seedA i)) 2=pf.val from t3.symm]
   exact phas_any _ pf (posOf i) 0 W ⟨pa,pc,rfl,h3.old hb⟩ hgood (by rw [t3,audVal_length];decide) (hK.old hb) t1 t2
 · exact fun W hb=>xverify_two idx hidx (seedA i) ⟨(msgAt 1 0 i (dig1 n 0 us)).toArray⟩ a c a' c' W (h1.old hb) (h2.old hb) (by show (msgAt 1 0 i (dig1 n 0 us)).toArray.size<=1000;rw [List.size_toArray];unfold msgAt;rw [tagOf_length];decide) (hK.old hb)
theorem SrvA.lts {w:World} {S:Nat->Prop} {p d:Nat} {auds:List Aud} {us:List (List UInt8×List UInt8)} (h:SrvA w S p d auds us):∀ k,S k->k<w.heap.size:=by
 obtain ⟨bk,dk,g,xl,xr,t0,tb,cv,nv,tv,hv,x3,x4,v2,na,nc,nts,h⟩:=h
 exact h.lt
theorem SrvB.old {w w':World} {S:Nat->Prop} {p d:Nat} {auds:List Aud} {us:List (List UInt8×List UInt8)} (h:SrvB w S p d auds us) (hb:Below w.heap.size w w'):SrvB w' S p d auds us:=
 h.touch (Touch.of_below hb (fun _=>False)) (fun _ _=>id)
theorem SrvA.old {w w':World} {S:Nat->Prop} {p d:Nat} {auds:List Aud} {us:List (List UInt8×List UInt8)} (h:SrvA w S p d auds us) (hb:Below w.heap.size w w'):SrvA w' S p d auds us:=
 h.touch (Touch.of_below hb (fun _=>False)) (fun _ _=>id)
def TwoA (w0:World) (Pr:Nat->Prop) (w:World) (pa pb d n:Nat) (usa usb:List (List UInt8×List UInt8)):Prop:=
 Kons w0/\Below w0.heap.size w0 w/\(∀ k,Pr k->k<w.heap.size)/\∃ Sa Sb,SrvA w Sa pa d (audsN n) usa/\SrvA w Sb pb d (audsN n) usb/\(∀ k,Sa k->¬ Sb k)/\(∀ k,Sa k\/Sb k->w0.heap.size<=k/\¬ Pr k)
theorem TwoA.swap {w0 w:World} {Pr:Nat->Prop} {pa pb d n:Nat} {usa usb:List (List UInt8×List UInt8)} (h:TwoA w0 Pr w pa pb d n usa usb):TwoA w0 Pr w pb pa d n usb usa:=by
 obtain ⟨h1,h2,h0,Sa,Sb,h3,h4,h5,h6⟩:=h
 exact ⟨h1,h2,h0,Sb,Sa,h4,h3,fun k hb ha=>h5 k ha hb,fun k hk=>h6 k hk.symm⟩
theorem TwoA.old {w0 w w':World} {Pr:Nat->Prop} {pa pb d n:Nat} {usa usb:List (List UInt8×List UInt8)} (h:TwoA w0 Pr w pa pb d n usa usb) (hb:Below w.heap.size w w'):TwoA w0 Pr w' pa pb d n usa usb:=by
 obtain ⟨h1,h2,h0,Sa,Sb,h3,h4,h5,h6⟩:=h
 exact ⟨h1,h2.trans (hb.mono h2.size),fun k hk=>Nat.lt_of_lt_of_le (h0 k hk) hb.size,Sa,Sb,h3.old hb,h4.old hb,h5,h6⟩
theorem TwoA.guard {w0 w w':World} {Pr Q:Nat->Prop} {pa pb d n:Nat} {usa usb:List (List UInt8×List UInt8)} (h:TwoA w0 Pr w pa pb d n usa usb) (hb:Below w.heap.size w w') (hQ:∀ k,Q k->w.heap.size<=k/\k<w'.heap.size):TwoA w0 (fun k=>Pr k\/Q k) w' pa pb d n usa usb:=by
 obtain ⟨h1,h2,h0,Sa,Sb,h3,h4,h5,h6⟩:=h
 refine ⟨h1,h2.trans (hb.mono h2.size),fun k hk=>hk.elim (fun h=>Nat.lt_of_lt_of_le (h0 k h) hb.size) (fun h=>(hQ k h).2),Sa,Sb,h3.old hb,h4.old hb,h5,fun k hk=>⟨(h6 k hk).1,fun hp=>?_⟩⟩
 rcases hp with hp | hp
 · exact (h6 k hk).2 hp
 · have:=(hQ k hp).1
   rcases hk with hk | hk
   · have:=h3.lts k hk;omega
   · have:=h4.lts k hk;omega
theorem TwoA.bel {w0 w:World} {Pr:Nat->Prop} {pa pb d n:Nat} {usa usb:List (List UInt8×List UInt8)} (h:TwoA w0 Pr w pa pb d n usa usb):Below w0.heap.size w0 w:=h.2.1
theorem TwoA.kons {w0 w:World} {Pr:Nat->Prop} {pa pb d n:Nat} {usa usb:List (List UInt8×List UInt8)} (h:TwoA w0 Pr w pa pb d n usa usb):Kons w:=h.1.old h.2.1
theorem two_made {w0 w1 w2:World} {pa pb d n:Nat} {Sa Sb:Nat->Prop} (hK:Kons w0) (h1:SrvA w1 Sa pa d (audsN n) []) (hs1:∀ k,Sa k->w0.heap.size<=k) (hb1:Below w0.heap.size w0 w1) (h2:SrvA w2 Sb pb d (audsN n) []) (hs2:∀ k,Sb k->w1.heap.size<=k) (hb2:Below w1.heap.size w1 w2):TwoA w0 (fun _=>False) w2 pa pb d n [] []:=
 ⟨hK,hb1.trans (hb2.mono hb1.size),fun _ h=>h.elim,Sa,Sb,h1.old hb2,h2,fun k ha hb=>by have:=h1.lts k ha;have:=hs2 k hb;omega,fun k hk=>⟨hk.elim (hs1 k) (fun hb=>Nat.le_trans hb1.size (hs2 k hb)),id⟩⟩
theorem puta_any (w0:World) (Pr:Nat->Prop) (pa pb d n:Nat) (usa usb:List (List UInt8×List UInt8)) (s:ByteArray) (seed:List UInt8) (w:World) (h:TwoA w0 Pr w pa pb d n usa usb) (hus:usa.length<=2) (hseed:seed.length<=1000) (hlow:Low s) (hs0:0<s.size) (hs64:s.size<=64) (hnew:usa.lookup s.data.toList=none) :
 Calls Tryz.prog 26 #[.pointer (some ⟨pa,0,none⟩),.string s,.string ⟨seed.toArray⟩] w fun e w'=>e=.returned (.bool true)/\TwoA w0 Pr w' pa pb d n ((s.data.toList,seed) :: usa) usb/\∀ k,Pr k->w'.heap[k]?=w.heap[k]?:=by
 have hk:=h.kons
 obtain ⟨h1,h2,h0,Sa,Sb,h3,h4,h5,h6⟩:=h
 refine (put_any pa d (audsN n) usa Sa s seed w h3 hus hseed hlow hs0 hs64 hnew hk (fun hc=>by have:=(h6 _ (.inl hc)).1;have:=h1.kon.lt;omega)).mono ?_
 rintro e w' ⟨rfl,S',h7,h8,h9⟩
 refine ⟨rfl,⟨h1,h2.trans (h9.below (fun k hk=>(h6 k (.inl hk)).1) h2.size),fun k hk=>Nat.lt_of_lt_of_le (h0 k hk) h9.size,S',Sb,h7,h4.touch h9 (fun k hb ha=>h5 k ha hb),fun k ha hb=>?_,fun k hk=>?_⟩,fun k hk=>h9.block k (h0 k hk) (fun ha=>(h6 k (.inl ha)).2 hk)⟩
 · rcases h8 k ha with h | h
   · exact h5 k h hb
   · have:=h4.lts k hb
     omega
 · rcases hk with hk | hk
   · rcases h8 k hk with h | h
     · exact h6 k (.inl h)
     · exact ⟨Nat.le_trans h2.size h,fun hp=>by have:=h0 k hp;omega⟩
   · exact h6 k (.inr hk)
theorem putb_any (w0:World) (Pr:Nat->Prop) (pa pb d n:Nat) (usa usb:List (List UInt8×List UInt8)) (s:ByteArray) (seed:List UInt8) (w:World) (h:TwoA w0 Pr w pa pb d n usa usb) (hus:usb.length<=2) (hseed:seed.length<=1000) (hlow:Low s) (hs0:0<s.size) (hs64:s.size<=64) (hnew:usb.lookup s.data.toList=none) :
 Calls Tryz.prog 26 #[.pointer (some ⟨pb,0,none⟩),.string s,.string ⟨seed.toArray⟩] w fun e w'=>e=.returned (.bool true)/\TwoA w0 Pr w' pa pb d n usa ((s.data.toList,seed) :: usb)/\∀ k,Pr k->w'.heap[k]?=w.heap[k]?:=
 (puta_any w0 Pr pb pa d n usb usa s seed w h.swap hus hseed hlow hs0 hs64 hnew).mono fun _ _ hh=>⟨hh.1,hh.2.1.swap,hh.2.2⟩
def MidA (w0:World) (Pr:Nat->Prop) (w:World) (pa pb d n:Nat) (usa usb:List (List UInt8×List UInt8)) (na:Option Addr) (nc:Nat):Prop:=
 Kons w0/\Below w0.heap.size w0 w/\(∀ k,Pr k->k<w.heap.size)/\∃ Sa Sb,SrvB w Sa pa d (audsN n) usa/\SrvA w Sb pb d (audsN n) usb/\(∀ k,Sa k->¬ Sb k)/\(∀ k,Sb k->w0.heap.size<=k/\¬ Pr k)/\Cells w (.slice na (2^d) nc) (txs (nodes1 d (audsN n) usa))/\(∀ k,(Value.slice na (2^d) nc).ownBlock=some k->¬ Sb k)
theorem MidA.guard {w0 w w':World} {Pr Q:Nat->Prop} {pa pb d n:Nat} {usa usb:List (List UInt8×List UInt8)} {na:Option Addr} {nc:Nat} (h:MidA w0 Pr w pa pb d n usa usb na nc) (hb:Below w.heap.size w w') (hQ:∀ k,Q k->w.heap.size<=k/\k<w'.heap.size):MidA w0 (fun k=>Pr k\/Q k) w' pa pb d n usa usb na nc:=by
 obtain ⟨h1,h2,h0,Sa,Sb,h3,h4,h5,h6,h7,h8⟩:=h
 refine ⟨h1,h2.trans (hb.mono h2.size),fun k hk=>hk.elim (fun h=>Nat.lt_of_lt_of_le (h0 k h) hb.size) (fun h=>(hQ k h).2),Sa,Sb,h3.old hb,h4.old hb,h5,fun k hk=>⟨(h6 k hk).1,fun hp=>?_⟩,h7.old hb,h8⟩
 rcases hp with hp | hp
 · exact (h6 k hk).2 hp
 · have:=(hQ k hp).1
   have:=h4.lts k hk
   omega
def TwoB (w0 w:World) (pa pb d n:Nat) (usa usb:List (List UInt8×List UInt8)) (na:Option Addr) (nc:Nat) (nb:Option Addr) (nd:Nat):Prop:=
 Kons w0/\Below w0.heap.size w0 w/\∃ Sa Sb,SrvB w Sa pa d (audsN n) usa/\SrvB w Sb pb d (audsN n) usb/\Cells w (.slice na (2^d) nc) (txs (nodes1 d (audsN n) usa))/\Cells w (.slice nb (2^d) nd) (txs (nodes1 d (audsN n) usb))
theorem TwoB.old {w0 w w':World} {pa pb d n:Nat} {usa usb:List (List UInt8×List UInt8)} {na:Option Addr} {nc:Nat} {nb:Option Addr} {nd:Nat} (h:TwoB w0 w pa pb d n usa usb na nc nb nd) (hb:Below w.heap.size w w'):TwoB w0 w' pa pb d n usa usb na nc nb nd:=by
 obtain ⟨h1,h2,Sa,Sb,h3,h4,h5,h6⟩:=h
 exact ⟨h1,h2.trans (hb.mono h2.size),Sa,Sb,h3.old hb,h4.old hb,h5.old hb,h6.old hb⟩
theorem TwoB.bel {w0 w:World} {pa pb d n:Nat} {usa usb:List (List UInt8×List UInt8)} {na:Option Addr} {nc:Nat} {nb:Option Addr} {nd:Nat} (h:TwoB w0 w pa pb d n usa usb na nc nb nd):Below w0.heap.size w0 w:=h.2.1
theorem TwoB.kons {w0 w:World} {pa pb d n:Nat} {usa usb:List (List UInt8×List UInt8)} {na:Option Addr} {nc:Nat} {nb:Option Addr} {nd:Nat} (h:TwoB w0 w pa pb d n usa usb na nc nb nd):Kons w:=h.1.old h.2.1
theorem puba_room (w0:World) (Pr:Nat->Prop) (pa pb d n N:Nat) (usa usb:List (List UInt8×List UInt8)) (w:World) (h:TwoA w0 Pr w pa pb d n usa usb) (hus:usa.length<=3) (hn:n<=5) (hd:d<=3) (hN:2^d=N) :
 Calls Tryz.prog 27 #[.pointer (some ⟨pa,0,none⟩)] w fun e w'=>∃ v na nc,e=.returned (.tuple #[.agg #[.int .u64 1,.string ⟨(dig0 d (audsN n)).toArray⟩,.int .i64 d,.int .i64 n,.slice na N nc],v,.int .i64 0])/\MidA w0 Pr w' pa pb d n usa usb na nc/\(∀ k,Pr k->w'.heap[k]?=w.heap[k]?)/\N<=nc:=by
 subst hN
 have hk:=h.kons
 obtain ⟨h1,h2,h0,Sa,Sb,h3,h4,h5,h6⟩:=h
 have hp:=spublish_room pa d (audsN n) usa Sa w h3 hus (by rw [audsN_length];omega) hd hk.kon (fun hc=>by have:=(h6 _ (.inl hc)).1;have:=h1.kon.lt;omega)
 rw [audsN_length] at hp
 refine hp.mono ?_
 rintro e w' ⟨v,na,nc,rfl,h7,h8,h9,h10,h11⟩
 refine ⟨v,na,nc,rfl,⟨h1,h2.trans (h10.below (fun k hk=>(h6 k (.inl hk)).1) h2.size),fun k hk=>Nat.lt_of_lt_of_le (h0 k hk) h10.size,more Sa w w',Sb,h7,h4.touch h10 (fun k hb ha=>h5 k ha hb),fun k ha hb=>?_,fun k hk=>h6 k (.inr hk),h8,fun k hk hb=>?_⟩,fun k hk=>h10.block k (h0 k hk) (fun ha=>(h6 k (.inl ha)).2 hk),h11⟩
 · rcases ha with ha | ha
   · exact h5 k ha hb
   · have:=h4.lts k hb
     omega
 · have:=h4.lts k hb
   have:=(h9 k hk).1
   omega
theorem puba_any (w0:World) (Pr:Nat->Prop) (pa pb d n N:Nat) (usa usb:List (List UInt8×List UInt8)) (w:World) (h:TwoA w0 Pr w pa pb d n usa usb) (hus:usa.length<=3) (hn:n<=5) (hd:d<=3) (hN:2^d=N) :
 Calls Tryz.prog 27 #[.pointer (some ⟨pa,0,none⟩)] w fun e w'=>∃ v na nc,e=.returned (.tuple #[.agg #[.int .u64 1,.string ⟨(dig0 d (audsN n)).toArray⟩,.int .i64 d,.int .i64 n,.slice na N nc],v,.int .i64 0])/\MidA w0 Pr w' pa pb d n usa usb na nc/\∀ k,Pr k->w'.heap[k]?=w.heap[k]?:=
 (puba_room w0 Pr pa pb d n N usa usb w h hus hn hd hN).mono fun _ _ ⟨v,na,nc,h1,h2,h3,_⟩=>⟨v,na,nc,h1,h2,h3⟩
theorem pubb_any (w0:World) (Pr:Nat->Prop) (pa pb d n N:Nat) (usa usb:List (List UInt8×List UInt8)) (na:Option Addr) (nc:Nat) (w:World) (h:MidA w0 Pr w pa pb d n usa usb na nc) (hus:usb.length<=3) (hn:n<=5) (hd:d<=3) (hN:2^d=N) :
 Calls Tryz.prog 27 #[.pointer (some ⟨pb,0,none⟩)] w fun e w'=>∃ v nb nd,e=.returned (.tuple #[.agg #[.int .u64 1,.string ⟨(dig0 d (audsN n)).toArray⟩,.int .i64 d,.int .i64 n,.slice nb N nd],v,.int .i64 0])/\TwoB w0 w' pa pb d n usa usb na nc nb nd/\(∀ k,Pr k->w'.heap[k]?=w.heap[k]?)/\w.heap.size<=w'.heap.size:=by
 subst hN
 obtain ⟨h1,h2,h0,Sa,Sb,h3,h4,h5,h6,hc,hcb⟩:=h
 have hk:=h1.old h2
 have hp:=spublish_any pb d (audsN n) usb Sb w h4 hus (by rw [audsN_length];omega) hd hk.kon (fun hc=>by have:=(h6 _ hc).1;have:=h1.kon.lt;omega)
 rw [audsN_length] at hp
 refine hp.mono ?_
 rintro e w' ⟨v,nb,nd,rfl,h7,h8,h9,h10⟩
 exact ⟨v,nb,nd,rfl,⟨h1,h2.trans (h10.below (fun k hk=>(h6 k hk).1) h2.size),Sa,more Sb w w',h3.touch h10 h5,h7,h10.cells hc hcb,h8⟩,fun k hk=>h10.block k (h0 k hk) (fun hb=>(h6 k hb).2 hk),h10.size⟩
theorem KeysAt.old {w w':World} {m v n E:Nat} {va:Option Addr} {bs:Nat->Nat} (h:KeysAt w m v n E va bs) (hb:Below w.heap.size w w'):KeysAt w' m v n E va bs:=
 ⟨(Touch.of_below hb (fun _=>False)).own h.1 (fun _ _=>id),fun i hi=>⟨(h.2 i hi).1,(h.2 i hi).2.touch (Touch.of_below hb (fun _=>False)) (fun _ _ _=>id)⟩⟩
theorem dig0_eq (n d:Nat):dig0 d (audsN n)=digHd 0 nought16 d n (nodes0 d (audsN n)):=by
 unfold dig0
 rw [audsN_length]
theorem cert_any (n slots needed idx:Nat) (us:List (List UInt8×List UInt8)) (pna na:Option Addr) (pnc nc:Nat) (vs:List Vt) (va:Option Addr) (nv vc:Nat) (r:Int) (B:Nat) (w:World) (h1:1<=n) (hn:n<=5) (hs0:0<slots) (hsn:slots<=n) (hne0:0<needed) (hnes:needed<=slots) (hidx:idx<=1)
 (hpos:∀ i j,i<j->j<n->posOf i≠posOf j) (hz:WinOk (dig0 0 (audsN n))) (hK:Kon w)
 (hc0:Cells w (.slice pna 1 pnc) (txs (nodes0 0 (audsN n)))) (hr0:Keyrow w pna pnc (nodes0 0 (audsN n))) (hc1:Cells w (.slice na 1 nc) (txs (nodes1 0 (audsN n) us)))
 (hvs:w.ownsRow B 92 15 (.slice va nv vc) nv (vtCells vs)) (hnv:nv=vs.length) (hsub:(vs.map (·.num)).Sublist ((winL (dig0 0 (audsN n)) n slots).take slots)) (hv:∀ v∈vs,∃ lo hi,VtR w lo hi n v.num idx (dig1 n 0 us) v)
 (hra:nv<needed->r=16) (hrb:needed<=nv->r=0) :
 Calls Tryz.prog 32 #[.agg #[.int .u64 1,.string ⟨(dig0 0 (audsN n)).toArray⟩,.int .i64 0,.int .i64 n,.slice na 1 nc,.slice va nv vc],hdV 0 nought16 0 n pna 1 pnc,.int .i64 n,.agg #[.int .i64 slots,.int .i64 needed]] w fun e w'=>e=.returned (.int .i64 r)/\Below w.heap.size w w':=by
 have hlen:(winL (dig0 0 (audsN n)) n slots).length=n:=shuf_length _ _ _
 have hlt:∀ x∈(winL (dig0 0 (audsN n)) n slots).take slots,x<n:=fun x hx=>shuf_lt n _ slots hsn x (List.mem_of_mem_take hx)
 have hnd:((winL (dig0 0 (audsN n)) n slots).take slots).Nodup:=List.Sublist.nodup (List.take_sublist _ _) (shuf_nodup n _ slots hsn)
 have hin:∀ v∈vs,v.num∈(winL (dig0 0 (audsN n)) n slots).take slots:=fun v hv=>hsub.subset (List.mem_map.2 ⟨v,hv,rfl⟩)
 have hfew:vs.length<=slots:=by
  have:=hsub.length_le
  rw [List.length_map,List.length_take,hlen] at this
  omega
 refine ccheck_any 1 (dig0 0 (audsN n)) n na 1 nc 0 nought16 n pna 1 pnc n slots needed (winL (dig0 0 (audsN n)) n slots) vs va nv vc r B w hvs hnv (by omega) (fun v hv=>by have:=hlt _ (hin v hv);omega) (List.Sublist.nodup hsub hnd) hra hrb ?_ ?_ ?_
 · intro W hb
   have:=hnext_any 0 nought16 0 n pna 1 pnc (nodes0 0 (audsN n)) n na 1 nc (nodes1 0 (audsN n) us) W (hdN0 n 0 hn (by decide)) (hc0.old hb) (by rw [<-dig0_eq];exact hdN1 n 0 us hn (by decide)) (hc1.old hb) (Nat.le_refl _) (hK.old hb)
   rw [<-dig0_eq] at this
   exact this
 · intro W hb
   exact cwindows_any 0 nought16 n pna 1 pnc n slots needed (dig0 0 (audsN n)) W hn hs0 hsn hne0 hnes (digHd_length _ _ _ _ _) hz (hK.old hb) (fun W' hb'=>by
    have:=hdigest_any 0 nought16 0 n pna 1 pnc (nodes0 0 (audsN n)) W' (hdN0 n 0 hn (by decide)) ((hc0.old hb).old hb') ((hK.old hb).old hb')
    rw [<-dig0_eq] at this
    exact this)
 · intro v hvm W G c g hb hG hg
   obtain ⟨lo,hi,hr⟩:=hv v hvm
   exact vtr_check n slots v.num idx lo hi G g c (winL (dig0 0 (audsN n)) n slots) us v pna na pnc nc W hn (hlt _ (hin v hvm)) hidx hpos (hr.touch (Touch.of_below hb (fun _=>False)) (fun _ _ _=>id)) (hr0.old hb) (hc1.old hb) hG hg hlen hsn (hin v hvm) (hK.old hb)
structure QV (w0 W:World) (n X:Nat) (na:Option Addr) (nc ix:Nat) (dx:List UInt8) (xv:Value) (xs:List Vt) (Y:Nat) (nb:Option Addr) (nd iy:Nat) (dy:List UInt8) (yv:Value) (ys:List Vt):Prop where
 bel:Touch (fun j=>j=X\/j=Y) w0 W
 ne:X≠Y
 lx:X<w0.heap.size
 ly:Y<w0.heap.size
 cx:W.heap[X]?=some (.cells #[.int .u64 1,.string ⟨(dig0 0 (audsN n)).toArray⟩,.int .i64 0,.int .i64 n,.slice na 1 nc,xv] 81 (0,0))
 cy:W.heap[Y]?=some (.cells #[.int .u64 1,.string ⟨(dig0 0 (audsN n)).toArray⟩,.int .i64 0,.int .i64 n,.slice nb 1 nd,yv] 81 (0,0))
 ox:W.ownsRow w0.heap.size 92 15 xv xs.length (vtCells xs)
 oy:W.ownsRow w0.heap.size 92 15 yv ys.length (vtCells ys)
 ap:∀ j,xv.ownBlock=some j->yv.ownBlock≠some j
 vx:∀ v∈xs,∃ lo hi,VtR W lo hi n v.num ix dx v/\w0.heap.size<=lo/\∀ j,lo<=j->j<hi->xv.ownBlock≠some j/\yv.ownBlock≠some j
 vy:∀ v∈ys,∃ lo hi,VtR W lo hi n v.num iy dy v/\w0.heap.size<=lo/\∀ j,lo<=j->j<hi->xv.ownBlock≠some j/\yv.ownBlock≠some j
theorem QV.swap {w0 W:World} {n X:Nat} {na:Option Addr} {nc ix:Nat} {dx:List UInt8} {xv:Value} {xs:List Vt} {Y:Nat} {nb:Option Addr} {nd iy:Nat} {dy:List UInt8} {yv:Value} {ys:List Vt} (h:QV w0 W n X na nc ix dx xv xs Y nb nd iy dy yv ys):QV w0 W n Y nb nd iy dy yv ys X na nc ix dx xv xs:=
 ⟨h.bel.mono (fun j hj=>.inl hj.symm),h.ne.symm,h.ly,h.lx,h.cy,h.cx,h.oy,h.ox,fun j h1 h2=>h.ap j h2 h1,
  fun v hv=>by obtain ⟨lo,hi,h1,h2,h3⟩:=h.vy v hv;exact ⟨lo,hi,h1,h2,fun j h4 h5=>(h3 j h4 h5).symm⟩,
  fun v hv=>by obtain ⟨lo,hi,h1,h2,h3⟩:=h.vx v hv;exact ⟨lo,hi,h1,h2,fun j h4 h5=>(h3 j h4 h5).symm⟩⟩
theorem QV.old {w0 W W':World} {n X:Nat} {na:Option Addr} {nc ix:Nat} {dx:List UInt8} {xv:Value} {xs:List Vt} {Y:Nat} {nb:Option Addr} {nd iy:Nat} {dy:List UInt8} {yv:Value} {ys:List Vt} (h:QV w0 W n X na nc ix dx xv xs Y nb nd iy dy yv ys) (hb:Below W.heap.size W W'):QV w0 W' n X na nc ix dx xv xs Y nb nd iy dy yv ys:=
 have T:Touch (fun _=>False) W W':=Touch.of_below hb _
 ⟨h.bel.then (Touch.of_below hb (fun _=>False)) (fun _ e=>e.elim),h.ne,h.lx,h.ly,T.heap h.cx id,T.heap h.cy id,T.own h.ox (fun _ _=>id),T.own h.oy (fun _ _=>id),h.ap,
  fun v hv=>by obtain ⟨lo,hi,h1,h2⟩:=h.vx v hv;exact ⟨lo,hi,h1.touch T (fun _ _ _=>id),h2⟩,
  fun v hv=>by obtain ⟨lo,hi,h1,h2⟩:=h.vy v hv;exact ⟨lo,hi,h1.touch T (fun _ _ _=>id),h2⟩⟩
theorem vtCells_snoc (l:List Vt) (v:Vt):vtCells (l++[v])=vtCells l++v.row:=by simp [vtCells]
theorem QV.add {w0 W W5 W7:World} {n X:Nat} {na:Option Addr} {nc ix:Nat} {dx:List UInt8} {xv:Value} {xs:List Vt} {Y:Nat} {nb:Option Addr} {nd iy:Nat} {dy:List UInt8} {yv:Value} {ys:List Vt} (h:QV w0 W n X na nc ix dx xv xs Y nb nd iy dy yv ys) (hb5:Below W.heap.size W W5) {v:Vt} {lo i m c gg:Nat} (hv:VtR W5 lo W5.heap.size n i ix dx v) (hlo:W.heap.size<=lo) (o:Obj)
 (hg:(W5.alloc o).grownBy W7 xv.ownBlock) (ho:W7.ownsRow w0.heap.size 92 15 (.slice (some ⟨gg,0,none⟩) m c) m (vtCells xs++v.row)) (hm:m=xs.length+1) (hat:xv.ownBlock=some gg\/gg=W5.heap.size+1) :
 QV w0 (W7.setCell ⟨X,5,none⟩ (.slice (some ⟨gg,0,none⟩) m c)) n X na nc ix dx (.slice (some ⟨gg,0,none⟩) m c) (xs++[v]) Y nb nd iy dy yv ys:=by
 have hnum:=hv.num
 subst hnum
 have s0:=h.bel.size
 have s5:=hb5.size
 have T7:Touch (fun j=>xv.ownBlock=some j\/j=X) W5 W7:=(Touch.alloc W5 o).trans ((Touch.grown hg).mono (fun j hj=>.inl (.inl hj.symm)))
 have T2:Touch (fun j=>j=X) W7 (W7.setCell ⟨X,5,none⟩ (.slice (some ⟨gg,0,none⟩) m c)):=Touch.setCell (S:=fun j=>j=X) W7 ⟨X,5,none⟩ _ rfl
 have T5:Touch (fun j=>xv.ownBlock=some j\/j=X) W5 (W7.setCell ⟨X,5,none⟩ (.slice (some ⟨gg,0,none⟩) m c)):=T7.trans (T2.mono (fun j hj=>.inl (.inr hj)))
 have T:Touch (fun j=>xv.ownBlock=some j\/j=X) W (W7.setCell ⟨X,5,none⟩ (.slice (some ⟨gg,0,none⟩) m c)):=(Touch.of_below hb5 _).trans T5
 have hxl:=h.ox.lt
 have hyl:=h.oy.lt
 have hX:=h.lx
 have hY:=h.ly
 have hown:∀ j,(Value.slice (some ⟨gg,0,none⟩) m c).ownBlock=some j->xv.ownBlock=some j\/W5.heap.size<j:=fun j hj=>by
  have hj:gg=j:=Option.some.inj hj
  rw [<-hj]
  exact hat.imp id (fun e=>by omega)
 have r7:W7.heap[X]?=some (.cells #[.int .u64 1,.string ⟨(dig0 0 (audsN n)).toArray⟩,.int .i64 0,.int .i64 n,.slice na 1 nc,xv] 81 (0,0)):=by
  have T8:Touch (fun j=>xv.ownBlock=some j) W W7:=(Touch.of_below hb5 _).trans ((Touch.alloc W5 o).trans ((Touch.grown hg).mono (fun j hj=>.inl hj.symm)))
  exact T8.heap h.cx (fun e=>by have:=(hxl _ e).1;omega)
 have old:∀ {idx:Nat} {dg:List UInt8} {u:Vt},(∃ lo hi,VtR W lo hi n u.num idx dg u/\w0.heap.size<=lo/\∀ j,lo<=j->j<hi->xv.ownBlock≠some j/\yv.ownBlock≠some j)->∃ lo hi,VtR (W7.setCell ⟨X,5,none⟩ (.slice (some ⟨gg,0,none⟩) m c)) lo hi n u.num idx dg u/\w0.heap.size<=lo/\∀ j,lo<=j->j<hi->(Value.slice (some ⟨gg,0,none⟩) m c).ownBlock≠some j/\yv.ownBlock≠some j:=by
  rintro idx dg u ⟨lo,hi,h1,h2,h3⟩
  refine ⟨lo,hi,h1.touch T (fun j h4 h5 e=>?_),h2,fun j h4 h5=>⟨fun e=>?_,(h3 j h4 h5).2⟩⟩
  · rcases e with e | e
    · exact (h3 j h4 h5).1 e
    · omega
  · have:=h1.1
    rcases hown j e with e | e
    · exact (h3 j h4 h5).1 e
    · omega
 refine ⟨h.bel.then T (fun j hj=>?_),h.ne,h.lx,h.ly,heap_setCell_same W7 X 5 _ _ _ r7,T.heap h.cy (fun e=>?_),?_,T.own h.oy (fun k hk e=>?_),fun j hj hy=>?_,fun u hu=>?_,fun u hu=>old (h.vy u hu)⟩
 · rcases hj with hj | hj
   · exact .inr (hxl j hj).1
   · exact .inl (.inl hj)
 · rcases e with e | e
   · have:=(hxl _ e).1
     omega
   · exact h.ne e.symm
 · rw [vtCells_snoc,List.length_append,List.length_singleton,<-hm]
   exact T2.own ho (fun k hk e=>by have:=(ho.lt k hk).1;omega)
 · rcases e with e | e
   · exact h.ap k e hk
   · have:=(hyl k hk).1
     omega
 · rcases hown j hj with e | e
   · exact h.ap j e hy
   · have:=(hyl j hy).2
     omega
 · rcases List.mem_append.1 hu with hu | hu
   · exact old (h.vx u hu)
   · rw [List.mem_singleton] at hu
     subst hu
     refine ⟨lo,W5.heap.size,hv.touch T5 (fun j h4 h5 e=>?_),by omega,fun j h4 h5=>⟨fun e=>?_,fun e=>?_⟩⟩
     · rcases e with e | e
       · have:=(hxl j e).2
         omega
       · omega
     · rcases hown j e with e | e
       · have:=(hxl j e).2
         omega
       · omega
     · have:=(hyl j e).2
       omega
theorem vote_flat (n p i idx kb E:Nat) (us:List (List UInt8×List UInt8)) (S:Nat->Prop) (na:Option Addr) (nc:Nat) (w:World) (hn:n<=5) (hin:i<n) (hidx:idx<=1) (h:SrvB w S p 0 (audsN n) us) (hkey:KeyU w kb E (seedA i)) (hc:Cells w (.slice na 1 nc) (txs (nodes1 0 (audsN n) us))) (hK:Kon w) :
 Calls Tryz.prog 31 #[.pointer (some ⟨kb,0,none⟩),.int .i64 idx,.int .i64 i,.int .i64 0,.pointer (some ⟨p,0,none⟩),.agg #[.int .u64 1,.string ⟨(dig0 0 (audsN n)).toArray⟩,.int .i64 0,.int .i64 n,.slice na 1 nc]] w fun e w'=>∃ (num:Nat) (ev:Int) (s2:ByteArray) (i4:Int) (a5:Option Addr) (n5 c5:Nat) (a6:Option Addr) (n6 c6:Nat) (s7 s8 s9:ByteArray) (i10:Int) (a11:Option Addr) (n11 c11:Nat) (t12:Bool) (s13 s14:ByteArray),e=.returned (.agg #[.int .u64 ev,.int .i64 0,.string s2,.int .i64 num,.int .i64 i4,.slice a5 n5 c5,.slice a6 n6 c6,.string s7,.string s8,.string s9,.int .i64 i10,.slice a11 n11 c11,.bool t12,.string s13,.string s14])/\VtR w' w.heap.size w'.heap.size n i idx (dig1 n 0 us) ⟨num,ev,s2,i4,a5,n5,c5,a6,n6,c6,s7,s8,s9,i10,a11,n11,c11,t12,s13,s14⟩/\Below w.heap.size w w':=by
 refine (vote_right n p i idx kb E us S na nc w hn hin hidx h hkey hc hK).mono ?_
 rintro e w' ⟨⟨num,ev,s2,i4,a5,n5,c5,a6,n6,c6,s7,s8,s9,i10,a11,n11,c11,t12,s13,s14⟩,h1,h2,h3⟩
 exact ⟨num,ev,s2,i4,a5,n5,c5,a6,n6,c6,s7,s8,s9,i10,a11,n11,c11,t12,s13,s14,h1,h2,h3⟩
theorem heads_flat (n p d N:Nat) (us:List (List UInt8×List UInt8)) (S:Nat->Prop) (w:World) (h:SrvB w S p d (audsN n) us) (hd:d<=3) (hN:2^d=N) :
 Calls Tryz.prog 29 #[.pointer (some ⟨p,0,none⟩)] w fun e w'=>∃ gh ch pna pnc,e=.returned (.slice (some ⟨gh,0,none⟩) 2 ch)/\(w'.cell? ⟨gh,0,none⟩=some (.int .u64 0)/\w'.cell? ⟨gh,1,none⟩=some (.string ⟨nought16.toArray⟩)/\w'.cell? ⟨gh,2,none⟩=some (.int .i64 d)/\w'.cell? ⟨gh,3,none⟩=some (.int .i64 n)/\w'.cell? ⟨gh,4,none⟩=some (.slice pna N pnc))/\Cells w' (.slice pna N pnc) (txs (nodes0 d (audsN n)))/\Keyrow w' pna pnc (nodes0 d (audsN n))/\Below w.heap.size w w':=by
 subst hN
 refine (sheaders_any p d (audsN n) us S w h hd).mono ?_
 rintro e w' ⟨v,na,nc,na1,nc1,rfl,ho,h1,h2,h3,hb⟩
 rw [audsN_length] at ho
 obtain ⟨gh,ch,rfl,_,_⟩:=ho.form (by decide)
 have hadd:∀ g i,(⟨g,0,none⟩:Addr).add i=⟨g,i,none⟩:=fun g i=>by unfold Addr.add;split <;> simp_all
 have y0:=ho.cells (g:=gh) rfl 0 _ rfl
 have y1:=ho.cells (g:=gh) rfl 1 _ rfl
 have y2:=ho.cells (g:=gh) rfl 2 _ rfl
 have y3:=ho.cells (g:=gh) rfl 3 _ rfl
 have y4:=ho.cells (g:=gh) rfl 4 _ rfl
 rw [hadd] at y0 y1 y2 y3 y4
 exact ⟨gh,ch,na,nc,rfl,⟨y0,y1,y2,y3,y4⟩,h1.old hb,h3.old hb,hb⟩
def sdA:List UInt8:=[97,117,100,105,116,111,114,97]
theorem sdA_nat:natOf sdA=7022629598041961057:=by decide +kernel
theorem openA:natOf (openOf sdA)=109587863264237520213294427808459291486:=by
 rw [open_nat sdA (by decide),sdA_nat,show sdA.length=8 from rfl]
 decide +kernel
theorem pubA0:natOf (pubKey sdA 0)=307096541454683647571760681959218675773:=by
 rw [pub_nat sdA 0 (by decide) (by decide),sdA_nat,openA,show sdA.length=8 from rfl]
 decide +kernel
theorem pubA1:natOf (pubKey sdA 1)=270160287261815960861294730271175372935:=by
 rw [pub_nat sdA 1 (by decide) (by decide),sdA_nat,openA,show sdA.length=8 from rfl]
 decide +kernel
theorem pubA2:natOf (pubKey sdA 2)=86335342336358027861813975771894635839:=by
 rw [pub_nat sdA 2 (by decide) (by decide),sdA_nat,openA,show sdA.length=8 from rfl]
 decide +kernel
theorem pubA3:natOf (pubKey sdA 3)=149502672718585166229283608902948547973:=by
 rw [pub_nat sdA 3 (by decide) (by decide),sdA_nat,openA,show sdA.length=8 from rfl]
 decide +kernel
theorem rootA:natOf (rootOf4 sdA)=30099562362401952952907059411502025818:=by
 unfold rootOf4 root4
 rw [node_nat (nodeOf (pubKey sdA 0) (pubKey sdA 1)) (nodeOf (pubKey sdA 2) (pubKey sdA 3)) (tagOf_length _ _) (tagOf_length _ _),node_nat (pubKey sdA 0) (pubKey sdA 1) (tagOf_length _ _) (tagOf_length _ _),node_nat (pubKey sdA 2) (pubKey sdA 3) (tagOf_length _ _) (tagOf_length _ _),pubA0,pubA1,pubA2,pubA3]
 decide +kernel
def audA:Aud:=⟨⟨#[120,97]⟩,openOf sdA,rootOf4 sdA,2⟩
theorem valA:natOf (audVal audA)=108194395584396492986176298512887459091:=by
 rw [show audVal audA=valAud ⟨#[120,97]⟩ (openOf sdA) (rootOf4 sdA) 2 from rfl,valAud_nat ⟨#[120,97]⟩ (openOf sdA) (rootOf4 sdA) 2 (by decide) (openOf_length _) (tagOf_length _ _) (by decide),openA,rootA]
 decide +kernel
theorem posA:natOf (posOf 0)=139945399875619327258537880106904654631:=by
 unfold posOf
 rw [tag_small 15 _ (by decide) (by decide) (by decide)]
 decide +kernel
def sdB:List UInt8:=[97,117,100,105,116,111,114,98]
theorem sdB_nat:natOf sdB=7022629598041961058:=by decide +kernel
theorem openB:natOf (openOf sdB)=335977491356365822708457361470532562370:=by
 rw [open_nat sdB (by decide),sdB_nat,show sdB.length=8 from rfl]
 decide +kernel
theorem pubB0:natOf (pubKey sdB 0)=5570502759162565106634749959073574233:=by
 rw [pub_nat sdB 0 (by decide) (by decide),sdB_nat,openB,show sdB.length=8 from rfl]
 decide +kernel
theorem pubB1:natOf (pubKey sdB 1)=241127597531461152970302814621775980495:=by
 rw [pub_nat sdB 1 (by decide) (by decide),sdB_nat,openB,show sdB.length=8 from rfl]
 decide +kernel
theorem pubB2:natOf (pubKey sdB 2)=313582860322941219651667769034773782025:=by
 rw [pub_nat sdB 2 (by decide) (by decide),sdB_nat,openB,show sdB.length=8 from rfl]
 decide +kernel
theorem pubB3:natOf (pubKey sdB 3)=167215043414091343461243541791749708025:=by
 rw [pub_nat sdB 3 (by decide) (by decide),sdB_nat,openB,show sdB.length=8 from rfl]
 decide +kernel
theorem rootB:natOf (rootOf4 sdB)=134317615014077399168110753432440162884:=by
 unfold rootOf4 root4
 rw [node_nat (nodeOf (pubKey sdB 0) (pubKey sdB 1)) (nodeOf (pubKey sdB 2) (pubKey sdB 3)) (tagOf_length _ _) (tagOf_length _ _),node_nat (pubKey sdB 0) (pubKey sdB 1) (tagOf_length _ _) (tagOf_length _ _),node_nat (pubKey sdB 2) (pubKey sdB 3) (tagOf_length _ _) (tagOf_length _ _),pubB0,pubB1,pubB2,pubB3]
 decide +kernel
def audB:Aud:=⟨⟨#[120,98]⟩,openOf sdB,rootOf4 sdB,2⟩
theorem valB:natOf (audVal audB)=116563843709813201526120796066517287038:=by
 rw [show audVal audB=valAud ⟨#[120,98]⟩ (openOf sdB) (rootOf4 sdB) 2 from rfl,valAud_nat ⟨#[120,98]⟩ (openOf sdB) (rootOf4 sdB) 2 (by decide) (openOf_length _) (tagOf_length _ _) (by decide),openB,rootB]
 decide +kernel
theorem posB:natOf (posOf 1)=118247940898374587900571278090318647973:=by
 unfold posOf
 rw [tag_small 15 _ (by decide) (by decide) (by decide)]
 decide +kernel
def sdC:List UInt8:=[97,117,100,105,116,111,114,99]
theorem sdC_nat:natOf sdC=7022629598041961059:=by decide +kernel
theorem openC:natOf (openOf sdC)=2688858685714587009391435523047875932:=by
 rw [open_nat sdC (by decide),sdC_nat,show sdC.length=8 from rfl]
 decide +kernel
theorem pubC0:natOf (pubKey sdC 0)=2893267886737151072405239348859840854:=by
 rw [pub_nat sdC 0 (by decide) (by decide),sdC_nat,openC,show sdC.length=8 from rfl]
 decide +kernel
theorem pubC1:natOf (pubKey sdC 1)=110356552299687241333560932822509526925:=by
 rw [pub_nat sdC 1 (by decide) (by decide),sdC_nat,openC,show sdC.length=8 from rfl]
 decide +kernel
theorem pubC2:natOf (pubKey sdC 2)=69268123497731900587622366987485323505:=by
 rw [pub_nat sdC 2 (by decide) (by decide),sdC_nat,openC,show sdC.length=8 from rfl]
 decide +kernel
theorem pubC3:natOf (pubKey sdC 3)=293799687628574852004792190106201065707:=by
 rw [pub_nat sdC 3 (by decide) (by decide),sdC_nat,openC,show sdC.length=8 from rfl]
 decide +kernel
theorem rootC:natOf (rootOf4 sdC)=194502545368830903348033264941418804786:=by
 unfold rootOf4 root4
 rw [node_nat (nodeOf (pubKey sdC 0) (pubKey sdC 1)) (nodeOf (pubKey sdC 2) (pubKey sdC 3)) (tagOf_length _ _) (tagOf_length _ _),node_nat (pubKey sdC 0) (pubKey sdC 1) (tagOf_length _ _) (tagOf_length _ _),node_nat (pubKey sdC 2) (pubKey sdC 3) (tagOf_length _ _) (tagOf_length _ _),pubC0,pubC1,pubC2,pubC3]
 decide +kernel
def audC:Aud:=⟨⟨#[120,99]⟩,openOf sdC,rootOf4 sdC,2⟩
theorem valC:natOf (audVal audC)=281357888785480517996685382315459920612:=by
 rw [show audVal audC=valAud ⟨#[120,99]⟩ (openOf sdC) (rootOf4 sdC) 2 from rfl,valAud_nat ⟨#[120,99]⟩ (openOf sdC) (rootOf4 sdC) 2 (by decide) (openOf_length _) (tagOf_length _ _) (by decide),openC,rootC]
 decide +kernel
theorem posC:natOf (posOf 2)=124037722912792596843614021507233242852:=by
 unfold posOf
 rw [tag_small 15 _ (by decide) (by decide) (by decide)]
 decide +kernel
def sdD:List UInt8:=[97,117,100,105,116,111,114,100]
theorem sdD_nat:natOf sdD=7022629598041961060:=by decide +kernel
theorem openD:natOf (openOf sdD)=50937952871822512784380920202028185130:=by
 rw [open_nat sdD (by decide),sdD_nat,show sdD.length=8 from rfl]
 decide +kernel
theorem pubD0:natOf (pubKey sdD 0)=263961737733931223800924009991510813147:=by
 rw [pub_nat sdD 0 (by decide) (by decide),sdD_nat,openD,show sdD.length=8 from rfl]
 decide +kernel
theorem pubD1:natOf (pubKey sdD 1)=291753845706075748981890901843494879649:=by
 rw [pub_nat sdD 1 (by decide) (by decide),sdD_nat,openD,show sdD.length=8 from rfl]
 decide +kernel
theorem pubD2:natOf (pubKey sdD 2)=306696694157427084828183529558524550358:=by
 rw [pub_nat sdD 2 (by decide) (by decide),sdD_nat,openD,show sdD.length=8 from rfl]
 decide +kernel
theorem pubD3:natOf (pubKey sdD 3)=223897460552043168163922698954870955914:=by
 rw [pub_nat sdD 3 (by decide) (by decide),sdD_nat,openD,show sdD.length=8 from rfl]
 decide +kernel
theorem rootD:natOf (rootOf4 sdD)=197897130795114520868608134988994873359:=by
 unfold rootOf4 root4
 rw [node_nat (nodeOf (pubKey sdD 0) (pubKey sdD 1)) (nodeOf (pubKey sdD 2) (pubKey sdD 3)) (tagOf_length _ _) (tagOf_length _ _),node_nat (pubKey sdD 0) (pubKey sdD 1) (tagOf_length _ _) (tagOf_length _ _),node_nat (pubKey sdD 2) (pubKey sdD 3) (tagOf_length _ _) (tagOf_length _ _),pubD0,pubD1,pubD2,pubD3]
 decide +kernel
def audD:Aud:=⟨⟨#[120,100]⟩,openOf sdD,rootOf4 sdD,2⟩
theorem valD:natOf (audVal audD)=269665823667855964678852211965147046727:=by
 rw [show audVal audD=valAud ⟨#[120,100]⟩ (openOf sdD) (rootOf4 sdD) 2 from rfl,valAud_nat ⟨#[120,100]⟩ (openOf sdD) (rootOf4 sdD) 2 (by decide) (openOf_length _) (tagOf_length _ _) (by decide),openD,rootD]
 decide +kernel
theorem posD:natOf (posOf 3)=196778044920940393316441979216466624364:=by
 unfold posOf
 rw [tag_small 15 _ (by decide) (by decide) (by decide)]
 decide +kernel
def sdE:List UInt8:=[97,117,100,105,116,111,114,101]
theorem sdE_nat:natOf sdE=7022629598041961061:=by decide +kernel
theorem openE:natOf (openOf sdE)=289545113968429579497783113047107454307:=by
 rw [open_nat sdE (by decide),sdE_nat,show sdE.length=8 from rfl]
 decide +kernel
theorem pubE0:natOf (pubKey sdE 0)=56941430473981161665222210417274172666:=by
 rw [pub_nat sdE 0 (by decide) (by decide),sdE_nat,openE,show sdE.length=8 from rfl]
 decide +kernel
theorem pubE1:natOf (pubKey sdE 1)=69775848340799309321156762748345202064:=by
 rw [pub_nat sdE 1 (by decide) (by decide),sdE_nat,openE,show sdE.length=8 from rfl]
 decide +kernel
theorem pubE2:natOf (pubKey sdE 2)=17917420893087358569732226065777685962:=by
 rw [pub_nat sdE 2 (by decide) (by decide),sdE_nat,openE,show sdE.length=8 from rfl]
 decide +kernel
theorem pubE3:natOf (pubKey sdE 3)=233969368186645631353148774959252157303:=by
 rw [pub_nat sdE 3 (by decide) (by decide),sdE_nat,openE,show sdE.length=8 from rfl]
 decide +kernel
theorem rootE:natOf (rootOf4 sdE)=94071072730017997471979167249242627532:=by
 unfold rootOf4 root4
 rw [node_nat (nodeOf (pubKey sdE 0) (pubKey sdE 1)) (nodeOf (pubKey sdE 2) (pubKey sdE 3)) (tagOf_length _ _) (tagOf_length _ _),node_nat (pubKey sdE 0) (pubKey sdE 1) (tagOf_length _ _) (tagOf_length _ _),node_nat (pubKey sdE 2) (pubKey sdE 3) (tagOf_length _ _) (tagOf_length _ _),pubE0,pubE1,pubE2,pubE3]
 decide +kernel
def audE:Aud:=⟨⟨#[120,101]⟩,openOf sdE,rootOf4 sdE,2⟩
theorem valE:natOf (audVal audE)=119385773620293126392971552022752067748:=by
 rw [show audVal audE=valAud ⟨#[120,101]⟩ (openOf sdE) (rootOf4 sdE) 2 from rfl,valAud_nat ⟨#[120,101]⟩ (openOf sdE) (rootOf4 sdE) 2 (by decide) (openOf_length _) (tagOf_length _ _) (by decide),openE,rootE]
 decide +kernel
theorem posE:natOf (posOf 4)=314141005684421030140289612560992309841:=by
 unfold posOf
 rw [tag_small 15 _ (by decide) (by decide) (by decide)]
 decide +kernel
end Go.Proofs.YtcgkomafaepjnaaGreatDoor
