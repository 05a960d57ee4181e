/- Package band: Root above the nodes of a level. Conditions: a depth of at most three. -/
import Derived.Test.YtcgkomafaepjnaaGreatDoorTL11
import Derived.Test.YtcgkomafaepjnaaGreatDoorTL5
import Derived.Test.YtcgkomafaepjnaaGreatDoorTL6
import Derived.Deep.AppendLies
import Derived.Deep.RegionHeld3
import Derived.Test.YtcgkomafaepjnaaGreatDoorTL8
set_option maxRecDepth 100000
set_option maxHeartbeats 16000000
namespace Go.Proofs.YtcgkomafaepjnaaGreatDoor
open Go.RowKit Go.Shelf
attribute [local go_sem] Oper.semAt_some
def appHid (ts:Array TypeId) (ty:TypeId) (xs:Array Value):Sem Value:=Builtin.append_ ts ty xs
theorem app_hid (ts:Array TypeId) (ty:TypeId) (xs:Array Value):Builtin.append_ ts ty xs=appHid ts ty xs:=rfl
attribute [local go_sem ↓] app_hid
def lenOfV:Value->Nat
 | .slice _ n _=>n
 | _=>0
def rootAct (av:Option Addr) (n cv d N:Nat) (a:Option Addr) (c:Nat) (u7 u19 u20 u21 u22 u23 u35:Value) (Ds:List Nat):Act:=
 { tmps:=#[.slice av n cv,.int .i64 (d:Int),undef,undef,.string ⟨#[]⟩,.int .i64 0,.int .i64 (N:Int),u7,undef,.int .i64 (d:Int),.int .i64 (N:Int),.bool false,.int .i64 (N:Int),.bool false,.bool false,.int .i64 (N:Int),.slice a N c,.int .i64 (N:Int),.bool false,u19,u20,u21,u22,u23,undef,undef,undef,undef,undef,undef,undef,undef,undef,undef,undef,u35,undef,undef,undef],
   defers:=Ds.map fun D=>{ target:=.collected D,args:=#[] } }
theorem broot_any (m:Puts) (d c:Nat) (a:Option Addr) (w:World) (hr:Keyrow w a c (hs.level m d)) (hK:Kon w) (hd:d<=3) (hm16:∀ q∈m,q.1.length=16) :
 Calls Tryz.prog 16 #[.slice a (2^d) c,.int .i64 (d:Int)] w fun e w'=>e=.returned (.tuple #[.string ⟨(hs.at (valOf m) (keysOf m) [] 0).toArray⟩,.int .i64 0])/\Below w.heap.size w w':=by
 have hcnt:=bcount_any d w hd
 have hp:0<2^d:=Nat.two_pow_pos d
 generalize hN:2^d=N at hcnt hp |-
 have h0:((N:Int)==0)=false:=by simp;omega
 refine (callsIn_wide (n:=5)).1 ?_
 refine callsIn_of_wp_marks Tryz.func16 rfl trivial ?_ rfl
 simp only [Tryz.ntmps16,List.size_toArray,List.length_cons,List.length_nil,Nat.reduceAdd,Nat.reduceSub,Array.replicate_succ,Array.replicate_zero,List.push_toArray,List.append_toArray,List.nil_append,List.cons_append]
 gi_wp2_with fail
 refine ⟨trivial,?_⟩
 refine (callsIn_wide.2 hcnt).mono ?_
 rintro e w' ⟨rfl,rfl⟩
 gi_wp2_with fail
 refine wpIn_loop (fun act W=>∃ (e:Nat) (av:Option Addr) (cv:Nat) (Ds:List Nat) (u7 u19 u20 u21 u22 u23 u35:Value),e<=3/\act=rootAct av (2^e) cv d N a c u7 u19 u20 u21 u22 u23 u35 Ds/\Keyrow W av cv (hs.level m e)/\Below w'.heap.size w' W/\Ds.Nodup/\∀ D∈Ds,w'.heap.size<=D/\W.heap[D]?=some (.deferred (some [])))
  (fun act _=>lenOfV (act.tmps.getD 0 undef)) ?_ ?_
 · exact ⟨d,a,c,[],undef,undef,undef,undef,undef,undef,undef,hd,by rw [hN];rfl,hr,Below.refl _ _,List.nodup_nil,by intro D hD;cases hD⟩
 · rintro act W ⟨e,av,cv,Ds,u7,u19,u20,u21,u22,u23,u35,he,rfl,hrow,hB,hnd,hDs⟩
   unfold rootAct
   by_cases he0:e=0
   · subst he0
     have h1:¬ ((1:Int)<((2^0:Nat):Int)):=by decide
     obtain ⟨g,o,rfl,hg,hc⟩:=hrow.cell 0 (by rw [level_length];decide)
     rw [level_zero] at hc
     generalize hNN:hs.at (valOf m) (keysOf m) [] 0=NN at hc
     have HNN:=Lib.hid hNN
     clear hNN
     have hc:W.cell? ⟨g,o,none⟩=some (.string ⟨NN.toArray⟩):=hc
     gi_wp2_with fail
     refine leaves_marks 5 w'.heap.size w' (Nat.le_refl _) ?_ Ds _ hB hnd hDs
     intro W2 hB2
     refine ⟨.tuple #[.string ⟨NN.toArray⟩,.int .i64 0],?_,?_,hB2⟩
     · simp [results,Tryz.f16,go_sem]
     · rw [HNN.out]
   · obtain ⟨e',rfl⟩:∃ e',e=e'+1:=⟨e - 1,by omega⟩
     obtain ⟨c',hc'⟩:∃ c',c'=2^e':=⟨_,rfl⟩
     have h2c:2^(e'+1)=2*c':=by rw [hc',Nat.pow_succ,Nat.mul_comm]
     have hcp:0<c':=by rw [hc'];exact Nat.two_pow_pos _
     have hc8:c'<=8:=by
      have:e'<=2:=by omega
      have:=Nat.pow_le_pow_right (n:=2) (by decide) this
      omega
     obtain ⟨g,o,rfl,hg,hc0⟩:=hrow.cell 0 (by rw [level_length];exact Nat.two_pow_pos _)
     have hroom:=hrow.room
     rw [level_length,h2c] at hroom
     have hall:=Lib.hid hrow
     have hpairs:=Lib.hid (uptoI_pairs m e' c' hcp hc' (by omega))
     have hD':=Lib.hid (And.intro hnd hDs)
     rw [h2c]
     have h1:(1:Int)<((2*c':Nat):Int):=by omega
     have HC':=Lib.hid hc'
     have H2c:=Lib.hid h2c
     clear hc' h2c
     have hch:=Lib.hid (chunk_fn (some ⟨g,o,none⟩) (2*c') cv (W.alloc (.cells #[.slice none 0 0] 31)))
     clear hrow hc0 hnd hDs
     gi_wp2_with fail
     refine ⟨trivial,?_⟩
     refine (callsIn_wide.2 hch.out).mono ?_
     clear hch
     rintro e1 W1 ⟨rfl,hW1⟩
     have hs7:(W.alloc (.cells #[.slice none 0 0] 31)).heap.size=W.heap.size+1:=by simp
     have hs1:W1.heap.size=W.heap.size+3:=by rw [hW1];simp
     have hB1:Below W.heap.size W W1:=by
      rw [hW1]
      exact ((((Below.refl _ W).alloc (Nat.le_refl _) _).alloc (by simp) _).alloc (by simp;omega) _)
     have r7:W1.heap[W.heap.size]?=some (.cells #[.slice none 0 0] 31 (0,0)):=by
      rw [hW1];exact (Below.heap_alloc _ _ _ (by simp;omega)).trans ((Below.heap_alloc _ _ _ (by simp)).trans (heap_alloc_new _ _))
     have r8:W1.heap[W.heap.size+1]?=some (.cells #[.slice (some ⟨g,o,none⟩) (2*c') cv] 31 (0,0)):=by
      have:=heap_alloc_new (W.alloc (.cells #[.slice none 0 0] 31)) (.cells #[.slice (some ⟨g,o,none⟩) (2*c') cv] 31)
      rw [hs7] at this
      rw [hW1];exact (Below.heap_alloc _ _ _ (by simp)).trans this
     have r9:W1.heap[W.heap.size+2]?=some (.cells #[.int .i64 2] 3 (0,0)):=by
      have:=heap_alloc_new ((W.alloc (.cells #[.slice none 0 0] 31)).alloc (.cells #[.slice (some ⟨g,o,none⟩) (2*c') cv] 31)) (.cells #[.int .i64 2] 3)
      rw [World.size_alloc,hs7] at this
      rw [hW1];exact this
     rw [hs7]
     clear hW1
     have hallW1:=Lib.hid (hall.out.old hB1)
     have hKW:=hK.old hB
     gi_wp2_with fail
     generalize hf:(fun x:Fin c'=>hs.jn ((hs.level m (e'+1)).getD (2*x.val) []) ((hs.level m (e'+1)).getD (2*x.val+1) []))=f at hpairs
     have Hf:=Lib.hid hf
     clear hf
     refine wpIn_rangeFunc_ownF rfl (by decide) (gf:=97) (lb:=#[.pointer (some ⟨W.heap.size+1,0,none⟩),.pointer (some ⟨W.heap.size+1+1,0,none⟩)]) rfl trivial (enters_of Tryz.func97 (by kernel_rfl) rfl)
      (chunks_stops 4 (by decide) (W.heap.size+1) (W.heap.size+1+1) W.heap.size (W.heap.size+3) g o c' cv hcp hc8 hroom (by omega) (by omega) (by omega) (by omega) W1 (by omega) (cell_of_row _ _ 0 _ _ _ r8) (cell_of_row _ _ 0 _ _ _ r9)) kpT_t (kpT_b (by omega)) (Below.refl _ _) (fun _=>rfl)
      (fun pre V=>(∃ v:Value,V.cell? ⟨W.heap.size,0,none⟩=some v/\V.frozen? ⟨W.heap.size,0,none⟩=false/\V.ownsRow (W.heap.size+3) 9 1 v pre.length ((pre.map f).map encStr)/\W.heap.size+3<=V.heap.size)/\Below W.heap.size W V)
      (fun _ _ _=>False)
      (OwnFrom.and (row_from _ _ _ f) (ownFrom_below (Nat.le_refl _) (by omega)))
      (fun _ _ _ _ _ hs _ _=>hs)
      ⟨⟨_,cell_of_row _ _ 0 _ _ _ r7,frozen_of_row _ _ 0 _ _ r7,World.ownsRow_nil _ _ _ _,by omega⟩,hB1⟩
      (fun x=>{ tmps:=#[.slice (some ⟨g,o,none⟩) (2*c') cv,.int .i64 (d:Int),undef,undef,.string ⟨#[]⟩,.int .i64 0,.int .i64 (N:Int),.pointer (some ⟨W.heap.size,0,none⟩),.slice (some ⟨g,o+2*x.val,none⟩) 2 2,.int .i64 (d:Int),.int .i64 (N:Int),.bool false,.int .i64 (N:Int),.bool false,.bool false,.int .i64 (N:Int),.slice a N c,.int .i64 (N:Int),.bool false,.slice (some ⟨g,o,none⟩) (2*c') cv,.int .i64 (2*(c':Int)),.bool true,.slice (some ⟨g,o,none⟩) (2*c') cv,.func (.func 97) #[] #[.pointer (some ⟨W.heap.size+1,0,none⟩),.pointer (some ⟨W.heap.size+1+1,0,none⟩)],.slice (some ⟨g,o+2*x.val,none⟩) 2 2,undef,undef,undef,undef,undef,undef,undef,undef,undef,undef,u35,undef,undef,undef],defers:=[] }) ?assign ?body ?done ?stop
     case assign=>
      intro l x V K hKK
      unfold encP
      gi_wp2
      exact hKK
     case stop=>rintro D cc pre V _ _ h;exact h.elim
     case done=>
      rintro D ys V hD rfl ⟨⟨v,hc7,hf7,ho7,hsz7⟩,hBV⟩ hKD
      rw [hpairs.out,uptoI_length] at ho7
      have eg7:=HC'.out
      rw [eg7] at ho7
      obtain ⟨a7,k7,rfl⟩:=own_slice ho7
      obtain ⟨hk7,_⟩:=keyrow_of_own ho7 (by rw [level_length];have:=Nat.pow_le_pow_right (n:=2) (by decide) (show e'<=3 by omega);omega) (by rw [level_length])
      have hDs':=hD'.out
      gi_wp2_with fail
      have hdl:=(Array.getElem?_eq_some_iff.1 hKD).1
      have sB:=hB.size
      refine ⟨⟨e',a7,k7,D :: Ds,.pointer (some ⟨W.heap.size,0,none⟩),_,_,_,_,_,_,by omega,rfl,hk7,hB.trans (hBV.mono sB),List.nodup_cons.2 ⟨?_,hDs'.1⟩,?_⟩,?_⟩
      · intro hmem
        have:=(Array.getElem?_eq_some_iff.1 (hDs'.2 D hmem).2).1
        omega
      · intro D' hD''
        rcases List.mem_cons.1 hD'' with rfl | hm
        · exact ⟨by omega,hKD⟩
        · exact ⟨(hDs'.2 D' hm).1,(hBV.block D' (Array.getElem?_eq_some_iff.1 (hDs'.2 D' hm).2).1).trans (hDs'.2 D' hm).2⟩
      · show 2^e'<2*c'
        rw [<-eg7];omega
     case body=>
      rintro l pre x V ⟨⟨v,hc7,hf7,ho7,hsz7⟩,hBV⟩ hlt
      have hsn:(pre++[x]).map f=pre.map f++[f x]:=by rw [List.map_append];rfl
      have hln:(pre++[x]).length=pre.length+1:=by simp
      generalize hpl:pre.length=k at *
      have hx:=x.isLt
      obtain ⟨g0,o0,e0,_,hX⟩:=hall.out.cell (2*x.val) (by rw [level_length,H2c.out];omega)
      obtain ⟨g1,o1,e1,_,hY⟩:=hall.out.cell (2*x.val+1) (by rw [level_length,H2c.out];omega)
      injection e0 with e0
      injection e0 with e0 e0'
      injection e1 with e1
      injection e1 with e1 e1'
      subst e0 e0' e1 e1'
      have hfx:f x=hs.jn ((hs.level m (e'+1)).getD (2*x.val) []) ((hs.level m (e'+1)).getD (2*x.val+1) []):=by rw [<-Hf.out]
      have hXl:((hs.level m (e'+1)).getD (2*x.val) []).length<=17:=by
       rw [level_at hs m (e'+1) _ (by rw [H2c.out];omega)]
       exact nd_le _ _ _ (by omega) (by rw [show 128 - (128 - (e'+1))=e'+1 from by omega];exact under_row (keys_keysOf hm16) _ _)
      have hYl:((hs.level m (e'+1)).getD (2*x.val+1) []).length<=17:=by
       rw [level_at hs m (e'+1) _ (by rw [H2c.out];omega)]
       exact nd_le _ _ _ (by omega) (by rw [show 128 - (128 - (e'+1))=e'+1 from by omega];exact under_row (keys_keysOf hm16) _ _)
      generalize (hs.level m (e'+1)).getD (2*x.val) []=X at hX hXl hfx
      generalize (hs.level m (e'+1)).getD (2*x.val+1) []=Y at hY hYl hfx
      have hXd:V.drew.cell? ⟨g,o+2*x.val,none⟩=some (.string ⟨X.toArray⟩):=(hBV.cell (p:=⟨g,o+2*x.val,none⟩) hg).trans hX
      have hYd:V.drew.cell? ⟨g,o+2*x.val+1,none⟩=some (.string ⟨Y.toArray⟩):=(hBV.cell (p:=⟨g,o+2*x.val+1,none⟩) hg).trans hY
      have hKV:Kon V.drew:=(hKW.old hBV).old ((Below.refl _ _).drew)
      have hj:=Lib.hid (join_any X Y V.drew (by omega) (by omega) hKV)
      rw [hfx] at hsn
      generalize hs.jn X Y=J at hj hsn
      obtain ⟨av,cv7,rfl⟩:=own_slice ho7
      have hs7V:W.heap.size<V.heap.size:=World.block_lt_of_cell? V _ hc7
      have hc7d:V.drew.cell? ⟨W.heap.size,0,none⟩=some (.slice av k cv7):=hc7
      obtain ⟨i0,hinf,hz0,hz1,hz2⟩:=info_parts Tryz.infoStr
      have hrunA:Hid (∀ w5,Below V.drew.heap.size V.drew w5->∃ gg cap2 w7,(appHid #[31,31] 31 #[.slice av k cv7,.slice (some ⟨w5.heap.size,0,none⟩) 1 1]).run Tryz.prog (w5.alloc (.cells #[.string ⟨J.toArray⟩] 9))=.ok (.slice (some ⟨gg,0,none⟩) (k+1) cap2) w7 /\
       (∀ o',(w5.alloc o').cell? ⟨W.heap.size,0,none⟩=some (.slice av k cv7))/\(∃ u,w7.cell? ⟨W.heap.size,0,none⟩=some u)/\w7.frozen? ⟨W.heap.size,0,none⟩=false /\
       KeepsOthers V (w7.setCell ⟨W.heap.size,0,none⟩ (.slice (some ⟨gg,0,none⟩) (k+1) cap2))/\KpT W.heap.size (W.heap.size+3) V (w7.setCell ⟨W.heap.size,0,none⟩ (.slice (some ⟨gg,0,none⟩) (k+1) cap2)) /\
       (∃ v:Value,(w7.setCell ⟨W.heap.size,0,none⟩ (.slice (some ⟨gg,0,none⟩) (k+1) cap2)).cell? ⟨W.heap.size,0,none⟩=some v/\(w7.setCell ⟨W.heap.size,0,none⟩ (.slice (some ⟨gg,0,none⟩) (k+1) cap2)).frozen? ⟨W.heap.size,0,none⟩=false/\(w7.setCell ⟨W.heap.size,0,none⟩ (.slice (some ⟨gg,0,none⟩) (k+1) cap2)).ownsRow (W.heap.size+3) 9 1 v (pre++[x]).length (((pre++[x]).map f).map encStr)/\W.heap.size+3<=(w7.setCell ⟨W.heap.size,0,none⟩ (.slice (some ⟨gg,0,none⟩) (k+1) cap2)).heap.size)/\Below W.heap.size W (w7.setCell ⟨W.heap.size,0,none⟩ (.slice (some ⟨gg,0,none⟩) (k+1) cap2))):=Lib.hid (by
       intro w5 hB5
       have hV5:Below V.heap.size V w5:=below_call0 hB5
       have s5:=hV5.size
       have sV:=hBV.size
       have hown5:(w5.alloc (.cells #[.string ⟨J.toArray⟩] 9)).ownsRow (W.heap.size+3) 9 1 (.slice av k cv7) k ((pre.map f).map encStr):=((Touch.of_below hV5 (fun _=>False)).own ho7 (fun _ _ h=>h)).alloc _
       have hlo:∀ i,(Value.slice av k cv7).ownBlock=some i->W.heap.size+3<=i:=fun i hi=>(ho7.lt i hi).1
       obtain ⟨gg,cap2,w7,hrun,ho,hg7,hat,hlt7⟩:=run_append_lies (P:=Tryz.prog) (w:=w5.alloc (.cells #[.string ⟨J.toArray⟩] 9)) 31 31 (W.heap.size+3) 9 i0 _ 1 16 Tryz.underlying31 hinf hz0 hz1 hz2 rfl (by decide) (.slice av k cv7) k ((pre.map f).map encStr) hown5 ⟨w5.heap.size,0,none⟩ 1 1 [.string ⟨J.toArray⟩] rfl (World.news_of_block (cs:=#[.string ⟨J.toArray⟩]) (t:=9) (fr:=(0,0)) (heap_alloc_new w5 _)) (by simp [Value.oneCell']) (by decide) (by unfold maxLen;omega) (by omega) (by simp;omega) (w5.heap.size+1) (by simp)
       have TV:Touch (fun i=>i=W.heap.size\/W.heap.size+3<=i) V w7:=((Touch.of_below hV5 _).trans (Touch.alloc w5 _)).trans ((Touch.grown hg7).mono (fun i hi=>.inl (.inr (hlo i hi.symm))))
       have TV':Touch (fun i=>(Value.slice av k cv7).ownBlock=some i) V w7:=((Touch.of_below hV5 _).trans (Touch.alloc w5 _)).trans ((Touch.grown hg7).mono (fun i hi=>.inl hi.symm))
       have hne7:¬ ((Value.slice av k cv7).ownBlock=some W.heap.size):=fun e=>by have:=hlo _ e;omega
       have hb7:=TV'.block W.heap.size hs7V hne7
       have hc7':w7.cell? ⟨W.heap.size,0,none⟩=some (.slice av k cv7):=(World.cell?_of_block (w:=V) (w':=w7) (a:=⟨W.heap.size,0,none⟩) hb7).trans hc7
       have hf7':w7.frozen? ⟨W.heap.size,0,none⟩=false:=(World.frozen?_of_block (a:=⟨W.heap.size,0,none⟩) hb7).trans hf7
       have hgg:=(ho.lt gg rfl).1
       have KO:KeepsOthers V w7:=((KeepsOthers.trans ⟨hV5.size,fun k o hk _=>(hV5.block k (Array.getElem?_eq_some_iff.1 hk).1).trans hk⟩ (KeepsOthers.alloc w5 _))).trans (KeepsOthers.of_grownBy hg7 (fun j o e hj=>by
        rcases hown5.2 with ⟨e0,_⟩ | ⟨g9,cap9,cur9,e0,_,hb9,_⟩
        · rw [e0] at e;cases e
        · rw [e0] at e
          injection e with e
          subst e
          rw [hb9] at hj
          injection hj with hj
          subst hj
          rfl))
       refine ⟨gg,cap2,w7,hrun,?_,⟨_,hc7'⟩,hf7',KO.trans (KeepsOthers.setCell _ _ _),TV.trans (Touch.setCell (S:=fun i=>i=W.heap.size\/W.heap.size+3<=i) w7 ⟨W.heap.size,0,none⟩ _ (.inl rfl)),⟨_,World.cell?_setCell_same' _ _ _ (by rw [hc7'];rfl),?_,?_,?_⟩,?_⟩
       · intro o'
         exact (((Below.refl w5.heap.size w5).alloc (Nat.le_refl _) o').cell (p:=⟨W.heap.size,0,none⟩) (by show W.heap.size<_;omega)).trans ((hV5.cell (p:=⟨W.heap.size,0,none⟩) hs7V).trans hc7)
       · rw [World.frozen?_setCell];exact hf7'
       · rw [hln,hsn,encStr_append]
         exact (Touch.setCell (S:=(·=W.heap.size)) w7 ⟨W.heap.size,0,none⟩ _ rfl).own ho (fun i hi e=>by have h9:=(ho.lt i hi).1;have e9:i=W.heap.size:=e;omega)
       · have:=TV.size
         simp only [World.size_setCell]
         omega
       · exact (hBV.trans (TV.below (B:=W.heap.size) (by rintro i (rfl | h) <;> omega) sV)).setCell (p:=⟨W.heap.size,0,none⟩) (by show W.heap.size<=W.heap.size;omega) _)
      have hj0:(0:Int)<2:=by decide
      clear hall hpairs hD' Hf hc7 hX hY hBV ho7 hfx hXl hYl
      have hmx:Tryz.prog.follows .mixedOrders=true:=by kernel_rfl
      gi_wp2_with fail
      refine wpIn_region_any hmx ?_
      change wpAnyIn _ _ _ _ _ _ _ _ _ (World.drew _)
      refine anyIn_round l (by simp) _ _ _ _ ?_
      refine wpAnyIn_take (i:=1) (v:=.slice (some ⟨g,o+2*x.val,none⟩) 2 2) rfl rfl (by kernel_rfl) (by kernel_rfl) (by kernel_rfl) (fun _ _ _ h=>h) ⟨Or.inl ⟨by rfl,?_⟩,fun _=>rfl⟩ ?_
      · intro w;go_simp
      refine wpAnyIn_take (i:=2) (v:=.pointer (some ⟨g,o+2*x.val,none⟩)) rfl rfl (by kernel_rfl) (by kernel_rfl) (by kernel_rfl) (fun _ _ _ h=>h) ⟨Or.inl ⟨by rfl,?_⟩,fun _=>rfl⟩ ?_
      · intro w;go_simp
      refine wpAnyIn_take (i:=4) (v:=.slice (some ⟨g,o+2*x.val,none⟩) 2 2) rfl rfl (by kernel_rfl) (by kernel_rfl) (by kernel_rfl) (fun _ _ _ h=>h) ⟨Or.inl ⟨by rfl,?_⟩,fun _=>rfl⟩ ?_
      · intro w;go_simp
      refine wpAnyIn_take (i:=5) (v:=.pointer (some ⟨g,o+2*x.val+1,none⟩)) rfl rfl (by kernel_rfl) (by kernel_rfl) (by kernel_rfl) (fun _ _ _ h=>h) ⟨Or.inl ⟨by rfl,?_⟩,fun _=>rfl⟩ ?_
      · intro w;go_simp
      refine wpAnyIn_ready (rs:=[0,3,6]) (by kernel_rfl) (by simp) ?_
      refine AllReadyIn.cons rfl (fun K hK=>?_) ?_
      · go_simp
        refine hK _ _ ?_;clear hK K
        refine wpAnyIn_ready (rs:=[3,6]) (by kernel_rfl) (by simp) ?_
        refine AllReadyIn.cons rfl (fun K hK=>?_) ?_
        · go_simp
          refine hK _ _ ?_;clear hK K
          refine wpAnyIn_ready (rs:=[6]) (by kernel_rfl) (by simp) ?_
          refine AllReadyIn.cons rfl (fun K hK=>?_) ?_
          · go_simp
            refine hK _ _ ?_;clear hK K
            refine wpAnyIn_ready (rs:=[7]) (by kernel_rfl) (by simp) ?_
            refine AllReadyIn.cons rfl (fun K hK=>?_) ?_
            · go_simp
              gi_wp2_with (refine ⟨trivial,?_⟩;refine (callsIn_wide.2 hj.out).mono ?_;rintro e5 w5 ⟨rfl,hB5⟩;obtain ⟨gg,cap2,w7,hrun,y1,⟨u,y2⟩,y3,fin⟩:=hrunA.out w5 hB5;have y4:=(hB5.cell (p:=⟨W.heap.size,0,none⟩) hs7V).trans hc7d;have Fin:=Lib.hid fin;clear fin)
              refine wpAnyIn_ready (rs:=[8]) (by kernel_rfl) (by simp) ?_
              refine AllReadyIn.cons rfl (fun K hK=>?_) ?_
              · go_simp
                refine hK _ _ ?_;clear hK K
                refine wpAnyIn_ready (rs:=[9]) (by kernel_rfl) (by simp) ?_
                refine AllReadyIn.cons rfl (fun K hK=>?_) ?_
                · go_simp
                  refine hK _ _ ?_;clear hK K
                  refine wpAnyIn_ready (rs:=[10]) (by kernel_rfl) (by simp) ?_
                  refine AllReadyIn.cons rfl (fun K hK=>?_) ?_
                  · go_simp
                    refine hK _ _ ?_;clear hK K
                    refine wpAnyIn_done (by kernel_rfl) ?_ _
                    exact Fin.out
                  exact AllReadyIn.nil
                exact AllReadyIn.nil
              exact AllReadyIn.nil
            exact AllReadyIn.nil
          exact AllReadyIn.nil
        refine AllReadyIn.cons rfl (fun K hK=>?_) ?_
        · go_simp
          refine hK _ _ ?_;clear hK K
          refine wpAnyIn_ready (rs:=[3]) (by kernel_rfl) (by simp) ?_
          refine AllReadyIn.cons rfl (fun K hK=>?_) ?_
          · go_simp
            refine hK _ _ ?_;clear hK K
            refine wpAnyIn_ready (rs:=[7]) (by kernel_rfl) (by simp) ?_
            refine AllReadyIn.cons rfl (fun K hK=>?_) ?_
            · go_simp
              gi_wp2_with (refine ⟨trivial,?_⟩;refine (callsIn_wide.2 hj.out).mono ?_;rintro e5 w5 ⟨rfl,hB5⟩;obtain ⟨gg,cap2,w7,hrun,y1,⟨u,y2⟩,y3,fin⟩:=hrunA.out w5 hB5;have y4:=(hB5.cell (p:=⟨W.heap.size,0,none⟩) hs7V).trans hc7d;have Fin:=Lib.hid fin;clear fin)
              refine wpAnyIn_ready (rs:=[8]) (by kernel_rfl) (by simp) ?_
              refine AllReadyIn.cons rfl (fun K hK=>?_) ?_
              · go_simp
                refine hK _ _ ?_;clear hK K
                refine wpAnyIn_ready (rs:=[9]) (by kernel_rfl) (by simp) ?_
                refine AllReadyIn.cons rfl (fun K hK=>?_) ?_
                · go_simp
                  refine hK _ _ ?_;clear hK K
                  refine wpAnyIn_ready (rs:=[10]) (by kernel_rfl) (by simp) ?_
                  refine AllReadyIn.cons rfl (fun K hK=>?_) ?_
                  · go_simp
                    refine hK _ _ ?_;clear hK K
                    refine wpAnyIn_done (by kernel_rfl) ?_ _
                    exact Fin.out
                  exact AllReadyIn.nil
                exact AllReadyIn.nil
              exact AllReadyIn.nil
            exact AllReadyIn.nil
          exact AllReadyIn.nil
        exact AllReadyIn.nil
      refine AllReadyIn.cons rfl (fun K hK=>?_) ?_
      · go_simp
        refine hK _ _ ?_;clear hK K
        refine wpAnyIn_ready (rs:=[0,6]) (by kernel_rfl) (by simp) ?_
        refine AllReadyIn.cons rfl (fun K hK=>?_) ?_
        · go_simp
          refine hK _ _ ?_;clear hK K
          refine wpAnyIn_ready (rs:=[6]) (by kernel_rfl) (by simp) ?_
          refine AllReadyIn.cons rfl (fun K hK=>?_) ?_
          · go_simp
            refine hK _ _ ?_;clear hK K
            refine wpAnyIn_ready (rs:=[7]) (by kernel_rfl) (by simp) ?_
            refine AllReadyIn.cons rfl (fun K hK=>?_) ?_
            · go_simp
              gi_wp2_with (refine ⟨trivial,?_⟩;refine (callsIn_wide.2 hj.out).mono ?_;rintro e5 w5 ⟨rfl,hB5⟩;obtain ⟨gg,cap2,w7,hrun,y1,⟨u,y2⟩,y3,fin⟩:=hrunA.out w5 hB5;have y4:=(hB5.cell (p:=⟨W.heap.size,0,none⟩) hs7V).trans hc7d;have Fin:=Lib.hid fin;clear fin)
              refine wpAnyIn_ready (rs:=[8]) (by kernel_rfl) (by simp) ?_
              refine AllReadyIn.cons rfl (fun K hK=>?_) ?_
              · go_simp
                refine hK _ _ ?_;clear hK K
                refine wpAnyIn_ready (rs:=[9]) (by kernel_rfl) (by simp) ?_
                refine AllReadyIn.cons rfl (fun K hK=>?_) ?_
                · go_simp
                  refine hK _ _ ?_;clear hK K
                  refine wpAnyIn_ready (rs:=[10]) (by kernel_rfl) (by simp) ?_
                  refine AllReadyIn.cons rfl (fun K hK=>?_) ?_
                  · go_simp
                    refine hK _ _ ?_;clear hK K
                    refine wpAnyIn_done (by kernel_rfl) ?_ _
                    exact Fin.out
                  exact AllReadyIn.nil
                exact AllReadyIn.nil
              exact AllReadyIn.nil
            exact AllReadyIn.nil
          exact AllReadyIn.nil
        refine AllReadyIn.cons rfl (fun K hK=>?_) ?_
        · go_simp
          refine hK _ _ ?_;clear hK K
          refine wpAnyIn_ready (rs:=[0,7]) (by kernel_rfl) (by simp) ?_
          refine AllReadyIn.cons rfl (fun K hK=>?_) ?_
          · go_simp
            refine hK _ _ ?_;clear hK K
            refine wpAnyIn_ready (rs:=[7]) (by kernel_rfl) (by simp) ?_
            refine AllReadyIn.cons rfl (fun K hK=>?_) ?_
            · go_simp
              gi_wp2_with (refine ⟨trivial,?_⟩;refine (callsIn_wide.2 hj.out).mono ?_;rintro e5 w5 ⟨rfl,hB5⟩;obtain ⟨gg,cap2,w7,hrun,y1,⟨u,y2⟩,y3,fin⟩:=hrunA.out w5 hB5;have y4:=(hB5.cell (p:=⟨W.heap.size,0,none⟩) hs7V).trans hc7d;have Fin:=Lib.hid fin;clear fin)
              refine wpAnyIn_ready (rs:=[8]) (by kernel_rfl) (by simp) ?_
              refine AllReadyIn.cons rfl (fun K hK=>?_) ?_
              · go_simp
                refine hK _ _ ?_;clear hK K
                refine wpAnyIn_ready (rs:=[9]) (by kernel_rfl) (by simp) ?_
                refine AllReadyIn.cons rfl (fun K hK=>?_) ?_
                · go_simp
                  refine hK _ _ ?_;clear hK K
                  refine wpAnyIn_ready (rs:=[10]) (by kernel_rfl) (by simp) ?_
                  refine AllReadyIn.cons rfl (fun K hK=>?_) ?_
                  · go_simp
                    refine hK _ _ ?_;clear hK K
                    refine wpAnyIn_done (by kernel_rfl) ?_ _
                    exact Fin.out
                  exact AllReadyIn.nil
                exact AllReadyIn.nil
              exact AllReadyIn.nil
            exact AllReadyIn.nil
          refine AllReadyIn.cons rfl (fun K hK=>?_) ?_
          · go_simp
            gi_wp2_with (refine ⟨trivial,?_⟩;refine (callsIn_wide.2 hj.out).mono ?_;rintro e5 w5 ⟨rfl,hB5⟩;obtain ⟨gg,cap2,w7,hrun,y1,⟨u,y2⟩,y3,fin⟩:=hrunA.out w5 hB5;have y4:=(hB5.cell (p:=⟨W.heap.size,0,none⟩) hs7V).trans hc7d;have Fin:=Lib.hid fin;clear fin)
            refine wpAnyIn_ready (rs:=[0,8]) (by kernel_rfl) (by simp) ?_
            refine AllReadyIn.cons rfl (fun K hK=>?_) ?_
            · go_simp
              refine hK _ _ ?_;clear hK K
              refine wpAnyIn_ready (rs:=[8]) (by kernel_rfl) (by simp) ?_
              refine AllReadyIn.cons rfl (fun K hK=>?_) ?_
              · go_simp
                refine hK _ _ ?_;clear hK K
                refine wpAnyIn_ready (rs:=[9]) (by kernel_rfl) (by simp) ?_
                refine AllReadyIn.cons rfl (fun K hK=>?_) ?_
                · go_simp
                  refine hK _ _ ?_;clear hK K
                  refine wpAnyIn_ready (rs:=[10]) (by kernel_rfl) (by simp) ?_
                  refine AllReadyIn.cons rfl (fun K hK=>?_) ?_
                  · go_simp
                    refine hK _ _ ?_;clear hK K
                    refine wpAnyIn_done (by kernel_rfl) ?_ _
                    exact Fin.out
                  exact AllReadyIn.nil
                exact AllReadyIn.nil
              exact AllReadyIn.nil
            refine AllReadyIn.cons rfl (fun K hK=>?_) ?_
            · go_simp
              refine hK _ _ ?_;clear hK K
              refine wpAnyIn_ready (rs:=[0]) (by kernel_rfl) (by simp) ?_
              refine AllReadyIn.cons rfl (fun K hK=>?_) ?_
              · go_simp
                refine hK _ _ ?_;clear hK K
                refine wpAnyIn_ready (rs:=[9]) (by kernel_rfl) (by simp) ?_
                refine AllReadyIn.cons rfl (fun K hK=>?_) ?_
                · go_simp
                  refine hK _ _ ?_;clear hK K
                  refine wpAnyIn_ready (rs:=[10]) (by kernel_rfl) (by simp) ?_
                  refine AllReadyIn.cons rfl (fun K hK=>?_) ?_
                  · go_simp
                    refine hK _ _ ?_;clear hK K
                    refine wpAnyIn_done (by kernel_rfl) ?_ _
                    exact Fin.out
                  exact AllReadyIn.nil
                exact AllReadyIn.nil
              exact AllReadyIn.nil
            exact AllReadyIn.nil
          exact AllReadyIn.nil
        exact AllReadyIn.nil
      refine AllReadyIn.cons rfl (fun K hK=>?_) ?_
      · go_simp
        refine hK _ _ ?_;clear hK K
        refine wpAnyIn_ready (rs:=[0,3]) (by kernel_rfl) (by simp) ?_
        refine AllReadyIn.cons rfl (fun K hK=>?_) ?_
        · go_simp
          refine hK _ _ ?_;clear hK K
          refine wpAnyIn_ready (rs:=[3]) (by kernel_rfl) (by simp) ?_
          refine AllReadyIn.cons rfl (fun K hK=>?_) ?_
          · go_simp
            refine hK _ _ ?_;clear hK K
            refine wpAnyIn_ready (rs:=[7]) (by kernel_rfl) (by simp) ?_
            refine AllReadyIn.cons rfl (fun K hK=>?_) ?_
            · go_simp
              gi_wp2_with (refine ⟨trivial,?_⟩;refine (callsIn_wide.2 hj.out).mono ?_;rintro e5 w5 ⟨rfl,hB5⟩;obtain ⟨gg,cap2,w7,hrun,y1,⟨u,y2⟩,y3,fin⟩:=hrunA.out w5 hB5;have y4:=(hB5.cell (p:=⟨W.heap.size,0,none⟩) hs7V).trans hc7d;have Fin:=Lib.hid fin;clear fin)
              refine wpAnyIn_ready (rs:=[8]) (by kernel_rfl) (by simp) ?_
              refine AllReadyIn.cons rfl (fun K hK=>?_) ?_
              · go_simp
                refine hK _ _ ?_;clear hK K
                refine wpAnyIn_ready (rs:=[9]) (by kernel_rfl) (by simp) ?_
                refine AllReadyIn.cons rfl (fun K hK=>?_) ?_
                · go_simp
                  refine hK _ _ ?_;clear hK K
                  refine wpAnyIn_ready (rs:=[10]) (by kernel_rfl) (by simp) ?_
                  refine AllReadyIn.cons rfl (fun K hK=>?_) ?_
                  · go_simp
                    refine hK _ _ ?_;clear hK K
                    refine wpAnyIn_done (by kernel_rfl) ?_ _
                    exact Fin.out
                  exact AllReadyIn.nil
                exact AllReadyIn.nil
              exact AllReadyIn.nil
            exact AllReadyIn.nil
          exact AllReadyIn.nil
        refine AllReadyIn.cons rfl (fun K hK=>?_) ?_
        · go_simp
          refine hK _ _ ?_;clear hK K
          refine wpAnyIn_ready (rs:=[0,7]) (by kernel_rfl) (by simp) ?_
          refine AllReadyIn.cons rfl (fun K hK=>?_) ?_
          · go_simp
            refine hK _ _ ?_;clear hK K
            refine wpAnyIn_ready (rs:=[7]) (by kernel_rfl) (by simp) ?_
            refine AllReadyIn.cons rfl (fun K hK=>?_) ?_
            · go_simp
              gi_wp2_with (refine ⟨trivial,?_⟩;refine (callsIn_wide.2 hj.out).mono ?_;rintro e5 w5 ⟨rfl,hB5⟩;obtain ⟨gg,cap2,w7,hrun,y1,⟨u,y2⟩,y3,fin⟩:=hrunA.out w5 hB5;have y4:=(hB5.cell (p:=⟨W.heap.size,0,none⟩) hs7V).trans hc7d;have Fin:=Lib.hid fin;clear fin)
              refine wpAnyIn_ready (rs:=[8]) (by kernel_rfl) (by simp) ?_
              refine AllReadyIn.cons rfl (fun K hK=>?_) ?_
              · go_simp
                refine hK _ _ ?_;clear hK K
                refine wpAnyIn_ready (rs:=[9]) (by kernel_rfl) (by simp) ?_
                refine AllReadyIn.cons rfl (fun K hK=>?_) ?_
                · go_simp
                  refine hK _ _ ?_;clear hK K
                  refine wpAnyIn_ready (rs:=[10]) (by kernel_rfl) (by simp) ?_
                  refine AllReadyIn.cons rfl (fun K hK=>?_) ?_
                  · go_simp
                    refine hK _ _ ?_;clear hK K
                    refine wpAnyIn_done (by kernel_rfl) ?_ _
                    exact Fin.out
                  exact AllReadyIn.nil
                exact AllReadyIn.nil
              exact AllReadyIn.nil
            exact AllReadyIn.nil
          refine AllReadyIn.cons rfl (fun K hK=>?_) ?_
          · go_simp
            gi_wp2_with (refine ⟨trivial,?_⟩;refine (callsIn_wide.2 hj.out).mono ?_;rintro e5 w5 ⟨rfl,hB5⟩;obtain ⟨gg,cap2,w7,hrun,y1,⟨u,y2⟩,y3,fin⟩:=hrunA.out w5 hB5;have y4:=(hB5.cell (p:=⟨W.heap.size,0,none⟩) hs7V).trans hc7d;have Fin:=Lib.hid fin;clear fin)
            refine wpAnyIn_ready (rs:=[0,8]) (by kernel_rfl) (by simp) ?_
            refine AllReadyIn.cons rfl (fun K hK=>?_) ?_
            · go_simp
              refine hK _ _ ?_;clear hK K
              refine wpAnyIn_ready (rs:=[8]) (by kernel_rfl) (by simp) ?_
              refine AllReadyIn.cons rfl (fun K hK=>?_) ?_
              · go_simp
                refine hK _ _ ?_;clear hK K
                refine wpAnyIn_ready (rs:=[9]) (by kernel_rfl) (by simp) ?_
                refine AllReadyIn.cons rfl (fun K hK=>?_) ?_
                · go_simp
                  refine hK _ _ ?_;clear hK K
                  refine wpAnyIn_ready (rs:=[10]) (by kernel_rfl) (by simp) ?_
                  refine AllReadyIn.cons rfl (fun K hK=>?_) ?_
                  · go_simp
                    refine hK _ _ ?_;clear hK K
                    refine wpAnyIn_done (by kernel_rfl) ?_ _
                    exact Fin.out
                  exact AllReadyIn.nil
                exact AllReadyIn.nil
              exact AllReadyIn.nil
            refine AllReadyIn.cons rfl (fun K hK=>?_) ?_
            · go_simp
              refine hK _ _ ?_;clear hK K
              refine wpAnyIn_ready (rs:=[0]) (by kernel_rfl) (by simp) ?_
              refine AllReadyIn.cons rfl (fun K hK=>?_) ?_
              · go_simp
                refine hK _ _ ?_;clear hK K
                refine wpAnyIn_ready (rs:=[9]) (by kernel_rfl) (by simp) ?_
                refine AllReadyIn.cons rfl (fun K hK=>?_) ?_
                · go_simp
                  refine hK _ _ ?_;clear hK K
                  refine wpAnyIn_ready (rs:=[10]) (by kernel_rfl) (by simp) ?_
                  refine AllReadyIn.cons rfl (fun K hK=>?_) ?_
                  · go_simp
                    refine hK _ _ ?_;clear hK K
                    refine wpAnyIn_done (by kernel_rfl) ?_ _
                    exact Fin.out
                  exact AllReadyIn.nil
                exact AllReadyIn.nil
              exact AllReadyIn.nil
            exact AllReadyIn.nil
          exact AllReadyIn.nil
        exact AllReadyIn.nil
      exact AllReadyIn.nil
end Go.Proofs.YtcgkomafaepjnaaGreatDoor
namespace Go.Proofs.YtcgkomafaepjnaaGreatDoor
open Go.RowKit
theorem upto_level (m:Puts) (d k:Nat) (hk:k<2^d):((hs.level m d).take (k+1)).map encStr=((hs.level m d).take k).map encStr++[.string ⟨(hs.at (valOf m) (keysOf m) (firstP k d) d).toArray⟩]:=by
 have hl:=level_length hs m d
 rw [List.take_succ_eq_append_getElem (by omega),List.map_append,List.map_singleton]
 have:=level_at hs m d k hk
 rw [List.getD_eq_getElem?_getD,List.getElem?_eq_getElem (by omega)] at this
 simp only [Option.getD_some] at this
 rw [this]
theorem bnodes_any (p b:Nat) (m:Puts) (d:Nat) (w:World) (h:TreeAt w p b m) (hK:Kon w) (hd:d<=3) :
 Calls Tryz.prog 11 #[.pointer (some ⟨p,0,none⟩),.int .i64 (d:Int)] w fun e w'=>∃ v,e=.returned (.tuple #[v,.int .i64 0])/\w'.ownsRow w.heap.size 9 1 v (2^d) ((hs.level m d).map encStr)/\Below w.heap.size w w':=by
 have hcnt:=Lib.hid (fun W=>bcount_any d W hd)
 have hfst:=Lib.hid (fun (k:Nat) (W:World) (hk:k<2^d)=>(firstP_of k d (by omega) hk) ▸ first_any (k:Int) (d:Int) W)
 have hat:=Lib.hid (fun (k:Nat) (W:World) (hB:Below w.heap.size w W)=>tat_any p b m (firstP k d) d W (h.old hB) (hK.old hB) (by rw [firstP_length];decide) (by omega))
 have hsucc:=Lib.hid (upto_level m d)
 have hall:Hid (((hs.level m d).take (2^d)).map encStr=(hs.level m d).map encStr):=Lib.hid (by rw [<-level_length hs m d,List.take_length])
 have hp1:2^d<=8:=Nat.le_trans (Nat.pow_le_pow_right (by decide) hd) (by decide)
 have hp0:0<2^d:=Nat.two_pow_pos d
 generalize hgr:(fun k=>((hs.level m d).take k).map encStr)=row at *
 have hr0:Hid (row 0=[]):=Lib.hid (by rw [<-hgr];rfl)
 have hsucc:Hid (∀ k,k<2^d->row (k+1)=row k++[.string ⟨(hs.at (valOf m) (keysOf m) (firstP k d) d).toArray⟩]):=Lib.hid (by rw [<-hgr];exact hsucc.out)
 have hall:Hid (row (2^d)=(hs.level m d).map encStr):=Lib.hid (by rw [<-hgr];exact hall.out)
 clear hgr h hK
 generalize 2^d=n at hcnt hfst hp1 hp0 hsucc hall |-
 have hn0:((n:Int)==0)=false:=by simp;omega
 go_enter Tryz.func11,Tryz.ntmps11
 go_wp2_with fail
 refine (hcnt.out _).mono ?_
 rintro e w' ⟨rfl,rfl⟩
 clear hcnt
 go_wp2_with fail
 go_loopw [7,14] (fun v i W=>∃ k:Nat,k<=n/\i=.int .i64 k/\W.ownsRow w'.heap.size 9 1 v k (row k)/\Below w'.heap.size w' W) (fun _ i _=>n - (intOf i).toNat)
 case atStart=>exact ⟨0,Nat.zero_le _,rfl,by rw [hr0.out];exact World.ownsRow_nil _ _ _ _,Below.refl _ _⟩
 case round=>
  obtain ⟨k,hk,rfl,hown,hb⟩:=hrel
  have sz:=hb.size
  have Hown:=Lib.hid hown
  obtain ⟨av,cv,rfl⟩:=own_slice hown
  clear hown
  by_cases hlt:k<n
  · have Hsucc:=Lib.hid (hsucc.out k hlt)
    go_wp2_with fail
    refine (hfst.out k _ hlt).mono ?_
    rintro e w2 ⟨rfl,hc2⟩
    have hb2:=hb.trans (hc2.mono sz)
    have s2:=hb2.size
    have hat2:=hat.out k w2 hb2
    go_wp2_with fail
    refine hat2.mono ?_
    rintro e w3 ⟨rfl,hc3⟩
    clear hat2
    have hb3:=hb2.trans (hc3.mono s2)
    have hcc:=hc2.trans (hc3.mono hc2.size)
    have s3:=hb3.size
    go_wp2_with (at_builtin;refine Hid.out ?_)
    unfold Hid
    have hown3:w3.ownsRow w'.heap.size 9 1 (.slice av k cv) k (row k):=(Touch.of_below hcc (fun _=>False)).own Hown.out (fun _ _ h=>h)
    refine wpList_app1 rfl rfl Tryz.underlying31 Tryz.infoStr rfl hown3 rfl rfl rfl (by omega) (by unfold maxLen;omega) s3 ?_
    intro v4 w4 ho4 hg4
    have hb4:Below w'.heap.size w' w4:=hb3.grown hg4 s3 (fun j hj=>(hown3.lt j hj).1)
    have ho4:w4.ownsRow w'.heap.size 9 1 v4 (k+1) (row (k+1)):=by
     rw [Hsucc.out];exact ho4
    obtain ⟨a4,c4,rfl⟩:=own_slice ho4
    clear hown3 hg4
    go_wp2
    go_roundw
    case rel=>exact ⟨k+1,by omega,by go_num,ho4,hb4⟩
    case measure=>simp [intOf];omega
  · obtain rfl:k=n:=by omega
    go_wp2
    go_ret2
    exact ⟨_,rfl,by rw [<-hall.out];exact Hown.out,hb⟩
def upTo (l:List (List UInt8)) (k:Nat):List (List UInt8):=(List.range k).map fun j=>nodeOf (l.getD (2*j) []) (l.getD (2*j+1) [])
theorem upTo_succ (l:List (List UInt8)) (k:Nat):upTo l (k+1)=upTo l k++[nodeOf (l.getD (2*k) []) (l.getD (2*k+1) [])]:=by simp [upTo,List.range_succ]
def up (l:List (List UInt8)):List (List UInt8):=upTo l (l.length/2)
theorem getD_le (l:List (List UInt8)) (h:∀ x∈l,x.length<=1000) (j:Nat):(l.getD j []).length<=1000:=by
 rw [List.getD_eq_getElem?_getD]
 cases e:l[j]? with
 | none=>simp
 | some y=>exact h y (List.mem_of_getElem? e)
theorem Touch.keep_cell {S:Nat->Prop} {a b:World} (h:Touch S a b) {k j:Nat} {v:Value} (hc:a.cell? ⟨k,j,none⟩=some v) (hs:¬ S k):b.cell? ⟨k,j,none⟩=some v:=by
 rw [World.cell?_of_block (w:=a) (w':=b) (a:=⟨k,j,none⟩) (h.block k (World.block_lt_of_cell? a _ hc) hs)];exact hc
theorem above_any (v:Value) (l:List (List UInt8)) (m:Nat) (w:World) (hv:Cells w v (txs l)) (hl:l.length=2*m) (hm:m<=100) (hs:∀ x∈l,x.length<=1000) (hK:Kon w) :
 Calls Tryz.prog 165 #[v] w fun e w'=>∃ v',e=.returned v'/\w'.ownsRow w.heap.size 9 1 v' m (txs (up l))/\Below w.heap.size w w':=by
 have HK:=Lib.hid hK
 have HV:=Lib.hid hv
 have HS:=Lib.hid hs
 obtain ⟨a,c,rfl,_⟩:=hv
 have Hup:=Lib.hid (show up l=upTo l m by unfold up;rw [hl];congr 1;omega)
 obtain ⟨m2,hm2⟩:∃ m2,m2=2*m:=⟨_,rfl⟩
 rw [<-hm2] at hl
 rw [txs_length,hl] at HV |-
 have Hm2:=Lib.hid hm2
 clear hK hs hm2 hl
 go_enter Tryz.func165,Tryz.ntmps165
 go_wp2_with fail
 go_loopw [3,4] (fun v i W=>∃ k:Nat,k<=m/\i=.int .i64 ((2*k:Nat):Int)/\W.ownsRow w.heap.size 9 1 v k (txs (upTo l k))/\Below w.heap.size w W) (fun _ i _=>2*m+2 - (intOf i).toNat)
 case atStart=>exact ⟨0,Nat.zero_le _,rfl,World.ownsRow_nil _ _ _ _,Below.refl _ _⟩
 case round=>
  obtain ⟨k,hk,rfl,hown,hb⟩:=hrel
  have sz:=hb.size
  have Hown:=Lib.hid hown
  obtain ⟨av,cv,rfl⟩:=own_slice hown
  clear hown
  obtain ⟨q,hq⟩:∃ q,q=2*k:=⟨_,rfl⟩
  obtain ⟨q1,hq1⟩:∃ q1,q1=q+1:=⟨_,rfl⟩
  rw [<-hq]
  have hmm:=Hm2.out
  have hq200:(q:Int)<=1000:=by omega
  by_cases hlt:k<m
  · have Hsucc:=Lib.hid (upTo_succ l k)
    obtain ⟨b,off,rfl,hbl,hc⟩:=HV.out.tx_at (2*k) (by omega)
    obtain ⟨b',off',e1,hbl',hc'⟩:=HV.out.tx_at (2*k+1) (by omega)
    injection e1 with e1
    injection e1 with e1 e2 _
    subst e1 e2
    have hc:wr.cell? ⟨b,off+q,none⟩=some (.string ⟨(l.getD (2*k) []).toArray⟩):=by rw [hq];exact (hb.cell (p:=⟨b,off+2*k,none⟩) hbl).trans hc
    have hc':wr.cell? ⟨b,off+q1,none⟩=some (.string ⟨(l.getD (2*k+1) []).toArray⟩):=by rw [hq1,hq];exact (hb.cell (p:=⟨b,off+(2*k+1),none⟩) hbl).trans hc'
    have hx:=getD_le l HS.out (2*k)
    have hy:=getD_le l HS.out (2*k+1)
    generalize l.getD (2*k) []=x at hc hx Hsucc
    generalize l.getD (2*k+1) []=y at hc' hy Hsucc
    have w1:IntKind.i64.wrap ((q:Int)+1)=(q1:Int):=by rw [show (q:Int)+1=(q1:Int) from by omega];exact IntWalk.i64_in _ (by omega)
    have i0:(q:Int)<(m2:Int):=by omega
    have i1:(q1:Int)<(m2:Int):=by omega
    have Hq:=Lib.hid hq
    have i2:(q:Int)+1<(m2:Int):=by omega
    have hbr:b<wr.heap.size:=by omega
    have hn:=Lib.hid (mnode_any ⟨x.toArray⟩ ⟨y.toArray⟩ wr.drew (by show x.toArray.size<=1000;simpa using hx) (by show y.toArray.size<=1000;simpa using hy) (Kon.old (HK.out.old hb) (w':=wr.drew) ⟨rfl,rfl,rfl,Nat.le_refl _,fun _ _=>rfl⟩))
    have hn:Hid (Calls Tryz.prog 191 #[.string ⟨x.toArray⟩,.string ⟨y.toArray⟩] wr.drew fun e w'=>e=.returned (.string ⟨(nodeOf x y).toArray⟩)/\Below wr.drew.heap.size wr.drew w'):=hn
    generalize nodeOf x y=nd at hn Hsucc
    have hS0:Hid (wr.drew.cell? ⟨b,off+q,none⟩=some (.string ⟨x.toArray⟩)/\wr.drew.cell? ⟨b,off+q1,none⟩=some (.string ⟨y.toArray⟩)):=Lib.hid ⟨hc,hc'⟩
    have hS2:=Lib.hid (fun w5 (hb:Below wr.drew.heap.size wr.drew w5)=>(⟨(hb.cell (p:=⟨b,off+q,none⟩) hbr).trans hS0.out.1,(hb.cell (p:=⟨b,off+q1,none⟩) hbr).trans hS0.out.2⟩:w5.cell? ⟨b,off+q,none⟩=some (.string ⟨x.toArray⟩)/\w5.cell? ⟨b,off+q1,none⟩=some (.string ⟨y.toArray⟩)))
    have hS3:=Lib.hid (fun w5 (o:Obj) (hb:Below wr.drew.heap.size wr.drew w5)=>hS2.out (w5.alloc o) (hb.alloc hb.size o))
    have hno:∀ g',(Value.slice av k cv).ownBlock=some g'->w.heap.size<=g':=fun g' hg'=>(Hown.out.lt g' hg').1
    have hS4:=Lib.hid (fun w5 (o:Obj) (w6:World) (hb:Below wr.drew.heap.size wr.drew w5) (hg:(w5.alloc o).grownBy w6 (Value.slice av k cv).ownBlock)=>(⟨(Touch.grown hg).keep_cell (hS3.out w5 o hb).1 (fun e=>by have:=hno b e.symm;omega),(Touch.grown hg).keep_cell (hS3.out w5 o hb).2 (fun e=>by have:=hno b e.symm;omega)⟩:w6.cell? ⟨b,off+q,none⟩=some (.string ⟨x.toArray⟩)/\w6.cell? ⟨b,off+q1,none⟩=some (.string ⟨y.toArray⟩)))
    have hO5:=Lib.hid (fun w5 (o:Obj) (hb:Below wr.drew.heap.size wr.drew w5)=>(((Touch.of_below hb (fun _=>False)).own (show wr.drew.ownsRow w.heap.size 9 1 (.slice av k cv) k (txs (upTo l k)) from (Touch.drewN (S:=fun _=>False) wr 1).own Hown.out (fun _ _ h=>h)) (fun _ _ h=>h)).alloc o))
    obtain ⟨inf,hi,hz0,hz1,hz2⟩:=info_parts Tryz.infoStr
    have hk200:k<=200:=by omega
    have Hb:=Lib.hid hb
    have Hno:=Lib.hid hno
    clear hq hq1 hx hy hmm hc hc' hb hno
    go_wp2_with fail
    go_region_held3 (fun W'=>W'.cell? ⟨b,off+q,none⟩=some (.string ⟨x.toArray⟩)/\W'.cell? ⟨b,off+q1,none⟩=some (.string ⟨y.toArray⟩)) (first | exact hS0.out | exact hS4.out _ _ _ (by assumption) (by assumption) | exact hS3.out _ _ (by assumption) | exact hS2.out _ (by assumption))
     (first
       | (go_at_call 191;with_reducible refine hn.out.mono ?_;rintro e w5 ⟨rfl,hb5⟩)
       | (refine step_append_lies _ (by rfl) _ _ _ (by rfl) w.heap.size 9 inf _ 1 16 Tryz.underlying31 hi hz0 hz1 hz2 rfl (by omega) (.slice av k cv) k (txs (upTo l k)) (by rfl) (hO5.out _ _ (by assumption)) ⟨w5.heap.size,0,none⟩ 1 1 [.string ⟨nd.toArray⟩] (by rfl) (by rfl) (World.news_of_block (cs:=#[.string ⟨nd.toArray⟩]) (t:=9) (fr:=(0,0)) (heap_alloc_new w5 _)) (by simp [Value.oneCell']) (by omega) (by unfold maxLen;omega) (by omega) (by have h9:=hb5.size;simp at h9 |-;omega) (w5.heap.size+1) (by simp) ?_;intro gg cap2 w6 ho6 hg6 hat6 hlt6))
    have hB5:Below w.heap.size w w5:=Hb.out.trans ((below_call hb5).mono sz)
    have s5:=hB5.size
    have hB6:Below w.heap.size w w6:=(hB5.alloc s5 _).grown hg6 (by simp;omega) (fun j hj=>Hno.out j hj)
    have ho6:w6.ownsRow w.heap.size 9 1 (.slice (some ⟨gg,0,none⟩) (k+1) cap2) (k+1) (txs (upTo l (k+1))):=by
     rw [Hsucc.out,txs_snoc];exact ho6
    clear hg6 hat6 hS0 hS2 hS3 hS4 hO5 hn hb5
    go_wp2
    go_roundw
    case rel=>exact ⟨k+1,by omega,by have:=Hq.out;go_num,ho6,hB6⟩
    case measure=>have:=Hq.out;simp [intOf];omega
  · have hkm:k=m:=by omega
    have hge:¬ (q:Int)+1<(m2:Int):=by omega
    have H:=Lib.hid hkm
    clear hkm hlt hq hmm
    go_wp2
    go_ret
    refine ⟨_,rfl,?_,hb⟩
    rw [Hup.out,<-H.out]
    exact Hown.out
theorem mright_four (w:World):Calls Tryz.prog 164 #[.int .i64 4] w fun e w'=>e=.returned (.bool true)/\w=w':=by
 have hb:bits BinOp.and IntKind.i64 4 3=0:=by kernel_rfl
 go_enter Tryz.func164,Tryz.ntmps164
 go_wp2
 go_ret
 exact ⟨rfl,rfl⟩
def root4 (p0 p1 p2 p3:List UInt8):List UInt8:=nodeOf (nodeOf p0 p1) (nodeOf p2 p3)
theorem nodeOf_length (a b:List UInt8):(nodeOf a b).length=16:=tagOf_length _ _
theorem up4 (p0 p1 p2 p3:List UInt8):up [p0,p1,p2,p3]=[nodeOf p0 p1,nodeOf p2 p3]:=by simp [up,upTo,List.range_succ]
theorem up2 (p0 p1:List UInt8):up [p0,p1]=[nodeOf p0 p1]:=by simp [up,upTo,List.range_succ]
theorem mroot_four (a:Option Addr) (c:Nat) (p0 p1 p2 p3:List UInt8) (w:World) (hv:Cells w (.slice a 4 c) (txs [p0,p1,p2,p3])) (h0:p0.length=16) (h1:p1.length=16) (h2:p2.length=16) (h3:p3.length=16) (hK:Kon w) :
 Calls Tryz.prog 104 #[.slice a 4 c] w fun e w'=>e=.returned (.tuple #[.string ⟨(root4 p0 p1 p2 p3).toArray⟩,.int .i64 0])/\Below w.heap.size w w':=by
 have HK:=Lib.hid hK
 have hA1:=Lib.hid (above_any (.slice a 4 c) [p0,p1,p2,p3] 2 w hv rfl (by decide) (by simp [h0,h1,h2,h3]) hK)
 have hA2:Hid (∀ (a':Option Addr) (c':Nat) (W:World),Cells W (.slice a' 2 c') (txs [nodeOf p0 p1,nodeOf p2 p3])->Kon W->Calls Tryz.prog 165 #[.slice a' 2 c'] W fun e w'=>∃ v',e=.returned v'/\w'.ownsRow W.heap.size 9 1 v' 1 (txs (up [nodeOf p0 p1,nodeOf p2 p3]))/\Below W.heap.size W w'):=
  Lib.hid (fun a' c' W hc hk=>above_any (.slice a' 2 c') [nodeOf p0 p1,nodeOf p2 p3] 1 W hc rfl (by decide) (by simp [nodeOf_length]) hk)
 rw [up4] at hA1
 rw [up2] at hA2
 have HR:=Lib.hid (show root4 p0 p1 p2 p3=nodeOf (nodeOf p0 p1) (nodeOf p2 p3) from rfl)
 generalize nodeOf p0 p1=q0 at hA1 hA2 HR
 generalize nodeOf p2 p3=q1 at hA1 hA2 HR
 generalize nodeOf q0 q1=r at hA2 HR
 rw [HR.out]
 clear hv hK h0 h1 h2 h3 HR
 go_enter Tryz.func104,Tryz.ntmps104
 go_wp2_with fail
 refine (mright_four _).mono ?_
 rintro e w' ⟨rfl,rfl⟩
 go_wp2_with fail
 refine wp_loop_rounds 3 ?_
 rw [rounds_succ]
 go_wp2_with fail
 refine hA1.out.mono ?_
 rintro e w1 ⟨v1,rfl,ho1,hb1⟩
 obtain ⟨a1,c1,rfl⟩:=own_slice ho1
 have hA3:=Lib.hid (hA2.out a1 c1 w1 (cells_of_own ho1) (HK.out.old hb1))
 clear hA1 hA2 ho1
 go_wp2_with fail
 rw [rounds_succ]
 go_wp2_with fail
 refine hA3.out.mono ?_
 rintro e w2 ⟨v2,rfl,ho2,hb2⟩
 obtain ⟨g,c2,rfl,hg,hgl,hg0,hcell⟩:=own_opened ho2 (by decide)
 have hx:w2.cell? ⟨g,0,none⟩=some (.string ⟨r.toArray⟩):=hcell 0 _ rfl
 have hbb:=Lib.hid (hb1.trans (hb2.mono hb1.size))
 clear hA3 ho2 hcell hb1 hb2
 go_wp2_with fail
 rw [rounds_succ]
 go_wp2
 go_ret2
 exact ⟨rfl,hbb.out⟩
def leavesTo (seed:List UInt8) (k:Nat):List (List UInt8):=(List.range k).map (pubKey seed)
theorem leavesTo_succ (seed:List UInt8) (k:Nat):leavesTo seed (k+1)=leavesTo seed k++[pubKey seed k]:=by simp [leavesTo,List.range_succ]
def rootOf4 (seed:List UInt8):List UInt8:=root4 (pubKey seed 0) (pubKey seed 1) (pubKey seed 2) (pubKey seed 3)
theorem rootOf4_length (seed:List UInt8):(rootOf4 seed).length=16:=nodeOf_length _ _
def Key4 (w:World) (b:Nat) (seed:List UInt8):Prop:=
 ∃ g c,w.heap[b]?=some (.cells #[.string ⟨seed.toArray⟩,.string ⟨(openOf seed).toArray⟩,.string ⟨(rootOf4 seed).toArray⟩,.int .i64 2,.slice (some ⟨g,0,none⟩) 4 c] 195 (0,0))/\Cells w (.slice (some ⟨g,0,none⟩) 4 c) (txs (leavesTo seed 4))/\b<=g/\g<w.heap.size
theorem Key4.touch {S:Nat->Prop} {w w':World} {b:Nat} {seed:List UInt8} (h:Key4 w b seed) (ht:Touch S w w') (hs:∀ k,b<=k->k<w.heap.size->¬ S k):Key4 w' b seed:=by
 obtain ⟨g,c,h1,h2,h3,h4⟩:=h
 exact ⟨g,c,ht.heap h1 (hs b (Nat.le_refl _) (Array.getElem?_eq_some_iff.1 h1).1),ht.cells h2 (fun k hk=>by injection hk with hk;subst hk;exact hs g h3 h4),h3,Nat.lt_of_lt_of_le h4 ht.size⟩
theorem Key4.old {w w':World} {b:Nat} {seed:List UInt8} (h:Key4 w b seed) (hb:Below w.heap.size w w'):Key4 w' b seed:=
 h.touch (Touch.of_below hb (fun _=>False)) (fun _ _ _ h=>h)
theorem keepR {W W':World} {b j:Nat} {x:Value} {row:Option Nat} (h:W.cell? ⟨b,j,none⟩=some x) (hf:W.frozen? ⟨b,j,none⟩=false) (hg:W.grownBy W' row) (hne:row≠some b):W'.cell? ⟨b,j,none⟩=some x/\W'.frozen? ⟨b,j,none⟩=false:=by
 have hlt:=World.block_lt_of_cell? W _ h
 have hbl:=hg.block b hlt (fun e=>hne e.symm)
 exact ⟨(World.cell?_of_block (w:=W) (w':=W') (a:=⟨b,j,none⟩) hbl).trans h,(World.frozen?_of_block (w:=W) (w':=W') (a:=⟨b,j,none⟩) hbl).trans hf⟩
theorem xnew_two (seed:ByteArray) (w:World) (hs:seed.size<=1000) (hK:Kon w) :
 Calls Tryz.prog 62 #[.string seed,.int .i64 2] w fun e w'=>∃ b,e=.returned (.tuple #[.pointer (some ⟨b,0,none⟩),.int .i64 0])/\w.heap.size<=b/\Key4 w' b seed.data.toList/\Below w.heap.size w w':=by
 have HK:=Lib.hid hK
 clear hK
 obtain ⟨i0,hi,hz0,hz1,hz2⟩:=info_parts Tryz.infoStr
 go_enter Tryz.func62,Tryz.ntmps62
 go_wp2_with fail
 have hb1:Below w.heap.size w (w.alloc (.cells #[.string seed,.string ⟨#[]⟩,.string ⟨#[]⟩,.int .i64 0,.slice none 0 0] 195)):=(Below.refl _ _).alloc (Nat.le_refl _) _
 have hk1:(w.alloc (.cells #[.string seed,.string ⟨#[]⟩,.string ⟨#[]⟩,.int .i64 0,.slice none 0 0] 195)).heap[w.heap.size]?=some (.cells #[.string seed,.string ⟨#[]⟩,.string ⟨#[]⟩,.int .i64 0,.slice none 0 0] 195 (0,0)):=heap_alloc_new _ _
 have ho1:(w.alloc (.cells #[.string seed,.string ⟨#[]⟩,.string ⟨#[]⟩,.int .i64 0,.slice none 0 0] 195)).ownsRow (w.heap.size+1) 9 1 (.slice none 0 0) 0 (txs (leavesTo seed.data.toList 0)):=World.ownsRow_nil _ _ _ _
 generalize (w.alloc (.cells #[.string seed,.string ⟨#[]⟩,.string ⟨#[]⟩,.int .i64 0,.slice none 0 0] 195))=W1 at hb1 hk1 ho1 |-
 go_loopw [21] (fun i W=>∃ (k:Nat) (av:Option Addr) (cv:Nat),k<=4/\i=.int .i64 (k:Int)/\W.heap[w.heap.size]?=some (.cells #[.string seed,.string ⟨#[]⟩,.string ⟨#[]⟩,.int .i64 0,.slice av k cv] 195 (0,0))/\W.ownsRow (w.heap.size+1) 9 1 (.slice av k cv) k (txs (leavesTo seed.data.toList k))/\Below w.heap.size w W) (fun i _=>4 - (intOf i).toNat)
 case atStart=>exact ⟨0,none,0,by decide,rfl,hk1,ho1,hb1⟩
 case round=>
  obtain ⟨k,av,cv,hk,rfl,hkey,hown,hb⟩:=hrel
  clear hb1 hk1 ho1
  have sz:=hb.size
  have z4:wr.cell? ⟨w.heap.size,4,none⟩=some (.slice av k cv):=cel hkey
  have hlt:w.heap.size<wr.heap.size:=(Array.getElem?_eq_some_iff.1 hkey).1
  by_cases h4:k<4
  · have h4':(k:Int)<4:=by omega
    have z4f:wr.frozen? ⟨w.heap.size,4,none⟩=false:=frozen_of_row _ _ 4 _ _ hkey
    have Hsucc:=Lib.hid (leavesTo_succ seed.data.toList k)
    have hcall:=pubKey_any seed k wr.drew hs (by omega) (HK.out.old (hb.trans ((below_drew wr).mono (by omega))))
    have hno:∀ g',(Value.slice av k cv).ownBlock=some g'->w.heap.size+1<=g':=fun g' hg'=>(hown.lt g' hg').1
    have hne:(Value.slice av k cv).ownBlock≠some w.heap.size:=fun e=>by have:=hno _ e;omega
    have Hown:=Lib.hid hown
    have Hb:=Lib.hid hb
    have Hkey:=Lib.hid hkey
    have hk100:k<=100:=by omega
    generalize pubKey seed.data.toList k=pk at hcall Hsucc
    clear hown hb hkey
    go_wp2_with fail
    go_region_law (first
     | (go_simp;go_at_call 103;refine hcall.mono ?_;rintro r w5 ⟨rfl,hb5⟩;obtain ⟨z5,z5f,hb5'⟩:=keepC z4 z4f (below_call hb5) hlt;have z5a:=keepE z4 z4f (below_call hb5) hlt)
     | (refine step_append_lies _ (by rfl) _ _ _ (by rfl) (w.heap.size+1) 9 i0 _ 1 16 Tryz.underlying31 hi hz0 hz1 hz2 rfl (by omega) (.slice av k cv) k (txs (leavesTo seed.data.toList k)) (by rfl) (((Touch.of_below (below_call hb5) (fun _=>False)).own Hown.out (fun _ _ h=>h)).alloc _) ⟨w5.heap.size,0,none⟩ 1 1 [.string ⟨pk.toArray⟩] (by rfl) (by rfl) (World.news_of_block (cs:=#[.string ⟨pk.toArray⟩]) (t:=9) (fr:=(0,0)) (heap_alloc_new w5 _)) (by simp [Value.oneCell']) (by omega) (by unfold maxLen;omega) (by omega) (by have:=(below_call hb5).size;simp;omega) (w5.heap.size+1) (by simp) ?_;intro gg cap2 w6 ho6 hg6 hat hlt6;obtain ⟨z6,z6f⟩:=keepR (z5a _) (keepC z5 z5f ((Below.refl w5.heap.size w5).alloc (Nat.le_refl _) _) (Nat.lt_of_lt_of_le hlt (below_call hb5).size)).2.1 hg6 hne))
    all_goals
     have hT6:Touch (fun j=>some j=(Value.slice av k cv).ownBlock) wr w6:=(Touch.of_below (below_call hb5) _).trans ((Touch.alloc w5 _).trans (Touch.grown hg6))
     have hk6:=hT6.heap Hkey.out (fun e=>hne e.symm)
     have hk7:=heap_setCell_same w6 w.heap.size 4 _ _ (.slice (some ⟨gg,0,none⟩) (k+1) cap2) hk6
     have hgg:w.heap.size<gg:=(ho6.lt gg rfl).1
     have hT7:Touch (·=w.heap.size) w6 (w6.setCell ⟨w.heap.size,4,none⟩ (.slice (some ⟨gg,0,none⟩) (k+1) cap2)):=Touch.setCell (S:=(·=w.heap.size)) _ _ _ rfl
     have ho7:(w6.setCell ⟨w.heap.size,4,none⟩ (.slice (some ⟨gg,0,none⟩) (k+1) cap2)).ownsRow (w.heap.size+1) 9 1 (.slice (some ⟨gg,0,none⟩) (k+1) cap2) (k+1) (txs (leavesTo seed.data.toList (k+1))):=by
      rw [Hsucc.out,txs_snoc]
      exact hT7.own ho6 (fun j hj e=>by have h2:some gg=some j:=hj;injection h2 with h2;omega)
     have hB6:Below w.heap.size w w6:=Hb.out.trans (hT6.below (B:=w.heap.size) (fun j e=>by have:=hno j e.symm;omega) sz)
     have hB7:Below w.heap.size w (w6.setCell ⟨w.heap.size,4,none⟩ (.slice (some ⟨gg,0,none⟩) (k+1) cap2)):=hB6.trans (hT7.below (B:=w.heap.size) (fun j e=>by omega) hB6.size)
     clear hcall z5 z5f z5a z4 z4f hg6 hat hT6 hT7 hk6 hB6 z6 z6f
     go_wp2
     go_roundw
     case rel=>exact ⟨k+1,some ⟨gg,0,none⟩,cap2,by omega,by go_num,hk7,ho7,hB7⟩
     case measure=>simp [intOf];omega
  · have h4':¬ (k:Int)<4:=by omega
    obtain rfl:k=4:=by omega
    obtain ⟨gg,cc,hvc,hgB,hgl,hgc,hcell⟩:=own_opened hown (by decide)
    injection hvc with e1 _ e3
    subst e1 e3
    have hcells:=cells_of_own hown
    have Hb:=Lib.hid hb
    have Hkey:=Lib.hid hkey
    have hr:=Lib.hid (mroot_four (some ⟨gg,0,none⟩) cv (pubKey seed.data.toList 0) (pubKey seed.data.toList 1) (pubKey seed.data.toList 2) (pubKey seed.data.toList 3) wr hcells (pubKey_length _ _) (pubKey_length _ _) (pubKey_length _ _) (pubKey_length _ _) (HK.out.old hb))
    have hr:Hid (Calls Tryz.prog 104 #[.slice (some ⟨gg,0,none⟩) 4 cv] wr fun e w'=>e=.returned (.tuple #[.string ⟨(rootOf4 seed.data.toList).toArray⟩,.int .i64 0])/\Below wr.heap.size wr w'):=hr
    have Hcells:=Lib.hid hcells
    generalize hrt:rootOf4 seed.data.toList=rt at hr
    have Hrt:=Lib.hid hrt
    clear hown hb hkey hcell hcells hrt h4
    go_wp2_with fail
    refine hr.out.mono ?_
    rintro e w7 ⟨rfl,hb7⟩
    clear hr
    go_wp2_with fail
    have hB7:=Hb.out.trans (hb7.mono sz)
    have s7:=hB7.size
    have s77:=hb7.size
    refine (open_any seed _ hs (HK.out.old hB7)).mono ?_
    rintro e w8 ⟨rfl,hb8⟩
    have hb78:=hb7.trans (hb8.mono s77)
    have hk8:=(hb78.block w.heap.size hlt).trans Hkey.out
    have hc8:=(Hcells.out).old hb78
    have s8:=hb78.size
    have hB8:=Hb.out.trans (hb78.mono sz)
    have x1:w8.cell? ⟨w.heap.size,1,none⟩=some (.string ⟨#[]⟩):=cel hk8
    have x2:w8.cell? ⟨w.heap.size,2,none⟩=some (.string ⟨#[]⟩):=cel hk8
    have x3:w8.cell? ⟨w.heap.size,3,none⟩=some (.int .i64 0):=cel hk8
    have f1:w8.frozen? ⟨w.heap.size,1,none⟩=false:=frozen_of_row _ _ 1 _ _ hk8
    have f2:w8.frozen? ⟨w.heap.size,2,none⟩=false:=frozen_of_row _ _ 2 _ _ hk8
    have f3:w8.frozen? ⟨w.heap.size,3,none⟩=false:=frozen_of_row _ _ 3 _ _ hk8
    have hk9:=heap_setCell_same _ w.heap.size 3 _ _ (.int .i64 2) (heap_setCell_same _ w.heap.size 2 _ _ (.string ⟨rt.toArray⟩) (heap_setCell_same w8 w.heap.size 1 _ _ (.string ⟨(openOf seed.data.toList).toArray⟩) hk8))
    have hT9:Touch (·=w.heap.size) w8 (((w8.setCell ⟨w.heap.size,1,none⟩ (.string ⟨(openOf seed.data.toList).toArray⟩)).setCell ⟨w.heap.size,2,none⟩ (.string ⟨rt.toArray⟩)).setCell ⟨w.heap.size,3,none⟩ (.int .i64 2)):=
     ((Touch.setCell (S:=(·=w.heap.size)) w8 ⟨w.heap.size,1,none⟩ _ rfl).trans (Touch.setCell (S:=(·=w.heap.size)) _ ⟨w.heap.size,2,none⟩ _ rfl)).trans (Touch.setCell (S:=(·=w.heap.size)) _ ⟨w.heap.size,3,none⟩ _ rfl)
    have HK9:=Lib.hid hk9
    have HT9:=Lib.hid hT9
    have HB8:=Lib.hid hB8
    have HC8:=Lib.hid hc8
    clear hk8 hc8 hk9 hT9 hB8 hb7 hb8 hb78 hB7 Hkey Hb z4 Hcells
    go_wp2
    go_ret2
    refine ⟨_,rfl,Nat.le_refl _,⟨gg,cv,?_,HT9.out.cells HC8.out (fun j hj e=>by have h2:some gg=some j:=hj;injection h2 with h2;omega),by omega,Nat.lt_of_lt_of_le hgl (Nat.le_trans s8 HT9.out.size)⟩,HB8.out.trans (HT9.out.below (B:=w.heap.size) (fun j e=>by omega) HB8.out.size)⟩
    rw [Hrt.out]
    exact HK9.out
end Go.Proofs.YtcgkomafaepjnaaGreatDoor
