/- A drawn region whose last operation waits for all others: a condition that holds until that one. Conditions: none of a program. -/
import Derived.Test.YtcgkomafaepjnaaGreatDoorTL1
import Derived.Deep.RegionHeld3
import Derived.Test.YtcgkomafaepjnaaGreatDoorTL8
import Derived.Test.YtcgkomafaepjnaaGreatDoorTL12
import Derived.Test.YtcgkomafaepjnaaGreatDoorTL10
set_option maxRecDepth 100000
set_option maxHeartbeats 16000000
namespace Go.Proofs.YtcgkomafaepjnaaGreatDoor
open Go.RowKit
theorem gP (a:Act) (d:Tmp) (v:Value):a.put (some d) v={ a with tmps:=a.tmps.setIfInBounds d v }:=rfl
theorem gA {α:Type} {xs:List α} {i:Nat} (h:i<xs.toArray.size):xs.toArray[i]=xs[i]'(by simpa using h):=rfl
theorem gB {α:Type} {a:α} {ys:List α} (h:0<(a :: ys).length):(a :: ys)[0]=a:=rfl
theorem gC {α:Type} {a:α} {ys:List α} {i:Nat} (h:i+1<(a :: ys).length):(a :: ys)[i+1]=ys[i]'(Nat.lt_of_succ_lt_succ h):=rfl
theorem gD {α:Type} {l:List α} {i:Nat} {a:α}:l.toArray.setIfInBounds i a=(l.set i a).toArray:=List.setIfInBounds_toArray ..
theorem gE {α:Type} {b:α} {l:List α} {a:α}:(b :: l).set 0 a=a :: l:=rfl
theorem gF {α:Type} {b:α} {l:List α} {n:Nat} {a:α}:(b :: l).set (n+1) a=b :: l.set n a:=rfl
section
variable {P:Program} {md:Region.Mode} {ops:Array Oper} {Q:Exit->Act->World->Prop} {S:World->Prop} {z:Nat}
def anyZ (P:Program) (md:Region.Mode) (ops:Array Oper) (Q:Exit->Act->World->Prop) (S:World->Prop) (z:Nat):Nat->Array Bool->Act->World->Prop
 | 0,l,a,w=>Region.ready md ops l=[]/\Q .normal a w
 | n+1,l,a,w=>(Region.ready md ops l=[]->Q .normal a w)/\∀ i∈Region.ready md ops l,wpOp P ops Q i (fun a' w'=>(i≠z->S w')/\anyZ P md ops Q S z n (l.setIfInBounds i true) a' w') a w
theorem anyZ_any:∀ (n:Nat) (l:Array Bool) (a:Act) (w:World),anyZ P md ops Q S z n l a w->wpAny P md ops Q n l a w
 | 0,_,_,_,h=>h
 | n+1,_,_,_,h=>⟨h.1,fun i hi=>wpOp_mono (fun a' w' k=>anyZ_any n _ a' w' k.2) (h.2 i hi)⟩
theorem anyZ_first {i:Nat} {oi:Oper} {v:Value} (hi:ops[i]?=some oi) (hzi:∀ oz,ops[z]?=some oz->∃ e∈oz.after,Region.binds md e=true/\e.on=i) (hsel:∀ (j:Nat) (o:Oper) cs b,ops[j]?=some o->o.op≠.select cs b) (hQ:∀ c a w,Q (.panic c) (a.put oi.dst v) w->Q (.panic c) a w) (n:Nat) :
 ∀ (l:Array Bool) (a:Act) (w:World),(∀ j oj,ops[j]?=some oj->j≠i->l.getD j true=false->(∀ e∈oj.after,Region.binds md e=true->e.on≠i)->oi.apart ops oj=true) ->
  i∈Region.ready md ops l->YieldsIf P ops S oi v a->S w->anyZ P md ops Q S z n (l.setIfInBounds i true) (a.put oi.dst v) w->anyZ P md ops Q S z (n+1) l a w:=by
 induction n with
 | zero=>
   intro l a w _ hr hy hS H
   refine ⟨fun h=>absurd (h ▸ hr) (by simp),fun j hj=>?_⟩
   by_cases e:j=i
   · subst e
     exact hy.wpOp hi hS ⟨fun _=>hS,H⟩
   · exact absurd (H.1 ▸ ready_mono hj e) (by simp)
 | succ n ih=>
   intro l a w hfree hr hy hS H
   refine ⟨fun h=>absurd (h ▸ hr) (by simp),fun j hj=>?_⟩
   by_cases e:j=i
   · subst e
     exact hy.wpOp hi hS ⟨fun _=>hS,H⟩
   · obtain ⟨hjun,oj,hoj,hall⟩:=mem_ready.1 hj
     have hun:=(mem_ready.1 hr).1
     have hnot:∀ q∈oj.after,Region.binds md q=true->q.on≠i:=fun q hq hb hqi=>by
      have h1:=hall q hq hb
      rw [hqi] at h1
      rcases Nat.lt_or_ge i l.size with h | h
      · simp only [Array.getD_eq_getD_getElem?,Array.getElem?_eq_getElem h,Option.getD_some] at h1 hun
        rw [hun] at h1
        cases h1
      · simp only [Array.getD_eq_getD_getElem?,Array.getElem?_eq_none h,Option.getD_none] at h1 hun
        cases hun
     have hjz:j≠z:=fun h=>by
      subst h
      obtain ⟨q,hq,hb,hqi⟩:=hzi oj hoj
      exact hnot q hq hb hqi
     refine wpOp_mono (fun a' w' h3=>⟨fun _=>h3.2.1 hjz,ih _ a' w' (fun k ok hk hki hu hno=>hfree k ok hk hki ?_ hno) (ready_mono hr (Ne.symm e)) h3.1 (h3.2.1 hjz) ?_⟩) (wpOp_putIf hoj (hfree j oj hoj e hjun hnot) (fun cs b=>hsel i oi cs b hi) (fun cs b=>hsel j oj cs b hoj) hQ hy (H.2 j (ready_mono hj e)))
     · by_cases hjk:j=k
       · subst hjk
         exact hjun
       · rwa [getD_set_ne true hjk] at hu
     · rw [Array.setIfInBounds_comm _ _ e]
       exact h3.2.2
def firstN (s n:Nat):Array Bool:=((List.range s).map fun i=>decide (i<n)).toArray
theorem firstN_zero (s:Nat):Array.replicate s false=firstN s 0:=by
 apply Array.ext
 · simp [firstN]
 · intro i h1 h2
   simp [firstN]
theorem firstN_set (s n:Nat):(firstN s n).setIfInBounds n true=firstN s (n+1):=by
 simp only [firstN,List.setIfInBounds_toArray]
 congr 1
 apply List.ext_getElem
 · simp
 · intro i h1 h2
   rw [List.getElem_set,List.getElem_map,List.getElem_map,List.getElem_range]
   split
   · next h=>simp [<-h]
   · next h=>simp;omega
theorem zn_take {l:Array Bool} {i:Nat} {oi:Oper} {v:Value} {k:Nat} {a:Act} {w:World} (hi:ops[i]?=some oi) (hy:YieldsIf P ops S oi v a) (hS:S w) (h:anyZ P md ops Q S z k (l.setIfInBounds i true) (a.put oi.dst v) w)
 (hzi:((ops[z]?).all fun oz=>oz.after.any fun e=>Region.binds md e&&e.on==i)=true) (hs:Region.noSelect ops=true) (hf:Region.free md ops l i=true) (hr:(Region.ready md ops l).contains i=true) (hQ:∀ c a w,Q (.panic c) (a.put oi.dst v) w->Q (.panic c) a w):anyZ P md ops Q S z (k+1) l a w:=by
 refine anyZ_first hi (fun oz hz=>?_) (Region.noSelect_spec hs) hQ k _ a w (Region.free_spec hi hf) (by simpa using hr) hy hS h
 rw [hz] at hzi
 obtain ⟨e,he,hb⟩:=Array.any_eq_true'.1 (show (oz.after.any fun e=>Region.binds md e&&e.on==i)=true from hzi)
 rw [Bool.and_eq_true,beq_iff_eq] at hb
 exact ⟨e,he,hb⟩
theorem zn_on {l:Array Bool} (i:Nat) {oi:Oper} {v:Value} {k:Nat} {a:Act} {w:World} (hi:ops[i]?=some oi) (hv:∀ w,S w->(execOp a.eval oi).run P w=.ok (.value v) w) (hS:S w) (h:anyZ P md ops Q S z k (l.setIfInBounds i true) (a.put oi.dst v) w)
 (hw:Region.wanted oi (yielded ops a.tmps)=true:=by kernel_rfl) (hzi:((ops[z]?).all fun oz=>oz.after.any fun e=>Region.binds md e&&e.on==i)=true:=by kernel_rfl) (hs:Region.noSelect ops=true:=by kernel_rfl) (hf:Region.free md ops l i=true:=by kernel_rfl) (hr:(Region.ready md ops l).contains i=true:=by kernel_rfl) (hQ:∀ c a w,Q (.panic c) (a.put oi.dst v) w->Q (.panic c) a w:=by exact fun _ _ _ h=>h):anyZ P md ops Q S z (k+1) l a w:=zn_take hi (.inl ⟨hw,hv⟩) hS h hzi hs hf hr hQ
theorem zn_one {l:Array Bool} (i:Nat) {o:Oper} {k:Nat} {a:Act} {w:World} (ho:ops[i]?=some o) (h:∀ K:Act->World->Prop,Shut (∀ a w,S w->(S w->anyZ P md ops Q S z k (l.setIfInBounds i true) a w)->K a w)->if Region.wanted o (yielded ops a.tmps)=true then Oper.wp P o a w K Q else K (a.put o.dst undef) w) (hr:Region.ready md ops l=[i]:=by kernel_rfl):anyZ P md ops Q S z (k+1) l a w:=
 ⟨fun h0=>(by rw [hr] at h0;cases h0),fun j hj=>(by
  rw [hr] at hj
  obtain rfl:=List.mem_singleton.1 hj
  exact wpOp_step ho (fun K' hK=>h K' (fun a w hS hW=>hK a w ⟨fun _=>hS,hW hS⟩)))⟩
theorem zn_last {l:Array Bool} {o:Oper} {k:Nat} {a:Act} {w:World} (ho:ops[z]?=some o) (h:∀ K:Act->World->Prop,Shut (∀ a w,anyZ P md ops Q S z k (l.setIfInBounds z true) a w->K a w)->if Region.wanted o (yielded ops a.tmps)=true then Oper.wp P o a w K Q else K (a.put o.dst undef) w) (hr:Region.ready md ops l=[z]:=by kernel_rfl):anyZ P md ops Q S z (k+1) l a w:=
 ⟨fun h0=>(by rw [hr] at h0;cases h0),fun j hj=>(by
  rw [hr] at hj
  obtain rfl:=List.mem_singleton.1 hj
  exact wpOp_step ho (fun K' hK=>h K' (fun a w hW=>hK a w ⟨fun hne=>absurd rfl hne,hW⟩)))⟩
theorem tn_take {n:Nat} {oi:Oper} {v:Value} {k:Nat} {a:Act} {w:World} (hi:ops[n]?=some oi) (hy:YieldsIf P ops S oi v a) (hS:S w) (h:anyZ P md ops Q S z k (firstN ops.size (n+1)) (a.put oi.dst v) w)
 (hzi:((ops[z]?).all fun oz=>oz.after.any fun e=>Region.binds md e&&e.on==n)=true) (hs:Region.noSelect ops=true) (hf:Region.free md ops (firstN ops.size n) n=true) (hr:(Region.ready md ops (firstN ops.size n)).contains n=true) (hQ:∀ c a w,Q (.panic c) (a.put oi.dst v) w->Q (.panic c) a w):anyZ P md ops Q S z (k+1) (firstN ops.size n) a w:=
 zn_take hi hy hS (by rw [firstN_set];exact h) hzi hs hf hr hQ
theorem tn_on {n:Nat} {oi:Oper} {v:Value} {k:Nat} {a:Act} {w:World} (hi:ops[n]?=some oi) (hv:∀ w,S w->(execOp a.eval oi).run P w=.ok (.value v) w) (hS:S w) (h:anyZ P md ops Q S z k (firstN ops.size (n+1)) (a.put oi.dst v) w)
 (hw:Region.wanted oi (yielded ops a.tmps)=true:=by kernel_rfl) (hzi:((ops[z]?).all fun oz=>oz.after.any fun e=>Region.binds md e&&e.on==n)=true:=by kernel_rfl) (hs:Region.noSelect ops=true:=by kernel_rfl) (hf:Region.free md ops (firstN ops.size n) n=true:=by kernel_rfl) (hr:(Region.ready md ops (firstN ops.size n)).contains n=true:=by kernel_rfl) (hQ:∀ c a w,Q (.panic c) (a.put oi.dst v) w->Q (.panic c) a w:=by exact fun _ _ _ h=>h):anyZ P md ops Q S z (k+1) (firstN ops.size n) a w:=tn_take hi (.inl ⟨hw,hv⟩) hS h hzi hs hf hr hQ
theorem tn_one {n:Nat} {o:Oper} {k:Nat} {a:Act} {w:World} (ho:ops[n]?=some o) (h:∀ K:Act->World->Prop,Shut (∀ a w,S w->(S w->anyZ P md ops Q S z k (firstN ops.size (n+1)) a w)->K a w)->if Region.wanted o (yielded ops a.tmps)=true then Oper.wp P o a w K Q else K (a.put o.dst undef) w) (hr:Region.ready md ops (firstN ops.size n)=[n]:=by kernel_rfl):anyZ P md ops Q S z (k+1) (firstN ops.size n) a w:=
 ⟨fun h0=>(by rw [hr] at h0;cases h0),fun j hj=>(by
  rw [hr] at hj
  obtain rfl:=List.mem_singleton.1 hj
  exact wpOp_step ho (fun K' hK=>h K' (fun a w hS hW=>hK a w ⟨fun _=>hS,by rw [firstN_set];exact hW hS⟩)))⟩
theorem tn_last {o:Oper} {k:Nat} {a:Act} {w:World} (ho:ops[z]?=some o) (h:∀ K:Act->World->Prop,Shut (∀ a w,anyZ P md ops Q S z k (firstN ops.size (z+1)) a w->K a w)->if Region.wanted o (yielded ops a.tmps)=true then Oper.wp P o a w K Q else K (a.put o.dst undef) w) (hr:Region.ready md ops (firstN ops.size z)=[z]:=by kernel_rfl):anyZ P md ops Q S z (k+1) (firstN ops.size z) a w:=
 ⟨fun h0=>(by rw [hr] at h0;cases h0),fun j hj=>(by
  rw [hr] at hj
  obtain rfl:=List.mem_singleton.1 hj
  exact wpOp_step ho (fun K' hK=>h K' (fun a w hW=>hK a w ⟨fun hne=>absurd rfl hne,by rw [firstN_set];exact hW⟩)))⟩
theorem tn_done {l:Array Bool} {a:Act} {w:World} (h:Q .normal a w) (hr:Region.ready md ops l=[]:=by kernel_rfl):∀ n,anyZ P md ops Q S z n l a w
 | 0=>⟨hr,h⟩
 | _+1=>⟨fun _=>h,by rw [hr];simp⟩
theorem tn_region {id:Nat} {a:Act} {w:World} (S:World->Prop) (z:Nat) (hS:S w.drew) (h:S w.drew->anyZ P .any ops Q S z ops.size (firstN ops.size 0) a w.drew) (hm:P.follows .mixedOrders=true:=by kernel_rfl):(Code.region id ops true).wp P Q a w:=
 wp_region_any hm (anyZ_any _ _ _ _ (by rw [firstN_zero];exact h hS))
end
theorem tk_off {P:Program} {md:Region.Mode} {ops:Array Oper} {Q:Exit->Act->World->Prop} {S:World->Prop} {i:Nat} {oi:Oper} {fuel:Nat} {listed:Array Bool} {a:Act} {w:World} (hi:ops[i]?=some oi) (hw:Region.wanted oi (yielded ops a.tmps)=false) (hS:S w) (h:wpAnyH P md ops Q S fuel (listed.setIfInBounds i true) (a.put oi.dst undef) w)
 (hs:Region.noSelect ops=true:=by kernel_rfl) (hf:Region.free md ops listed i=true:=by kernel_rfl) (hr:(Region.ready md ops listed).contains i=true:=by kernel_rfl) (hQ:∀ c a w,Q (.panic c) (a.put oi.dst undef) w->Q (.panic c) a w:=by exact fun _ _ _ h=>h):wpAnyH P md ops Q S (fuel+1) listed a w:=wpAnyH_take hi hs hf hr hQ (.inr ⟨hw,rfl⟩) hS h
theorem tk_on {P:Program} {md:Region.Mode} {ops:Array Oper} {Q:Exit->Act->World->Prop} {S:World->Prop} {i:Nat} {oi:Oper} {v:Value} {fuel:Nat} {listed:Array Bool} {a:Act} {w:World} (hi:ops[i]?=some oi) (hv:∀ w,S w->(execOp a.eval oi).run P w=.ok (.value v) w) (hS:S w) (h:wpAnyH P md ops Q S fuel (listed.setIfInBounds i true) (a.put oi.dst v) w)
 (hw:Region.wanted oi (yielded ops a.tmps)=true:=by kernel_rfl) (hs:Region.noSelect ops=true:=by kernel_rfl) (hf:Region.free md ops listed i=true:=by kernel_rfl) (hr:(Region.ready md ops listed).contains i=true:=by kernel_rfl) (hQ:∀ c a w,Q (.panic c) (a.put oi.dst v) w->Q (.panic c) a w:=by exact fun _ _ _ h=>h):wpAnyH P md ops Q S (fuel+1) listed a w:=wpAnyH_take hi hs hf hr hQ (.inl ⟨hw,hv⟩) hS h
def secN (k:Nat):List ByteArray:=List.replicate k zsec++List.replicate (200 - k) ⟨#[]⟩
theorem secN_set (k:Nat) (hk:k<200):(strs (secN k)).toArray.setIfInBounds k (.string zsec)=(strs (secN (k+1))).toArray:=by
 rw [strs_set]
 congr 2
 unfold secN
 rw [List.set_append_right _ _ (by simp),List.length_replicate,Nat.sub_self,show 200 - k=(200 - (k+1))+1 from by omega,List.replicate_succ,List.set_cons_zero,List.replicate_succ',List.append_assoc]
 rfl
theorem secN_at (k:Nat) (hk:k<200):(strs (secN k)).toArray[k]?=some (.string ⟨#[]⟩):=by
 unfold secN strs
 rw [List.getElem?_toArray,List.getElem?_map,List.getElem?_append_right (by simp),List.length_replicate,Nat.sub_self,List.getElem?_replicate,if_pos (by omega)]
 rfl
theorem secN_full:secN 200=List.replicate 200 zsec:=by
 unfold secN
 rw [Nat.sub_self,List.replicate_zero,List.append_nil]
theorem make200 (w:World):(Instr.makeSlice 31 (.int .i64 200) (.int .i64 200)).run Tryz.prog w=.ok (.slice (some ⟨w.heap.size,0,none⟩) 200 200) (w.alloc (.cells (strs (secN 0)).toArray 9)):=by kernel_rfl
theorem snew_big (w:World) :
 Calls Tryz.prog 64 #[.int .i64 200] w fun e w'=>∃ d,e=.returned (.tuple #[.pointer (some ⟨d,0,none⟩),.int .i64 0])/\w.heap.size<=d/\∃ g,w.heap.size<=g/\DiskAt w' d g (List.replicate 200 zsec) (.slice none 0 0)/\Below w.heap.size w w':=by
 have hmk:=make200
 obtain ⟨R,hR⟩:∃ R:Nat->Array Value,R=fun k=>(strs (secN k)).toArray:=⟨_,rfl⟩
 have hR0:(strs (secN 0)).toArray=R 0:=by rw [hR]
 have hRs:∀ k,k<200->(R k).setIfInBounds k (.string zsec)=R (k+1):=by rw [hR];exact secN_set
 have hRa:∀ k,k<200->(R k)[k]?=some (.string ⟨#[]⟩):=by rw [hR];exact secN_at
 have hRf:R 200=(strs (List.replicate 200 zsec)).toArray:=by rw [hR,<-secN_full]
 have HF:=Lib.hid hRf
 clear hR hRf
 rw [hR0] at hmk
 clear hR0
 go_enter Tryz.func64,Tryz.ntmps64
 go_wp2_with fail
 have h1:((w.alloc (.cells (R 0) 9)).alloc (.cells #[.slice (some ⟨w.heap.size,0,none⟩) 200 200,.slice none 0 0,.bool false,.bool false,.int .i64 0,.slice none 0 0] 199)).heap[w.heap.size]?=some (.cells (R 0) 9 (0,0)):=by
  rw [Below.heap_alloc _ _ _ (by simp)];exact heap_alloc_new _ _
 have h2:((w.alloc (.cells (R 0) 9)).alloc (.cells #[.slice (some ⟨w.heap.size,0,none⟩) 200 200,.slice none 0 0,.bool false,.bool false,.int .i64 0,.slice none 0 0] 199)).heap[w.heap.size+1]?=some (.cells #[.slice (some ⟨w.heap.size,0,none⟩) 200 200,.slice none 0 0,.bool false,.bool false,.int .i64 0,.slice none 0 0] 199 (0,0)):=heap_alloc2_new _ _ _
 have hb1:Below w.heap.size w ((w.alloc (.cells (R 0) 9)).alloc (.cells #[.slice (some ⟨w.heap.size,0,none⟩) 200 200,.slice none 0 0,.bool false,.bool false,.int .i64 0,.slice none 0 0] 199)):=((Below.refl _ _).alloc (Nat.le_refl _) _).alloc (by simp) _
 generalize ((w.alloc (.cells (R 0) 9)).alloc (.cells #[.slice (some ⟨w.heap.size,0,none⟩) 200 200,.slice none 0 0,.bool false,.bool false,.int .i64 0,.slice none 0 0] 199))=W1 at h1 h2 hb1 |-
 clear hmk
 go_loopw [21] (fun i W=>∃ k:Nat,k<=200/\i=.int .i64 k/\W.heap[w.heap.size]?=some (.cells (R k) 9 (0,0))/\W.heap[w.heap.size+1]?=some (.cells #[.slice (some ⟨w.heap.size,0,none⟩) 200 200,.slice none 0 0,.bool false,.bool false,.int .i64 0,.slice none 0 0] 199 (0,0))/\Below w.heap.size w W) (fun i _=>200 - (intOf i).toNat)
 case atStart=>exact ⟨0,Nat.zero_le _,rfl,h1,h2,hb1⟩
 case round=>
  obtain ⟨k,hk,rfl,hg,hd,hb⟩:=hrel
  by_cases hlt:k<200
  · have z0:wr.cell? ⟨w.heap.size+1,0,none⟩=some (.slice (some ⟨w.heap.size,0,none⟩) 200 200):=cel hd
    have zk:wr.cell? ⟨w.heap.size,k,none⟩=some (.string ⟨#[]⟩):=by rw [cell_of_row _ _ k _ _ _ hg];exact hRa k hlt
    have fk:wr.frozen? ⟨w.heap.size,k,none⟩=false:=frozen_of_row _ _ k _ _ hg
    have lg:=(Array.getElem?_eq_some_iff.1 hg).1
    have ld:=(Array.getElem?_eq_some_iff.1 hd).1
    have hcall:=zeros_any wr.drew
    have hk8:(k:Int)<200:=by omega
    have Hset:=Lib.hid (hRs k hlt)
    have HG:=Lib.hid hg
    have HD:=Lib.hid hd
    have sw:=hb.size
    clear hg hd hRs hRa
    go_wp2_with fail
    go_region_law (first | (go_simp;go_at_call 106;refine hcall.mono ?_;rintro r w5 ⟨rfl,hb5⟩;obtain ⟨y0,_,_⟩:=keepC z0 (frozen_of_row _ _ 0 _ _ HD.out) (below_call hb5) ld;obtain ⟨yk,yf,hbc⟩:=keepC zk fk (below_call hb5) lg))
    all_goals
     have hg5:=(hbc.block w.heap.size lg).trans HG.out
     have hd5:=(hbc.block (w.heap.size+1) ld).trans HD.out
     have hb6:=hb.trans (hbc.mono sw)
     clear hcall y0 z0 zk fk hb5
     go_wp2
     go_roundw
     case rel=>exact ⟨k+1,by omega,by go_num,by rw [<-Hset.out];exact heap_setCell_same w5 w.heap.size k _ _ _ hg5,by rw [heap_setCell_other _ _ _ _ (by show w.heap.size+1≠w.heap.size;omega)];exact hd5,hb6.setCell (Nat.le_refl _) _⟩
     case measure=>simp [intOf];omega
  · obtain rfl:k=200:=by omega
    have hg':wr.heap[w.heap.size]?=some (.cells (strs (List.replicate 200 zsec)).toArray 9 (0,0)):=by rw [<-HF.out];exact hg
    have HG:=Lib.hid hg'
    have HD:=Lib.hid hd
    clear hg hd hg' hlt hRs hRa
    go_wp2
    go_ret2
    exact ⟨_,rfl,Nat.le_succ _,w.heap.size,Nat.le_refl _,⟨⟨200,by rw [List.length_replicate];exact HD.out⟩,HG.out,Nat.succ_ne_self _⟩,hb⟩
def wrCells (l:List (Nat×ByteArray)):List Value:=l.flatMap fun p=>[.int .i64 p.1,.string p.2]
theorem wrCells_snoc (l:List (Nat×ByteArray)) (i:Nat) (s:ByteArray):wrCells (l++[(i,s)])=wrCells l++[.int .i64 i,.string s]:=by
 unfold wrCells
 rw [List.flatMap_append]
 rfl
theorem wrCells_at:∀ (l:List (Nat×ByteArray)) (k:Nat) (hk:k<l.length),(wrCells l)[2*k]?=some (.int .i64 (l[k]).1)/\(wrCells l)[2*k+1]?=some (.string (l[k]).2)
 | p :: l,0,_=>⟨rfl,rfl⟩
 | p :: l,k+1,hk=>by
   have:=wrCells_at l k (by simpa using hk)
   unfold wrCells at *
   rw [List.flatMap_cons]
   simp only [List.getElem_cons_succ]
   rw [show 2*(k+1)=2*k+1+1 from by omega]
   exact this
theorem wr_at {w:World} {B:Nat} {a:Option Addr} {n c:Nat} {l:List (Nat×ByteArray)} (h:w.ownsRow B 333 2 (.slice a n c) n (wrCells l)) (hn:n=l.length) (k:Nat) (hk:k<l.length) :
 ∃ g,a=some ⟨g,0,none⟩/\B<=g/\g<w.heap.size/\w.cell? ⟨g,k*2,none⟩=some (.int .i64 (l[k]).1)/\w.cell? ⟨g,k*2+1,none⟩=some (.string (l[k]).2):=by
 obtain ⟨g,cap,e,hb,hg⟩:=h.form (by omega)
 injection e with e1 e2 e3
 subst e1
 have hadd:∀ i,(⟨g,0,none⟩:Addr).add i=⟨g,i,none⟩:=fun i=>by unfold Addr.add;split <;> simp_all
 obtain ⟨h0,h1⟩:=wrCells_at l k hk
 have c0:=h.cells (g:=g) rfl _ _ h0
 have c1:=h.cells (g:=g) rfl _ _ h1
 rw [hadd] at c0 c1
 rw [Nat.mul_comm k 2]
 exact ⟨g,rfl,hb,hg,c0,c1⟩
structure DiskUp (w:World) (d g N B n:Nat) (v:Value):Prop where
 ex:∃ xs,xs.length=N/\(∀ x∈xs,x.size=64)/\DiskAt w d g xs v
 wt:∃ l:List (Nat×ByteArray),l.length=n/\(∀ p∈l,p.1<N/\p.2.size=64)/\w.ownsRow B 333 2 v n (wrCells l)
theorem DiskUp.touch {S:Nat->Prop} {w w':World} {d g N B n:Nat} {v:Value} (h:DiskUp w d g N B n v) (ht:Touch S w w') (hd:¬ S d) (hg:¬ S g) (hv:∀ k,v.ownBlock=some k->¬ S k):DiskUp w' d g N B n v:=by
 obtain ⟨xs,h1,h2,h3⟩:=h.ex
 obtain ⟨l,h4,h5,h6⟩:=h.wt
 obtain ⟨c,hb⟩:=h3.blk
 exact ⟨⟨xs,h1,h2,⟨⟨c,ht.heap hb hd⟩,ht.heap h3.row hg,h3.ne⟩⟩,⟨l,h4,h5,ht.own h6 hv⟩⟩
theorem swrite_more (d g N B n:Nat) (v:Value) (i:Nat) (hi:i<N) (s:ByteArray) (hs:s.size<=64) (w:World) (hd:DiskUp w d g N B n v) (hn:n<1000) (hdB:d<B) (hgB:g<B) (hB:B<=w.heap.size) :
 Calls Tryz.prog 214 #[.pointer (some ⟨d,0,none⟩),.int .i64 i,.string s] w fun e w'=>e=.returned (.int .i64 0)/\∃ v',DiskUp w' d g N B (n+1) v'/\Touch (fun k=>k=d\/B<=k) w w':=by
 obtain ⟨i0,hinf,hz0,hz1,hz2⟩:=info_parts Tryz.infoWrt
 obtain ⟨xs,hN,hx64,hdx⟩:=hd.ex
 obtain ⟨l,hll,hlp,ho⟩:=hd.wt
 obtain ⟨a,c0,rfl⟩:=own_slice ho
 have hready:=sready_any d g xs (.slice a n c0) i (by omega) w hdx
 have hburn:=sburn_any d g xs (.slice a n c0) w hdx
 obtain ⟨c,z0,z1,z2,z3⟩:=hdx.cells
 have hlt:=hdx.lt.1
 have hlg:=hdx.lt.2
 obtain ⟨cc,hblk⟩:=hdx.blk
 have HBk:=Lib.hid hblk
 have HG:=Lib.hid hdx.row
 have z1f:w.frozen? ⟨d,1,none⟩=false:=frozen_of_row _ _ 1 _ _ hblk
 have hne:=hdx.ne
 have hob:(Value.slice a n c0).ownBlock≠some d:=fun e=>by have:=(ho.lt d e).1;omega
 have hobg:∀ k,(Value.slice a n c0).ownBlock=some k->B<=k:=fun k e=>(ho.lt k e).1
 have HLP:=Lib.hid (And.intro hN (And.intro hx64 (And.intro hll hlp)))
 clear hblk hd hdx z0 z2 z3 hN hx64 hll hlp
 obtain ⟨m,hm⟩:∃ m,m=64 - s.size:=⟨_,rfl⟩
 have hm0:(64:Int) - (s.size:Int)=(m:Int):=by omega
 have hm1:IntKind.i64.wrap (m:Int)=(m:Int):=IntWalk.i64_in _ (by omega)
 have hs64:¬ ((64:Int)<(s.size:Int)):=by omega
 have hzm:(zsn m).size=m:=by simp [zsn,ByteArray.size]
 have hsz:s.size+m=64:=by omega
 have hfit:¬ (9223372036854775807<s.size+(zsn m).size):=by omega
 have hcall:=zeros_n m w.drew (by omega)
 have HZ:=Lib.hid (And.intro hzm hsz)
 clear hm hzm hsz
 have HO:=Lib.hid (fun (w5:World) (hb:Below w.heap.size w w5)=>(Touch.of_below hb (fun _=>False)).own ho (fun _ _ h=>h))
 have HOB:=Lib.hid (And.intro hob hobg)
 clear ho hob hobg
 go_enter Tryz.func214,Tryz.ntmps214
 go_wp2_with fail
 refine hready.mono ?_
 rintro e w1 ⟨rfl,rfl⟩
 go_wp2_with fail
 refine hburn.mono ?_
 rintro e w2 ⟨rfl,rfl⟩
 go_wp2_with fail
 have hS0:=Lib.hid (keepC z1 z1f (below_drew w2) hlt)
 go_region_law (first
  | (go_simp;go_at_call 106;refine hcall.mono ?_;rintro r w5 ⟨rfl,hb5⟩;obtain ⟨z5,z5f,hb5'⟩:=keepC z1 z1f (below_call hb5) hlt;have z5a:=keepE z1 z1f (below_call hb5) hlt)
  | (refine step_append_lies _ (by rfl) _ _ _ (by rfl) B 333 i0 _ 2 24 Tryz.underlying197 hinf hz0 hz1 hz2 rfl (by omega) (.slice a n c0) n (wrCells l) (by rfl) ((HO.out _ hb5').alloc _) ⟨w5.heap.size,0,none⟩ 1 1 [.int .i64 i,.string (s++zsn m)] (by rfl) (by rfl) (World.news_of_block (cs:=#[.int .i64 i,.string (s++zsn m)]) (t:=333) (fr:=(0,0)) (heap_alloc_new w5 _)) (by simp [Value.oneCell']) (by omega) (by unfold maxLen;omega) (by omega) (by have:=hb5'.size;simp;omega) (w5.heap.size+1) (by simp) ?_;intro gg cap2 w6 ho6 hg6 hat hlt6;obtain ⟨z6,z6f⟩:=keepR (z5a _) (keepC z5 z5f ((Below.refl w5.heap.size w5).alloc (Nat.le_refl _) _) (Nat.lt_of_lt_of_le hlt hb5'.size)).2.1 hg6 HOB.out.1))
 all_goals
  clear hcall z5 z5f z5a z6 z6f hready hburn z1 z1f
  have hs5:=hb5'.size
  have hT6:Touch (fun k=>k=d\/B<=k) w2 w6:=(Touch.of_below (hb5'.alloc hs5 _) _).trans ((Touch.grown hg6).mono (fun k hk=>.inl (.inr (HOB.out.2 k hk.symm))))
  have hd6:=(Touch.grown hg6).heap (((hb5'.alloc hs5 (.cells #[.int .i64 i,.string (s++zsn m)] 333)).block d hlt).trans HBk.out) (fun e=>HOB.out.1 e.symm)
  have hg6':=(Touch.grown hg6).heap (((hb5'.alloc hs5 (.cells #[.int .i64 i,.string (s++zsn m)] 333)).block g hlg).trans HG.out) (fun e=>by have:=HOB.out.2 g e.symm;omega)
  have hgg:B<=gg:=by
   rcases hat with h | h
   · exact HOB.out.2 _ h
   · omega
  have hd7:=heap_setCell_same w6 d 1 _ _ (.slice (some ⟨gg,0,none⟩) (n+1) cap2) hd6
  have hg7:=(heap_setCell_other w6 ⟨d,1,none⟩ g (.slice (some ⟨gg,0,none⟩) (n+1) cap2) (by exact hne.symm)).trans hg6'
  have hT7:Touch (fun k=>k=d\/B<=k) w2 (w6.setCell ⟨d,1,none⟩ (.slice (some ⟨gg,0,none⟩) (n+1) cap2)):=hT6.trans (Touch.setCell (S:=fun k=>k=d\/B<=k) w6 ⟨d,1,none⟩ _ (.inl rfl))
  have ho7:=(Touch.setCell (S:=(·=d)) w6 ⟨d,1,none⟩ (.slice (some ⟨gg,0,none⟩) (n+1) cap2) rfl).own ho6 (fun k hk e=>by simp [Value.ownBlock] at hk;omega)
  generalize (w6.setCell ⟨d,1,none⟩ (.slice (some ⟨gg,0,none⟩) (n+1) cap2))=W7 at hd7 hg7 hT7 ho7 |-
  clear hd6 hg6' hT6 hg6 ho6 hat hb5' hb5
  rw [<-wrCells_snoc] at ho7
  obtain ⟨hN,hx64,hll,hlp⟩:=HLP.out
  have hup:DiskUp W7 d g N B (n+1) (.slice (some ⟨gg,0,none⟩) (n+1) cap2):=⟨⟨xs,hN,hx64,⟨cc,hd7⟩,hg7,hne⟩,⟨l++[(i,s++zsn m)],by simp [hll],fun p hp=>by
   rcases List.mem_append.1 hp with h | h
   · exact hlp p h
   · rw [List.mem_singleton.1 h]
     exact ⟨hi,by rw [cat_size,HZ.out.1];exact HZ.out.2⟩,ho7⟩⟩
  have HUP:=Lib.hid (And.intro hup hT7)
  clear hup hT7 ho7 hd7 hg7 hN hx64 hll hlp
  go_wp2
  go_ret
  exact ⟨rfl,_,HUP.out.1,HUP.out.2⟩
theorem ssync_more (d g N B n:Nat) (v:Value) (hN0:0<N) (w:World) (hd:DiskUp w d g N B n v) (hn:n<1000) (hgB:g<B) :
 Calls Tryz.prog 216 #[.pointer (some ⟨d,0,none⟩)] w fun e w'=>e=.returned (.int .i64 0)/\(∃ xs,xs.length=N/\(∀ x∈xs,x.size=64)/\DiskAt w' d g xs (.slice none 0 0))/\Touch (fun k=>k=g\/k=d) w w':=by
 obtain ⟨xs,hN,hx64,hdx⟩:=hd.ex
 obtain ⟨l,hll,hlp,ho⟩:=hd.wt
 obtain ⟨a,c0,rfl⟩:=own_slice ho
 have hready:=sready_any d g xs (.slice a n c0) 0 (by omega) w hdx
 have hburn:=sburn_any d g xs (.slice a n c0) w hdx
 obtain ⟨_,z0,z1,z2,z3⟩:=hdx.cells
 have HW:=Lib.hid (fun k (hk:k<l.length)=>wr_at ho hll.symm k hk)
 have HLP:=Lib.hid hlp
 have HB0:=Lib.hid (fun k (hk:(Value.slice a n c0).ownBlock=some k)=>(show k≠g from fun e=>by have:=(ho.lt k hk).1;omega))
 have HD:=Lib.hid (show ∃ xs,xs.length=N/\(∀ x∈xs,x.size=64)/\DiskAt w d g xs (.slice a n c0) from ⟨xs,hN,hx64,hdx⟩)
 clear hd hdx z0 z2 z3 ho hlp hx64 hN
 go_enter Tryz.func216,Tryz.ntmps216
 go_wp2_with fail
 refine hready.mono ?_
 rintro e w1 ⟨rfl,rfl⟩
 go_wp2_with fail
 refine hburn.mono ?_
 rintro e w2 ⟨rfl,rfl⟩
 go_wp2_with fail
 clear hready hburn
 have hT0:Touch (·=g) w2 w2:=Touch.refl _ _
 have hob:∀ k,(Value.slice a n c0).ownBlock=some k->k≠g:=HB0.out
 go_loopw [18] (fun i W=>∃ k:Nat,k<=n/\i=.int .i64 (k:Int)/\(∃ ys,ys.length=N/\(∀ x∈ys,x.size=64)/\DiskAt W d g ys (.slice a n c0))/\Touch (·=g) w2 W) (fun i _=>n - (intOf i).toNat)
 case atStart=>exact ⟨0,Nat.zero_le _,rfl,HD.out,hT0⟩
 case round=>
  obtain ⟨k,hk,rfl,⟨ys,hyN,hy64,hdy⟩,hTk⟩:=hrel
  by_cases hlt:k<n
  · have hkl:k<l.length:=by rw [hll];exact hlt
    have hlt':(k:Int)<(n:Int):=by omega
    obtain ⟨gg,rfl,hggB,hggl,y0,y1⟩:=HW.out k hkl
    have hgg:¬ gg=g:=hob gg rfl
    have y0:=hTk.keep_cell y0 hgg
    have y1:=hTk.keep_cell y1 hgg
    obtain ⟨hpN,hp64⟩:=HLP.out l[k] (List.getElem_mem hkl)
    generalize l[k]=pr at y0 y1 hpN hp64
    obtain ⟨pi,pt⟩:=pr
    dsimp only at y0 y1 hpN hp64
    have hB:Below wr.heap.size wr (wr.alloc (.cells #[.int .i64 pi,.string pt] 333)):=(Below.refl wr.heap.size wr).alloc (Nat.le_refl _) _
    have hcall:=Lib.hid (slast_any d g ys (.slice (some ⟨gg,0,none⟩) n c0) pi (by rw [hyN];exact hpN) hy64 pt hp64 _ (hdy.below hB hdy.lt.1 hdy.lt.2))
    have HBB:=Lib.hid (And.intro hB hTk)
    have hyN':=hyN
    clear hB hTk hdy z1
    go_wp2_with fail
    refine hcall.out.mono ?_
    clear hcall y0 y1
    rintro e w4 ⟨rfl,zs,hzl,hz64,hd4,ht4⟩
    have hT4:Touch (·=g) w2 w4:=HBB.out.2.trans ((Touch.of_below HBB.out.1 _).trans ht4)
    have HF:=Lib.hid (And.intro hd4 hT4)
    clear hd4 hT4 ht4
    go_wp2
    go_roundw
    case rel=>exact ⟨k+1,by omega,by go_num,⟨zs,by omega,hz64,HF.out.1⟩,HF.out.2⟩
    case measure=>simp [intOf];omega
  · obtain rfl:k=n:=by omega
    have hge:¬ (k:Int)<(k:Int):=by omega
    obtain ⟨cc,hbk⟩:=hdy.blk
    have f1:wr.frozen? ⟨d,1,none⟩=false:=frozen_of_row _ _ 1 _ _ hbk
    have u1:wr.cell? ⟨d,1,none⟩=some (.slice a k c0):=cel hbk
    have hd5:=heap_setCell_same wr d 1 _ _ (.slice none 0 0) hbk
    have hg5:=(heap_setCell_other wr ⟨d,1,none⟩ g (.slice none 0 0) (by exact hdy.ne.symm)).trans hdy.row
    have hT:Touch (fun k=>k=g\/k=d) w2 (wr.setCell ⟨d,1,none⟩ (.slice none 0 0)):=(hTk.mono (fun k h=>.inl (.inl h))).trans (Touch.setCell (S:=fun k=>k=g\/k=d) wr ⟨d,1,none⟩ _ (.inr rfl))
    have HF:=Lib.hid (show DiskAt (wr.setCell ⟨d,1,none⟩ (.slice none 0 0)) d g ys (.slice none 0 0)/\Touch (fun k=>k=g\/k=d) w2 (wr.setCell ⟨d,1,none⟩ (.slice none 0 0)) from ⟨⟨⟨cc,hd5⟩,hg5,hdy.ne⟩,hT⟩)
    clear hbk hd5 hg5 hT hdy hTk z1
    go_wp2
    go_ret
    exact ⟨rfl,⟨ys,hyN,hy64,HF.out.1⟩,HF.out.2⟩
def ptCells (turn num all:Nat) (nm:ByteArray) (l:List (Nat×ByteArray)):List Value:=l.flatMap fun p=>[.int .u64 turn,.int .u64 num,.int .i64 p.1,.int .i64 all,.string nm,.string p.2]
theorem ptCells_snoc (turn num all:Nat) (nm:ByteArray) (l:List (Nat×ByteArray)) (i:Nat) (s:ByteArray):ptCells turn num all nm (l++[(i,s)])=ptCells turn num all nm l++[.int .u64 turn,.int .u64 num,.int .i64 i,.int .i64 all,.string nm,.string s]:=by
 unfold ptCells
 rw [List.flatMap_append]
 rfl
theorem ptCells_at (turn num all:Nat) (nm:ByteArray):∀ (l:List (Nat×ByteArray)) (k:Nat) (hk:k<l.length),(ptCells turn num all nm l)[6*k]?=some (.int .u64 turn)/\(ptCells turn num all nm l)[6*k+1]?=some (.int .u64 num)/\(ptCells turn num all nm l)[6*k+2]?=some (.int .i64 (l[k]).1)/\(ptCells turn num all nm l)[6*k+3]?=some (.int .i64 all)/\(ptCells turn num all nm l)[6*k+4]?=some (.string nm)/\(ptCells turn num all nm l)[6*k+5]?=some (.string (l[k]).2)
 | p :: l,0,_=>⟨rfl,rfl,rfl,rfl,rfl,rfl⟩
 | p :: l,k+1,hk=>by
   have:=ptCells_at turn num all nm l k (by simpa using hk)
   unfold ptCells at *
   rw [List.flatMap_cons]
   simp only [List.getElem_cons_succ]
   rw [show 6*(k+1)=6*k+1+1+1+1+1+1 from by omega]
   exact this
theorem pt_at {w:World} {B turn num all:Nat} {nm:ByteArray} {a:Option Addr} {n c:Nat} {l:List (Nat×ByteArray)} (h:w.ownsRow B 310 6 (.slice a n c) n (ptCells turn num all nm l)) (hn:n=l.length) (k:Nat) (hk:k<l.length) :
 ∃ g,a=some ⟨g,0,none⟩/\B<=g/\g<w.heap.size/\w.cell? ⟨g,k*6,none⟩=some (.int .u64 turn)/\w.cell? ⟨g,k*6+1,none⟩=some (.int .u64 num)/\w.cell? ⟨g,k*6+2,none⟩=some (.int .i64 (l[k]).1)/\w.cell? ⟨g,k*6+3,none⟩=some (.int .i64 all)/\w.cell? ⟨g,k*6+4,none⟩=some (.string nm)/\w.cell? ⟨g,k*6+5,none⟩=some (.string (l[k]).2):=by
 obtain ⟨g,cap,e,hb,hg⟩:=h.form (by omega)
 injection e with e1 e2 e3
 subst e1
 have hadd:∀ i,(⟨g,0,none⟩:Addr).add i=⟨g,i,none⟩:=fun i=>by unfold Addr.add;split <;> simp_all
 obtain ⟨h0,h1,h2,h3,h4,h5⟩:=ptCells_at turn num all nm l k hk
 have c0:=h.cells (g:=g) rfl _ _ h0
 have c1:=h.cells (g:=g) rfl _ _ h1
 have c2:=h.cells (g:=g) rfl _ _ h2
 have c3:=h.cells (g:=g) rfl _ _ h3
 have c4:=h.cells (g:=g) rfl _ _ h4
 have c5:=h.cells (g:=g) rfl _ _ h5
 rw [hadd] at c0 c1 c2 c3 c4 c5
 rw [Nat.mul_comm k 6]
 exact ⟨g,rfl,hb,hg,c0,c1,c2,c3,c4,c5⟩
theorem lparts_more (turn num:Nat) (ht:turn<4294967296) (hn:num<65536) (s:ByteArray) (hs:s.size<=900) (w:World) (hK:Kon w) :
 Calls Tryz.prog 213 #[.int .u64 turn,.int .u64 num,.string s] w fun e w'=>∃ (v:Value) (nm:ByteArray) (pts:List (Nat×ByteArray)),e=.returned v/\nm.size=8/\pts.length=partsOf s.size/\(∀ p∈pts,p.1<256/\p.2.size<=39)/\w'.ownsRow w.heap.size 310 6 v (partsOf s.size) (ptCells turn num (partsOf s.size) nm pts)/\Below w.heap.size w w':=by
 obtain ⟨i0,hinf,hz0,hz1,hz2⟩:=info_parts Tryz.infoPart
 obtain ⟨N,hN⟩:∃ N,N=partsOf s.size:=⟨_,rfl⟩
 have hp:∀ W,Calls Tryz.prog 121 #[.int .i64 s.size] W fun e w'=>e=.returned (.int .i64 (N:Int))/\w'=W:=fun W=>by rw [hN];exact lparts_any s.size (by omega) W
 have hname:=lname_any turn num ht hn s (by omega) w hK
 have hN24:N<=24:=by rw [hN];unfold partsOf;omega
 rw [<-hN]
 have HNN:=Lib.hid hN
 clear hN
 go_enter Tryz.func213,Tryz.ntmps213
 go_wp2_with fail
 refine (hp w).mono ?_
 rintro e w1 ⟨rfl,rfl⟩
 go_wp2_with fail
 refine hname.mono ?_
 clear hname hp
 rintro e w2 ⟨⟨nm,rfl,hnm⟩,hb2⟩
 go_wp2_with fail
 go_loopw [2,9,19] (fun s v i W=>∃ (k:Nat) (t:ByteArray) (pts:List (Nat×ByteArray)),k<=N/\i=.int .i64 (k:Int)/\s=.string t/\t.size<=900/\pts.length=k/\(∀ p∈pts,p.1<256/\p.2.size<=39)/\W.ownsRow w1.heap.size 310 6 v k (ptCells turn num N nm pts)/\Below w1.heap.size w1 W) (fun _ _ i _=>N - (intOf i).toNat)
 case atStart=>exact ⟨0,s,[],Nat.zero_le _,rfl,rfl,hs,rfl,by simp,World.ownsRow_nil _ _ _ _,hb2⟩
 case round=>
  obtain ⟨k,t,pts,hk,rfl,rfl,ht9,hpl,hpp,hown,hb⟩:=hrel
  clear hb2
  by_cases hlt:k<N
  · have hlt':(k:Int)<(N:Int):=by omega
    obtain ⟨a,c,rfl⟩:=own_slice hown
    obtain ⟨r,hr⟩:∃ r,r=min t.size 39:=⟨_,rfl⟩
    have hmin:min (t.size:Int) 39=(r:Int):=by omega
    have hr0:¬ ((r:Int)<0):=by omega
    have hr1:¬ ((t.size:Int)<(r:Int)):=by omega
    have hr2:r<=t.size:=by omega
    have hr3:r<=39:=by omega
    have HO:=Lib.hid hown
    have HP:=Lib.hid hpp
    have HB:=Lib.hid hb
    clear hr hown hpp hb
    go_wp2_with (at_builtin;refine Hid.out ?_)
    unfold Hid
    have hs2:=HB.out.size
    refine wpList_append_own _ rfl _ _ _ rfl w1.heap.size 310 i0 _ 6 64 Tryz.underlying306 hinf hz0 hz1 hz2 rfl (by decide) (.slice a k c) k (ptCells turn num N nm pts) rfl (HO.out.alloc _) ⟨wr.heap.size,0,none⟩ 1 1 [.int .u64 turn,.int .u64 num,.int .i64 k,.int .i64 N,.string nm,.string (t.extract 0 r)] rfl rfl (World.news_of_block (cs:=#[.int .u64 turn,.int .u64 num,.int .i64 k,.int .i64 N,.string nm,.string (t.extract 0 r)]) (t:=310) (fr:=(0,0)) (heap_alloc_new wr _)) (by simp [Value.oneCell']) (by unfold maxLen;omega) (by omega) (by simp;omega) ?_
    intro v' w3 ho3 hg3 _
    have hb3:=(HB.out.alloc hs2 (.cells #[.int .u64 turn,.int .u64 num,.int .i64 k,.int .i64 N,.string nm,.string (t.extract 0 r)] 310)).grown hg3 (by simp;omega) (fun j hj=>(HO.out.lt j hj).1)
    rw [<-ptCells_snoc] at ho3
    have HO3:=Lib.hid (And.intro ho3 hb3)
    clear ho3 hb3 hg3
    go_wp2
    go_roundw
    case rel=>exact ⟨k+1,t.extract r t.size,pts++[(k,t.extract 0 r)],by omega,by go_num,rfl,by simp;omega,by simp [hpl],fun p hp=>by
     rcases List.mem_append.1 hp with h | h
     · exact HP.out p h
     · rw [List.mem_singleton.1 h]
       exact ⟨by show k<256;omega,by show (t.extract 0 r).size<=39;simp;omega⟩,HO3.out.1,HO3.out.2⟩
    case measure=>simp [intOf];omega
  · obtain rfl:k=N:=by omega
    have hge:¬ (k:Int)<(k:Int):=by omega
    have HO:=Lib.hid (And.intro hown hb)
    clear hown hb
    go_wp2
    go_ret
    exact ⟨_,rfl,nm,hnm,pts,hpl,fun a b h=>hpp (a,b) h,HO.out.1,HO.out.2⟩
theorem nine_at {w W:World} {b h p o:Nat} {x0 y0 y2 c0 c1 c2 c3 c4 c5:Value} {S:Nat->Prop} (ht:Touch S w W) (hb:¬ S b) (hh:¬ S h) (hp:¬ S p)
 (q1:w.cell? ⟨b,0,none⟩=some x0) (q2:w.cell? ⟨h,0,none⟩=some y0) (q3:w.cell? ⟨h,2,none⟩=some y2) (q4:w.cell? ⟨p,o,none⟩=some c0) (q5:w.cell? ⟨p,o+1,none⟩=some c1) (q6:w.cell? ⟨p,o+2,none⟩=some c2) (q7:w.cell? ⟨p,o+3,none⟩=some c3) (q8:w.cell? ⟨p,o+4,none⟩=some c4) (q9:w.cell? ⟨p,o+5,none⟩=some c5) :
 W.cell? ⟨b,0,none⟩=some x0/\W.cell? ⟨h,0,none⟩=some y0/\W.cell? ⟨h,2,none⟩=some y2/\W.cell? ⟨p,o,none⟩=some c0/\W.cell? ⟨p,o+1,none⟩=some c1/\W.cell? ⟨p,o+2,none⟩=some c2/\W.cell? ⟨p,o+3,none⟩=some c3/\W.cell? ⟨p,o+4,none⟩=some c4/\W.cell? ⟨p,o+5,none⟩=some c5:=
 ⟨ht.keep_cell q1 hb,ht.keep_cell q2 hh,ht.keep_cell q3 hh,ht.keep_cell q4 hp,ht.keep_cell q5 hp,ht.keep_cell q6 hp,ht.keep_cell q7 hp,ht.keep_cell q8 hp,ht.keep_cell q9 hp⟩
theorem lwrite_more (b d g NS first sz at0 turn0 nend0 R at' turn nend:Nat) (recs0 recs:Value) (rl:List ByteArray) (s:ByteArray) (w:World) (hK:Kon w) (hKd:d≠0) (hb:BookAt w b d first sz at0 turn0 nend0 recs0) (hd:∃ xs,xs.length=NS/\(∀ x∈xs,x.size=64)/\DiskAt w d g xs (.slice none 0 0))
 (hro:w.ownsRow R 9 1 recs rl.length (strs rl)) (hrn:∀ k,recs.ownBlock=some k->k≠d/\k≠g) (hrl:rl.length<65535) (hpos:at'+nend+partsOf s.size<=NS) (h64:NS<65536) (hs:s.size<=900) (hturn:turn<4294967296) :
 Calls Tryz.prog 182 #[.pointer (some ⟨b,0,none⟩),.agg #[.int .i64 at',.int .u64 turn,.int .i64 nend,recs],.string s] w fun e w'=>e=.returned (.int .i64 0)/\∃ recs',BookAt w' b d first sz at' turn (nend+partsOf s.size) recs'/\w'.ownsRow w.heap.size 9 1 recs' (rl.length+1) (strs (rl++[s]))/\(∃ ys,ys.length=NS/\(∀ x∈ys,x.size=64)/\DiskAt w' d g ys (.slice none 0 0))/\Touch (fun k=>k=b\/k=d\/k=g) w w':=by
 have hbl:=lt_of_heap hb
 obtain ⟨xs,hxl,hx64,hd⟩:=hd
 have hbd:b≠d:=by obtain ⟨_,hdb⟩:=hd.blk;exact row_ne hb hdb (by decide)
 have hbg:b≠g:=row_ne hb hd.row (by decide)
 have HK:=Lib.hid (fun W (hT:Touch (fun k=>k=d\/w.heap.size<=k) w W)=>hK.touch hT (fun e=>e.elim (fun e=>hKd e.symm) (fun e=>by have:=hK.lt;omega)))
 have HB:=Lib.hid hb
 have HD:=Lib.hid hd
 have HRO:=Lib.hid hro
 have HRN:=Lib.hid hrn
 obtain ⟨ra,rc,hrecs⟩:=own_slice hro
 subst hrecs
 have hw1:IntKind.u64.wrap (rl.length:Int)=(rl.length:Int):=wrap_u64 _ (by omega) (by omega)
 obtain ⟨N,hN⟩:∃ N,N=partsOf s.size:=⟨_,rfl⟩
 have hN24:N<=24:=by rw [hN];unfold partsOf;omega
 have hN1:1<=N:=by rw [hN];unfold partsOf;omega
 have hparts:=Lib.hid (fun W (hk:Kon W)=>show Calls Tryz.prog 213 #[.int .u64 turn,.int .u64 rl.length,.string s] W fun e w'=>∃ (v:Value) (nm:ByteArray) (pts:List (Nat×ByteArray)),e=.returned v/\nm.size=8/\pts.length=N/\(∀ p∈pts,p.1<256/\p.2.size<=39)/\w'.ownsRow W.heap.size 310 6 v N (ptCells turn rl.length N nm pts)/\Below W.heap.size W w' by
  rw [hN];exact lparts_more turn rl.length hturn (by omega) s hs W hk)
 rw [<-hN] at hpos |-
 obtain ⟨p,hp⟩:∃ p,p=at'+nend:=⟨_,rfl⟩
 have e1:IntKind.i64.wrap ((at':Int)+(nend:Int))=(p:Int):=by rw [show (at':Int)+(nend:Int)=(p:Int) by omega];exact IntWalk.i64_in _ (by omega)
 have e3:IntKind.i64.wrap ((nend:Int)+(N:Int))=((nend+N:Nat):Int):=by rw [show (nend:Int)+(N:Int)=((nend+N:Nat):Int) by omega];exact IntWalk.i64_in _ (by omega)
 have hpN:p+N<=NS:=by omega
 have E3:=Lib.hid e3
 have HX:=Lib.hid (And.intro hxl hx64)
 clear hb hd hro hrn hK e3 hp hN hs hpos hxl hx64
 go_enter Tryz.func182,Tryz.ntmps182
 go_wp2_with fail
 have rowH:(w.alloc (.cells #[.int .i64 at',.int .u64 turn,.int .i64 nend,.slice ra rl.length rc] 268)).heap[w.heap.size]?=some (.cells #[.int .i64 at',.int .u64 turn,.int .i64 nend,.slice ra rl.length rc] 268 (0,0)):=heap_alloc_new _ _
 have hB1:Below w.heap.size w (w.alloc (.cells #[.int .i64 at',.int .u64 turn,.int .i64 nend,.slice ra rl.length rc] 268)):=(Below.refl _ _).alloc (Nat.le_refl _) _
 generalize (w.alloc (.cells #[.int .i64 at',.int .u64 turn,.int .i64 nend,.slice ra rl.length rc] 268))=W1 at rowH hB1 |-
 have hl1:=lt_of_heap rowH
 refine (hparts.out W1 (HK.out _ (Touch.of_below hB1 _))).mono ?_
 rintro e w2 ⟨v,nm,pts,rfl,hnm,hpl,hpp,ho2,hb2⟩
 obtain ⟨pa,pc,rfl⟩:=own_slice ho2
 have hB2:=hB1.trans (hb2.mono hB1.size)
 have rowH2:=(hb2.block _ hl1).trans rowH
 have HPT:=Lib.hid (fun k (hk:k<pts.length)=>pt_at ho2 hpl.symm k hk)
 have HPP:=Lib.hid hpp
 have hd2:=HD.out.below hB2 HD.out.lt.1 HD.out.lt.2
 have x0:w2.cell? ⟨b,0,none⟩=some (.pointer (some ⟨d,0,none⟩)):=(hB2.cell (p:=⟨b,0,none⟩) hbl).trans HB.out.cells.1
 obtain ⟨y0,y1,y2,y3,g0,g1,g2,g3⟩:=four_of_row rowH2
 have X0:=Lib.hid x0
 have Y0:=Lib.hid y0
 have Y2:=Lib.hid y2
 have Hh:=Lib.hid rowH2
 obtain ⟨B,hBB⟩:∃ B,B=w2.heap.size:=⟨_,rfl⟩
 have hs12:=hb2.size
 have hup0:DiskUp w2 d g NS B 0 (.slice none 0 0):=⟨⟨xs,HX.out.1,HX.out.2,hd2⟩,⟨[],rfl,by simp,World.ownsRow_nil _ _ _ _⟩⟩
 have hlD:=HD.out.lt
 clear rowH hb2 ho2 hpp hd2 g0 g1 g2 g3 y1 y3 x0 y0 y2 rowH2 hparts
 go_wp2_with fail
 generalize hhb:w.heap.size=hbk at Y0 Y2 Hh hl1 hs12 hlD hbl |-
 have Hhb:=Lib.hid hhb
 clear hhb
 go_loopw [8,9] (fun e i W=>e=.int .i64 0/\∃ (k:Nat) (v:Value),k<=N/\i=.int .i64 (k:Int)/\DiskUp W d g NS B k v/\Touch (fun k=>k=d\/B<=k) w2 W) (fun _ i _=>N - (intOf i).toNat)
 case atStart=>exact ⟨rfl,0,_,Nat.zero_le _,rfl,hup0,Touch.refl _ _⟩
 case round=>
  obtain ⟨rfl,k,v,hk,rfl,hup,hTk⟩:=hrel
  clear hup0
  by_cases hlt:k<N
  · have hlt':(k:Int)<(N:Int):=by omega
    have hkl:k<pts.length:=by rw [hpl];exact hlt
    obtain ⟨pg,rfl,hpB,hpg,c0,c1,c2,c3,c4,c5⟩:=HPT.out k hkl
    obtain ⟨p256,p39⟩:=HPP.out pts[k] (List.getElem_mem hkl)
    generalize pts[k]=pt at c2 c5 p256 p39
    obtain ⟨pat,ct⟩:=pt
    dsimp only at c2 c5 p256 p39
    have hbn:¬ (b=d\/B<=b):=by omega
    have hhn:¬ (hbk=d\/B<=hbk):=by omega
    have hpn:¬ (pg=d\/B<=pg):=by omega
    have HC:=Lib.hid (fun W (hT:Touch (fun k=>k=d\/B<=k) w2 W)=>nine_at hT hbn hhn hpn X0.out Y0.out Y2.out c0 c1 c2 c3 c4 c5)
    obtain ⟨x0,y0,y2,z0,z1,z2,z3,z4,z5⟩:=HC.out wr hTk
    obtain ⟨q,hq⟩:∃ q,q=p+k:=⟨_,rfl⟩
    have e2:IntKind.i64.wrap ((p:Int)+(k:Int))=(q:Int):=by rw [show (p:Int)+(k:Int)=(q:Int) by omega];exact IntWalk.i64_in _ (by omega)
    have hqN:q<NS:=by omega
    have hsr:=hTk.size
    obtain ⟨Pre,hPre⟩:∃ Pre:World->Prop,Pre=fun W=>Below wr.heap.size wr W:=⟨_,rfl⟩
    obtain ⟨Post,hPost⟩:∃ Post:World->Prop,Post=fun W=>(∃ v',DiskUp W d g NS B (k+1) v')/\Touch (fun k=>k=d\/B<=k) w2 W:=⟨_,rfl⟩
    have hcp:=Lib.hid (fun A (hA:Pre A)=>HC.out A (by rw [hPre] at hA;exact hTk.trans (Touch.of_below hA _)))
    have hcq:=Lib.hid (fun A (hA:Post A)=>HC.out A (by rw [hPost] at hA;exact hA.2))
    have hT2:Touch (fun k=>k=d\/w.heap.size<=k) w w2:=Touch.of_below hB2 _
    have hBw:=hB2.size
    have htext:=Lib.hid (fun A (hA:Pre A)=>(ltext_any turn rl.length pat N nm ct hturn (by omega) p256 (by omega) hnm p39 A (HK.out A (hT2.trans ((hTk.trans (Touch.of_below (by rw [hPre] at hA;exact hA) _)).mono (fun k h=>.inl (h.imp id (fun h=>by omega))))))).mono (R':=fun e w'=>(∃ t:ByteArray,e=.returned (.string t)/\t.size=64)/\Pre w') fun e w' hh=>⟨hh.1,by
     rw [hPre] at hA |-
     exact hA.trans (hh.2.mono hA.size)⟩)
    have hwrite:=Lib.hid (fun A (t:ByteArray) (hA:Pre A) (ht:t.size=64)=>(swrite_more d g NS B k v q hqN t (by omega) A (hup.touch (S:=fun _=>False) (Touch.of_below (by rw [hPre] at hA;exact hA) _) id id (fun _ _=>id)) (by omega) (by omega) (by omega) (by rw [hPre] at hA;have:=hA.size;omega)).mono (R':=fun e w'=>e=.returned (.int .i64 0)/\Post w') fun e w' hh=>⟨hh.1,by
     rw [hPre] at hA
     rw [hPost]
     exact ⟨hh.2.imp fun _ h=>h.1,hTk.trans ((Touch.of_below hA _).trans (hh.2.elim fun _ h=>h.2))⟩⟩)
    have hpre0:Pre wr.drew:=by rw [hPre];exact below_drew wr
    have HPost:=Lib.hid hPost
    clear hPre hPost hup hTk c0 c1 c2 c3 c4 c5 hq
    go_wp2_with fail
    go_region_held3 (fun W=>W.cell? ⟨b,0,none⟩=some (.pointer (some ⟨d,0,none⟩))/\W.cell? ⟨hbk,0,none⟩=some (.int .i64 at')/\W.cell? ⟨hbk,2,none⟩=some (.int .i64 nend)/\W.cell? ⟨pg,k*6,none⟩=some (.int .u64 turn)/\W.cell? ⟨pg,k*6+1,none⟩=some (.int .u64 rl.length)/\W.cell? ⟨pg,k*6+2,none⟩=some (.int .i64 pat)/\W.cell? ⟨pg,k*6+3,none⟩=some (.int .i64 N)/\W.cell? ⟨pg,k*6+4,none⟩=some (.string nm)/\W.cell? ⟨pg,k*6+5,none⟩=some (.string ct)) (first | exact hcp.out _ (by assumption) | exact hcq.out _ (by assumption)) (first
     | (go_at_call 215;with_reducible refine (htext.out _ (by assumption)).mono ?_;rintro r w4 ⟨⟨t,rfl,ht64⟩,hpre4⟩)
     | (go_at_call 214;with_reducible refine (hwrite.out _ _ (by assumption) (by assumption)).mono ?_;rintro r w5 ⟨rfl,hpost5⟩))
    have HQ:=Lib.hid (HPost.out ▸ hpost5)
    clear hcp hcq htext hwrite hpost5 x0 y0 y2 z0 z1 z2 z3 z4 z5
    go_wp2
    go_roundw
    case rel=>exact ⟨rfl,k+1,HQ.out.1.choose,by omega,by go_num,HQ.out.1.choose_spec,HQ.out.2⟩
    case measure=>simp [intOf];omega
  · have hkN:k=N:=by omega
    subst hkN
    have hbl':b<w.heap.size:=by rw [Hhb.out];exact hbl
    have hT:Touch (fun k=>k=g\/k=d) w wr:=(Touch.of_below hB2 _).trans (hTk.mono (fun j h=>h.elim (fun h=>.inl (.inr h)) (fun h=>.inr (by omega))))
    have hbn:¬ (b=d\/B<=b):=by omega
    have hhn:¬ (hbk=d\/B<=hbk):=by omega
    have x0:=hTk.keep_cell X0.out hbn
    have row5:=hTk.heap Hh.out hhn
    have hge:¬ (k:Int)<(k:Int):=by omega
    have hsync:=Lib.hid (ssync_more d g NS B k v (by omega) wr hup (by omega) (by omega))
    clear hup hTk
    go_wp2_with fail
    refine hsync.out.mono ?_
    rintro e w6 ⟨rfl,⟨ys,hyl,hy64,hd6⟩,hT6⟩
    have hT6':=hT.trans hT6
    clear x0
    have hlg:=HD.out.lt
    have row6:=hT6.heap row5 (fun h=>by have:=Hhb.out;omega)
    have hbk6:=hT6'.heap HB.out (fun h=>h.elim hbg hbd)
    have hro6:=hT6'.own HRO.out (fun k hk h=>h.elim (HRN.out k hk).2 (HRN.out k hk).1)
    have e3:=E3.out
    clear hsync row5 hT hT6 e1
    obtain ⟨y0,y1,y2,y3,g0,g1,g2,g3⟩:=four_of_row row6
    have R6:=Lib.hid row6
    have B6:=Lib.hid hbk6
    have O6:=Lib.hid hro6
    clear row6 hbk6 hro6
    go_wp2_with fail
    have hT7:Touch (fun k=>k=hbk) w6 (w6.setCell ⟨hbk,2,none⟩ (.int .i64 ((nend:Int)+(k:Int)))):=Touch.setCell (S:=fun k=>k=hbk) w6 ⟨hbk,2,none⟩ _ rfl
    have row7:=heap_setCell_same w6 hbk 2 _ _ (.int .i64 ((nend:Int)+(k:Int))) R6.out
    have hro7:=hT7.own O6.out (fun k hk e=>by
     have h1:=(HRO.out.lt k hk).2
     have h2:=Hhb.out
     omega)
    have hbk7:=hT7.heap B6.out (fun e=>by have:=Hhb.out;omega)
    have hd7:DiskAt (w6.setCell ⟨hbk,2,none⟩ (.int .i64 ((nend:Int)+(k:Int)))) d g ys (.slice none 0 0):=by
     obtain ⟨⟨cc,h1⟩,h2,h3⟩:=hd6
     have:=Hhb.out
     exact ⟨⟨cc,hT7.heap h1 (by omega)⟩,hT7.heap h2 (by omega),h3⟩
    have hTw:Touch (fun k=>k=b\/k=d\/k=g) w (w6.setCell ⟨hbk,2,none⟩ (.int .i64 ((nend:Int)+(k:Int)))):=(hT6'.mono (fun k h=>.inl (h.elim (fun h=>.inr (.inr h)) (fun h=>.inr (.inl h))))).then hT7 (fun k h=>.inr (by have:=Hhb.out;omega))
    generalize (w6.setCell ⟨hbk,2,none⟩ (.int .i64 ((nend:Int)+(k:Int))))=w7 at row7 hro7 hbk7 hd7 hTw |-
    have row7:w7.heap[hbk]?=some (.cells #[.int .i64 at',.int .u64 turn,.int .i64 ((nend:Int)+(k:Int)),.slice ra rl.length rc] 268 (0,0)):=row7
    clear y0 y1 y2 y3 g0 g1 g2 g3 R6 B6 O6 hT7 hT6' hd6 e3
    refine (clone_row R _ rl w7 (by omega) hro7).mono ?_
    rintro e w8 ⟨v8,rfl,ho8,hb8⟩
    have row8:=(hb8.block _ (lt_of_heap row7)).trans row7
    have hbk8:=(hb8.block _ (lt_of_heap hbk7)).trans hbk7
    have hd8:=hd7.below hb8 hd7.lt.1 hd7.lt.2
    have hTw8:=hTw.trans (Touch.of_below hb8 _)
    have hs8:=hb8.size
    have hw7:=hTw.size
    have Hk7:=Lib.hid (lt_of_heap row7)
    clear hro7 row7 hbk7 hd7 hTw hb8
    go_wp2_with (at_builtin;refine Hid.out ?_)
    unfold Hid
    refine wpList_app1 rfl rfl Tryz.underlying31 Tryz.infoStr rfl ho8 rfl rfl rfl (by omega) (by unfold maxLen;omega) hs8 ?_
    intro v9 w9 ho9 hg9
    have hT9:Touch (fun k=>v8.ownBlock=some k) w8 w9:=(Touch.grown hg9).mono (fun k h=>.inl h.symm)
    have hnb:∀ k,k<w7.heap.size->¬ v8.ownBlock=some k:=fun k hk e=>by have:=(ho8.lt k e).1;omega
    have row9:=hT9.heap row8 (hnb _ Hk7.out)
    have hbk9:=hT9.heap hbk8 (hnb _ (by omega))
    have hd9:DiskAt w9 d g ys (.slice none 0 0):=by
     obtain ⟨⟨cc,h1⟩,h2,h3⟩:=hd8
     exact ⟨⟨cc,hT9.heap h1 (hnb _ (by omega))⟩,hT9.heap h2 (hnb _ (by omega)),h3⟩
    have hTw9:Touch (fun k=>k=b\/k=d\/k=g) w w9:=hTw8.then hT9 (fun k h=>.inr (by have:=(ho8.lt k h).1;omega))
    have hb9:w.heap.size<=w7.heap.size:=hw7
    obtain ⟨a9,c9,rfl⟩:=own_slice ho9
    have HO:=Lib.hid (ownsRow_base ho9 hb9)
    obtain ⟨y0,y1,y2,y3,g0,g1,g2,g3⟩:=four_of_row row9
    have hbk9':BookAt w9 b d first sz at0 turn0 nend0 recs0:=hbk9
    obtain ⟨_,_,_,x3,x4,x5,x6,_,hf⟩:=hbk9'.cells
    have f3:=hf 3
    have f4:=hf 4
    have f5:=hf 5
    have f6:=hf 6
    have Row:=Lib.hid row9
    have Bk:=Lib.hid hbk9
    have Hd:=Lib.hid hd9
    have HT:=Lib.hid hTw9
    have hneh:hbk≠b:=by have:=Hhb.out;omega
    have hoh:∀ k,(Value.slice a9 (rl.length+1) c9).ownBlock=some k->k≠hbk/\k≠b:=fun k hk=>by
     have h1:=(ho9.lt k hk).1
     have h2:=Hk7.out
     omega
    have HOH:=Lib.hid hoh
    clear hoh hf row9 hbk9 hbk9' hd9 hTw9 ho9 hT9 hnb ho8 hg9 hb9 row8 hbk8 hd8 hTw8 hs8 hw7
    go_wp2_with fail
    clear y0 y1 y2 y3 g0 g1 g2 g3 x3 x4 x5 x6 f3 f4 f5 f6
    have hTf:Touch (fun k=>k=hbk\/k=b) w9 (((((w9.setCell ⟨hbk,3,none⟩ (.slice a9 (rl.length+1) c9)).setCell ⟨b,3,none⟩ (.int .i64 at')).setCell ⟨b,4,none⟩ (.int .u64 turn)).setCell ⟨b,5,none⟩ (.int .i64 ((nend:Int)+(k:Int)))).setCell ⟨b,6,none⟩ (.slice a9 (rl.length+1) c9)):=
     ((((Touch.setCell (S:=fun k=>k=hbk\/k=b) w9 ⟨hbk,3,none⟩ _ (.inl rfl)).trans (Touch.setCell (S:=fun k=>k=hbk\/k=b) _ ⟨b,3,none⟩ _ (.inr rfl))).trans (Touch.setCell (S:=fun k=>k=hbk\/k=b) _ ⟨b,4,none⟩ _ (.inr rfl))).trans (Touch.setCell (S:=fun k=>k=hbk\/k=b) _ ⟨b,5,none⟩ _ (.inr rfl))).trans (Touch.setCell (S:=fun k=>k=hbk\/k=b) _ ⟨b,6,none⟩ _ (.inr rfl))
    have hrow:=heap_setCell_same _ b 6 _ _ (.slice a9 (rl.length+1) c9) (heap_setCell_same _ b 5 _ _ (.int .i64 ((nend:Int)+(k:Int))) (heap_setCell_same _ b 4 _ _ (.int .u64 turn) (heap_setCell_same _ b 3 _ _ (.int .i64 at') ((heap_setCell_other w9 ⟨hbk,3,none⟩ b (.slice a9 (rl.length+1) c9) (by exact hneh.symm)).trans Bk.out))))
    generalize (((((w9.setCell ⟨hbk,3,none⟩ (.slice a9 (rl.length+1) c9)).setCell ⟨b,3,none⟩ (.int .i64 at')).setCell ⟨b,4,none⟩ (.int .u64 turn)).setCell ⟨b,5,none⟩ (.int .i64 ((nend:Int)+(k:Int)))).setCell ⟨b,6,none⟩ (.slice a9 (rl.length+1) c9))=V at hTf hrow |-
    go_ret
    have hlw:=Hhb.out
    refine ⟨rfl,_,hrow,?_,⟨ys,hyl,hy64,?_⟩,HT.out.then hTf (fun k h=>by rcases h with h | h;exact .inr (by omega);exact .inl (.inl h))⟩
    · have:=hTf.own HO.out (fun k hk h=>h.elim (HOH.out k hk).1 (HOH.out k hk).2)
      simpa [strs] using this
    · obtain ⟨⟨cc,h1⟩,h2,h3⟩:=Hd.out
      exact ⟨⟨cc,hTf.heap h1 (by rintro (h | h);omega;exact hbd h.symm)⟩,hTf.heap h2 (by rintro (h | h);omega;exact hbg h.symm),h3⟩
theorem lput_more (b d g NS first sz R at' turn nend:Nat) (recs:Value) (rl:List ByteArray) (s:ByteArray) (w:World) (hK:Kon w) (hKd:d≠0) (hb:BookAt w b d first sz at' turn nend recs) (hd:∃ xs,xs.length=NS/\(∀ x∈xs,x.size=64)/\DiskAt w d g xs (.slice none 0 0))
 (hro:w.ownsRow R 9 1 recs rl.length (strs rl)) (hrn:∀ k,recs.ownBlock=some k->k≠d/\k≠g) (hrl:rl.length<65535) (hsz:nend+partsOf s.size<=sz) (hsz64:sz<65536) (hpos:at'+sz<=NS) (h64:NS<65536) (hs:s.size<=900) (hturn:turn<4294967296) :
 Calls Tryz.prog 123 #[.pointer (some ⟨b,0,none⟩),.string s] w fun e w'=>e=.returned (.int .i64 0)/\∃ recs',BookAt w' b d first sz at' (max turn 1) (nend+partsOf s.size) recs'/\w'.ownsRow w.heap.size 9 1 recs' (rl.length+1) (strs (rl++[s]))/\(∃ ys,ys.length=NS/\(∀ x∈ys,x.size=64)/\DiskAt w' d g ys (.slice none 0 0))/\Touch (fun k=>k=b\/k=d\/k=g) w w':=by
 obtain ⟨ra,rc,hrecs⟩:=own_slice hro
 subst hrecs
 have hmay:=lmay_any b d first sz at' turn nend _ s (by omega) w hb
 obtain ⟨x0,x1,x2,x3,x4,x5,x6,x7,_⟩:=hb.cells
 obtain ⟨m,hm⟩:∃ m,m=sz - nend:=⟨_,rfl⟩
 obtain ⟨N,hN⟩:∃ N,N=partsOf s.size:=⟨_,rfl⟩
 have hm1:¬ ((m:Int)<(N:Int)):=by omega
 obtain ⟨t1,ht1⟩:∃ t1,t1=max turn 1:=⟨_,rfl⟩
 have hmax:max (turn:Int) 1=(t1:Int):=by omega
 have hlen:¬ ((65536:Int)<=(rl.length:Int)):=by omega
 have ht32:t1<4294967296:=by omega
 rw [<-ht1]
 have hleft:=Lib.hid (fun (W:World) (h:BookAt W b d first sz at' turn nend (.slice ra rl.length rc))=>lleft_any b d first sz at' turn nend m _ W h (by omega) hsz64)
 have hparts:=Lib.hid (fun (W:World)=>show Calls Tryz.prog 121 #[.int .i64 s.size] W fun e w'=>e=.returned (.int .i64 (N:Int))/\w'=W by rw [hN];exact lparts_any s.size (by omega) W)
 have hwr:=Lib.hid (fun (W:World) (hK:Kon W) (hb:BookAt W b d first sz at' turn nend (.slice ra rl.length rc)) (hd:∃ xs,xs.length=NS/\(∀ x∈xs,x.size=64)/\DiskAt W d g xs (.slice none 0 0)) (hro:W.ownsRow R 9 1 (.slice ra rl.length rc) rl.length (strs rl))=>lwrite_more b d g NS first sz at' turn nend R at' t1 nend _ (.slice ra rl.length rc) rl s W hK hKd hb hd hro hrn hrl (by omega) h64 hs ht32)
 rw [<-hN] at hwr |-
 have HK:=Lib.hid hK
 have HB:=Lib.hid hb
 have HD:=Lib.hid hd
 have HO:=Lib.hid hro
 have hlen2:(decide ((65536:Int)<=(rl.length:Int)))=false:=by simpa using hlen
 clear hlen hrl hsz64
 clear hm ht1 hb hd hro hK hrn hpos hsz h64 hs hturn ht32 hN
 go_enter Tryz.func123,Tryz.ntmps123
 go_wp2_with fail
 refine hmay.mono ?_
 rintro e w1 ⟨rfl,rfl⟩
 go_wp2_with fail
 have hB1:Below w1.heap.size w1 (w1.alloc (.cells #[.int .i64 at',.int .u64 turn,.int .i64 nend,.slice ra rl.length rc] 268)):=(Below.refl _ _).alloc (Nat.le_refl _) _
 have rowH:(w1.alloc (.cells #[.int .i64 at',.int .u64 turn,.int .i64 nend,.slice ra rl.length rc] 268)).heap[w1.heap.size]?=some (.cells #[.int .i64 at',.int .u64 turn,.int .i64 nend,.slice ra rl.length rc] 268 (0,0)):=heap_alloc_new _ _
 generalize (w1.alloc (.cells #[.int .i64 at',.int .u64 turn,.int .i64 nend,.slice ra rl.length rc] 268))=W1 at hB1 rowH |-
 have hlw:=lt_of_heap HB.out
 have hb1:BookAt W1 b d first sz at' turn nend (.slice ra rl.length rc):=(hB1.block b hlw).trans HB.out
 refine (hleft.out W1 hb1).mono ?_
 rintro e w2 ⟨rfl,hb2⟩
 have rowH2:=(hb2.block _ (lt_of_heap rowH)).trans rowH
 have hB2:=hB1.trans (hb2.mono hB1.size)
 obtain ⟨y0,y1,y2,y3,g0,g1,g2,g3⟩:=four_of_row rowH2
 clear hb2 rowH hB1 hmay hleft hb1
 go_wp2_with fail
 refine (hparts.out w2).mono ?_
 rintro e w3 ⟨rfl,rfl⟩
 go_wp2_with fail
 have hB4:=hB2.setCell (p:=⟨w1.heap.size,1,none⟩) (Nat.le_refl _) (.int .u64 t1)
 generalize (w3.setCell ⟨w1.heap.size,1,none⟩ (.int .u64 t1))=w4 at hB4 |-
 clear y0 y1 y2 y3 g0 g1 g2 g3 rowH2 hB2
 have hcall:=hwr.out w4 (HK.out.old hB4) ((hB4.block b hlw).trans HB.out) (HD.out.imp fun _ h=>⟨h.1,h.2.1,h.2.2.below hB4 h.2.2.lt.1 h.2.2.lt.2⟩) ((Touch.of_below hB4 (fun _=>False)).own HO.out (fun _ _ h=>h))
 refine hcall.mono ?_
 clear hcall
 rintro e w5 ⟨rfl,recs',h1,h2,h3,h6⟩
 have hs4:=hB4.size
 have H1:=Lib.hid h1
 have H2:=Lib.hid h2
 clear h1 h2
 go_wp2
 go_ret
 exact ⟨rfl,recs',H1.out,ownsRow_base H2.out hs4,h3,(Touch.of_below hB4 _).trans h6⟩
end Go.Proofs.YtcgkomafaepjnaaGreatDoor
