/- strings.Builder's methods at a builder that lies anywhere in a block of cells (a field of a struct, or a variable of its own): what is written, what is read. Conditions: the text is shorter than 2^47 bytes; the buffer has not been read by String yet. -/
import Derived.Test.YtcgkomafaepjnaaGreatDoorRows
import Derived.Test.YtcgkomafaepjnaaGreatDoorTL1
import Derived.Lib.Builder
import Derived.Lib.AppendStr
import Derived.Lib.UnsafeStr
import Derived.Lib.Slices
import Derived.Laws.Externs
import Derived.WalkLawsBesides
import Derived.RegionTactic
import Derived.Lib.MakeNoZero
import Derived.StillTailTactics
import Derived.BigQuiet
import Derived.Deep.QuietTactic
import Derived.Test.YtcgkomafaepjnaaGreatDoorTL2
import Derived.Laws.MakeOwn
import Derived.Deep.OwnRows
import Derived.Laws.IdiomStrings
import Derived.ArgAppend
import Derived.Laws.IdiomCopy
import Derived.Deep.Upon
set_option maxRecDepth 100000
set_option maxHeartbeats 16000000
namespace Go.Proofs.YtcgkomafaepjnaaGreatDoor
open Go.RowKit
theorem Tryz.infoByte:(Tryz.prog.info? 5).map (fun i=>(i.zero,i.size,i.bytes))=some (some (.int .u8 0),1,1):=by kernel_rfl
theorem Tryz.infoBuilder:(Tryz.prog.info? 213).map (·.size)=some 2:=by kernel_rfl
structure Bu (w:World) (T:TypeId) (b o:Nat) (cs:Array Value) (v:Value) (l:List UInt8):Prop where
 blk:w.heap[b]?=some (.cells cs T (0,0))
 addr:cs[o]?=some (.pointer none)\/cs[o]?=some (.pointer (some ⟨b,o,none⟩))
 buf:cs[o+1]?=some v
 own:w.ownsRow 0 5 1 v l.length (bytesV l)
 ne:v.ownBlock≠some b
theorem Bu.touch {w w':World} {T:TypeId} {b o:Nat} {cs:Array Value} {v:Value} {l:List UInt8} {S:Nat->Prop} (h:Bu w T b o cs v l) (ht:Touch S w w') (hb:¬ S b) (hv:∀ k,v.ownBlock=some k->¬ S k):Bu w' T b o cs v l:=
 ⟨ht.heap h.blk hb,h.addr,h.buf,ht.own h.own hv,h.ne⟩
def Lies (T:TypeId) (n o:Nat):Prop:=liesAt Tryz.prog Tryz.prog.depth T (n/Tryz.prog.cellsOf T) o 213 1=true
theorem lt_of_heap {w:World} {b:Nat} {x:Obj} (h:w.heap[b]?=some x):b<w.heap.size:=(Array.getElem?_eq_some_iff.1 h).1
theorem shape_of_heap {w:World} {b:Nat} {cs:Array Value} {T:TypeId} {fr:Nat×Nat} (h:w.heap[b]?=some (.cells cs T fr)):w.shape? b=some (T,cs.size):=by
 simp [World.shape?,h]
theorem copyCheck_any (T:TypeId) (b o:Nat) (cs:Array Value) (v:Value) (l:List UInt8) (w:World) (h:Bu w T b o cs v l) (hl:Lies T cs.size o) :
 Calls Tryz.prog 192 #[.pointer (some ⟨b,o,none⟩)] w fun e w'=>e=.returned (.tuple #[])/\Bu w' T b o (cs.setIfInBounds o (.pointer (some ⟨b,o,none⟩))) v l/\Touch (·=b) w w':=by
 obtain ⟨j,hj,hjs⟩:=Option.map_eq_some_iff.1 Tryz.infoBuilder
 have hn:o+1<cs.size:=by
  rcases Nat.lt_or_ge (o+1) cs.size with h' | h'
  · exact h'
  · have:=h.buf;rw [Array.getElem?_eq_none h'] at this;cases this
 rcases h.addr with ha | ha
 · have h0:w.cell? ⟨b,o,none⟩=some (.pointer none):=by rw [cell_of_row w b o _ _ _ h.blk];exact ha
   have hf:=frozen_of_row w b o _ _ h.blk
   have hsh:=shape_of_heap h.blk
   have k1:=Lib.run_to_unsafe (P:=Tryz.prog) w ⟨b,o,none⟩ Tryz.underlying211 Tryz.underlying313 hj (by rw [hjs];decide) hsh (show o<cs.size by omega)
   have k2:=Lib.run_from_unsafe (P:=Tryz.prog) w ⟨b,o,none⟩ Tryz.underlying313 Tryz.underlying211 hj hsh hl
   clear hsh
   go_enter Tryz.func192,Tryz.ntmps192
   go_wp2
   rw [run_callFunc_extern Tryz.func218 (by kernel_rfl) (by kernel_rfl) (by kernel_rfl) (e:=Extern.AbiNoEscape.same) (by kernel_rfl)]
   rw [Lib.run_noEscape]
   simp only [Result.andThen]
   rw [Oper.upon_value]
   go_wp2
   go_end0
   refine ⟨rfl,⟨?_,.inr ?_,?_,?_,h.ne⟩,Touch.setCell _ _ _ rfl⟩
   · exact heap_setCell_same w b o cs T _ h.blk
   · rw [Array.getElem?_setIfInBounds];simp;omega
   · rw [Array.getElem?_setIfInBounds];simp [h.buf]
   · exact (Touch.setCell (S:=(·=b)) w ⟨b,o,none⟩ (.pointer (some ⟨b,o,none⟩)) rfl).own h.own (fun k hk e=>h.ne (by rw [hk];exact congrArg some e))
 · have h0:w.cell? ⟨b,o,none⟩=some (.pointer (some ⟨b,o,none⟩)):=by rw [cell_of_row w b o _ _ _ h.blk];exact ha
   have k1:=Lib.run_neq_ptr_same (P:=Tryz.prog) w ⟨b,o,none⟩ Tryz.underlying211 hj
   have Hcs:cs.setIfInBounds o (.pointer (some ⟨b,o,none⟩))=cs:=by
    apply Array.ext'
    rw [Array.toList_setIfInBounds]
    apply List.ext_getElem?
    intro i
    rw [List.getElem?_set]
    by_cases e:o=i
    · subst e
      have:cs.toList[o]?=some (.pointer (some ⟨b,o,none⟩)):=by simpa using ha
      rw [this];simp;omega
    · simp [e]
   go_enter Tryz.func192,Tryz.ntmps192
   go_wp2
   go_end0
   exact ⟨rfl,by rw [Hcs];exact h,Touch.refl _ _⟩
theorem form_of_own {w:World} {e:TypeId} {v:Value} {n:Nat} {xs:List Value} (h:w.ownsRow 0 e 1 v n xs):∃ a cap,v=.slice a n cap:=by
 rcases h.2 with ⟨hv,h0⟩ | ⟨g,cap,cur,hv,_⟩
 · exact ⟨none,0,by rw [hv,h0]⟩
 · exact ⟨_,_,hv⟩
def buCells (cs:Array Value) (b o:Nat) (v:Value):Array Value:=(cs.setIfInBounds o (.pointer (some ⟨b,o,none⟩))).setIfInBounds (o+1) v
theorem bu_written {w1 w2:World} {T:TypeId} {b o:Nat} {cs:Array Value} {v v':Value} {l l':List UInt8} (hT:T≠5) (h:Bu w1 T b o (cs.setIfInBounds o (.pointer (some ⟨b,o,none⟩))) v l) (hg:w1.grownBy w2 v.ownBlock)
 (ho:w2.ownsRow 0 5 1 v' l'.length (bytesV l')):Bu (w2.setCell ⟨b,o+1,none⟩ v') T b o (buCells cs b o v') v' l':=by
 have hn:o+1<cs.size:=by
  rcases Nat.lt_or_ge (o+1) cs.size with h' | h'
  · exact h'
  · have:=h.buf;rw [Array.getElem?_eq_none (by simpa using h')] at this;cases this
 have hb2:w2.heap[b]?=some (.cells (cs.setIfInBounds o (.pointer (some ⟨b,o,none⟩))) T (0,0)):=(hg.block b (lt_of_heap h.blk) (fun e=>h.ne e.symm)).trans h.blk
 have hne:v'.ownBlock≠some b:=by
  intro e
  rcases ho.2 with ⟨hv,_⟩ | ⟨g,cap,cur,hv,_,hgb,_⟩
  · rw [hv] at e;cases e
  · rw [hv] at e
    have e2:g=b:=by simpa [Value.ownBlock] using e
    rw [e2,hb2] at hgb
    injection hgb with hgb
    injection hgb with _ h2 _
    exact hT h2
 refine ⟨heap_setCell_same w2 b (o+1) _ T _ hb2,.inr ?_,?_,?_,hne⟩
 · unfold buCells;rw [Array.getElem?_setIfInBounds,if_neg (by omega),Array.getElem?_setIfInBounds];simp;omega
 · unfold buCells;rw [Array.getElem?_setIfInBounds];simp;omega
 · exact (Touch.setCell (S:=(·=b)) w2 ⟨b,o+1,none⟩ v' rfl).own ho (fun k hk e=>hne (by rw [hk];exact congrArg some e))
def BuS (b:Nat) (v:Value):Nat->Prop:=fun k=>k=b\/v.ownBlock=some k
theorem bu_touch {w w1 w2:World} {b o:Nat} {v v':Value} (h1:Touch (·=b) w w1) (hg:w1.grownBy w2 v.ownBlock):Touch (BuS b v) w (w2.setCell ⟨b,o+1,none⟩ v'):=
 (h1.mono (T:=BuS b v) (fun _ hi=>.inl (.inl hi))).trans (((Touch.grown hg).mono (T:=BuS b v) (fun _ hi=>.inl (.inr hi.symm))).trans (Touch.setCell _ _ _ (.inl rfl)))
theorem writeByte_any (T:TypeId) (b o:Nat) (cs:Array Value) (v:Value) (l:List UInt8) (c:UInt8) (w:World) (hT:T≠5) (h:Bu w T b o cs v l) (hl:Lies T cs.size o) (hlen:l.length+1<=140737488355328) :
 Calls Tryz.prog 180 #[.pointer (some ⟨b,o,none⟩),.int .u8 c.toNat] w fun e w'=>e=.returned .nilIface/\∃ v',Bu w' T b o (buCells cs b o v') v' (l++[c])/\Touch (BuS b v) w w'/\NewOrSame w v v':=by
 go_enter Tryz.func180,Tryz.ntmps180
 go_wp2_with fail
 refine (copyCheck_any T b o cs v l _ h hl).mono ?_
 rintro e w1 ⟨rfl,h1,ht1⟩
 have c1:w1.cell? ⟨b,o+1,none⟩=some v:=by rw [cell_of_row w1 b (o+1) _ _ _ h1.blk];exact h1.buf
 go_wp2_with (at_builtin;refine Hid.out ?_)
 unfold Hid
 refine wpList_appW rfl rfl Tryz.underlying58 Tryz.infoByte rfl 1 h1.own rfl rfl rfl ?_ ?_ ?_ (Nat.zero_le _) ?_
 · simp [Value.oneCell']
 · omega
 · unfold maxLen;omega
 intro v' w2 ho2 hg2 hns
 have hb2:w2.heap[b]?=some (.cells (cs.setIfInBounds o (.pointer (some ⟨b,o,none⟩))) T (0,0)):=(hg2.block b (lt_of_heap h1.blk) (fun e=>h1.ne e.symm)).trans h1.blk
 have d1:w2.cell? ⟨b,o+1,none⟩=some v:=by rw [cell_of_row w2 b (o+1) _ _ _ hb2];exact h1.buf
 have f1:w2.frozen? ⟨b,o+1,none⟩=false:=frozen_of_row w2 b (o+1) _ _ hb2
 have hW:=bu_written (l':=l++[c]) hT h1 hg2 (by simpa [bytesV] using ho2)
 have hTt:=bu_touch (o:=o) (v':=v') ht1 hg2
 have hN:NewOrSame w v v':=hns.elim .inl (fun h=>.inr fun k hk=>Nat.le_trans ht1.size (h k hk))
 obtain ⟨ao,cap,rfl⟩:=form_of_own ho2
 clear ho2 hg2 hns hb2 c1
 go_wp2
 go_ret
 exact ⟨rfl,_,hW,hTt,hN⟩
theorem writeString_any (T:TypeId) (b o:Nat) (cs:Array Value) (v:Value) (l:List UInt8) (s:ByteArray) (w:World) (hT:T≠5) (h:Bu w T b o cs v l) (hl:Lies T cs.size o) (hlen:l.length+s.size<=140737488355328) :
 Calls Tryz.prog 149 #[.pointer (some ⟨b,o,none⟩),.string s] w fun e w'=>e=.returned (.tuple #[.int .i64 s.size,.nilIface])/\∃ v',Bu w' T b o (buCells cs b o v') v' (l++s.data.toList)/\Touch (BuS b v) w w'/\NewOrSame w v v':=by
 go_enter Tryz.func149,Tryz.ntmps149
 go_wp2_with fail
 refine (copyCheck_any T b o cs v l _ h hl).mono ?_
 rintro e w1 ⟨rfl,h1,ht1⟩
 have c1:w1.cell? ⟨b,o+1,none⟩=some v:=by rw [cell_of_row w1 b (o+1) _ _ _ h1.blk];exact h1.buf
 go_wp2_with (at_builtin;refine Hid.out ?_)
 unfold Hid
 refine wpList_appS rfl rfl Tryz.underlying58 Tryz.underlying9 Tryz.infoByte h1.own rfl rfl ?_ ?_ (Nat.zero_le _) ?_
 · omega
 · unfold maxLen;omega
 intro v' w2 ho2 hg2 hns
 have hb2:w2.heap[b]?=some (.cells (cs.setIfInBounds o (.pointer (some ⟨b,o,none⟩))) T (0,0)):=(hg2.block b (lt_of_heap h1.blk) (fun e=>h1.ne e.symm)).trans h1.blk
 have d1:w2.cell? ⟨b,o+1,none⟩=some v:=by rw [cell_of_row w2 b (o+1) _ _ _ hb2];exact h1.buf
 have f1:w2.frozen? ⟨b,o+1,none⟩=false:=frozen_of_row w2 b (o+1) _ _ hb2
 have hl':(l++s.data.toList).length=l.length+s.size:=by simp
 have hW:=bu_written (l':=l++s.data.toList) hT h1 hg2 (by rw [hl',bytesV,List.map_append];exact ho2)
 have hTt:=bu_touch (o:=o) (v':=v') ht1 hg2
 have hN:NewOrSame w v v':=hns.elim .inl (fun h=>.inr fun k hk=>Nat.le_trans ht1.size (h k hk))
 obtain ⟨ao,cap,rfl⟩:=form_of_own ho2
 clear ho2 hg2 hns hb2 c1 hl'
 go_wp2
 go_ret2
 exact ⟨rfl,_,hW,hTt,hN⟩
theorem touch_freeze {S:Nat->Prop} (w:World) (g n:Nat) (hs:S g):Touch S w (w.freeze ⟨g,0,none⟩ n):=by
 unfold World.freeze
 by_cases h:n=0
 · rw [if_pos h];exact Touch.refl _ _
 · rw [if_neg h]
   refine ⟨rfl,rfl,rfl,by simp,fun k _ hk=>?_⟩
   simp only [Array.getElem?_modify]
   rw [if_neg (fun e=>hk (by rw [<-e];exact hs))]
theorem Tryz.cellsByte:Tryz.prog.cellsOf 5=1:=by kernel_rfl
theorem string_any (T:TypeId) (b o:Nat) (cs:Array Value) (v:Value) (l:List UInt8) (w:World) (h:Bu w T b o cs v l) :
 Calls Tryz.prog 150 #[.pointer (some ⟨b,o,none⟩)] w fun e w'=>e=.returned (.string ⟨l.toArray⟩)/\Touch (fun k=>v.ownBlock=some k) w w':=by
 have hown:=h.own
 by_cases h0:l=[]
 · subst h0
   have hUS:∀ (q:Option Addr) (W:World),(Builtin.unsafeString_ #[286,3] 9 #[.pointer q,.int .i64 0]).run Tryz.prog W=.ok (.string .empty) W:=fun q W=>Lib.run_unsafeString_none W _ _ _ q
   rcases hown.2 with ⟨rfl,_⟩ | ⟨g,cap,cur,rfl,hbg,hg,hnc,hcm,hcs,htake⟩
   · have c1:w.drew.cell? ⟨b,o+1,none⟩=some (.slice none 0 0):=by rw [cell_of_row w.drew b (o+1) cs T (0,0) h.blk];exact h.buf
     have hSD:(Builtin.unsafeSliceData_ #[58] 286 #[.slice none 0 0]).run Tryz.prog w.drew=.ok (.pointer none) w.drew:=rfl
     go_enter Tryz.func150,Tryz.ntmps150
     go_wp2
     go_region
     all_goals (go_wp2;go_ret;exact ⟨rfl,Touch.drewN w 1⟩)
   · by_cases hc0:cap=0
     · subst hc0
       have c0:w.cell? ⟨b,o+1,none⟩=some (.slice (some ⟨g,0,none⟩) 0 0):=by rw [cell_of_row w b (o+1) cs T (0,0) h.blk];exact h.buf
       have c1:w.drew.cell? ⟨b,o+1,none⟩=some (.slice (some ⟨g,0,none⟩) 0 0):=c0
       have hSD:(Builtin.unsafeSliceData_ #[58] 286 #[.slice (some ⟨g,0,none⟩) 0 0]).run Tryz.prog w.drew=.ok (.pointer (some ⟨w.drew.heap.size,0,none⟩)) (w.drew.alloc (.view ⟨g,0,none⟩ 5)):=
        Lib.run_unsafeSliceData_zero w.drew _ _ 5 Tryz.underlying286 ⟨g,0,none⟩ 0 (5,cur.size) (by have hg':w.drew.heap[g]?=some (.cells cur 5 (0,0)):=hg;simp [World.shape?,hg'])
       have c2:(w.alloc (.view ⟨g,0,none⟩ 5)).drew.cell? ⟨b,o+1,none⟩=some (.slice (some ⟨g,0,none⟩) 0 0):=(World.cell?_alloc_past _ _ _ (lt_of_heap h.blk)).trans c0
       go_enter Tryz.func150,Tryz.ntmps150
       go_wp2
       go_region
       all_goals (go_wp2;go_ret;exact ⟨rfl,(Touch.drewN w 1).trans (Touch.alloc _ _)⟩)
     · have c1:w.drew.cell? ⟨b,o+1,none⟩=some (.slice (some ⟨g,0,none⟩) 0 cap):=by rw [cell_of_row w.drew b (o+1) cs T (0,0) h.blk];exact h.buf
       have hSD:(Builtin.unsafeSliceData_ #[58] 286 #[.slice (some ⟨g,0,none⟩) 0 cap]).run Tryz.prog w.drew=.ok (.pointer (some ⟨g,0,none⟩)) w.drew:=
        Lib.run_unsafeSliceData_row _ _ _ _ _ _ hc0
       clear hc0
       go_enter Tryz.func150,Tryz.ntmps150
       go_wp2
       go_region
       all_goals (go_wp2;go_ret;exact ⟨rfl,Touch.drewN w 1⟩)
 · have hl0:l.length≠0:=by simpa using h0
   obtain ⟨g,cap,cur,rfl,hbg,hg,hnc,hcm,hcs,htake⟩:∃ g cap cur,v=.slice (some ⟨g,0,none⟩) l.length cap/\0<=g/\w.heap[g]?=some (.cells cur 5 (0,0))/\l.length<=cap/\cap<=maxLen/\cur.size=cap*1/\cur.toList.take (l.length*1)=bytesV l:=by
    rcases hown.2 with ⟨_,hz⟩ | ⟨g,cap,cur,hv,r⟩
    · exact absurd hz hl0
    · exact ⟨g,cap,cur,hv,r⟩
   have c1:w.drew.cell? ⟨b,o+1,none⟩=some (.slice (some ⟨g,0,none⟩) l.length cap):=by rw [cell_of_row w.drew b (o+1) cs T (0,0) h.blk];exact h.buf
   have hSD:(Builtin.unsafeSliceData_ #[58] 286 #[.slice (some ⟨g,0,none⟩) l.length cap]).run Tryz.prog w.drew=.ok (.pointer (some ⟨g,0,none⟩)) w.drew:=
    Lib.run_unsafeSliceData_row _ _ _ _ _ _ (by omega)
   have hUS:(Builtin.unsafeString_ #[286,3] 9 #[.pointer (some ⟨g,0,none⟩),.int .i64 l.length]).run Tryz.prog w.drew=.ok (.string ⟨l.toArray⟩) (w.drew.freeze ⟨g,0,none⟩ l.length):=by
    refine Lib.run_unsafeString_row w.drew 286 3 9 5 Tryz.underlying286 Tryz.cellsByte g cur.size (by have hg':w.drew.heap[g]?=some (.cells cur 5 (0,0)):=hg;simp [World.shape?,hg']) l h0 (by omega) (by unfold maxLen at hcm;omega) ?_
    intro j x hx
    exact hown.cells (g:=g) rfl j (.int .u8 x.toNat) (by simp [bytesV,hx])
   clear hl0 h0 hnc hcm hcs htake hbg
   go_enter Tryz.func150,Tryz.ntmps150
   go_wp2
   go_region
   all_goals (go_wp2;go_ret;exact ⟨rfl,(Touch.drewN w 1).trans (touch_freeze _ g _ rfl)⟩)
def Wr (w:World) (b:Nat) (v:Value) (l:List UInt8) (bad:Int):Prop:=∃ ad,Bu w 215 b 0 #[ad,v,.int .i64 bad] v l
theorem lies_writer:Lies 215 3 0:=by unfold Lies;kernel_rfl
theorem writer_ne:215≠5:=by decide
theorem Wr.touch {w w':World} {b:Nat} {v:Value} {l:List UInt8} {bad:Int} {S:Nat->Prop} (h:Wr w b v l bad) (ht:Touch S w w') (hb:¬ S b) (hv:∀ k,v.ownBlock=some k->¬ S k):Wr w' b v l bad:=by
 obtain ⟨ad,h⟩:=h;exact ⟨ad,h.touch ht hb hv⟩
theorem Wr.e {w:World} {b:Nat} {v:Value} {l:List UInt8} {bad:Int} (h:Wr w b v l bad):w.cell? ⟨b,2,none⟩=some (.int .i64 bad):=by
 obtain ⟨ad,h⟩:=h;rw [cell_of_row w b 2 _ _ _ h.blk];rfl
theorem Wr.fr {w:World} {b:Nat} {v:Value} {l:List UInt8} {bad:Int} (h:Wr w b v l bad) (i:Nat):w.frozen? ⟨b,i,none⟩=false:=by
 obtain ⟨ad,h⟩:=h;exact frozen_of_row w b i _ _ h.blk
theorem Wr.set_e {w:World} {b:Nat} {v:Value} {l:List UInt8} {bad:Int} (h:Wr w b v l bad) (z:Int):Wr (w.setCell ⟨b,2,none⟩ (.int .i64 z)) b v l z:=by
 obtain ⟨ad,h⟩:=h
 refine ⟨ad,heap_setCell_same w b 2 _ _ _ h.blk,h.addr,rfl,?_,h.ne⟩
 exact (Touch.setCell (S:=(·=b)) w ⟨b,2,none⟩ (.int .i64 z) rfl).own h.own (fun k hk e=>h.ne (by rw [hk];exact congrArg some e))
def flBad (ok:Bool) (bad e:Int):Int:=if ok=false/\bad=0 then e else bad
theorem fail_any (b:Nat) (v:Value) (l:List UInt8) (bad:Int) (ok:Bool) (e:Int) (w:World) (h:Wr w b v l bad) :
 Calls Tryz.prog 179 #[.pointer (some ⟨b,0,none⟩),.bool ok,.int .i64 e] w fun r w'=>r=.returned (.bool (flBad ok bad e==0))/\Wr w' b v l (flBad ok bad e)/\Touch (·=b) w w':=by
 have he:=h.e
 have hf:=h.fr 2
 by_cases hb:bad=0
 · subst hb
   cases ok
   · have H:=Lib.hid (show flBad false 0 e=e from if_pos ⟨rfl,rfl⟩)
     go_enter Tryz.func179,Tryz.ntmps179
     go_wp2
     go_ret
     exact ⟨by rw [H.out];rfl,by rw [H.out];exact h.set_e e,Touch.setCell _ _ _ rfl⟩
   · have H:=Lib.hid (show flBad true 0 e=0 from if_neg (fun h=>by cases h.1))
     go_enter Tryz.func179,Tryz.ntmps179
     go_wp2
     go_ret
     exact ⟨by rw [H.out];rfl,by rw [H.out];exact h,Touch.refl _ _⟩
 · have H:=Lib.hid (show flBad ok bad e=bad from if_neg (fun h=>hb h.2))
   have hb':=beq_eq_false_iff_ne.2 hb
   clear hb
   cases ok
   all_goals
    go_enter Tryz.func179,Tryz.ntmps179
    go_wp2
    go_ret
    exact ⟨by rw [H.out,hb'];rfl,by rw [H.out];exact h,Touch.refl _ _⟩
theorem NewOrSame.trans {w W:World} {v v1 v2:Value} (h:NewOrSame w v v1) (hs:w.heap.size<=W.heap.size) (k:NewOrSame W v1 v2):NewOrSame w v v2:=by
 rcases k with k | k
 · rcases h with h | h
   · exact .inl (k.trans h)
   · exact .inr fun i hi=>h i (by rw [<-k];exact hi)
 · exact .inr fun i hi=>Nat.le_trans hs (k i hi)
theorem BuS_sub {w:World} {b:Nat} {v v1:Value} (h:NewOrSame w v v1):∀ i,BuS b v1 i->BuS b v i\/w.heap.size<=i:=by
 intro i hi
 rcases hi with hi | hi
 · exact .inl (.inl hi)
 · rcases h with h | h
   · exact .inl (.inr (by rw [<-h];exact hi))
   · exact .inr (h i hi)
theorem Touch.bu {w W W':World} {b:Nat} {v v1:Value} (h:Touch (BuS b v) w W) (hn:NewOrSame w v v1) (k:Touch (BuS b v1) W W'):Touch (BuS b v) w W':=h.then k (BuS_sub hn)
def byteAt (n k:Nat):UInt8:=UInt8.ofNat (n/256^k)
theorem byteAt_wrap (n k:Nat):IntKind.u8.wrap ((n:Int)/2^(8*k))=((byteAt n k).toNat:Int):=by
 have e:(2:Int)^(8*k)=((256^k:Nat):Int):=by
  rw [Int.pow_mul,Int.natCast_pow,show (2:Int)^8=((256:Nat):Int) from by decide]
 have e2:(n:Int)/((256^k:Nat):Int)=((n/256^k:Nat):Int):=(Int.natCast_ediv _ _).symm
 rw [IntKind.wrap_u8,e,e2]
 unfold byteAt
 generalize n/256^k=q
 simp
theorem Wr.of_bu {w:World} {b:Nat} {ad v v':Value} {l:List UInt8} {bad:Int} (h:Bu w 215 b 0 (buCells #[ad,v,.int .i64 bad] b 0 v') v' l):Wr w b v' l bad:=⟨_,h⟩
def bytesTo (n size:Nat):Nat->List UInt8
 | 0=>[]
 | j+1=>bytesTo n size j++[byteAt n (size - 1 - j)]
theorem bytesTo_le (n size j:Nat):(bytesTo n size j).length=j:=by
 induction j with
 | zero=>rfl
 | succ j ih=>simp [bytesTo,ih]
theorem bytesTo_step (n size k:Nat) (h:k+1<=size):bytesTo n size ((size:Int) - 1 - k).toNat++[byteAt n k]=bytesTo n size ((size:Int) - 1 - (k - 1:Int)).toNat:=by
 obtain ⟨j,hj⟩:∃ j,j=((size:Int) - 1 - k).toNat:=⟨_,rfl⟩
 rw [<-hj,show ((size:Int) - 1 - (k - 1:Int)).toNat=j+1 from by omega,bytesTo,show size - 1 - j=k from by omega]
theorem flBad_ok (e:Int):flBad true 0 e=0:=if_neg (fun h=>by cases h.1)
theorem wrNum_in (b:Nat) (n size:Nat) (w:World) (v:Value) (l:List UInt8) (h1:1<=size) (h8:size<=8) (h:Wr w b v l 0) (hl:l.length<=70368744177664) (hs:(n:Int)/2^(8*size)=0) :
 Calls Tryz.prog 119 #[.pointer (some ⟨b,0,none⟩),.int .u64 n,.int .i64 size] w fun e w'=>e=.returned (.pointer (some ⟨b,0,none⟩))/\∃ v',Wr w' b v' (l++bytesTo n size size) 0/\Touch (BuS b v) w w'/\NewOrSame w v v':=by
 have key:∀ c:Bool,((size:Int)==8)=c->Calls Tryz.prog 119 #[.pointer (some ⟨b,0,none⟩),.int .u64 n,.int .i64 size] w fun e w'=>e=.returned (.pointer (some ⟨b,0,none⟩))/\∃ v',Wr w' b v' (l++bytesTo n size size) 0/\Touch (BuS b v) w w'/\NewOrSame w v v':=by
  intro c hc
  have hd8:decide ((size:Int)<=8)=true:=by simp;omega
  cases c
  all_goals
   go_enter Tryz.func119,Tryz.ntmps119
   go_wp2_with fail
   refine (fail_any b v l 0 true 10 _ h).mono ?_
   rintro r w1 ⟨rfl,hw1,ht1⟩
   rw [flBad_ok] at hw1 |-
   go_wp2_with fail
   go_loopw [7] (fun k W=>∃ (z:Int) (v':Value),-1<=z/\z<(size:Int)/\k=.int .i64 z/\Wr W b v' (l++bytesTo n size ((size:Int) - 1 - z).toNat) 0/\Touch (BuS b v) w W/\NewOrSame w v v') (fun k _=>(intOf k+1).toNat)
   case atStart=>exact ⟨(size:Int) - 1,v,by omega,by omega,rfl,by rw [show ((size:Int) - 1 - (size - 1)).toNat=0 from by omega];simpa [bytesTo] using hw1,ht1.mono (fun _ hi=>.inl (.inl hi)),.inl rfl⟩
   case round=>
    obtain ⟨z,v1,hz0,hz1,rfl,hw,ht,hns⟩:=hrel
    by_cases hlt:0<=z
    · obtain ⟨k,rfl⟩:=Int.eq_ofNat_of_zero_le hlt
      go_wp2_with fail
      have hk8:IntKind.i64.wrap (8*(k:Int))=8*(k:Int):=IntWalk.i64_in _ (by omega)
      have hk0:(0:Int)<=8*(k:Int):=by omega
      have hkn:(8*(k:Int)).toNat=8*k:=by omega
      go_still_tail 8,(by kernel_rfl)
      clear hk8 hk0 hkn
      rw [byteAt_wrap]
      change wpList _ _ _ _ _ wr.drew
      have hw:Wr wr.drew b v1 (l++bytesTo n size ((size:Int) - 1 - k).toNat) 0:=hw.touch (S:=fun _=>False) (Touch.drewN wr 1) (fun h=>h) (fun _ _ h=>h)
      have ht:Touch (BuS b v) w wr.drew:=ht.trans (Touch.drewN wr 1)
      generalize wr.drew=W at hw ht |-
      have hlen:=bytesTo_le n size ((size:Int) - 1 - k).toNat
      have hstep:=Lib.hid (bytesTo_step n size k (by omega))
      obtain ⟨ad,hbu⟩:=hw
      go_wp2_with fail
      refine (writeByte_any _ b 0 _ v1 _ _ _ writer_ne hbu lies_writer (by rw [List.length_append];omega)).mono ?_
      rintro r w2 ⟨rfl,v2,hb2,ht2,hn2⟩
      have hW2:=Wr.of_bu hb2
      have hT2:=ht.bu hns ht2
      have hN2:=hns.trans ht.size hn2
      clear hbu hb2 ht2 hn2
      rw [List.append_assoc,hstep.out] at hW2
      go_wp2
      go_roundw
      case rel=>exact ⟨(k:Int) - 1,v2,by omega,by omega,rfl,hW2,hT2,hN2⟩
      case measure=>simp [intOf]
    · obtain rfl:z=-1:=by omega
      go_wp2
      go_ret
      exact ⟨rfl,v1,by rw [show ((size:Int) - 1 - -1).toNat=size from by omega] at hw;exact hw,ht,hns⟩
 exact key _ rfl
def okNum (n:Nat) (z:Int):Bool:=decide (1<=z/\z<=8/\n<256^z.toNat)
theorem pow_div_zero (n k:Nat):(n:Int)/2^(8*k)=0 ↔ n<256^k:=by
 have e:(2:Int)^(8*k)=((256^k:Nat):Int):=by
  rw [Int.pow_mul,Int.natCast_pow,show (2:Int)^8=((256:Nat):Int) from by decide]
 have e2:(n:Int)/((256^k:Nat):Int)=((n/256^k:Nat):Int):=(Int.natCast_ediv _ _).symm
 rw [e,e2]
 have hp:0<256^k:=Nat.pow_pos (by decide)
 constructor
 · intro h
   have h0:n/256^k=0:=by omega
   rcases Nat.div_eq_zero_iff.1 h0 with h | h
   · omega
   · exact h
 · intro h
   rw [Nat.div_eq_of_lt h];rfl
theorem okNum_cases (n:Nat) (z:Int) (hn:n<18446744073709551616) :
 (z<1/\okNum n z=false)\/(1<=z/\8<z/\okNum n z=false)\/(∃ k:Nat,z=k/\1<=k/\k<=7/\((n:Int)/2^(8*k)==0)=okNum n z)\/(z=8/\okNum n z=true):=by
 by_cases h1:z<1
 · exact .inl ⟨h1,decide_eq_false (fun h=>by omega)⟩
 · by_cases h2:8<z
   · exact .inr (.inl ⟨by omega,h2,decide_eq_false (fun h=>by omega)⟩)
   · obtain ⟨k,rfl⟩:=Int.eq_ofNat_of_zero_le (show 0<=z by omega)
     by_cases h3:k=8
     · subst h3
       refine .inr (.inr (.inr ⟨rfl,decide_eq_true ⟨by omega,by omega,?_⟩⟩))
       have e:256^((8:Nat):Int).toNat=18446744073709551616:=by decide
       omega
     · refine .inr (.inr (.inl ⟨k,rfl,by omega,by omega,?_⟩))
       rw [Bool.eq_iff_iff,beq_iff_eq,pow_div_zero,okNum,decide_eq_true_eq,Int.toNat_natCast]
       constructor
       · intro h;exact ⟨by omega,by omega,h⟩
       · intro h;exact h.2.2
theorem wrNum_out (b:Nat) (n:Nat) (z:Int) (w:World) (v:Value) (l:List UInt8) (bad:Int) (h:Wr w b v l bad) (hn:n<18446744073709551616) (hbad:okNum n z=false\/bad≠0) :
 Calls Tryz.prog 119 #[.pointer (some ⟨b,0,none⟩),.int .u64 n,.int .i64 z] w fun e w'=>e=.returned (.pointer (some ⟨b,0,none⟩))/\Wr w' b v l (flBad (okNum n z) bad 10)/\Touch (·=b) w w':=by
 have hf:(flBad (okNum n z) bad 10==0)=false:=by
  rw [beq_eq_false_iff_ne]
  unfold flBad
  rcases hbad with hb | hb
  · rw [hb];by_cases e:bad=0
    · rw [if_pos ⟨rfl,e⟩];decide
    · rw [if_neg (fun h=>e h.2)];exact e
  · rw [if_neg (fun h=>hb h.2)];exact hb
 clear hbad
 have hc:=okNum_cases n z hn
 generalize okNum n z=ok at hf hc
 rcases hc with ⟨h1,rfl⟩ | ⟨h1,h2,rfl⟩ | ⟨k,rfl,h1,h2,h3⟩ | ⟨rfl,rfl⟩
 · go_enter Tryz.func119,Tryz.ntmps119
   go_wp2_with fail
   refine (fail_any b v l bad false 10 _ h).mono ?_
   rintro r w1 ⟨rfl,hw1,ht1⟩
   go_wp2
   go_ret
   exact ⟨rfl,hw1,ht1⟩
 · go_enter Tryz.func119,Tryz.ntmps119
   go_wp2_with fail
   refine (fail_any b v l bad false 10 _ h).mono ?_
   rintro r w1 ⟨rfl,hw1,ht1⟩
   go_wp2
   go_ret
   exact ⟨rfl,hw1,ht1⟩
 · have h8:((k:Int)==8)=false:=by rw [beq_eq_false_iff_ne];omega
   go_enter Tryz.func119,Tryz.ntmps119
   go_wp2_with fail
   refine (fail_any b v l bad ok 10 _ h).mono ?_
   rintro r w1 ⟨rfl,hw1,ht1⟩
   go_wp2
   go_ret
   exact ⟨rfl,hw1,ht1⟩
 · go_enter Tryz.func119,Tryz.ntmps119
   go_wp2_with fail
   refine (fail_any b v l bad true 10 _ h).mono ?_
   rintro r w1 ⟨rfl,hw1,ht1⟩
   go_wp2
   go_ret
   exact ⟨rfl,hw1,ht1⟩
def wnL (l:List UInt8) (bad:Int) (n:Nat) (z:Int):List UInt8:=if okNum n z=true/\bad=0 then l++bytesTo n z.toNat z.toNat else l
theorem wrNum_any (b:Nat) (n:Nat) (z:Int) (w:World) (v:Value) (l:List UInt8) (bad:Int) (h:Wr w b v l bad) (hn:n<18446744073709551616) (hl:l.length<=70368744177664) :
 Calls Tryz.prog 119 #[.pointer (some ⟨b,0,none⟩),.int .u64 n,.int .i64 z] w fun e w'=>e=.returned (.pointer (some ⟨b,0,none⟩))/\∃ v',Wr w' b v' (wnL l bad n z) (flBad (okNum n z) bad 10)/\Touch (BuS b v) w w'/\NewOrSame w v v':=by
 unfold wnL
 by_cases hc:okNum n z=true/\bad=0
 · rw [if_pos hc]
   obtain ⟨h1,rfl⟩:=hc
   rw [h1,flBad_ok]
   have h2:=h1
   rw [okNum,decide_eq_true_eq] at h2
   obtain ⟨g1,g2,g3⟩:=h2
   obtain ⟨k,rfl⟩:=Int.eq_ofNat_of_zero_le (show 0<=z by omega)
   rw [Int.toNat_natCast] at g3 |-
   exact wrNum_in b n k w v l (by omega) (by omega) h hl ((pow_div_zero n k).2 g3)
 · rw [if_neg hc]
   refine (wrNum_out b n z w v l bad h hn ?_).mono fun e w' ⟨he,hw,ht⟩=>⟨he,v,hw,ht.mono (fun _ hi=>.inl (.inl hi)),.inl rfl⟩
   cases h1:okNum n z
   · exact .inl rfl
   · exact .inr (fun e=>hc ⟨h1,e⟩)
def wtL (l:List UInt8) (bad:Int) (s:ByteArray):List UInt8:=if s.size<=4096/\bad=0 then l++bytesTo s.size 2 2++s.data.toList else l
def okText (s:ByteArray):Bool:=decide (s.size<=4096)
theorem wrText_any (b:Nat) (s:ByteArray) (w:World) (v:Value) (l:List UInt8) (bad:Int) (h:Wr w b v l bad) (hs:s.size<=maxLen) (hl:l.length<=35184372088832) :
 Calls Tryz.prog 127 #[.pointer (some ⟨b,0,none⟩),.string s] w fun e w'=>e=.returned (.pointer (some ⟨b,0,none⟩))/\∃ v',Wr w' b v' (wtL l bad s) (flBad (okText s) bad 2)/\Touch (BuS b v) w w'/\NewOrSame w v v':=by
 unfold wtL okText
 unfold maxLen at hs
 by_cases hz:s.size<=4096
 · by_cases hb:bad=0
   · subst hb
     rw [if_pos ⟨hz,rfl⟩,decide_eq_true hz,flBad_ok]
     have hd:decide ((s.size:Int)<=4096)=true:=by simp;omega
     go_enter Tryz.func127,Tryz.ntmps127
     go_wp2_with fail
     refine (fail_any b v l 0 true 2 _ h).mono ?_
     rintro r w1 ⟨rfl,hw1,ht1⟩
     rw [flBad_ok] at hw1 |-
     go_wp2_with fail
     have he2:256^(2:Int).toNat=65536:=by decide
     have hok:okNum s.size 2=true:=decide_eq_true ⟨by decide,by decide,by omega⟩
     clear he2
     refine (wrNum_any b s.size 2 _ v l 0 hw1 (by omega) (by omega)).mono ?_
     rintro r w2 ⟨rfl,v2,hw2,ht2,hn2⟩
     have hL:wnL l 0 s.size 2=l++bytesTo s.size 2 2:=if_pos ⟨hok,rfl⟩
     rw [hok,flBad_ok,hL] at hw2
     have hlen:=bytesTo_le s.size 2 2
     obtain ⟨ad,hbu⟩:=hw2
     clear hok hL
     go_wp2_with fail
     refine (writeString_any _ b 0 _ v2 _ s _ writer_ne hbu lies_writer (by rw [List.length_append];omega)).mono ?_
     rintro r w3 ⟨rfl,v3,hb3,ht3,hn3⟩
     have hW3:=Wr.of_bu hb3
     have hT2:Touch (BuS b v) w w2:=(ht1.mono (fun _ hi=>.inl (.inl hi))).trans ht2
     have hN2:NewOrSame w v v2:=NewOrSame.trans (.inl rfl) ht1.size hn2
     have hT3:=hT2.bu hN2 ht3
     have hN3:=hN2.trans hT2.size hn3
     clear hbu hb3 ht3 hn3 hn2 ht2
     go_wp2
     go_ret
     exact ⟨rfl,v3,hW3,hT3,hN3⟩
   · rw [if_neg (fun h=>hb h.2),decide_eq_true hz]
     have hfl:flBad true bad 2=bad:=if_neg (fun h=>hb h.2)
     have hbq:(bad==0)=false:=beq_eq_false_iff_ne.2 hb
     rw [hfl]
     have Hfl:=Lib.hid hfl
     have hd:decide ((s.size:Int)<=4096)=true:=by simp;omega
     clear hfl hb
     go_enter Tryz.func127,Tryz.ntmps127
     go_wp2_with fail
     refine (fail_any b v l bad true 2 _ h).mono ?_
     rintro r w1 ⟨rfl,hw1,ht1⟩
     rw [Hfl.out] at hw1 |-
     go_wp2
     go_ret
     exact ⟨rfl,v,hw1,ht1.mono (fun _ hi=>.inl (.inl hi)),.inl rfl⟩
 · have hfl:(flBad false bad 2==0)=false:=by
    rw [beq_eq_false_iff_ne];unfold flBad
    by_cases e:bad=0
    · rw [if_pos ⟨rfl,e⟩];decide
    · rw [if_neg (fun h=>e h.2)];exact e
   rw [if_neg (fun h=>hz h.1),decide_eq_false hz]
   have hd:decide ((s.size:Int)<=4096)=false:=by simp;omega
   go_enter Tryz.func127,Tryz.ntmps127
   go_wp2_with fail
   refine (fail_any b v l bad false 2 _ h).mono ?_
   rintro r w1 ⟨rfl,hw1,ht1⟩
   go_wp2
   go_ret
   exact ⟨rfl,v,hw1,ht1.mono (fun _ hi=>.inl (.inl hi)),.inl rfl⟩
def wfL (l:List UInt8) (bad:Int) (s:ByteArray) (z:Int):List UInt8:=if (s.size:Int)=z/\bad=0 then l++s.data.toList else l
def okFixed (s:ByteArray) (z:Int):Bool:=(s.size:Int)==z
theorem wrFixed_any (b:Nat) (s:ByteArray) (z:Int) (w:World) (v:Value) (l:List UInt8) (bad:Int) (h:Wr w b v l bad) (hs:l.length+s.size<=140737488355328) :
 Calls Tryz.prog 126 #[.pointer (some ⟨b,0,none⟩),.string s,.int .i64 z] w fun e w'=>e=.returned (.pointer (some ⟨b,0,none⟩))/\∃ v',Wr w' b v' (wfL l bad s z) (flBad (okFixed s z) bad 10)/\Touch (BuS b v) w w'/\NewOrSame w v v':=by
 have hL:wfL l bad s z=if okFixed s z=true/\bad=0 then l++s.data.toList else l:=by
  unfold wfL okFixed
  by_cases e:(s.size:Int)=z
  · simp [e]
  · simp [e]
 rw [hL]
 have Hok:=Lib.hid (show ((s.size:Int)==z)=okFixed s z from rfl)
 clear hL
 generalize okFixed s z=ok at Hok
 by_cases hc:ok=true/\bad=0
 · rw [if_pos hc]
   obtain ⟨rfl,rfl⟩:=hc
   rw [flBad_ok]
   have hok:=Hok.out
   go_enter Tryz.func126,Tryz.ntmps126
   go_wp2_with fail
   refine (fail_any b v l 0 true 10 _ h).mono ?_
   rintro r w1 ⟨rfl,hw1,ht1⟩
   rw [flBad_ok] at hw1 |-
   obtain ⟨ad,hbu⟩:=hw1
   go_wp2_with fail
   refine (writeString_any _ b 0 _ v _ s _ writer_ne hbu lies_writer hs).mono ?_
   rintro r w3 ⟨rfl,v3,hb3,ht3,hn3⟩
   have hW3:=Wr.of_bu hb3
   have hT3:Touch (BuS b v) w w3:=(ht1.mono (fun _ hi=>.inl (.inl hi))).trans ht3
   have hN3:NewOrSame w v v3:=NewOrSame.trans (.inl rfl) ht1.size hn3
   clear hbu hb3 ht3 hn3
   go_wp2
   go_ret
   exact ⟨rfl,v3,hW3,hT3,hN3⟩
 · rw [if_neg hc]
   have hfl:(flBad ok bad 10==0)=false:=by
    rw [beq_eq_false_iff_ne];unfold flBad
    by_cases e:bad=0
    · by_cases e2:ok=false
      · rw [if_pos ⟨e2,e⟩];decide
      · exact absurd ⟨by simpa using e2,e⟩ hc
    · rw [if_neg (fun h=>e h.2)];exact e
   clear hc
   have hok:=Hok.out
   go_enter Tryz.func126,Tryz.ntmps126
   go_wp2_with fail
   refine (fail_any b v l bad ok 10 _ h).mono ?_
   rintro r w1 ⟨rfl,hw1,ht1⟩
   go_wp2
   go_ret
   exact ⟨rfl,v,hw1,ht1.mono (fun _ hi=>.inl (.inl hi)),.inl rfl⟩
def wbT (l:List UInt8) (bad:Int):ByteArray:=if bad=0 then ⟨l.toArray⟩ else ⟨#[]⟩
theorem wrBytes_any (b:Nat) (w:World) (v:Value) (l:List UInt8) (bad:Int) (h:Wr w b v l bad) :
 Calls Tryz.prog 120 #[.pointer (some ⟨b,0,none⟩)] w fun e w'=>e=.returned (.tuple #[.string (wbT l bad),.int .i64 bad])/\Touch (BuS b v) w w':=by
 have he:=h.e
 unfold wbT
 by_cases hb:bad=0
 · subst hb
   rw [if_pos rfl]
   obtain ⟨ad,hbu⟩:=h
   go_enter Tryz.func120,Tryz.ntmps120
   go_wp2_with fail
   refine (string_any _ b 0 _ v l _ hbu).mono ?_
   rintro r w3 ⟨rfl,ht3⟩
   go_wp2
   go_ret2
   exact ⟨rfl,ht3.mono (fun _ hi=>.inl (.inr hi))⟩
 · rw [if_neg hb]
   have hb':(bad != 0)=true:=bne_iff_ne.2 hb
   clear hb
   go_enter Tryz.func120,Tryz.ntmps120
   go_wp2_with fail
   go_quiet (fail)
   go_wp2
   go_ret2
   exact ⟨rfl,Touch.drewN _ _⟩
theorem made_zeros8 (n:Nat):madeCells #[.int .u8 0] n=(bytesV (List.replicate n 0)).toArray:=by
 apply Array.ext'
 simp only [madeCells,bytesV]
 apply List.ext_getElem
 · simp
 · intro i h1 h2
   simp [Nat.mod_one]
theorem Tryz.infoByte8:(Tryz.prog.info? 5).map (fun i=>(i.zero,i.size,i.bytes))=some (some (.int .u8 0),1,1):=by kernel_rfl
def numRow (n size k:Nat):Array Value:=(bytesV (bytesTo n size k++List.replicate (size - k) 0)).toArray
theorem numRow_set (n size k:Nat) (hk:k<size):(numRow n size k).setIfInBounds k (.int .u8 ((byteAt n (size - 1 - k)).toNat:Int))=numRow n size (k+1):=by
 have hl:=bytesTo_le n size k
 unfold numRow bytesV
 apply Array.ext'
 rw [Array.toList_setIfInBounds]
 simp only [List.map_append,bytesTo]
 rw [show size - k=(size - (k+1))+1 from by omega,List.replicate_succ,List.map_cons,List.set_append_right _ _ (by rw [List.length_map,hl];exact Nat.le_refl _),List.length_map,hl,Nat.sub_self,List.set_cons_zero]
 simp
theorem numRow_at (n size k:Nat) (hk:k<size):(numRow n size k)[k]?=some (.int .u8 0):=by
 have hl:=bytesTo_le n size k
 unfold numRow bytesV
 rw [List.map_append,List.getElem?_toArray,List.getElem?_append_right (by rw [List.length_map,hl];exact Nat.le_refl _),List.length_map,hl,Nat.sub_self,show size - k=(size - (k+1))+1 from by omega,List.replicate_succ]
 rfl
theorem number_any (n size:Nat) (w:World) (h8:size<=8) :
 Calls Tryz.prog 41 #[.int .u64 n,.int .i64 size] w fun e w'=>e=.returned (.slice (some ⟨w.heap.size,0,none⟩) size size)/\w'.heap[w.heap.size]?=some (.cells (bytesV (bytesTo n size size)).toArray 5 (0,0))/\Below w.heap.size w w':=by
 have hmk:=run_make_row' (P:=Tryz.prog) 58 5 (.int .u8 0) 1 Tryz.underlying58 Tryz.infoByte8 rfl .i64 .i64 size (by omega) (by omega)
 rw [made_zeros8] at hmk
 go_enter Tryz.func41,Tryz.ntmps41
 go_wp2_with fail
 have h0:(w.alloc (.cells (bytesV (List.replicate size 0)).toArray 5)).heap[w.heap.size]?=some (.cells (numRow n size 0) 5 (0,0)):=heap_alloc_new _ _
 have hb0:Below w.heap.size w (w.alloc (.cells (bytesV (List.replicate size 0)).toArray 5)):=(Below.refl _ _).alloc (Nat.le_refl _) _
 generalize (w.alloc (.cells (bytesV (List.replicate size 0)).toArray 5))=W0 at h0 hb0 |-
 clear hmk
 go_loopw [11] (fun i W=>∃ k:Nat,k<=size/\i=.int .i64 k/\W.heap[w.heap.size]?=some (.cells (numRow n size k) 5 (0,0))/\Below w.heap.size w W) (fun i _=>size - (intOf i).toNat)
 case atStart=>exact ⟨0,Nat.zero_le _,rfl,h0,hb0⟩
 case round=>
  obtain ⟨k,hk,rfl,hblk,hb⟩:=hrel
  by_cases hlt:k<size
  · have cg:wr.cell? ⟨w.heap.size,k,none⟩=some (.int .u8 0):=by rw [cell_of_row _ _ k _ _ _ hblk];exact numRow_at n size k hlt
    have fg:wr.frozen? ⟨w.heap.size,k,none⟩=false:=frozen_of_row _ _ k _ _ hblk
    have Hset:=Lib.hid (numRow_set n size k hlt)
    have hbw:=byteAt_wrap n (size - 1 - k)
    obtain ⟨j,hj⟩:∃ j,j=size - 1 - k:=⟨_,rfl⟩
    rw [<-hj] at Hset hbw
    have e1:(size:Int) - 1 - k=(j:Int):=by omega
    obtain ⟨m,hm⟩:∃ m,m=8*j:=⟨_,rfl⟩
    have e2:8*(j:Int)=(m:Int):=by omega
    rw [<-hm] at hbw
    have Hbw:=Lib.hid hbw
    have Hblk:=Lib.hid hblk
    have Hb:=Lib.hid hb
    clear hj hm hblk hb hbw
    generalize (byteAt n j).toNat=z at Hset Hbw
    go_wp2_with fail
    have e3:(n:Int)/2^m%256=(z:Int):=by rw [<-Hbw.out,IntKind.wrap_u8]
    rw [e3]
    exact ⟨⟨k+1,by omega,by go_num,by rw [<-Hset.out];exact heap_setCell_same wr w.heap.size k _ _ _ Hblk.out,Hb.out.setCell (Nat.le_refl _) _⟩,by simp [intOf];omega⟩
  · have hs:k=size:=by omega
    have Hblk:Hid (wr.heap[w.heap.size]?=some (.cells (numRow n size size) 5 (0,0))):=Lib.hid (hs ▸ hblk)
    have Hb:=Lib.hid hb
    clear hblk hb
    go_wp2
    go_ret
    refine ⟨rfl,?_,Hb.out⟩
    have:=Hblk.out
    rwa [numRow,Nat.sub_self,List.replicate_zero,List.append_nil] at this
structure Dat (w:World) (B:Nat) (v:Value) (l:List UInt8):Prop where
 is:∃ g cap,v=.slice (some ⟨g,0,none⟩) l.length cap/\B<=g/\g<w.heap.size/\l.length<=cap/\(∀ j,j<l.length->w.cell? ⟨g,j,none⟩=some (.int .u8 (byteI l j)))/\∀ j,l.length<=j->j<cap->(w.cell? ⟨g,j,none⟩).isSome=true/\w.frozen? ⟨g,j,none⟩=false
theorem Dat.shape {w:World} {B:Nat} {v:Value} {l:List UInt8} (h:Dat w B v l):∃ g cap,v=.slice (some ⟨g,0,none⟩) l.length cap:=by
 obtain ⟨g,cap,rfl,_⟩:=h.is;exact ⟨g,cap,rfl⟩
theorem Dat.below {w w':World} {B B':Nat} {v:Value} {l:List UInt8} (h:Dat w B v l) (hb:Below B' w w') (hlt:w.heap.size<=B'):Dat w' B v l:=by
 obtain ⟨g,cap,rfl,h1,h2,h3,hc,hf⟩:=h.is
 have hg:g<B':=by omega
 exact ⟨g,cap,rfl,h1,Nat.lt_of_lt_of_le h2 hb.size,h3,fun j hj=>(hb.cell (p:=⟨g,j,none⟩) hg).trans (hc j hj),fun j h1 h2=>⟨by rw [hb.cell (p:=⟨g,j,none⟩) hg];exact (hf j h1 h2).1,by rw [World.frozen?_of_block (w:=w) (w':=w') (a:=⟨g,j,none⟩) (hb.block g hg)];exact (hf j h1 h2).2⟩⟩
theorem Dat.of_own {w:World} {B:Nat} {v:Value} {n:Nat} {l:List UInt8} (h:w.ownsRow B 5 1 v n (bytesV l)) (hn:n≠0):Dat w B v l:=by
 have hl:=h.1
 rw [bytesV_length,Nat.mul_one] at hl
 rcases h.2 with ⟨_,h0⟩ | ⟨g,cap,cur,rfl,hB,hg,hnc,hcm,hcur,htake⟩
 · exact absurd h0 hn
 · have hsz:=(Array.getElem?_eq_some_iff.1 hg).1
   refine ⟨g,cap,by rw [hl],hB,hsz,by omega,fun j hj=>?_,fun j h1 h2=>?_⟩
   · have:=h.cells (g:=g) rfl j (.int .u8 (byteI l j)) (by
      rw [<-bytesV_getD l j hj,List.getD_eq_getElem?_getD,List.getElem?_eq_getElem (by rw [bytesV_length];exact hj)];rfl)
     have hadd:(⟨g,0,none⟩:Addr).add j=⟨g,j,none⟩:=by unfold Addr.add;split <;> simp_all
     rwa [hadd] at this
   · rw [cell_of_row w g j cur _ _ hg,Nat.mul_one] at *
     exact ⟨by rw [Array.getElem?_eq_getElem (by omega)];rfl,frozen_of_row w g j _ _ hg⟩
theorem dat_of_string (w:World) (s:ByteArray):∃ v w',(convert 9 58 (.string s)).run Tryz.prog w=.ok v w'/\Dat w' w.heap.size v s.data.toList/\Below w.heap.size w w':=by
 refine ⟨_,_,run_bytes_of_string w 9 58 5 s Tryz.underlying9 Tryz.underlying58 Tryz.underlying5,?_,((Below.refl w.heap.size w).trans (c:=w.drew) ⟨rfl,rfl,rfl,Nat.le_refl _,fun _ _=>rfl⟩).alloc (Nat.le_refl _) _⟩
 have hcap:=grownCap_ge w s.size 0 5
 generalize grownCap w s.size 0 5=cap at hcap
 have hsz:(bytesRow s cap).size=cap:=by simp [bytesRow];show s.size+(cap - s.size)=cap;omega
 have hblk:(w.drew.alloc (.cells (bytesRow s cap) 5 ((bytesRow s cap).size,(bytesRow s cap).size+1))).heap[w.heap.size]?=some (.cells (bytesRow s cap) 5 ((bytesRow s cap).size,(bytesRow s cap).size+1)):=heap_alloc_new w.drew _
 generalize (w.drew.alloc (.cells (bytesRow s cap) 5 ((bytesRow s cap).size,(bytesRow s cap).size+1)))=W at hblk
 have hl:s.data.toList.length=s.size:=by simp
 refine ⟨w.heap.size,cap,by rw [hl],Nat.le_refl _,(Array.getElem?_eq_some_iff.1 hblk).1,by omega,fun j hj=>?_,fun j h1 h2=>?_⟩
 · rw [cell_of_row W _ j _ _ _ hblk]
   unfold bytesRow byteI
   rw [Array.getElem?_append_left (by simpa using hj)]
   rw [List.getD_eq_getElem?_getD,List.getElem?_eq_getElem hj,Array.getElem?_map,Array.getElem?_eq_getElem (by simpa using hj)]
   rfl
 · refine ⟨by rw [cell_of_row W _ j _ _ _ hblk,Array.getElem?_eq_getElem (by omega)];rfl,?_⟩
   unfold World.frozen?
   rw [hblk]
   simp only [hsz,Bool.and_eq_false_imp,decide_eq_true_eq,decide_eq_false_iff_not]
   omega
theorem below_cells {B b:Nat} (hb:B<=b):∀ (vs:List Value) (o:Nat) (w:World),Below B w (w.setCells b o vs)
 | [],_,w=>Below.refl _ _
 | v :: vs,o,w=>by
   rw [World.setCells]
   exact ((Below.refl B w).setCell (p:=⟨b,o,none⟩) hb v).trans (below_cells hb vs (o+1) _)
theorem byteI_append (l m:List UInt8) (j:Nat):byteI (l++m) j=if j<l.length then byteI l j else byteI m (j - l.length):=by
 unfold byteI
 rw [List.getD_eq_getElem?_getD,List.getElem?_append]
 split <;> rw [List.getD_eq_getElem?_getD]
theorem wpList_dat {ops:Array Oper} {rest:List Oper} {o:Oper} {a:Act} {Q:Exit->Act->World->Prop} {w:World} (hg:o.guard=none) {s x:Operand}
 (hop:o.op=Op.call { callee:=Callee.builtin Builtin.append,args:=#[s,x],argTypes:=#[58,58] }) {B:Nat} {v:Value} {l:List UInt8} (hD:Dat w B v l) (hs:a.eval s=v)
 {ad:Addr} {m c:Nat} {news:List UInt8} (hx:a.eval x=.slice (some ad) m c) (hm:news.length=m) (hc:∀ j u,(bytesV news)[j]?=some u->w.cell? (ad.add j)=some u) (hB:B<=w.heap.size) (hlen:l.length+m<=70368744177664)
 (h:∀ v' w',Dat w' B v' (l++news)->Below B w w'->wpList Tryz.prog ops Q rest (a.put o.dst v') w'):wpList Tryz.prog ops Q (o :: rest) a w:=by
 obtain ⟨g,cap,rfl,hBg,hgw,hle,hcells,hspare⟩:=hD.is
 obtain ⟨i0,hi,hz0,hz1,hz2⟩:=info_parts Tryz.infoByte8
 have hlV:(bytesV l).length=l.length:=bytesV_length l
 have hmV:(bytesV news).length=m:=by rw [bytesV_length,hm]
 have hold:∀ j u,(bytesV l)[j]?=some u->w.cell? ⟨g,0+j,none⟩=some u:=by
  intro j u hj
  have hlt:j<l.length:=by have:=(List.getElem?_eq_some_iff.1 hj).1;omega
  rw [Nat.zero_add,hcells j hlt,<-bytesV_getD l j hlt,List.getD_eq_getElem?_getD,hj];rfl
 refine wpList_append_arg w hg s x 58 hop 5 i0 (.int .u8 0) 1 1 Tryz.underlying58 hi hz0 hz1 hz2 rfl (by decide) g 0 l.length cap (bytesV l) hs (by rw [hlV,Nat.mul_one]) hold ad m c (bytesV news) hx (by rw [hmV,Nat.mul_one]) hc (by
  intro u hu
  obtain ⟨b,_,rfl⟩:=List.mem_map.1 hu
  rfl) (fun hroom j hj=>by rw [Nat.mul_one,Nat.zero_add];exact hspare (l.length+j) (by omega) (by omega)) (by unfold maxLen;omega) (by omega) (fun hroom=>?_) (fun hfull v' w' hown hgr=>?_)
 · rw [Nat.mul_one,Nat.zero_add]
   refine h _ _ ⟨g,cap,by rw [List.length_append,hm],hBg,Nat.lt_of_lt_of_le hgw (below_cells hBg _ _ w).size,by rw [List.length_append,hm];omega,fun j hj=>?_,fun j h1 h2=>?_⟩ (below_cells hBg _ _ w)
   · rw [List.length_append,hm] at hj
     rw [byteI_append]
     by_cases hlt:j<l.length
     · rw [if_pos hlt,World.cell?_setCells_out _ _ _ _ _ (fun _ _=>.inl hlt)]
       exact hcells j hlt
     · rw [if_neg hlt]
       have:=World.cell?_setCells_in g (bytesV news) l.length w (fun j hj=>(hspare (l.length+j) (by omega) (by omega)).1) (j - l.length) (by omega)
       rw [show l.length+(j - l.length)=j from by omega] at this
       rw [this,<-bytesV_getD news _ (by omega),List.getD_eq_getElem?_getD,List.getElem?_eq_getElem (by omega)]
       rfl
   · rw [List.length_append,hm] at h1
     refine ⟨?_,by rw [World.frozen?_setCells];exact (hspare j (by omega) h2).2⟩
     rw [World.cell?_setCells_out _ _ _ _ _ (fun _ _=>.inr (by rw [hmV];exact h1))]
     exact (hspare j (by omega) h2).1
 · have hb:Below B w w':=(Below.refl B w).grown hgr hB (fun k hk=>by cases hk)
   by_cases h0:l.length+m=0
   · exfalso;omega
   · have hown2:w'.ownsRow w.heap.size 5 1 v' (l.length+m) (bytesV (l++news)):=by
      rw [show bytesV (l++news)=bytesV l++bytesV news from List.map_append];exact hown
     obtain ⟨g2,cap2,e1,h1,h2,h3,h4,h5⟩:=(Dat.of_own hown2 h0).is
     exact h _ _ ⟨g2,cap2,e1,by omega,h2,h3,h4,h5⟩ hb
theorem append_types {P:Program} {w:World} {t tx ty e e':TypeId} {i:TypeInfo} {b a:Option Addr} {n cap m c:Nat} (ht:P.underlying t=some (.slice e)) (hx:P.underlying tx=some (.slice e')) (hi:P.info? e=some i) :
 (Builtin.append_ #[t,tx] ty #[.slice b n cap,.slice a m c]).run P w=(Builtin.append_ #[t,t] ty #[.slice b n cap,.slice a m c]).run P w:=by
 simp [Builtin.append_,run_underlying ht,run_underlying hx,sizeOf,typeInfo,hi]
theorem append_own_src {P:Program} {w:World} (base:Nat) {t tx ty e e':TypeId} {i:TypeInfo} {z:Value} {size bytes:Nat} (ht:P.underlying t=some (.slice e)) (htx:P.underlying tx=some (.slice e')) (hi:P.info? e=some i) (hz:i.zero=some z)
 (hsize:i.size=size) (hby:i.bytes=bytes) (hzs:z.cells.size=size) (hsz:0<size)
 {v:Value} {n:Nat} {xs:List Value} (hown:w.ownsRow base e size v n xs)
 {a:Option Addr} {m c:Nat} {news:List Value} (hl:news.length=m*size) (hnone:a=none->m=0) (hnews:∀ ad,a=some ad->∀ j u,news[j]?=some u->w.cell? (ad.add j)=some u) (h1:∀ u∈news,u.oneCell'=true)
 (h63:n+m<=maxLen) (hbytes:(n+m)*bytes<=140737488355328) (hbase:base<=w.heap.size) :
 ∃ v' w',(Builtin.append_ #[t,tx] ty #[v,.slice a m c]).run P w=.ok v' w'/\w'.ownsRow base e size v' (n+m) (xs++news)/\w.grownBy w' v.ownBlock/\NewOrSame w v v':=by
 cases a with
 | none=>
   have hm:=hnone rfl
   subst hm
   have hn:news=[]:=List.eq_nil_of_length_eq_zero (by simpa using hl)
   subst hn
   have hshape:∃ a' c',v=.slice a' n c'/\n<=c':=by
    rcases hown.2 with ⟨hv,h0⟩ | ⟨g,cap,cur,hv,_,_,h3,_⟩
    · exact ⟨none,0,by rw [hv,h0],by omega⟩
    · exact ⟨_,_,hv,h3⟩
   obtain ⟨a',c',rfl,hle⟩:=hshape
   refine ⟨_,_,run_append_nothing w t tx ty e i ht hi a' n c' hle (.slice none 0 c) (Src.ofNil w htx c),by simpa using hown,⟨rfl,rfl,rfl,Nat.le_refl _,fun _ _ _=>rfl⟩,.inl rfl⟩
 | some a=>
   obtain ⟨v',w',hr,h2,h3,_⟩:=run_append_own (P:=P) w base t ty e i z size bytes ht hi hz hsize hby hzs hsz v n xs hown a m c news hl (hnews a rfl) h1 h63 hbytes hbase
   have hshape:∃ a' c',v=.slice a' n c':=by
    rcases hown.2 with ⟨hv,h0⟩ | ⟨g,cap,cur,hv,_⟩
    · exact ⟨none,0,by rw [hv,h0]⟩
    · exact ⟨_,_,hv⟩
   obtain ⟨b',cap',rfl⟩:=hshape
   refine ⟨v',w',by rw [append_types ht htx hi];exact hr,h2,h3,append_where ht hi hz hsize hby hzs hsz hown hl (hnews a rfl) h1 h63 hbytes hr⟩
theorem wpList_appSrc {P:Program} {ops:Array Oper} {rest:List Oper} {o:Oper} {ac:Act} {Q:Exit->Act->World->Prop} {w:World} (hgd:o.guard=none) {s x:Operand} {t tx:TypeId}
 (ho:o.op=.call { callee:=.builtin .append,args:=#[s,x],argTypes:=#[t,tx] })
 {e e':TypeId} {z:Value} {bytes:Nat} (size:Nat) (ht:P.underlying t=some (.slice e)) (htx:P.underlying tx=some (.slice e')) (hinfo:(P.info? e).map (fun i=>(i.zero,i.size,i.bytes))=some (some z,size,bytes)) (hzs:z.cells.size=size) (hsz:0<size)
 {base:Nat} {v:Value} {n:Nat} {xs:List Value} (hown:w.ownsRow base e size v n xs) (hs:ac.eval s=v)
 {a:Option Addr} {m c:Nat} {news:List Value} (hx:ac.eval x=.slice a m c) (hl:news.length=m*size) (hnone:a=none->m=0) (hnews:∀ ad,a=some ad->∀ j u,news[j]?=some u->w.cell? (ad.add j)=some u) (h1:∀ u∈news,u.oneCell'=true)
 (h63:n+m<=maxLen) (hbytes:(n+m)*bytes<=140737488355328) (hbase:base<=w.heap.size)
 (h:∀ v' w',w'.ownsRow base e size v' (n+m) (xs++news)->w.grownBy w' v.ownBlock->NewOrSame w v v'->wpList P ops Q rest (ac.put o.dst v') w'):wpList P ops Q (o :: rest) ac w:=by
 obtain ⟨i0,hi,hz0,hz1,hz2⟩:=info_parts hinfo
 refine wpList_plain hgd fun K hK=>?_
 obtain ⟨v',w',hr,h2,h3,h4⟩:=append_own_src (P:=P) (w:=w) base (ty:=o.type) ht htx hi hz0 hz1 hz2 hzs hsz hown (c:=c) hl hnone hnews h1 h63 hbytes hbase
 unfold Oper.wp execOp
 simp only [ho,resolve,invoke,builtin,Sem.run_bind,Sem.run_pure,Result.andThen_ok,List.map_toArray,List.map_cons,List.map_nil,hs,hx,hr]
 exact hK _ _ (h v' w' h2 h3 h4)
end Go.Proofs.YtcgkomafaepjnaaGreatDoor
