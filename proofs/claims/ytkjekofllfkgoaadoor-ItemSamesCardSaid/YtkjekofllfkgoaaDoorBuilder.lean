/- strings.Builder's methods at a builder that lies anywhere in a block of cells (a field of a struct, or a variable of its own): what is written, what is read. Conditions: the text is shorter than 2^47 bytes; the buffer has not been read by String yet. -/
import Derived.Test.YtkjekofllfkgoaaDoorRows
import Derived.Test.YtkjekofllfkgoaaDoorKit
import Derived.Lib.Builder
import Derived.Lib.AppendStr
import Derived.Lib.UnsafeStr
import Derived.Lib.Slices
import Derived.Laws.Externs
import Derived.WalkLawsBesides
import Derived.RegionTactic
import Derived.Lib.MakeNoZero
namespace Go.Proofs.YtkjekofllfkgoaaDoor
open Go.RowKit

theorem Tryd.infoByte : (Tryd.prog.info? 5).map (fun i => (i.zero, i.size, i.bytes)) = some (some (.int .u8 0), 1, 1) := by kernel_rfl
theorem Tryd.infoBuilder : (Tryd.prog.info? 70).map (·.size) = some 2 := by kernel_rfl

/-- At cell o of block b (cells cs, of type T) lies a builder whose buffer is v and holds l. -/
structure Bu (w : World) (T : TypeId) (b o : Nat) (cs : Array Value) (v : Value) (l : List UInt8) : Prop where
  blk : w.heap[b]? = some (.cells cs T (0, 0))
  addr : cs[o]? = some (.pointer none) ∨ cs[o]? = some (.pointer (some ⟨b, o, none⟩))
  buf : cs[o + 1]? = some v
  own : w.ownsRow 0 5 1 v l.length (bytesV l)
  ne : v.ownBlock ≠ some b

theorem Bu.touch {w w' : World} {T : TypeId} {b o : Nat} {cs : Array Value} {v : Value} {l : List UInt8} {S : Nat → Prop} (h : Bu w T b o cs v l) (ht : Touch S w w') (hb : ¬ S b) (hv : ∀ k, v.ownBlock = some k → ¬ S k) : Bu w' T b o cs v l :=
  ⟨ht.heap h.blk hb, h.addr, h.buf, ht.own h.own hv, h.ne⟩

/-- What lies where: the unsafe conversion of copyCheck asks it. -/
def Lies (T : TypeId) (n o : Nat) : Prop := liesAt Tryd.prog Tryd.prog.depth T (n / Tryd.prog.cellsOf T) o 70 1 = true

theorem lt_of_heap {w : World} {b : Nat} {x : Obj} (h : w.heap[b]? = some x) : b < w.heap.size := (Array.getElem?_eq_some_iff.1 h).1

theorem shape_of_heap {w : World} {b : Nat} {cs : Array Value} {T : TypeId} {fr : Nat × Nat} (h : w.heap[b]? = some (.cells cs T fr)) : w.shape? b = some (T, cs.size) := by
  simp [World.shape?, h]

theorem copyCheck_any (T : TypeId) (b o : Nat) (cs : Array Value) (v : Value) (l : List UInt8) (w : World) (h : Bu w T b o cs v l) (hl : Lies T cs.size o) :
    Calls Tryd.prog 55 #[.pointer (some ⟨b, o, none⟩)] w fun e w' => e = .returned (.tuple #[]) ∧ Bu w' T b o (cs.setIfInBounds o (.pointer (some ⟨b, o, none⟩))) v l ∧ Touch (· = b) w w' := by
  obtain ⟨j, hj, hjs⟩ := Option.map_eq_some_iff.1 Tryd.infoBuilder
  have hn : o + 1 < cs.size := by
    rcases Nat.lt_or_ge (o + 1) cs.size with h' | h'
    · exact h'
    · have := h.buf; rw [Array.getElem?_eq_none h'] at this; cases this
  rcases h.addr with ha | ha
  · have h0 : w.cell? ⟨b, o, none⟩ = some (.pointer none) := by rw [cell_of_row w b o _ _ _ h.blk]; exact ha
    have hf := frozen_of_row w b o _ _ h.blk
    have hsh := shape_of_heap h.blk
    have k1 := Lib.run_to_unsafe (P := Tryd.prog) w ⟨b, o, none⟩ Tryd.underlying68 Tryd.underlying119 hj (by rw [hjs]; decide) hsh (show o < cs.size by omega)
    have k2 := Lib.run_from_unsafe (P := Tryd.prog) w ⟨b, o, none⟩ Tryd.underlying119 Tryd.underlying68 hj hsh hl
    clear hsh
    go_enter Tryd.func55, Tryd.ntmps55
    go_wp2
    rw [run_callFunc_extern Tryd.func62 (by kernel_rfl) (by kernel_rfl) (by kernel_rfl) (e := Extern.AbiNoEscape.same) (by kernel_rfl)]
    rw [Lib.run_noEscape]
    simp only [Result.andThen]
    rw [Oper.upon_value]
    go_wp2
    go_end0
    refine ⟨rfl, ⟨?_, .inr ?_, ?_, ?_, h.ne⟩, Touch.setCell _ _ _ rfl⟩
    · exact heap_setCell_same w b o cs T _ h.blk
    · rw [Array.getElem?_setIfInBounds]; simp; omega
    · rw [Array.getElem?_setIfInBounds]; simp [h.buf]
    · exact (Touch.setCell (S := (· = b)) w ⟨b, o, none⟩ (.pointer (some ⟨b, o, none⟩)) rfl).own h.own (fun k hk e => h.ne (by rw [hk]; exact congrArg some e))
  · have h0 : w.cell? ⟨b, o, none⟩ = some (.pointer (some ⟨b, o, none⟩)) := by rw [cell_of_row w b o _ _ _ h.blk]; exact ha
    have k1 := Lib.run_neq_ptr_same (P := Tryd.prog) w ⟨b, o, none⟩ Tryd.underlying68 hj
    have Hcs : cs.setIfInBounds o (.pointer (some ⟨b, o, none⟩)) = cs := by
      apply Array.ext'
      rw [Array.toList_setIfInBounds]
      apply List.ext_getElem?
      intro i
      rw [List.getElem?_set]
      by_cases e : o = i
      · subst e
        have : cs.toList[o]? = some (.pointer (some ⟨b, o, none⟩)) := by simpa using ha
        rw [this]; simp; omega
      · simp [e]
    go_enter Tryd.func55, Tryd.ntmps55
    go_wp2
    go_end0
    exact ⟨rfl, by rw [Hcs]; exact h, Touch.refl _ _⟩

theorem form_of_own {w : World} {e : TypeId} {v : Value} {n : Nat} {xs : List Value} (h : w.ownsRow 0 e 1 v n xs) : ∃ a cap, v = .slice a n cap := by
  rcases h.2 with ⟨hv, h0⟩ | ⟨g, cap, cur, hv, _⟩
  · exact ⟨none, 0, by rw [hv, h0]⟩
  · exact ⟨_, _, hv⟩

/-- The block's cells behind a write. -/
def buCells (cs : Array Value) (b o : Nat) (v : Value) : Array Value := (cs.setIfInBounds o (.pointer (some ⟨b, o, none⟩))).setIfInBounds (o + 1) v

theorem bu_written {w1 w2 : World} {T : TypeId} {b o : Nat} {cs : Array Value} {v v' : Value} {l l' : List UInt8} (hT : T ≠ 5) (h : Bu w1 T b o (cs.setIfInBounds o (.pointer (some ⟨b, o, none⟩))) v l) (hg : w1.grownBy w2 v.ownBlock)
    (ho : w2.ownsRow 0 5 1 v' l'.length (bytesV l')) : Bu (w2.setCell ⟨b, o + 1, none⟩ v') T b o (buCells cs b o v') v' l' := by
  have hn : o + 1 < cs.size := by
    rcases Nat.lt_or_ge (o + 1) cs.size with h' | h'
    · exact h'
    · have := h.buf; rw [Array.getElem?_eq_none (by simpa using h')] at this; cases this
  have hb2 : w2.heap[b]? = some (.cells (cs.setIfInBounds o (.pointer (some ⟨b, o, none⟩))) T (0, 0)) := (hg.block b (lt_of_heap h.blk) (fun e => h.ne e.symm)).trans h.blk
  have hne : v'.ownBlock ≠ some b := by
    intro e
    rcases ho.2 with ⟨hv, _⟩ | ⟨g, cap, cur, hv, _, hgb, _⟩
    · rw [hv] at e; cases e
    · rw [hv] at e
      have e2 : g = b := by simpa [Value.ownBlock] using e
      rw [e2, hb2] at hgb
      injection hgb with hgb
      injection hgb with _ h2 _
      exact hT h2
  refine ⟨heap_setCell_same w2 b (o + 1) _ T _ hb2, .inr ?_, ?_, ?_, hne⟩
  · unfold buCells; rw [Array.getElem?_setIfInBounds, if_neg (by omega), Array.getElem?_setIfInBounds]; simp; omega
  · unfold buCells; rw [Array.getElem?_setIfInBounds]; simp; omega
  · exact (Touch.setCell (S := (· = b)) w2 ⟨b, o + 1, none⟩ v' rfl).own ho (fun k hk e => hne (by rw [hk]; exact congrArg some e))

/-- What a write touches: the block and the old buffer. -/
def BuS (b : Nat) (v : Value) : Nat → Prop := fun k => k = b ∨ v.ownBlock = some k

theorem bu_touch {w w1 w2 : World} {b o : Nat} {v v' : Value} (h1 : Touch (· = b) w w1) (hg : w1.grownBy w2 v.ownBlock) : Touch (BuS b v) w (w2.setCell ⟨b, o + 1, none⟩ v') :=
  (h1.mono (T := BuS b v) (fun _ hi => .inl (.inl hi))).trans (((Touch.grown hg).mono (T := BuS b v) (fun _ hi => .inl (.inr hi.symm))).trans (Touch.setCell _ _ _ (.inl rfl)))

theorem writeByte_any (T : TypeId) (b o : Nat) (cs : Array Value) (v : Value) (l : List UInt8) (c : UInt8) (w : World) (hT : T ≠ 5) (h : Bu w T b o cs v l) (hl : Lies T cs.size o) (hlen : l.length + 1 ≤ 140737488355328) :
    Calls Tryd.prog 43 #[.pointer (some ⟨b, o, none⟩), .int .u8 c.toNat] w fun e w' => e = .returned .nilIface ∧ ∃ v', Bu w' T b o (buCells cs b o v') v' (l ++ [c]) ∧ Touch (BuS b v) w w' ∧ NewOrSame w v v' := by
  go_enter Tryd.func43, Tryd.ntmps43
  go_wp2_with fail
  refine (copyCheck_any T b o cs v l _ h hl).mono ?_
  rintro e w1 ⟨rfl, h1, ht1⟩
  have c1 : w1.cell? ⟨b, o + 1, none⟩ = some v := by rw [cell_of_row w1 b (o + 1) _ _ _ h1.blk]; exact h1.buf
  go_wp2_with (at_builtin; refine Hid.out ?_)
  unfold Hid
  refine wpList_appW rfl rfl Tryd.underlying41 Tryd.infoByte rfl 1 h1.own rfl rfl rfl ?_ ?_ ?_ (Nat.zero_le _) ?_
  · simp [Value.oneCell']
  · omega
  · unfold maxLen; omega
  intro v' w2 ho2 hg2 hns
  have hb2 : w2.heap[b]? = some (.cells (cs.setIfInBounds o (.pointer (some ⟨b, o, none⟩))) T (0, 0)) := (hg2.block b (lt_of_heap h1.blk) (fun e => h1.ne e.symm)).trans h1.blk
  have d1 : w2.cell? ⟨b, o + 1, none⟩ = some v := by rw [cell_of_row w2 b (o + 1) _ _ _ hb2]; exact h1.buf
  have f1 : w2.frozen? ⟨b, o + 1, none⟩ = false := frozen_of_row w2 b (o + 1) _ _ hb2
  have hW := bu_written (l' := l ++ [c]) hT h1 hg2 (by simpa [bytesV] using ho2)
  have hTt := bu_touch (o := o) (v' := v') ht1 hg2
  have hN : NewOrSame w v v' := hns.elim .inl (fun h => .inr fun k hk => Nat.le_trans ht1.size (h k hk))
  obtain ⟨ao, cap, rfl⟩ := form_of_own ho2
  clear ho2 hg2 hns hb2 c1
  go_wp2
  go_ret
  exact ⟨rfl, _, hW, hTt, hN⟩

theorem writeString_any (T : TypeId) (b o : Nat) (cs : Array Value) (v : Value) (l : List UInt8) (s : ByteArray) (w : World) (hT : T ≠ 5) (h : Bu w T b o cs v l) (hl : Lies T cs.size o) (hlen : l.length + s.size ≤ 140737488355328) :
    Calls Tryd.prog 44 #[.pointer (some ⟨b, o, none⟩), .string s] w fun e w' => e = .returned (.tuple #[.int .i64 s.size, .nilIface]) ∧ ∃ v', Bu w' T b o (buCells cs b o v') v' (l ++ s.data.toList) ∧ Touch (BuS b v) w w' ∧ NewOrSame w v v' := by
  go_enter Tryd.func44, Tryd.ntmps44
  go_wp2_with fail
  refine (copyCheck_any T b o cs v l _ h hl).mono ?_
  rintro e w1 ⟨rfl, h1, ht1⟩
  have c1 : w1.cell? ⟨b, o + 1, none⟩ = some v := by rw [cell_of_row w1 b (o + 1) _ _ _ h1.blk]; exact h1.buf
  go_wp2_with (at_builtin; refine Hid.out ?_)
  unfold Hid
  refine wpList_appS rfl rfl Tryd.underlying41 Tryd.underlying9 Tryd.infoByte h1.own rfl rfl ?_ ?_ (Nat.zero_le _) ?_
  · omega
  · unfold maxLen; omega
  intro v' w2 ho2 hg2 hns
  have hb2 : w2.heap[b]? = some (.cells (cs.setIfInBounds o (.pointer (some ⟨b, o, none⟩))) T (0, 0)) := (hg2.block b (lt_of_heap h1.blk) (fun e => h1.ne e.symm)).trans h1.blk
  have d1 : w2.cell? ⟨b, o + 1, none⟩ = some v := by rw [cell_of_row w2 b (o + 1) _ _ _ hb2]; exact h1.buf
  have f1 : w2.frozen? ⟨b, o + 1, none⟩ = false := frozen_of_row w2 b (o + 1) _ _ hb2
  have hl' : (l ++ s.data.toList).length = l.length + s.size := by simp
  have hW := bu_written (l' := l ++ s.data.toList) hT h1 hg2 (by rw [hl', bytesV, List.map_append]; exact ho2)
  have hTt := bu_touch (o := o) (v' := v') ht1 hg2
  have hN : NewOrSame w v v' := hns.elim .inl (fun h => .inr fun k hk => Nat.le_trans ht1.size (h k hk))
  obtain ⟨ao, cap, rfl⟩ := form_of_own ho2
  clear ho2 hg2 hns hb2 c1 hl'
  go_wp2
  go_ret2
  exact ⟨rfl, _, hW, hTt, hN⟩

theorem touch_freeze {S : Nat → Prop} (w : World) (g n : Nat) (hs : S g) : Touch S w (w.freeze ⟨g, 0, none⟩ n) := by
  unfold World.freeze
  by_cases h : n = 0
  · rw [if_pos h]; exact Touch.refl _ _
  · rw [if_neg h]
    refine ⟨rfl, rfl, rfl, by simp, fun k _ hk => ?_⟩
    simp only [Array.getElem?_modify]
    rw [if_neg (fun e => hk (by rw [← e]; exact hs))]

theorem Tryd.cellsByte : Tryd.prog.cellsOf 5 = 1 := by kernel_rfl

set_option maxHeartbeats 800000 in
theorem string_any (T : TypeId) (b o : Nat) (cs : Array Value) (v : Value) (l : List UInt8) (w : World) (h : Bu w T b o cs v l) :
    Calls Tryd.prog 38 #[.pointer (some ⟨b, o, none⟩)] w fun e w' => e = .returned (.string ⟨l.toArray⟩) ∧ Touch (fun k => v.ownBlock = some k) w w' := by
  have hown := h.own
  by_cases h0 : l = []
  · subst h0
    have hUS : ∀ (q : Option Addr) (W : World), (Builtin.unsafeString_ #[104, 3] 9 #[.pointer q, .int .i64 0]).run Tryd.prog W = .ok (.string .empty) W := fun q W => Lib.run_unsafeString_none W _ _ _ q
    rcases hown.2 with ⟨rfl, _⟩ | ⟨g, cap, cur, rfl, hbg, hg, hnc, hcm, hcs, htake⟩
    · have c1 : w.drew.cell? ⟨b, o + 1, none⟩ = some (.slice none 0 0) := by rw [cell_of_row w.drew b (o + 1) cs T (0, 0) h.blk]; exact h.buf
      have hSD : (Builtin.unsafeSliceData_ #[41] 104 #[.slice none 0 0]).run Tryd.prog w.drew = .ok (.pointer none) w.drew := rfl
      go_enter Tryd.func38, Tryd.ntmps38
      go_wp2
      go_region
      all_goals (go_wp2; go_ret; exact ⟨rfl, Touch.drewN w 1⟩)
    · by_cases hc0 : cap = 0
      · subst hc0
        have c0 : w.cell? ⟨b, o + 1, none⟩ = some (.slice (some ⟨g, 0, none⟩) 0 0) := by rw [cell_of_row w b (o + 1) cs T (0, 0) h.blk]; exact h.buf
        have c1 : w.drew.cell? ⟨b, o + 1, none⟩ = some (.slice (some ⟨g, 0, none⟩) 0 0) := c0
        have hSD : (Builtin.unsafeSliceData_ #[41] 104 #[.slice (some ⟨g, 0, none⟩) 0 0]).run Tryd.prog w.drew = .ok (.pointer (some ⟨w.drew.heap.size, 0, none⟩)) (w.drew.alloc (.view ⟨g, 0, none⟩ 5)) :=
          Lib.run_unsafeSliceData_zero w.drew _ _ 5 Tryd.underlying104 ⟨g, 0, none⟩ 0 (5, cur.size) (by have hg' : w.drew.heap[g]? = some (.cells cur 5 (0, 0)) := hg; simp [World.shape?, hg'])
        have c2 : (w.alloc (.view ⟨g, 0, none⟩ 5)).drew.cell? ⟨b, o + 1, none⟩ = some (.slice (some ⟨g, 0, none⟩) 0 0) := (World.cell?_alloc_past _ _ _ (lt_of_heap h.blk)).trans c0
        go_enter Tryd.func38, Tryd.ntmps38
        go_wp2
        go_region
        all_goals (go_wp2; go_ret; exact ⟨rfl, (Touch.drewN w 1).trans (Touch.alloc _ _)⟩)
      · have c1 : w.drew.cell? ⟨b, o + 1, none⟩ = some (.slice (some ⟨g, 0, none⟩) 0 cap) := by rw [cell_of_row w.drew b (o + 1) cs T (0, 0) h.blk]; exact h.buf
        have hSD : (Builtin.unsafeSliceData_ #[41] 104 #[.slice (some ⟨g, 0, none⟩) 0 cap]).run Tryd.prog w.drew = .ok (.pointer (some ⟨g, 0, none⟩)) w.drew :=
          Lib.run_unsafeSliceData_row _ _ _ _ _ _ hc0
        clear hc0
        go_enter Tryd.func38, Tryd.ntmps38
        go_wp2
        go_region
        all_goals (go_wp2; go_ret; exact ⟨rfl, Touch.drewN w 1⟩)
  · have hl0 : l.length ≠ 0 := by simpa using h0
    obtain ⟨g, cap, cur, rfl, hbg, hg, hnc, hcm, hcs, htake⟩ : ∃ g cap cur, v = .slice (some ⟨g, 0, none⟩) l.length cap ∧ 0 ≤ g ∧ w.heap[g]? = some (.cells cur 5 (0, 0)) ∧ l.length ≤ cap ∧ cap ≤ maxLen ∧ cur.size = cap * 1 ∧ cur.toList.take (l.length * 1) = bytesV l := by
      rcases hown.2 with ⟨_, hz⟩ | ⟨g, cap, cur, hv, r⟩
      · exact absurd hz hl0
      · exact ⟨g, cap, cur, hv, r⟩
    have c1 : w.drew.cell? ⟨b, o + 1, none⟩ = some (.slice (some ⟨g, 0, none⟩) l.length cap) := by rw [cell_of_row w.drew b (o + 1) cs T (0, 0) h.blk]; exact h.buf
    have hSD : (Builtin.unsafeSliceData_ #[41] 104 #[.slice (some ⟨g, 0, none⟩) l.length cap]).run Tryd.prog w.drew = .ok (.pointer (some ⟨g, 0, none⟩)) w.drew :=
      Lib.run_unsafeSliceData_row _ _ _ _ _ _ (by omega)
    have hUS : (Builtin.unsafeString_ #[104, 3] 9 #[.pointer (some ⟨g, 0, none⟩), .int .i64 l.length]).run Tryd.prog w.drew = .ok (.string ⟨l.toArray⟩) (w.drew.freeze ⟨g, 0, none⟩ l.length) := by
      refine Lib.run_unsafeString_row w.drew 104 3 9 5 Tryd.underlying104 Tryd.cellsByte g cur.size (by have hg' : w.drew.heap[g]? = some (.cells cur 5 (0, 0)) := hg; simp [World.shape?, hg']) l h0 (by omega) (by unfold maxLen at hcm; omega) ?_
      intro j x hx
      exact hown.cells (g := g) rfl j (.int .u8 x.toNat) (by simp [bytesV, hx])
    clear hl0 h0 hnc hcm hcs htake hbg
    go_enter Tryd.func38, Tryd.ntmps38
    go_wp2
    go_region
    all_goals (go_wp2; go_ret; exact ⟨rfl, (Touch.drewN w 1).trans (touch_freeze _ g _ rfl)⟩)

end Go.Proofs.YtkjekofllfkgoaaDoor
